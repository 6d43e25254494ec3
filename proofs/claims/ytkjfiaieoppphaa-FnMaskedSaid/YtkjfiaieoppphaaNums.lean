import Derived.Laws.BitsLemmas
import Derived.Test.YtkjfiaieoppphaaWMore
import Derived.Test.YtkjfiaieoppphaaWSized
/-! Whole numbers of a width, and the machine's bits, told with '%' and '/': no program in sight. -/
namespace Go.Proofs.Ytkjfiaieoppphaa.PrintWords
/-- The printed row names this word so. -/
theorem sized_ints : type_of% @Go.Proofs.YtkjfiaieoppphaaW.PrintWords.sized_ints := @Go.Proofs.YtkjfiaieoppphaaW.PrintWords.sized_ints
end Go.Proofs.Ytkjfiaieoppphaa.PrintWords
namespace Go.Proofs.Ytkjfiaieoppphaa.Nums
open Go Go.RowKit Go.Proofs.YtkjfiaieoppphaaW.PrintWords Go.Proofs.YtkjfiaieoppphaaW.PrintLast

theorem wrap64_id {n : Int} (h : -9223372036854775808 ≤ n) (h' : n < 9223372036854775808) : wrap64 n = n := by
  unfold wrap64; omega
theorem u64_id {n : Int} (h : 0 ≤ n) (h' : n < 18446744073709551616) : IntKind.u64.wrap n = n := by
  simp [IntKind.wrap, IntKind.bits, IntKind.signed]; omega
theorem u64_nonneg (n : Int) : 0 ≤ IntKind.u64.wrap n := by
  simp [IntKind.wrap, IntKind.bits, IntKind.signed]; omega
theorem i64_wrap (n : Int) : IntKind.i64.wrap n = wrap64 n := by rw [IntKind.wrap_i64, wrap64]

/-- How many values a width has. -/
def top (w : Int) : Int := if w = 1 then 2 else if w = 8 then 256 else if w = 16 then 65536 else 4294967296
def wok (w : Int) : Bool := w == 1 || (w == 8 || (w == 16 || w == 32))
theorem wok_cases {w : Int} (h : wok w = true) : w = 1 ∨ w = 8 ∨ w = 16 ∨ w = 32 := by
  simpa [wok] using h

theorem ofInt_nat (n : Int) : BitVec.ofInt 64 n = BitVec.ofNat 64 (n % 18446744073709551616).toNat := by
  apply BitVec.eq_of_toNat_eq
  simp only [BitVec.toNat_ofInt, BitVec.toNat_ofNat]
  omega
theorem bits_nat_and (n m : Int) : Go.bits .and .i64 n m = wrap64 ((((n % 18446744073709551616).toNat &&& (m % 18446744073709551616).toNat) : Nat) : Int) := by
  rw [← i64_wrap]
  show IntKind.i64.wrap (((BitVec.ofInt 64 n &&& BitVec.ofInt 64 m).toNat : Nat) : Int) = _
  rw [ofInt_nat n, ofInt_nat m, BitVec.toNat_and, BitVec.toNat_ofNat, BitVec.toNat_ofNat, Nat.mod_eq_of_lt (by omega), Nat.mod_eq_of_lt (by omega)]
theorem bits_nat_or (n m : Int) : Go.bits .or .i64 n m = wrap64 ((((n % 18446744073709551616).toNat ||| (m % 18446744073709551616).toNat) : Nat) : Int) := by
  rw [← i64_wrap]
  show IntKind.i64.wrap (((BitVec.ofInt 64 n ||| BitVec.ofInt 64 m).toNat : Nat) : Int) = _
  rw [ofInt_nat n, ofInt_nat m, BitVec.toNat_or, BitVec.toNat_ofNat, BitVec.toNat_ofNat, Nat.mod_eq_of_lt (by omega), Nat.mod_eq_of_lt (by omega)]
theorem bits_nat_xor (n m : Int) : Go.bits .xor .i64 n m = wrap64 ((((n % 18446744073709551616).toNat ^^^ (m % 18446744073709551616).toNat) : Nat) : Int) := by
  rw [← i64_wrap]
  show IntKind.i64.wrap (((BitVec.ofInt 64 n ^^^ BitVec.ofInt 64 m).toNat : Nat) : Int) = _
  rw [ofInt_nat n, ofInt_nat m, BitVec.toNat_xor, BitVec.toNat_ofNat, BitVec.toNat_ofNat, Nat.mod_eq_of_lt (by omega), Nat.mod_eq_of_lt (by omega)]

theorem and_top (n : Int) (j : Nat) (hj : j ≤ 62) : Go.bits .and .i64 n (2 ^ j - 1) = n % 2 ^ j := by
  have hpos : 0 < 2 ^ j := Nat.two_pow_pos j
  have h62 : 2 ^ j ≤ 2 ^ 62 := Nat.pow_le_pow_right (by decide) hj
  have hc : ((2 : Int) ^ j - 1) = ((2 ^ j - 1 : Nat) : Int) := by
    rw [Int.natCast_sub hpos]; simp
  have hm : (((2 ^ j - 1 : Nat) : Int) % 18446744073709551616).toNat = 2 ^ j - 1 := by omega
  rw [bits_nat_and, hc, hm, Nat.and_two_pow_sub_one_eq_mod]
  have hlt : (n % 18446744073709551616).toNat % 2 ^ j < 2 ^ j := Nat.mod_lt _ hpos
  rw [wrap64_id (by omega) (by omega)]
  have hd : (2 ^ j : Int) ∣ 18446744073709551616 := by
    have : (18446744073709551616 : Int) = 2 ^ j * 2 ^ (64 - j) := by
      rw [← Int.pow_add]; rw [show j + (64 - j) = 64 by omega]; decide
    exact ⟨_, this⟩
  have := Int.emod_emod_of_dvd n hd
  rw [← this, Int.natCast_emod, Int.toNat_of_nonneg (by omega)]
  simp

theorem and_mask1 (n : Int) : Go.bits .and .i64 n 1 = n % 2 := and_top n 1 (by decide)
theorem and_mask8 (n : Int) : Go.bits .and .i64 n 255 = n % 256 := and_top n 8 (by decide)
theorem and_mask16 (n : Int) : Go.bits .and .i64 n 65535 = n % 65536 := and_top n 16 (by decide)
theorem and_mask32 (n : Int) : Go.bits .and .i64 n 4294967295 = n % 4294967296 := and_top n 32 (by decide)

theorem toNat_mod {x : Int} (hx : 0 ≤ x) (hx' : x < 4294967296) : (x % 18446744073709551616).toNat = x.toNat := by omega
theorem bits_and {x y : Int} (hx : 0 ≤ x) (hx' : x < 4294967296) (hy : 0 ≤ y) (hy' : y < 4294967296) : Go.bits .and .i64 x y = ((x.toNat &&& y.toNat : Nat) : Int) := by
  rw [bits_nat_and, toNat_mod hx hx', toNat_mod hy hy']
  have : x.toNat &&& y.toNat < 2 ^ 32 := Nat.and_lt_two_pow _ (by omega)
  exact wrap64_id (by omega) (by omega)
theorem bits_or {x y : Int} (hx : 0 ≤ x) (hx' : x < 4294967296) (hy : 0 ≤ y) (hy' : y < 4294967296) : Go.bits .or .i64 x y = ((x.toNat ||| y.toNat : Nat) : Int) := by
  rw [bits_nat_or, toNat_mod hx hx', toNat_mod hy hy']
  have : x.toNat ||| y.toNat < 2 ^ 32 := Nat.or_lt_two_pow (by omega) (by omega)
  exact wrap64_id (by omega) (by omega)
theorem bits_xor {x y : Int} (hx : 0 ≤ x) (hx' : x < 4294967296) (hy : 0 ≤ y) (hy' : y < 4294967296) : Go.bits .xor .i64 x y = ((x.toNat ^^^ y.toNat : Nat) : Int) := by
  rw [bits_nat_xor, toNat_mod hx hx', toNat_mod hy hy']
  have : x.toNat ^^^ y.toNat < 2 ^ 32 := Nat.xor_lt_two_pow (by omega) (by omega)
  exact wrap64_id (by omega) (by omega)

theorem shl1_1 : shl .i64 1 1 = 2 := by decide
theorem shl1_8 : shl .i64 1 8 = 256 := by decide
theorem shl1_16 : shl .i64 1 16 = 65536 := by decide
theorem shl1_32 : shl .i64 1 32 = 4294967296 := by decide

theorem wrap64_emod_top (x : Int) {w : Int} (h : wok w = true) : wrap64 x % top w = x % top w := by
  rcases wok_cases h with rfl | rfl | rfl | rfl <;> simp [top] <;> unfold wrap64 <;> omega

end Go.Proofs.Ytkjfiaieoppphaa.Nums
