import Derived.Test.YtkjfiaieoppphaaNums
import Derived.Test.YtkjfiaieoppphaaPFnMaskedx2
/-! What the functions on widths make, of both packages. -/
namespace Go.Proofs.Ytkjfiaieoppphaa.PFnMaskedy
open Go Go.RowKit Go.Proofs.Ytkjfiaieoppphaa.PFnMasked Go.Proofs.YtkjfiaieoppphaaW.PrintWords Go.Proofs.YtkjfiaieoppphaaW.PrintLast Go.Proofs.Ytkjfiaieoppphaa.Nums

theorem impl_wok (w : Int) : impl_WidthOk.f w = some (wok w) := by
  unfold impl_WidthOk.f wok
  by_cases h1 : w = 1
  · simp [h1]
  by_cases h2 : w = 8
  · simp [h2]
  by_cases h3 : w = 16
  · simp [h3]
  simp only [if_neg h1, if_neg h2, if_neg h3, beq_eq_false_iff_ne.2 h1, beq_eq_false_iff_ne.2 h2, beq_eq_false_iff_ne.2 h3, Bool.false_or]
theorem spec_wok (w : Int) : spec_WidthOk.f w = some (wok w) := by
  unfold spec_WidthOk.f wok
  by_cases h1 : w = 1
  · simp [h1]
  by_cases h2 : w = 8
  · simp [h2]
  by_cases h3 : w = 16
  · simp [h3]
  simp only [if_neg h1, if_neg h2, if_neg h3, beq_eq_false_iff_ne.2 h1, beq_eq_false_iff_ne.2 h2, beq_eq_false_iff_ne.2 h3, Bool.false_or]
theorem impl_mask_ok {w : Int} (h : wok w = true) : impl_mask.f w = some (top w - 1) := by
  rcases wok_cases h with rfl | rfl | rfl | rfl <;> simp [impl_mask.f, shl1_1, shl1_8, shl1_16, shl1_32, wrap64, top]
theorem spec_top_ok {w : Int} (h : wok w = true) : spec_l1Top.f w = some (top w) := by
  unfold spec_l1Top.f
  rw [u64_id (by rcases wok_cases h with rfl | rfl | rfl | rfl <;> decide) (by rcases wok_cases h with rfl | rfl | rfl | rfl <;> decide)]
  rcases wok_cases h with rfl | rfl | rfl | rfl <;> simp [shl1_1, shl1_8, shl1_16, shl1_32, top]
theorem and_top_ok {w : Int} (h : wok w = true) (n : Int) : Go.bits .and .i64 n (top w - 1) = n % top w := by
  rcases wok_cases h with rfl | rfl | rfl | rfl <;> simp only [top]
  · exact and_mask1 n
  · exact and_mask8 n
  · exact and_mask16 n
  · exact and_mask32 n
theorem top_pos {w : Int} (h : wok w = true) : 2 ≤ top w ∧ top w ≤ 4294967296 := by
  rcases wok_cases h with rfl | rfl | rfl | rfl <;> decide
def masked (w n : Int) : Int := if wok w = true then n % top w else 0
theorem impl_masked (w n : Int) : impl_Masked.f w n = some (masked w n) := by
  unfold impl_Masked.f masked
  rw [impl_wok]; simp only [Option.bind_some]
  by_cases h : wok w = true
  · rw [if_pos h, if_pos h, impl_mask_ok h]; simp only [Option.bind_some]; rw [and_top_ok h]
  · rw [if_neg h, if_neg h]
theorem spec_masked (w n : Int) : spec_Masked.f w n = some (masked w n) := by
  unfold spec_Masked.f masked
  rw [spec_wok]; simp only [Option.bind_some]
  by_cases h : wok w = true
  · rw [if_pos h, if_pos h, spec_top_ok h]; simp only [Option.bind_some]
    rw [wrap64_id (by have := top_pos h; omega) (by have := top_pos h; omega), and_top_ok h]
  · rw [if_neg h, if_neg h]
def isval (w v : Int) : Bool := wok w && decide (0 ≤ v ∧ v < top w)
theorem impl_within_eq (n lo hi : Int) : impl_within.f n lo hi = some (decide (lo ≤ n ∧ n ≤ hi)) := by
  unfold impl_within.f
  by_cases h : n ≥ lo
  · rw [if_pos h]; congr 1; simp; omega
  · rw [if_neg h]; congr 1; simp; omega
theorem spec_in_eq (n lo hi : Int) : spec_l1In.f n lo hi = some (decide (lo ≤ n ∧ n ≤ hi)) := by
  unfold spec_l1In.f
  by_cases h : n ≥ lo
  · rw [if_pos h]; congr 1; simp; omega
  · rw [if_neg h]; congr 1; simp; omega
theorem impl_isval (w v : Int) : impl_isValue.f w v = some (isval w v) := by
  unfold impl_isValue.f isval
  rw [impl_wok]; simp only [Option.bind_some]
  cases h : wok w with
  | true => rw [if_pos rfl, impl_mask_ok h]; simp only [Option.bind_some]; rw [impl_within_eq]; simp only [Option.bind_some, Bool.true_and]; congr 2; simp; omega
  | false => rfl
theorem spec_isval (w v : Int) : spec_l1Value.f w v = some (isval w v) := by
  unfold spec_l1Value.f isval
  rw [spec_wok]; simp only [Option.bind_some]
  cases h : wok w with
  | true => rw [if_pos rfl, spec_top_ok h]; simp only [Option.bind_some]; rw [spec_in_eq, wrap64_id (by have := top_pos h; omega) (by have := top_pos h; omega)]; simp only [Option.bind_some, Bool.true_and]; congr 2; simp; omega
  | false => rfl
theorem isval_w {w v : Int} (h : isval w v = true) : wok w = true ∧ 0 ≤ v ∧ v < top w := by
  unfold isval at h
  simp only [Bool.and_eq_true, decide_eq_true_eq] at h
  exact h
/-- A value with its sign. -/
def sgn (w v : Int) : Int := if v ≥ top w / 2 then v - top w else v
theorem sgn_mod {w v : Int} : sgn w v % top w = v % top w := by
  unfold sgn
  split
  · exact Int.sub_emod_right v (top w)
  · rfl
theorem sgn_bd {w v : Int} (h : isval w v = true) : -4294967296 ≤ sgn w v ∧ sgn w v < 4294967296 := by
  obtain ⟨hw, h0, h1⟩ := isval_w h
  have := top_pos hw
  unfold sgn; split <;> omega
theorem shr_lit (v : Int) : shr .i64 v 0 = v ∧ shr .i64 v 7 = v / 128 ∧ shr .i64 v 15 = v / 32768 ∧ shr .i64 v 31 = v / 2147483648 := by
  refine ⟨?_, rfl, rfl, rfl⟩
  show v / 1 = v
  exact Int.ediv_one v
theorem impl_sgn {w v : Int} (h : isval w v = true) : impl_signOf.f w v = some (sgn w v) := by
  obtain ⟨hw, h0, h1⟩ := isval_w h
  unfold impl_signOf.f sgn
  rw [impl_mask_ok hw]
  simp only [Option.bind_some, and_mask1]
  have hp := top_pos hw
  have e1 : wrap64 (w - 1) = w - 1 := by rcases wok_cases hw with rfl | rfl | rfl | rfl <;> exact wrap64_id (by decide) (by decide)
  have e2 : (shr .i64 v (w - 1) % 2 = 1) ↔ v ≥ top w / 2 := by
    rcases wok_cases hw with rfl | rfl | rfl | rfl <;> simp only [top] at h1 ⊢
    · have := (shr_lit v).1; rw [show (1 : Int) - 1 = 0 from rfl, this]; simp at h1 ⊢; omega
    · have := (shr_lit v).2.1; rw [show (8 : Int) - 1 = 7 from rfl, this]; simp at h1 ⊢; omega
    · have := (shr_lit v).2.2.1; rw [show (16 : Int) - 1 = 15 from rfl, this]; simp at h1 ⊢; omega
    · have := (shr_lit v).2.2.2; rw [show (32 : Int) - 1 = 31 from rfl, this]; simp at h1 ⊢; omega
  rw [e1, if_pos (by rcases wok_cases hw with rfl | rfl | rfl | rfl <;> decide)]
  by_cases hs : v ≥ top w / 2
  · rw [if_pos (e2.2 hs), if_pos hs, wrap64_id (n := v - (top w - 1)) (by omega) (by omega), wrap64_id (by omega) (by omega)]; congr 1; omega
  · rw [if_neg (fun h => hs (e2.1 h)), if_neg hs]
theorem spec_sgn {w v : Int} (h : isval w v = true) : spec_l1Sign.f w v = some (sgn w v) := by
  obtain ⟨hw, h0, h1⟩ := isval_w h
  have hp := top_pos hw
  unfold spec_l1Sign.f sgn
  rw [spec_top_ok hw]; simp only [Option.bind_some]
  have e : wrap64 (Int.tdiv (top w) 2) = top w / 2 := by
    rw [Int.tdiv_eq_ediv_of_nonneg (by omega)]
    exact wrap64_id (by omega) (by omega)
  rw [e]
  by_cases hs : v ≥ top w / 2
  · rw [if_pos hs, if_pos hs, wrap64_id (by omega) (by omega)]
  · rw [if_neg hs, if_neg hs]
end Go.Proofs.Ytkjfiaieoppphaa.PFnMaskedy
