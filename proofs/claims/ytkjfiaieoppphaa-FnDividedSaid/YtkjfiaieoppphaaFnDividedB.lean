import Derived.Test.YtkjfiaieoppphaaFnDividedA
/-! What the operation of two values makes, of both packages. -/
namespace Go.Proofs.Ytkjfiaieoppphaa.PFnDividedy
open Go Go.RowKit Go.Proofs.Ytkjfiaieoppphaa.PFnDivided Go.Proofs.YtkjfiaieoppphaaW.PrintWords Go.Proofs.YtkjfiaieoppphaaW.PrintLast Go.Proofs.Ytkjfiaieoppphaa.Nums

def truth (b : Bool) : Int := if b = true then 1 else 0
/-- What an op makes, before it is cut to the width. -/
def two (op w a b : Int) : Int :=
  if op = 1 then a + b else if op = 2 then a - b else if op = 3 then a * b else if op = 4 then Int.tdiv a b else if op = 5 then Int.tdiv (sgn w a) (sgn w b)
  else if op = 6 then Int.tmod a b else if op = 7 then Int.tmod (sgn w a) (sgn w b) else if op = 8 then Go.bits .and .i64 a b else if op = 9 then Go.bits .or .i64 a b
  else if op = 10 then Go.bits .xor .i64 a b else if op = 14 then truth (a == b) else if op = 15 then truth (a != b) else if op = 16 then truth (decide (a < b))
  else if op = 17 then truth (decide (sgn w a < sgn w b)) else if op = 13 then sgn w a / 2 ^ (mn b (w - 1)).toNat else if b ≥ w then 0 else if op = 11 then a * 2 ^ b.toNat else a / 2 ^ b.toNat
def binv (op w a b : Int) : Int × Int :=
  if 1 ≤ op ∧ op ≤ 17 ∧ isval w a = true ∧ isval w b = true then (if 4 ≤ op ∧ op ≤ 7 ∧ b = 0 then (0, 1) else (two op w a b % top w, 0)) else (0, 2)

theorem impl_truth_eq (b : Bool) : impl_truth.f b = some (truth b) := by unfold impl_truth.f truth; split <;> rfl
theorem spec_bit_eq (b : Bool) : spec_l1Bit.f b = some (truth b) := by unfold spec_l1Bit.f truth; split <;> rfl
theorem sgn_zero {w b : Int} (h : isval w b = true) : sgn w b = 0 ↔ b = 0 := by
  obtain ⟨hw, h0, h1⟩ := isval_w h
  have := top_pos hw
  unfold sgn; split <;> omega
theorem wle {w : Int} (h : wok w = true) : 1 ≤ w ∧ w ≤ 32 := by rcases wok_cases h with rfl | rfl | rfl | rfl <;> decide
theorem pow_pos' (n : Nat) : (0 : Int) < 2 ^ n := Int.pow_pos (by decide)
/-- What lies in -2^32 .. 2^32 - 1, moved to the right by the width or more, is its sign alone. -/
theorem far_right {x : Int} {w : Int} (hw : wok w = true) (h : - top w / 2 ≤ x) (h' : x < top w / 2) {n : Nat} (hn : (w - 1).toNat ≤ n) : x / 2 ^ n = if x < 0 then -1 else 0 := by
  have hp : (2 : Int) ^ (w - 1).toNat ≤ 2 ^ n := by
    have : (2 : Nat) ^ (w - 1).toNat ≤ 2 ^ n := Nat.pow_le_pow_right (by decide) hn
    exact_mod_cast this
  have ht : top w / 2 = 2 ^ (w - 1).toNat := by rcases wok_cases hw with rfl | rfl | rfl | rfl <;> rfl
  have h2 : - top w / 2 = - (top w / 2) := by rcases wok_cases hw with rfl | rfl | rfl | rfl <;> rfl
  rw [h2] at h
  have hpp := pow_pos' n
  split
  · have e : x / 2 ^ n = -1 := by
      have := (Int.ediv_emod_unique hpp (a := x) (q := -1) (r := x + 2 ^ n)).2 ⟨by omega, by omega, by omega⟩
      exact this.1
    exact e
  · exact Int.ediv_eq_zero_of_lt (by omega) (by omega)
theorem sgn_half {w v : Int} (h : isval w v = true) : - top w / 2 ≤ sgn w v ∧ sgn w v < top w / 2 := by
  obtain ⟨hw, h0, h1⟩ := isval_w h
  rcases wok_cases hw with rfl | rfl | rfl | rfl <;> simp [top, sgn] at h1 ⊢ <;> omega
theorem shl_mod {w a b : Int} (hw : wok w = true) (h1 : b < w) : shl .i64 a b % top w = a * 2 ^ b.toNat % top w := by
  have hl := wle hw
  have e : shl .i64 a b = wrap64 (a * 2 ^ b.toNat) := by
    unfold shl
    rw [i64_wrap, show min b.toNat IntKind.i64.bits = b.toNat by simp [IntKind.bits]; omega]
  rw [e, wrap64_emod_top _ hw]
theorem shr_eq {a b : Int} (h1 : b ≤ 64) : shr .i64 a b = a / 2 ^ b.toNat := by
  unfold shr
  rw [show min b.toNat IntKind.i64.bits = b.toNat by simp [IntKind.bits]; omega]

theorem impl_two {op w a b : Int} (h1 : 1 ≤ op) (h2 : op ≤ 17) (ha : isval w a = true) (hb : isval w b = true) (hz : 4 ≤ op → op ≤ 7 → b ≠ 0) : ∃ x, impl_reckoned.f op w a b = some x ∧ x % top w = two op w a b % top w := by
  obtain ⟨hw, a0, a1⟩ := isval_w ha
  obtain ⟨_, b0, b1⟩ := isval_w hb
  have ht := top_pos hw
  have hl := wle hw
  have sa := sgn_half ha
  have sz := sgn_zero hb
  unfold impl_reckoned.f
  rw [impl_sgn ha, impl_sgn hb]
  simp only [Option.bind_some, impl_truth_eq]
  obtain rfl | rfl | rfl | rfl | rfl | rfl | rfl | rfl | rfl | rfl | rfl | rfl | rfl | rfl | rfl | rfl | rfl : op = 1 ∨ op = 2 ∨ op = 3 ∨ op = 4 ∨ op = 5 ∨ op = 6 ∨ op = 7 ∨ op = 8 ∨ op = 9 ∨ op = 10 ∨ op = 11 ∨ op = 12 ∨ op = 13 ∨ op = 14 ∨ op = 15 ∨ op = 16 ∨ op = 17 := by omega
  · exact ⟨_, rfl, wrap64_emod_top _ hw⟩
  · exact ⟨_, rfl, wrap64_emod_top _ hw⟩
  · exact ⟨_, rfl, wrap64_emod_top _ hw⟩
  · have := hz (by decide) (by decide)
    exact ⟨_, by simp [this]; rfl, wrap64_emod_top _ hw⟩
  · have := hz (by decide) (by decide)
    exact ⟨_, by simp [mt sz.1 this]; rfl, wrap64_emod_top _ hw⟩
  · have := hz (by decide) (by decide)
    exact ⟨_, by simp [this]; rfl, rfl⟩
  · have := hz (by decide) (by decide)
    exact ⟨_, by simp [mt sz.1 this]; rfl, rfl⟩
  · exact ⟨_, rfl, rfl⟩
  · exact ⟨_, rfl, rfl⟩
  · exact ⟨_, rfl, rfl⟩
  · by_cases hbw : b ≥ w
    · exact ⟨0, by simp [impl_shifted.f, hbw], by simp [two, hbw]⟩
    · refine ⟨shl .i64 a b, by simp [impl_shifted.f, hbw, b0], ?_⟩
      rw [shl_mod hw (by omega)]; simp [two, hbw]
  · by_cases hbw : b ≥ w
    · exact ⟨0, by simp [impl_shifted.f, hbw], by simp [two, hbw]⟩
    · refine ⟨shr .i64 a b, by simp [impl_shifted.f, hbw, b0], ?_⟩
      rw [shr_eq (by omega)]; simp [two, hbw]
  · refine ⟨sgn w a / 2 ^ (mn b 63).toNat, ?_, ?_⟩
    · show (impl_shifted.f 13 w a b).bind (fun t => some t) = _
      unfold impl_shifted.f
      rw [if_pos rfl, impl_sgn ha]; simp only [Option.bind_some]
      rw [if_pos (show 0 ≤ mn b 63 by unfold mn; split <;> omega)]; rfl
    · have e : sgn w a / 2 ^ (mn b 63).toNat = sgn w a / 2 ^ (mn b (w - 1)).toNat := by
        by_cases hbw : b ≤ w - 1
        · have e1 : mn b 63 = b := by unfold mn; rw [if_neg (by omega)]
          have e2 : mn b (w - 1) = b := by unfold mn; rw [if_neg (by omega)]
          rw [e1, e2]
        · have e2 : mn b (w - 1) = w - 1 := by unfold mn; rw [if_pos (by omega)]
          rw [e2, far_right hw sa.1 sa.2 (Nat.le_refl _), far_right hw sa.1 sa.2 (n := (mn b 63).toNat) (by unfold mn; split <;> omega)]
      rw [e]; rfl
  · exact ⟨_, rfl, rfl⟩
  · exact ⟨_, rfl, rfl⟩
  · exact ⟨_, rfl, rfl⟩
  · exact ⟨_, rfl, rfl⟩
theorem spec_two {op w a b : Int} (h1 : 1 ≤ op) (h2 : op ≤ 17) (ha : isval w a = true) (hb : isval w b = true) (hz : 4 ≤ op → op ≤ 7 → b ≠ 0) (k : Nat) : ∃ x, spec_l1Two.f (k + 1) op w a b = some x ∧ x % top w = two op w a b % top w := by
  obtain ⟨hw, a0, a1⟩ := isval_w ha
  obtain ⟨_, b0, b1⟩ := isval_w hb
  have ht := top_pos hw
  have hl := wle hw
  have sa := sgn_half ha
  have sz := sgn_zero hb
  unfold spec_l1Two.f
  rw [spec_sgn ha, spec_sgn hb]
  simp only [Option.bind_some, spec_bit_eq]
  obtain rfl | rfl | rfl | rfl | rfl | rfl | rfl | rfl | rfl | rfl | rfl | rfl | rfl | rfl | rfl | rfl | rfl : op = 1 ∨ op = 2 ∨ op = 3 ∨ op = 4 ∨ op = 5 ∨ op = 6 ∨ op = 7 ∨ op = 8 ∨ op = 9 ∨ op = 10 ∨ op = 11 ∨ op = 12 ∨ op = 13 ∨ op = 14 ∨ op = 15 ∨ op = 16 ∨ op = 17 := by omega
  · exact ⟨_, rfl, wrap64_emod_top _ hw⟩
  · exact ⟨_, rfl, wrap64_emod_top _ hw⟩
  · refine ⟨_, rfl, ?_⟩
    rw [wrap64_emod_top _ hw]
    show sgn w a * sgn w b % top w = a * b % top w
    rw [Int.mul_emod, sgn_mod, sgn_mod, ← Int.mul_emod]
  · have := hz (by decide) (by decide)
    exact ⟨_, by simp [this]; rfl, wrap64_emod_top _ hw⟩
  · have := hz (by decide) (by decide)
    exact ⟨_, by simp [mt sz.1 this]; rfl, wrap64_emod_top _ hw⟩
  · have := hz (by decide) (by decide)
    exact ⟨_, by simp [this]; rfl, rfl⟩
  · have := hz (by decide) (by decide)
    exact ⟨_, by simp [mt sz.1 this]; rfl, rfl⟩
  · exact ⟨_, rfl, rfl⟩
  · exact ⟨_, rfl, rfl⟩
  · exact ⟨_, rfl, rfl⟩
  · by_cases hbw : b ≥ w
    · exact ⟨0, by simp [spec_l1Shift.f, spec_l1Shift.j0, hbw], by simp [two, hbw]⟩
    · have e := u64_id b0 (show b < 18446744073709551616 by omega)
      refine ⟨shl .i64 a b, by simp [spec_l1Shift.f, spec_l1Shift.j0, hbw, e, b0], ?_⟩
      rw [shl_mod hw (by omega)]; simp [two, hbw]
  · by_cases hbw : b ≥ w
    · exact ⟨0, by simp [spec_l1Shift.f, spec_l1Shift.j0, hbw], by simp [two, hbw]⟩
    · have e := u64_id b0 (show b < 18446744073709551616 by omega)
      refine ⟨shr .i64 a b, by simp [spec_l1Shift.f, spec_l1Shift.j0, hbw, e, b0], ?_⟩
      rw [shr_eq (by omega)]; simp [two, hbw]
  · by_cases hbw : b ≥ w
    · have e : IntKind.u64.wrap (wrap64 (w - 1)) = w - 1 := by rw [wrap64_id (by omega) (by omega), u64_id (by omega) (by omega)]
      have e2 : mn b (w - 1) = w - 1 := by unfold mn; rw [if_pos (by omega)]
      refine ⟨sgn w a / 2 ^ (w - 1).toNat, ?_, by rw [← e2]; rfl⟩
      show (spec_l1Shift.f (k + 1) 13 w a b).bind (fun t => some t) = _
      simp only [spec_l1Shift.f, spec_l1Shift.j0, if_true, decide_eq_true hbw, spec_sgn ha, e, shr_eq (show w - 1 ≤ 64 by omega), Option.bind_some, if_pos (show 0 ≤ w - 1 by omega)]
    · have e := u64_id b0 (show b < 18446744073709551616 by omega)
      have e2 : mn b (w - 1) = b := by unfold mn; rw [if_neg (by omega)]
      refine ⟨sgn w a / 2 ^ b.toNat, ?_, by rw [show two 13 w a b = sgn w a / 2 ^ (mn b (w - 1)).toNat from rfl, e2]⟩
      simp only [spec_l1Shift.f, spec_l1Shift.j0, spec_sgn ha, e, shr_eq (show b ≤ 64 by omega)]
      simp [hbw, b0]
  · exact ⟨_, rfl, rfl⟩
  · exact ⟨_, rfl, rfl⟩
  · exact ⟨_, rfl, rfl⟩
  · exact ⟨_, rfl, rfl⟩
theorem impl_bin (k : Nat) (op w a b : Int) : impl_Binary.f (k + 2) op w a b = some (binv op w a b) := by
  unfold impl_Binary.f binv impl_isBinary.f
  rw [impl_within_eq]; simp only [Option.bind_some]
  by_cases h1 : 1 ≤ op ∧ op ≤ 17
  case neg => rw [decide_eq_false h1, if_neg (c := 1 ≤ op ∧ _) (fun h => h1 ⟨h.1, h.2.1⟩)]; simp [impl_Binary.j0]
  rw [decide_eq_true h1, if_pos rfl, impl_isval]; simp only [Option.bind_some]
  by_cases ha : isval w a = true
  case neg => rw [if_neg ha, if_neg (c := 1 ≤ op ∧ _) (fun h => ha h.2.2.1)]; simp [impl_Binary.j0]
  rw [if_pos ha, impl_isval]; simp only [Option.bind_some]
  by_cases hb : isval w b = true
  case neg => rw [if_neg (c := 1 ≤ op ∧ _) (fun h => hb h.2.2.2)]; simp [impl_Binary.j0, hb]
  rw [if_pos (c := 1 ≤ op ∧ _) ⟨h1.1, h1.2, ha, hb⟩, hb]
  simp only [impl_Binary.j0, impl_isDivision.f, impl_within_eq, Option.bind_some, Bool.not_true, Bool.false_eq_true, if_false, decide_eq_true_eq]
  by_cases hd : 4 ≤ op ∧ op ≤ 7
  · by_cases hz : b = 0
    · rw [if_pos hd, if_pos ⟨hd.1, hd.2, hz⟩]; simp [impl_Binary.j1, hz]
    · obtain ⟨x, e, hm⟩ := impl_two h1.1 h1.2 ha hb (fun _ _ => hz)
      rw [if_pos hd, if_neg (fun h => hz h.2.2)]
      simp only [impl_Binary.j1, e, impl_masked, Option.bind_some, masked, (isval_w ha).1, if_true, hm, beq_eq_false_iff_ne.2 hz, Bool.false_eq_true, if_false]
  · obtain ⟨x, e, hm⟩ := impl_two h1.1 h1.2 ha hb (fun h h' => absurd ⟨h, h'⟩ hd)
    rw [if_neg hd, if_neg (fun h => hd ⟨h.1, h.2.1⟩)]
    simp only [impl_Binary.j1, e, impl_masked, Option.bind_some, masked, (isval_w ha).1, if_true, hm, Bool.false_eq_true, if_false]
theorem spec_bin (k : Nat) (op w a b : Int) : spec_Binary.f (k + 3) op w a b = some (binv op w a b) := by
  unfold spec_Binary.f binv
  rw [spec_in_eq]; simp only [Option.bind_some]
  by_cases h1 : 1 ≤ op ∧ op ≤ 17
  case neg => rw [decide_eq_false h1, if_neg (c := 1 ≤ op ∧ _) (fun h => h1 ⟨h.1, h.2.1⟩)]; simp [spec_Binary.j0]
  rw [decide_eq_true h1, if_pos rfl, spec_isval]; simp only [Option.bind_some]
  by_cases ha : isval w a = true
  case neg => rw [if_neg ha, if_neg (c := 1 ≤ op ∧ _) (fun h => ha h.2.2.1)]; simp [spec_Binary.j0]
  rw [if_pos ha, spec_isval]; simp only [Option.bind_some]
  by_cases hb : isval w b = true
  case neg => rw [if_neg (c := 1 ≤ op ∧ _) (fun h => hb h.2.2.2)]; simp [spec_Binary.j0, hb]
  rw [if_pos (c := 1 ≤ op ∧ _) ⟨h1.1, h1.2, ha, hb⟩, hb]
  simp only [spec_Binary.j0, spec_l1Divides.f, spec_in_eq, Option.bind_some, Bool.not_true, Bool.false_eq_true, if_false, decide_eq_true_eq]
  by_cases hd : 4 ≤ op ∧ op ≤ 7
  · by_cases hz : b = 0
    · rw [if_pos hd, if_pos ⟨hd.1, hd.2, hz⟩]; simp [spec_Binary.j1, hz]
    · obtain ⟨x, e, hm⟩ := spec_two h1.1 h1.2 ha hb (fun _ _ => hz) k
      rw [if_pos hd, if_neg (fun h => hz h.2.2)]
      simp only [spec_Binary.j1, e, spec_masked, Option.bind_some, masked, (isval_w ha).1, if_true, hm, beq_eq_false_iff_ne.2 hz, Bool.false_eq_true, if_false]
  · obtain ⟨x, e, hm⟩ := spec_two h1.1 h1.2 ha hb (fun h h' => absurd ⟨h, h'⟩ hd) k
    rw [if_neg hd, if_neg (fun h => hd ⟨h.1, h.2.1⟩)]
    simp only [spec_Binary.j1, e, spec_masked, Option.bind_some, masked, (isval_w ha).1, if_true, hm, Bool.false_eq_true, if_false]
theorem ei (op w a b : Int) : Ev (fun k => impl_Binary.f k op w a b) (binv op w a b) := ⟨2, fun k hk => by obtain ⟨m, rfl⟩ : ∃ m, k = m + 2 := ⟨k - 2, by omega⟩; exact impl_bin m op w a b⟩
theorem es (op w a b : Int) : Ev (fun k => spec_Binary.f k op w a b) (binv op w a b) := ⟨3, fun k hk => by obtain ⟨m, rfl⟩ : ∃ m, k = m + 3 := ⟨k - 3, by omega⟩; exact spec_bin m op w a b⟩
end Go.Proofs.Ytkjfiaieoppphaa.PFnDividedy
