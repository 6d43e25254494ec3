/- Whatever bytes a case is drawn from: a number is its quotient times what divides it, and the rest, with a sign or without; the rest is less. Of every slice of bytes. -/
import Derived.Test.YtkjfiaieoppphaaFnDividedD
namespace Go.Proofs.Ytkjfiaieoppphaa.PFnDividedy
open Go Go.RowKit Go.Proofs.Ytkjfiaieoppphaa.PFnDivided Go.Proofs.YtkjfiaieoppphaaW.PrintWords Go.Proofs.YtkjfiaieoppphaaW.PrintLast Go.Proofs.Ytkjfiaieoppphaa.Nums

theorem law : laws_FnDivided.Pure := by
  intro l h1 h2 hw
  have hb := byt_of h2 hw
  apply Ev.rounds
  unfold laws_FnDivided.f laws_big.f
  simp only [Option.bind_some]
  by_cases hbig : (l.length : Int) > 1048576
  · simp only [decide_eq_true hbig, if_true]; exact Ev.now _
  simp only [decide_eq_false hbig, Bool.false_eq_true, if_false]
  obtain ⟨⟨op, w, a, b⟩, hd⟩ := draw_ok hb
  refine Ev.bind hd (Ev.bind (ei _ _ _ _) (Ev.bind (es _ _ _ _) (Ev.bind (ei _ _ _ _) ?_)))
  have e2 : (binv 6 w a b).2 = (binv 4 w a b).2 := by
    unfold binv
    by_cases hh : isval w a = true ∧ isval w b = true
    · rw [if_pos (c := 1 ≤ (6 : Int) ∧ (6 : Int) ≤ 17 ∧ _) ⟨by decide, by decide, hh.1, hh.2⟩, if_pos (c := 1 ≤ (4 : Int) ∧ (4 : Int) ≤ 17 ∧ _) ⟨by decide, by decide, hh.1, hh.2⟩]
      by_cases hz : b = 0
      · rw [if_pos ⟨by decide, by decide, hz⟩, if_pos ⟨by decide, by decide, hz⟩]
      · rw [if_neg (fun h => hz h.2.2), if_neg (fun h => hz h.2.2)]
    · rw [if_neg (c := 1 ≤ (6 : Int) ∧ (6 : Int) ≤ 17 ∧ _) (fun h => hh h.2.2), if_neg (c := 1 ≤ (4 : Int) ∧ (4 : Int) ≤ 17 ∧ _) (fun h => hh h.2.2)]
  simp only [if_true, e2]
  by_cases hc : (binv 4 w a b).2 = 0
  case neg =>
    refine Ev.step (fun k => ?_) (Ev.now true)
    have hx : (binv 4 w a b).2 = 1 → b = 0 := by
      unfold binv
      by_cases hh : 1 ≤ (4 : Int) ∧ (4 : Int) ≤ 17 ∧ isval w a = true ∧ isval w b = true
      · rw [if_pos hh]
        by_cases hz : b = 0
        · exact fun _ => hz
        · rw [if_neg (fun h => hz h.2.2)]; exact fun h => by cases h
      · rw [if_neg hh]; exact fun h => by cases h
    by_cases h9 : (binv 4 w a b).2 = 1
    · simp only [laws_FnDivided.j0, bne_iff_ne.2 hc, if_true, if_pos h9, beq_iff_eq.2 (hx h9)]
    · simp only [laws_FnDivided.j0, bne_iff_ne.2 hc, if_true, if_neg h9]
  obtain ⟨_, _, va, vb, hz, e⟩ := bin_ok hc
  have hb0 : b ≠ 0 := hz (by decide) (by decide)
  have hwk := (isval_w va).1
  have ht := top_pos hwk
  have la := isval_lt va
  have lb := isval_lt vb
  have la' := isval_w va
  have lb' := isval_w vb
  have qa : Int.tdiv a b = a / b := Int.tdiv_eq_ediv_of_nonneg la.1
  have ra : Int.tmod a b = a % b := Int.tmod_eq_emod_of_nonneg la.1
  have q0 : 0 ≤ a / b := Int.ediv_nonneg la.1 lb.1
  have q1 : a / b ≤ a := Int.ediv_le_self _ la.1
  have r0 : 0 ≤ a % b := Int.emod_nonneg _ hb0
  have r1 : a % b < b := Int.emod_lt_of_pos _ (by omega)
  have hsum : b * (a / b) + a % b = a := Int.mul_ediv_add_emod a b
  have hq : 0 ≤ b * (a / b) := Int.mul_nonneg lb.1 q0
  have e4 : binv 4 w a b = (a / b, 0) := by
    rw [e]; show (Int.tdiv a b % top w, _) = _
    rw [qa, Int.emod_eq_of_lt q0 (by omega)]
  have e6 : binv 6 w a b = (a % b, 0) := by
    rw [bin_eq (by decide) (by decide) va vb (fun _ _ => hb0)]; show (Int.tmod a b % top w, _) = _
    rw [ra, Int.emod_eq_of_lt r0 (by omega)]
  have e5 : binv 5 w a b = (Int.tdiv (sgn w a) (sgn w b) % top w, 0) := bin_eq (by decide) (by decide) va vb (fun _ _ => hb0)
  have e7 : binv 7 w a b = (Int.tmod (sgn w a) (sgn w b) % top w, 0) := bin_eq (by decide) (by decide) va vb (fun _ _ => hb0)
  have e3 : binv 3 w (Int.tdiv (sgn w a) (sgn w b) % top w) b = (Int.tdiv (sgn w a) (sgn w b) % top w * b % top w, 0) := bin_eq (by decide) (by decide) (isval_mod hwk _) vb (by omega)
  have e1 : binv 1 w (Int.tdiv (sgn w a) (sgn w b) % top w * b % top w) (Int.tmod (sgn w a) (sgn w b) % top w) = (a, 0) := by
    rw [bin_eq (by decide) (by decide) (isval_mod hwk _) (isval_mod hwk _) (by omega)]
    show ((Int.tdiv (sgn w a) (sgn w b) % top w * b % top w + Int.tmod (sgn w a) (sgn w b) % top w) % top w, _) = _
    have k1 : Int.tdiv (sgn w a) (sgn w b) % top w * b % top w = sgn w b * Int.tdiv (sgn w a) (sgn w b) % top w := by
      rw [Int.mul_emod, Int.emod_emod, ← sgn_mod (v := b), ← Int.mul_emod, Int.mul_comm]
    rw [k1, ← Int.add_emod, Int.mul_tdiv_add_tmod, sgn_mod, isval_id va]
  refine Ev.step (f := fun k => (impl_Binary.f k 5 w a b).bind fun bt220 => (impl_Binary.f k 7 w a b).bind fun bt222 => (impl_Binary.f k 3 w bt220.1 b).bind fun bt224 => (impl_Binary.f k 1 w bt224.1 bt222.1).bind fun bt226 => if (wrap64 ((wrap64 ((binv 4 w a b).1 * b)) + (binv 6 w a b).1)) = a then (if (binv 6 w a b).1 < b then some (bt226.1 == a) else some false) else some false) (fun k => ?_) ?_
  · simp only [laws_FnDivided.j0, hc, bne_self_eq_false, Bool.false_eq_true, if_false]
  refine Ev.bind (ei _ _ _ _) (Ev.bind (ei _ _ _ _) (Ev.bind (ei _ _ _ _) (Ev.bind (ei _ _ _ _) ?_)))
  rw [e4, e5, e6, e7]
  simp only [e3, e1]
  have hc2 : a / b * b = b * (a / b) := Int.mul_comm _ _
  rw [wrap64_id (n := a / b * b) (by omega) (by omega), wrap64_id (by omega) (by omega), if_pos (by omega), if_pos r1, beq_self_eq_true]
  exact Ev.now _
end Go.Proofs.Ytkjfiaieoppphaa.PFnDividedy
namespace Go.Proofs.Ytkjfiaieoppphaa.Pure
open Go.Proofs.Ytkjfiaieoppphaa.PFnDivided
theorem FnDivided : laws_FnDivided.Pure := Go.Proofs.Ytkjfiaieoppphaa.PFnDividedy.law
end Go.Proofs.Ytkjfiaieoppphaa.Pure
