/- Whatever bytes a case is drawn from: of two values just one is less, or both are one, with a sign likewise; not equal is not to be equal. Of every slice of bytes. -/
import Derived.Test.YtkjfiaieoppphaaFnOrdersD
namespace Go.Proofs.Ytkjfiaieoppphaa.PFnOrdersy
open Go Go.RowKit Go.Proofs.Ytkjfiaieoppphaa.PFnOrders Go.Proofs.YtkjfiaieoppphaaW.PrintWords Go.Proofs.YtkjfiaieoppphaaW.PrintLast Go.Proofs.Ytkjfiaieoppphaa.Nums

theorem impl_signof {w v : Int} (h : isval w v = true) : impl_SignOf.f w v = some (sgn w v) := by
  unfold impl_SignOf.f
  rw [impl_isval]; simp [h, impl_sgn h]
theorem truth_mod (b : Bool) {t : Int} (h : 2 ≤ t) : truth b % t = truth b := by
  unfold truth
  split
  · exact Int.emod_eq_of_lt (by decide) (by omega)
  · exact Int.zero_emod t
theorem sgn_inj {w a b : Int} (ha : isval w a = true) (hb : isval w b = true) : sgn w a = sgn w b ↔ a = b := by
  obtain ⟨hw, a0, a1⟩ := isval_w ha
  obtain ⟨_, b0, b1⟩ := isval_w hb
  unfold sgn
  split <;> split <;> omega
theorem truth_beq (b : Bool) : (truth b == 1) = b := by cases b <;> rfl

theorem law : laws_FnOrders.Pure := by
  intro l h1 h2 hw
  have hb := byt_of h2 hw
  apply Ev.rounds
  unfold laws_FnOrders.f laws_big.f
  simp only [Option.bind_some]
  by_cases hbig : (l.length : Int) > 1048576
  · simp only [decide_eq_true hbig, if_true]; exact Ev.now _
  simp only [decide_eq_false hbig, Bool.false_eq_true, if_false]
  obtain ⟨⟨op, w, a, b⟩, hd⟩ := draw_ok hb
  refine Ev.bind hd (Ev.bind (ei _ _ _ _) (Ev.bind (es _ _ _ _) ?_))
  simp only [if_true]
  by_cases hc : (binv 14 w a b).2 = 0
  case neg =>
    refine Ev.step (fun k => ?_) (Ev.now true)
    simp only [laws_FnOrders.j0, bne_iff_ne.2 hc, if_true, beq_self_eq_true]
  obtain ⟨_, _, va, vb, _, e⟩ := bin_ok hc
  have hwk := (isval_w va).1
  have ht := top_pos hwk
  have e14 : binv 14 w a b = (truth (a == b), 0) := by rw [e]; show (truth (a == b) % top w, _) = _; rw [truth_mod _ ht.1]
  have e15 : binv 15 w a b = (truth (a != b), 0) := by rw [bin_eq (by decide) (by decide) va vb (by omega)]; show (truth (a != b) % top w, _) = _; rw [truth_mod _ ht.1]
  have e16 : binv 16 w a b = (truth (decide (a < b)), 0) := by rw [bin_eq (by decide) (by decide) va vb (by omega)]; show (truth (decide (a < b)) % top w, _) = _; rw [truth_mod _ ht.1]
  have e16' : binv 16 w b a = (truth (decide (b < a)), 0) := by rw [bin_eq (by decide) (by decide) vb va (by omega)]; show (truth (decide (b < a)) % top w, _) = _; rw [truth_mod _ ht.1]
  have e17 : binv 17 w a b = (truth (decide (sgn w a < sgn w b)), 0) := by rw [bin_eq (by decide) (by decide) va vb (by omega)]; show (truth (decide (sgn w a < sgn w b)) % top w, _) = _; rw [truth_mod _ ht.1]
  have e17' : binv 17 w b a = (truth (decide (sgn w b < sgn w a)), 0) := by rw [bin_eq (by decide) (by decide) vb va (by omega)]; show (truth (decide (sgn w b < sgn w a)) % top w, _) = _; rw [truth_mod _ ht.1]
  have hinj := sgn_inj va vb
  refine Ev.step (f := fun k => (impl_Binary.f k 15 w a b).bind fun bt220 => (impl_Binary.f k 16 w a b).bind fun bt222 => (impl_Binary.f k 16 w b a).bind fun bt224 => (impl_Binary.f k 17 w a b).bind fun bt226 => (impl_Binary.f k 17 w b a).bind fun bt228 => if (wrap64 ((binv 14 w a b).1 + bt220.1)) = 1 then (if (wrap64 ((wrap64 (bt222.1 + bt224.1)) + (binv 14 w a b).1)) = 1 then (if (wrap64 ((wrap64 (bt226.1 + bt228.1)) + (binv 14 w a b).1)) = 1 then (if ((bt222.1 == 1) == (decide (a < b))) = true then ((impl_SignOf.f w a).bind fun t230 => (impl_SignOf.f w b).bind fun t231 => some ((bt226.1 == 1) == (decide (t230 < t231)))) else some false) else some false) else some false) else some false) (fun k => ?_) ?_
  · simp only [laws_FnOrders.j0, hc, bne_self_eq_false, Bool.false_eq_true, if_false]
  refine Ev.bind (ei _ _ _ _) (Ev.bind (ei _ _ _ _) (Ev.bind (ei _ _ _ _) (Ev.bind (ei _ _ _ _) (Ev.bind (ei _ _ _ _) ?_))))
  simp only [e14, e15, e16, e16', e17, e17', impl_signof va, impl_signof vb, Option.bind_some, truth_beq, beq_self_eq_true, if_true]
  have k1 : wrap64 (truth (a == b) + truth (a != b)) = 1 := by
    by_cases hab : a = b
    · subst hab; simp [truth, wrap64]
    · simp [truth, wrap64, hab]
  have k2 : wrap64 (wrap64 (truth (decide (a < b)) + truth (decide (b < a))) + truth (a == b)) = 1 := by
    by_cases hab : a = b
    · subst hab; simp [truth, wrap64]
    · by_cases hl : a < b
      · have : ¬ b < a := by omega
        simp [truth, wrap64, hab, hl, this]
      · have : b < a := by omega
        simp [truth, wrap64, hab, hl, this]
  have k3 : wrap64 (wrap64 (truth (decide (sgn w a < sgn w b)) + truth (decide (sgn w b < sgn w a))) + truth (a == b)) = 1 := by
    by_cases hab : a = b
    · subst hab; simp [truth, wrap64]
    · have hne := mt hinj.1 hab
      by_cases hl : sgn w a < sgn w b
      · have : ¬ sgn w b < sgn w a := by omega
        simp [truth, wrap64, hab, hl, this]
      · have : sgn w b < sgn w a := by omega
        simp [truth, wrap64, hab, hl, this]
  rw [if_pos k1, if_pos k2, if_pos k3]
  exact Ev.now _
end Go.Proofs.Ytkjfiaieoppphaa.PFnOrdersy
namespace Go.Proofs.Ytkjfiaieoppphaa.Pure
open Go.Proofs.Ytkjfiaieoppphaa.PFnOrders
theorem FnOrders : laws_FnOrders.Pure := Go.Proofs.Ytkjfiaieoppphaa.PFnOrdersy.law
end Go.Proofs.Ytkjfiaieoppphaa.Pure
