/- Whatever bytes a case is drawn from: what is made wider and cut again is what it was, and made wider with its sign it is the same number with a sign. Of every slice of bytes. -/
import Derived.Test.YtkjfiaieoppphaaFnCastsA
import Derived.Test.YtkjfiaieoppphaaFnCastsR
namespace Go.Proofs.Ytkjfiaieoppphaa.PFnCastsy
open Go Go.RowKit Go.Proofs.Ytkjfiaieoppphaa.PFnCasts Go.Proofs.YtkjfiaieoppphaaW.PrintWords Go.Proofs.YtkjfiaieoppphaaW.PrintLast Go.Proofs.Ytkjfiaieoppphaa.Nums

def casted (op fr tw v : Int) : Int × Bool :=
  if isval fr v = true ∧ wok tw = true then
    (if op = 18 ∧ fr < tw then (v, true) else if op = 19 ∧ fr < tw then (masked tw (sgn fr v), true) else if op = 20 ∧ tw < fr then (masked tw v, true) else (0, false))
  else (0, false)
theorem impl_casted (k : Nat) (op fr tw v : Int) : impl_Casted.f (k + 3) op fr tw v = some (casted op fr tw v) := by
  unfold impl_Casted.f casted
  rw [impl_isval]; simp only [Option.bind_some]
  cases hv : isval fr v with
  | false => simp [impl_Casted.j0]
  | true =>
    rw [if_pos rfl, impl_wok]; simp only [Option.bind_some]
    cases hw : wok tw with
    | false => simp [impl_Casted.j0]
    | true =>
      simp only [impl_Casted.j0, impl_Casted.j1, impl_Casted.j2, impl_sgn hv, impl_masked, Option.bind_some, Bool.not_true, Bool.false_eq_true, if_false, and_self, if_true]
      by_cases h1 : op = 18 <;> by_cases h2 : op = 19 <;> by_cases h3 : op = 20 <;> by_cases h4 : fr < tw <;> by_cases h5 : tw < fr <;> simp [h1, h2, h3, h4, h5] <;> omega
theorem spec_casted (k : Nat) (op fr tw v : Int) : spec_Casted.f (k + 3) op fr tw v = some (casted op fr tw v) := by
  unfold spec_Casted.f casted
  rw [spec_isval]; simp only [Option.bind_some]
  cases hv : isval fr v with
  | false => simp [spec_Casted.j0]
  | true =>
    rw [if_pos rfl, spec_wok]; simp only [Option.bind_some]
    cases hw : wok tw with
    | false => simp [spec_Casted.j0]
    | true =>
      simp only [spec_Casted.j0, spec_Casted.j1, spec_Casted.j2, spec_sgn hv, spec_masked, Option.bind_some, Bool.not_true, Bool.false_eq_true, if_false, and_self, if_true]
      by_cases h1 : op = 18 <;> by_cases h2 : op = 19 <;> by_cases h3 : op = 20 <;> by_cases h4 : fr < tw <;> by_cases h5 : tw < fr <;> simp [h1, h2, h3, h4, h5] <;> omega
def signof (w v : Int) : Int := if isval w v = true then sgn w v else 0
theorem impl_signof (w v : Int) : impl_SignOf.f w v = some (signof w v) := by
  unfold impl_SignOf.f signof
  rw [impl_isval]; simp only [Option.bind_some]
  cases hv : isval w v with
  | false => simp
  | true => simp [impl_sgn hv]
theorem draw_ok {l : List Int} (h : Byt l) : ∃ op fr tw v, Ev (fun k => spec_DrawCasted.f k l) (op, fr, tw, v) := by
  have hp0 : RP l 0 := ⟨by omega, by omega⟩
  obtain ⟨w1, p1, e1, hw1, hp1⟩ := width_ok h hp0
  obtain ⟨w2, p2, e2, hw2, hp2⟩ := width_ok h hp1
  obtain ⟨x, p3, e3, hx, hx', hp3⟩ := below_ok h hp2 3
  obtain ⟨y, p4, e4, hy, hy', hp4⟩ := value_ok h hp3 hw1
  refine ⟨wrap64 (18 + x), w1, w2, y, ?_⟩
  unfold spec_DrawCasted.f spec_l1Open.f
  simp only [Option.bind_some, e1, e2, e3]
  exact Ev.bind e4 (Ev.now _)

/-- The plain law. -/
theorem casts_law (op fr tw v : Int) (h : (casted op fr tw v).2 = true) :
    (op = 20 → (casted op fr tw v).1 = masked tw v) ∧ (op ≠ 20 → (op = 19 → signof tw (casted op fr tw v).1 = signof fr v) ∧ (op ≠ 19 → (casted op fr tw v).1 = v) ∧ casted 20 tw fr (casted op fr tw v).1 = (v, true)) := by
  unfold casted at h ⊢
  by_cases h1 : isval fr v = true ∧ wok tw = true
  · obtain ⟨hf, h0, h9⟩ := isval_w h1.1
    have ht := h1.2
    rw [if_pos h1] at h ⊢
    have key : ∀ x, isval tw x = true → fr < tw → x % top fr = v % top fr → (if isval tw x = true ∧ wok fr = true then (if (20 : Int) = 18 ∧ tw < fr then (x, true) else if (20 : Int) = 19 ∧ tw < fr then (masked fr (sgn tw x), true) else if (20 : Int) = 20 ∧ fr < tw then (masked fr x, true) else (0, false)) else (0, false)) = (v, true) := by
      intro x hx hlt hxm
      rw [if_pos ⟨hx, hf⟩, if_neg (by omega), if_neg (by omega), if_pos ⟨rfl, hlt⟩]
      unfold masked
      rw [if_pos hf, hxm, Int.emod_eq_of_lt h0 h9]
    by_cases c1 : op = 18 ∧ fr < tw
    · rw [if_pos c1]
      refine ⟨by omega, fun _ => ⟨by omega, fun _ => rfl, key v ?_ c1.2 rfl⟩⟩
      simp only [isval, ht, Bool.true_and, decide_eq_true_eq]
      refine ⟨h0, ?_⟩
      have : top fr < top tw := by
        have := c1.2
        rcases wok_cases hf with rfl | rfl | rfl | rfl <;> rcases wok_cases ht with rfl | rfl | rfl | rfl <;> first | decide | omega
      omega
    rw [if_neg c1] at h ⊢
    by_cases c2 : op = 19 ∧ fr < tw
    · rw [if_pos c2]
      have hb := top_pos ht
      have hm0 : 0 ≤ sgn fr v % top tw := Int.emod_nonneg _ (by omega)
      have hm1 : sgn fr v % top tw < top tw := Int.emod_lt_of_pos _ (by omega)
      have hx : isval tw (masked tw (sgn fr v)) = true := by
        unfold masked
        rw [if_pos ht]
        simp only [isval, ht, Bool.true_and, decide_eq_true_eq]
        exact ⟨hm0, hm1⟩
      refine ⟨by omega, fun _ => ⟨fun _ => ?_, by omega, key _ hx c2.2 ?_⟩⟩
      · unfold signof
        rw [if_pos hx, if_pos h1.1]
        unfold masked
        rw [if_pos ht]
        have h19 := c2.2
        rcases wok_cases hf with rfl | rfl | rfl | rfl <;> rcases wok_cases ht with rfl | rfl | rfl | rfl <;> first | omega | (simp [top, sgn] at h9 ⊢; omega)
      · unfold masked
        rw [if_pos ht]
        have h19 := c2.2
        rcases wok_cases hf with rfl | rfl | rfl | rfl <;> rcases wok_cases ht with rfl | rfl | rfl | rfl <;> first | omega | (simp [top, sgn] at h9 ⊢; omega)
    rw [if_neg c2] at h ⊢
    by_cases c3 : op = 20 ∧ tw < fr
    · rw [if_pos c3]
      exact ⟨fun _ => rfl, by omega⟩
    · rw [if_neg c3] at h
      cases h
  · rw [if_neg h1] at h
    cases h

theorem law : laws_FnCasts.Pure := by
  intro l h1 h2 hw
  have hb := byt_of h2 hw
  apply Ev.rounds
  unfold laws_FnCasts.f laws_big.f
  simp only [Option.bind_some]
  by_cases hbig : (l.length : Int) > 1048576
  · simp only [decide_eq_true hbig, if_true]; exact Ev.now _
  simp only [decide_eq_false hbig, Bool.false_eq_true, if_false]
  obtain ⟨op, fr, tw, v, hd⟩ := draw_ok hb
  have ei : ∀ o a b c, Ev (fun k => impl_Casted.f k o a b c) (casted o a b c) := fun o a b c => ⟨3, fun k hk => by obtain ⟨m, rfl⟩ : ∃ m, k = m + 3 := ⟨k - 3, by omega⟩; exact impl_casted m o a b c⟩
  have es : ∀ o a b c, Ev (fun k => spec_Casted.f k o a b c) (casted o a b c) := fun o a b c => ⟨3, fun k hk => by obtain ⟨m, rfl⟩ : ∃ m, k = m + 3 := ⟨k - 3, by omega⟩; exact spec_casted m o a b c⟩
  refine Ev.bind hd ?_
  refine Ev.bind (ei _ _ _ _) ?_
  refine Ev.bind (es _ _ _ _) ?_
  simp only [if_true, bne_self_eq_false, Bool.false_eq_true, if_false]
  cases hc : (casted op fr tw v).2 with
  | false => exact Ev.step (fun k => by simp only [laws_FnCasts.j0, Bool.not_false, if_true, beq_self_eq_true]) (Ev.now _)
  | true =>
    obtain ⟨q1, q2⟩ := casts_law op fr tw v hc
    by_cases c20 : op = 20
    · refine Ev.step (fun k => ?_) (Ev.now true)
      simp only [laws_FnCasts.j0, Bool.not_true, Bool.false_eq_true, if_false, if_pos c20, impl_masked, Option.bind_some, q1 c20, beq_self_eq_true]
    obtain ⟨r1, r2, r3⟩ := q2 c20
    by_cases c19 : op = 19
    · refine Ev.step (f := fun k => (impl_Casted.f k 20 tw fr (casted op fr tw v).1).bind fun bt => if bt.2 = true then some (bt.1 == v) else some false) (fun k => ?_) ?_
      · simp only [laws_FnCasts.j0, Bool.not_true, Bool.false_eq_true, if_false, if_neg c20, if_pos c19, impl_signof, Option.bind_some, r1 c19, if_true]
      · refine Ev.bind (ei _ _ _ _) ?_
        rw [r3]; simp only [if_true, beq_self_eq_true]; exact Ev.now _
    · refine Ev.step (f := fun k => (impl_Casted.f k 20 tw fr (casted op fr tw v).1).bind fun bt => if bt.2 = true then some (bt.1 == v) else some false) (fun k => ?_) ?_
      · simp only [laws_FnCasts.j0, Bool.not_true, Bool.false_eq_true, if_false, if_neg c20, if_neg c19, if_pos (r2 c19)]
      · refine Ev.bind (ei _ _ _ _) ?_
        rw [r3]; simp only [if_true, beq_self_eq_true]; exact Ev.now _
end Go.Proofs.Ytkjfiaieoppphaa.PFnCastsy
namespace Go.Proofs.Ytkjfiaieoppphaa.Pure
open Go.Proofs.Ytkjfiaieoppphaa.PFnCasts
theorem FnCasts : laws_FnCasts.Pure := Go.Proofs.Ytkjfiaieoppphaa.PFnCastsy.law
end Go.Proofs.Ytkjfiaieoppphaa.Pure
