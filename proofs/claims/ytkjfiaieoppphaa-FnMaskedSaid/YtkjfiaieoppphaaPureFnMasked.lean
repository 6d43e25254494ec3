/- Whatever bytes a case is drawn from: a value of a width is one; masked again nothing changes; its sign and it are one modulo all values of the width. Of every slice of bytes. -/
import Derived.Test.YtkjfiaieoppphaaFnMaskedA
import Derived.Test.YtkjfiaieoppphaaFnMaskedR
import Derived.Test.YtkjfiaieoppphaaFnMaskedW
namespace Go.Proofs.Ytkjfiaieoppphaa.PFnMaskedy
open Go Go.RowKit Go.Proofs.Ytkjfiaieoppphaa.PFnMasked Go.Proofs.YtkjfiaieoppphaaW.PrintWords Go.Proofs.YtkjfiaieoppphaaW.PrintLast Go.Proofs.Ytkjfiaieoppphaa.Nums

def signof (w v : Int) : Int := if isval w v = true then sgn w v else 0
theorem impl_signof (w v : Int) : impl_SignOf.f w v = some (signof w v) := by
  unfold impl_SignOf.f signof
  rw [impl_isval]; simp only [Option.bind_some]
  cases hv : isval w v with
  | false => simp
  | true => simp [impl_sgn hv]
theorem spec_signof (w v : Int) : spec_SignOf.f w v = some (signof w v) := by
  unfold spec_SignOf.f signof
  rw [spec_isval]; simp only [Option.bind_some]
  cases hv : isval w v with
  | false => simp
  | true => simp [spec_sgn hv]
theorem drawM {l : List Int} (h : Byt l) : ∃ r, Ev (fun k => spec_DrawMasked.f k l) r := by
  have hp0 : RP l 0 := ⟨by omega, by omega⟩
  obtain ⟨w1, p1, e1, hw1, hp1⟩ := width_ok h hp0
  obtain ⟨o, p2, e2, hp2⟩ := once_ok h hp1 12
  unfold spec_DrawMasked.f spec_l1Open.f
  simp only [Option.bind_some, e1, e2]
  cases o with
  | true =>
    obtain ⟨x, p3, e3, hp3⟩ := off_ok h hp2 (lo := 1) (hi := 32) (by decide) (by decide)
    obtain ⟨y, p4, e4, hp4⟩ := off_ok h hp3 (lo := -300) (hi := 70000) (by decide) (by decide)
    refine ⟨(x, y), ?_⟩
    simp only [if_true]
    exact Ev.bind e3 (Ev.bind e4 (Ev.now _))
  | false =>
    obtain ⟨y, p4, e4, hp4⟩ := off_ok h hp2 (lo := -300) (hi := 70000) (by decide) (by decide)
    refine ⟨(w1, y), ?_⟩
    simp only [Bool.false_eq_true, if_false]
    exact Ev.bind e4 (Ev.now _)
theorem drawS {l : List Int} (h : Byt l) : ∃ r, Ev (fun k => spec_DrawSignOf.f k l) r := by
  have hp0 : RP l 0 := ⟨by omega, by omega⟩
  obtain ⟨w1, p1, e1, hw1, hp1⟩ := width_ok h hp0
  obtain ⟨o, p2, e2, hp2⟩ := once_ok h hp1 12
  unfold spec_DrawSignOf.f spec_l1Open.f
  simp only [Option.bind_some, e1, e2]
  cases o with
  | true =>
    obtain ⟨x, p3, e3, hp3⟩ := off_ok h hp2 (lo := 0) (hi := 255) (by decide) (by decide)
    refine ⟨(w1, x), ?_⟩
    simp only [if_true]
    exact Ev.bind e3 (Ev.now _)
  | false =>
    obtain ⟨y, p4, e4, _, _, hp4⟩ := value_ok h hp2 hw1
    refine ⟨(w1, y), ?_⟩
    simp only [Bool.false_eq_true, if_false]
    exact Ev.bind e4 (Ev.now _)
theorem tmod_zero {x t : Int} (h : x % t = 0) : Int.tmod x t = 0 := Int.tmod_eq_zero_of_dvd (Int.dvd_of_emod_eq_zero h)

theorem law : laws_FnMasked.Pure := by
  intro l h1 h2 hw
  have hb := byt_of h2 hw
  apply Ev.rounds
  unfold laws_FnMasked.f laws_big.f
  simp only [Option.bind_some]
  by_cases hbig : (l.length : Int) > 1048576
  · simp only [decide_eq_true hbig, if_true]; exact Ev.now _
  simp only [decide_eq_false hbig, Bool.false_eq_true, if_false]
  obtain ⟨⟨w, n⟩, hd⟩ := drawM hb
  obtain ⟨⟨u, x⟩, hs⟩ := drawS hb
  refine Ev.bind hd ?_
  simp only [impl_masked, spec_masked, Option.bind_some]
  refine Ev.bind hs ?_
  simp only [impl_signof, spec_signof, impl_wok, spec_wok, Option.bind_some, if_true, bne_self_eq_false, Bool.false_eq_true, if_false]
  cases hk : wok w with
  | false =>
    refine Ev.step (fun k => ?_) (Ev.now true)
    simp only [laws_FnMasked.j0, Bool.not_false, if_true, spec_masked, Option.bind_some, impl_signof, spec_signof, impl_wok, spec_wok, beq_self_eq_true]
  | true =>
    have ht := top_pos hk
    have em : masked w n = n % top w := by unfold masked; rw [if_pos hk]
    have h0 : 0 ≤ n % top w := Int.emod_nonneg _ (by omega)
    have h9 : n % top w < top w := Int.emod_lt_of_pos _ (by omega)
    have emm : masked w (n % top w) = n % top w := by unfold masked; rw [if_pos hk, Int.emod_emod]
    have hv : isval w (n % top w) = true := by simp only [isval, hk, Bool.true_and, decide_eq_true_eq]; exact ⟨h0, h9⟩
    have es : signof w (n % top w) = sgn w (n % top w) := by unfold signof; rw [if_pos hv]
    have k1 : Int.tmod (wrap64 (n - n % top w)) (top w) = 0 := by
      apply tmod_zero
      rw [wrap64_emod_top _ hk, Int.sub_emod, Int.emod_emod, Int.sub_self, Int.zero_emod]
    have k2 : Int.tmod (wrap64 (sgn w (n % top w) - n % top w)) (top w) = 0 := by
      apply tmod_zero
      rw [wrap64_emod_top _ hk, Int.sub_emod, sgn_mod, Int.emod_emod, Int.sub_self, Int.zero_emod]
    refine Ev.step (fun k => ?_) (Ev.now true)
    simp only [laws_FnMasked.j0, Bool.not_true, Bool.false_eq_true, if_false, shl_top hk, if_pos (u64_nonneg w), em, impl_masked, emm, impl_signof, es, Option.bind_some, k1, k2, if_true, beq_self_eq_true, if_neg (show ¬ top w = 0 by omega), if_pos h9, ge_iff_le, if_pos h0]
end Go.Proofs.Ytkjfiaieoppphaa.PFnMaskedy
namespace Go.Proofs.Ytkjfiaieoppphaa.Pure
open Go.Proofs.Ytkjfiaieoppphaa.PFnMasked
theorem FnMasked : laws_FnMasked.Pure := Go.Proofs.Ytkjfiaieoppphaa.PFnMaskedy.law
end Go.Proofs.Ytkjfiaieoppphaa.Pure
