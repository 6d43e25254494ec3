import Derived.Test.YtkjfiaieoppphaaFnDividedB
import Derived.Test.YtkjfiaieoppphaaFnDividedR
/-! Two values of a width and an op are always drawn. -/
namespace Go.Proofs.Ytkjfiaieoppphaa.PFnDividedy
open Go Go.RowKit Go.Proofs.Ytkjfiaieoppphaa.PFnDivided Go.Proofs.YtkjfiaieoppphaaW.PrintWords Go.Proofs.YtkjfiaieoppphaaW.PrintLast Go.Proofs.Ytkjfiaieoppphaa.Nums

theorem drawJ {l : List Int} (h : Byt l) {p : Int} (hp : RP l p) (a b c d : Int) : ∃ r, Ev (fun k => spec_DrawBinary.j0 k a b c d l p) r := by
  obtain ⟨b1, p1, e1, hp1⟩ := once_ok h hp 20
  cases b1 with
  | true =>
    obtain ⟨x, p2, e2, hp2⟩ := off_ok h hp1 (lo := 1) (hi := 17) (by decide) (by decide)
    obtain ⟨y, p3, e3, hp3⟩ := off_ok h hp2 (lo := 0) (hi := 1) (by decide) (by decide)
    refine ⟨(x, a, y, d), Ev.step (f := fun k => (spec_l1Rd_off.f k l p1 1 17).bind fun bt => (spec_l1Rd_off.f k l bt.2 0 1).bind fun bu => some (bt.1, a, bu.1, d)) (fun k => ?_) (Ev.bind e2 (Ev.bind e3 (Ev.now _)))⟩
    simp only [spec_DrawBinary.j0, e1, Option.bind_some, if_true]
  | false =>
    refine ⟨(b, a, c, d), Ev.step (fun k => ?_) (Ev.now _)⟩
    simp only [spec_DrawBinary.j0, e1, Option.bind_some, Bool.false_eq_true, if_false]
theorem draw_ok {l : List Int} (h : Byt l) : ∃ r, Ev (fun k => spec_DrawBinary.f k l) r := by
  have hp0 : RP l 0 := ⟨by omega, by omega⟩
  obtain ⟨w, p1, e1, hw, hp1⟩ := width_ok h hp0
  obtain ⟨x, p2, e2, hx, hx', hp2⟩ := below_ok h hp1 17
  obtain ⟨a, p3, e3, ha, ha', hp3⟩ := value_ok h hp2 hw
  obtain ⟨b, p4, e4, hb, hb', hp4⟩ := value_ok h hp3 hw
  obtain ⟨o, p5, e5, hp5⟩ := once_ok h hp4 3
  obtain ⟨y, p6, e6, hy, hy', hp6⟩ := below_ok h hp5 9
  have ht := top_pos hw
  cases o with
  | true =>
    obtain ⟨r, er⟩ := drawJ h hp6 w (wrap64 (1 + x)) a (Int.tmod y (top w))
    refine ⟨r, ?_⟩
    unfold spec_DrawBinary.f spec_l1Open.f
    simp only [Option.bind_some, e1, e2]
    refine Ev.bind e3 (Ev.bind e4 ?_)
    simp only [e5, e6, Option.bind_some, if_true, if_pos (u64_nonneg w), shl_top hw, if_neg (show ¬ top w = 0 by omega)]
    exact er
  | false =>
    obtain ⟨r, er⟩ := drawJ h hp5 w (wrap64 (1 + x)) a b
    refine ⟨r, ?_⟩
    unfold spec_DrawBinary.f spec_l1Open.f
    simp only [Option.bind_some, e1, e2]
    refine Ev.bind e3 (Ev.bind e4 ?_)
    simp only [e5, Option.bind_some, Bool.false_eq_true, if_false]
    exact er
/-- What is right is right for both: values of the width. -/
theorem bin_ok {op w a b : Int} (h : (binv op w a b).2 = 0) : 1 ≤ op ∧ op ≤ 17 ∧ isval w a = true ∧ isval w b = true ∧ (4 ≤ op → op ≤ 7 → b ≠ 0) ∧ binv op w a b = (two op w a b % top w, 0) := by
  unfold binv at h ⊢
  by_cases h1 : 1 ≤ op ∧ op ≤ 17 ∧ isval w a = true ∧ isval w b = true
  · rw [if_pos h1] at h ⊢
    by_cases h2 : 4 ≤ op ∧ op ≤ 7 ∧ b = 0
    · rw [if_pos h2] at h; cases h
    · rw [if_neg h2]; exact ⟨h1.1, h1.2.1, h1.2.2.1, h1.2.2.2, fun a1 a2 a3 => h2 ⟨a1, a2, a3⟩, rfl⟩
  · rw [if_neg h1] at h; cases h
theorem bin_eq {op w a b : Int} (h1 : 1 ≤ op) (h2 : op ≤ 17) (ha : isval w a = true) (hb : isval w b = true) (hz : 4 ≤ op → op ≤ 7 → b ≠ 0) : binv op w a b = (two op w a b % top w, 0) := by
  unfold binv
  rw [if_pos ⟨h1, h2, ha, hb⟩, if_neg (fun h => hz h.1 h.2.1 h.2.2)]
theorem isval_mod {w : Int} (hw : wok w = true) (x : Int) : isval w (x % top w) = true := by
  have := top_pos hw
  simp only [isval, hw, Bool.true_and, decide_eq_true_eq]
  exact ⟨Int.emod_nonneg _ (by omega), Int.emod_lt_of_pos _ (by omega)⟩
theorem isval_id {w x : Int} (h : isval w x = true) : x % top w = x := by
  obtain ⟨_, h0, h1⟩ := isval_w h
  exact Int.emod_eq_of_lt h0 h1
theorem isval_lt {w x : Int} (h : isval w x = true) : 0 ≤ x ∧ x < 4294967296 := by
  obtain ⟨hw, h0, h1⟩ := isval_w h
  have := top_pos hw
  omega
end Go.Proofs.Ytkjfiaieoppphaa.PFnDividedy
