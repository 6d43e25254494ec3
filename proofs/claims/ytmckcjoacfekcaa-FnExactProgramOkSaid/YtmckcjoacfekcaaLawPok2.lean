import Derived.Test.YtmckcjoacfekcaaLawPok
/-! Plain law: an instruction's check, the program's and the reference's. -/
namespace Go.Proofs.Ytmckcjoacfekcaa.AM
open Go
set_option linter.unusedSimpArgs false
set_option linter.unusedVariables false
noncomputable def insB (R n : Int) (x : GMIns) : Bool := (impl_used_m x.op_).2 && (blankB x (usesOf x.op_) && (regB R x.d && (regB R x.a && (regB R x.b && (placedB n x && castB x R)))))
set_option maxHeartbeats 4000000 in
theorem ins_s (x : GMIns) (R n : Int) (hR : 1 ≤ R ∧ R ≤ 130) (hn : 1 ≤ n ∧ n ≤ 600) : spec_l17Ins_m x R n = some (insB R n x) := by
  unfold spec_l17Ins_m insB
  rw [regs_s x R hR, Option.bind_some]
  simp only [if_pos (inI_le (n := n - 1) (by omega) (by omega)), if_pos (inI_le (n := R - 1) (by omega) (by omega)), value_s, Option.bind_some, ite_some]
  congr 1
  obtain ⟨o, w, d, a, b, c, imm⟩ := x
  simp only
  rcases (show (1 ≤ o ∧ o ≤ 17) ∨ (18 ≤ o ∧ o ≤ 20) ∨ o = 21 ∨ o = 22 ∨ o = 23 ∨ o = 24 ∨ o = 25 ∨ o = 31 ∨ o = 32 ∨ o = 33 ∨ o = 34 ∨ o = 35 ∨ ((o < 1 ∨ 20 < o) ∧ o ≠ 21 ∧ o ≠ 22 ∧ o ≠ 23 ∧ o ≠ 24 ∧ o ≠ 25 ∧ o ≠ 31 ∧ o ≠ 32 ∧ o ≠ 33 ∧ o ≠ 34 ∧ o ≠ 35) by omega) with h | h | h | h | h | h | h | h | h | h | h | h | h
  · rw [usesOf, used_b o h]
    have n1 : (o == 31 || o == 32) = false := by simp; omega
    have n2 : (o == 34) = false := by simp; omega
    have n3 : (o == 33 || o == 35) = false := by simp; omega
    have n4 : (o == 21) = false := by simp; omega
    have n5 : spec_l1In_m o 1 17 = true := by simp [spec_l1In_m]; omega
    have n6 : ¬(18 ≤ o ∧ o ≤ 20) := by omega
    have n7 : ¬(o = 31 ∨ o = 32) := by omega
    have n8 : ¬(o = 24 ∨ o = 25 ∨ o = 34) := by omega
    have n9 : ¬ o = 21 := by omega
    have n10 : ¬ o = 23 := by omega
    simp only [n1, n2, n3, n4, n5, placedB, castB, if_neg n6, if_neg n7, if_neg n8, if_neg n9, if_neg n10]
    simp [blank_list, bad_0, bad_1, bad_2, bad_3, bad_4, bad_5, byI, regB, spec_WidthOk_m, impl_WidthOk_m]
    rw [Bool.eq_iff_iff]
    simp only [Bool.and_eq_true, decide_eq_true_eq, beq_iff_eq, Bool.or_eq_true, Bool.not_eq_true', bne_eq_false_iff_eq]
    omega
  · rw [usesOf, used_c o h]
    have n1 : (o == 31 || o == 32) = false := by simp; omega
    have n2 : (o == 34) = false := by simp; omega
    have n3 : (o == 33 || o == 35) = false := by simp; omega
    have n4 : (o == 21) = false := by simp; omega
    have n5 : spec_l1In_m o 1 17 = false := by simp [spec_l1In_m]; omega
    have n6 : spec_l1In_m o 18 20 = true := by simp [spec_l1In_m]; omega
    have n7 : ¬(o = 31 ∨ o = 32) := by omega
    have n8 : ¬(o = 24 ∨ o = 25 ∨ o = 34) := by omega
    have n9 : ¬ o = 21 := by omega
    have n10 : ¬ o = 23 := by omega
    simp only [n1, n2, n3, n4, n5, n6, placedB, castB, if_pos h, if_neg n7, if_neg n8, if_neg n9, if_neg n10]
    simp [blank_list, bad_0, bad_1, bad_2, bad_3, bad_4, bad_5, byI, regB, spec_WidthOk_m, impl_WidthOk_m, spec_l1In_m]
    by_cases hcw : c < w
    · have m1 : decide (w < c) = false := by simp; omega
      have m2 : decide (c = w) = false := by simp; omega
      simp only [if_pos hcw, m1]
      by_cases ho : o = 20
      · subst ho; simp
      · have m3 : (o == 20) = false := by simpa using ho
        have m4 : (o != 20) = true := by simpa using ho
        simp only [m3, m4]
        rw [Bool.eq_iff_iff]
        simp
        omega
    · simp only [if_neg hcw]
      by_cases ho : o = 20
      · subst ho
        rw [Bool.eq_iff_iff]
        simp
        omega
      · have m3 : (o == 20) = false := by simpa using ho
        simp only [m3]
        rw [Bool.eq_iff_iff]
        simp
        omega
  case inr.inr.inr.inr.inr.inr.inr.inr.inr.inr.inr.inr =>
    obtain ⟨h0, h1, h2, h3, h4, h5, h6, h7, h8, h9, h10⟩ := h
    have n5 : spec_l1In_m o 1 17 = false := by simp [spec_l1In_m]; omega
    have n6 : spec_l1In_m o 18 20 = false := by simp [spec_l1In_m]; omega
    have e : ∀ k : Int, o ≠ k → (o == k) = false := fun k hk => by simpa using hk
    have e' : ∀ k : Int, o ≠ k → (k == o) = false := fun k hk => by simpa using Ne.symm hk
    rw [used_o o h0]
    simp [lkE, n5, n6, e 21 h1, e 22 h2, e 23 h3, e 24 h4, e 25 h5, e 31 h6, e 32 h7, e 33 h8, e 34 h9, e 35 h10, e' 21 h1, e' 22 h2, e' 23 h3, e' 24 h4, e' 25 h5, e' 31 h6, e' 32 h7, e' 33 h8, e' 34 h9, e' 35 h10]
  all_goals (subst h; rw [usesOf, used_o _ (by omega)]; simp [lkE, blank_list, bad_0, bad_1, bad_2, bad_3, bad_4, bad_5, byI, placedB, castB, regB, spec_l1In_m, spec_WidthOk_m, impl_WidthOk_m])
  all_goals (generalize valueB w imm = v; rw [Bool.eq_iff_iff]; cases v <;> simp only [Bool.and_eq_true, decide_eq_true_eq, beq_iff_eq, Bool.or_eq_true, Bool.not_eq_true', bne_eq_false_iff_eq, Bool.false_eq_true, and_false, false_and, true_and, and_true] <;> omega)
theorem ins_i (p : GProgram) (x : GMIns) (R n : Int) (hp : p.regs = R) (hn : (p.code.length : Int) = n) (hR : 1 ≤ R ∧ R ≤ 130) : impl_Program_isMIns_m p x = some (insB R n x) := by
  rw [mins_i R p hp hR x ?_, hn]
  · rfl
  · have hL : LIM = 140737488355328 := rfl
    unfold usesOf impl_used_m
    split
    · simp [hL]
    split
    · simp [hL]
    simp only [lkE, List.find?_cons]
    repeat' split
    all_goals simp [hL]
theorem widths_one (w : Int) : impl_WidthOk_m w = spec_WidthOk_m w := rfl
def lastB (o : Int) : Bool := if (o == 31) = true then true else if (o == 33) = true then true else (o == 34)
noncomputable def okB (p : GProgram) : Bool := p.params.all (regB p.regs) && p.widths.all spec_WidthOk_m && p.code.all (insB p.regs (p.code.length : Int)) && lastB (at_ p.code ((p.code.length : Int) - 1)).op_
theorem anyf (xs : List Int) (f : Int → Option Bool) (c : Int → Bool) (h : ∀ x, f x = some (c x)) (hl : xs.length ≤ LIM) : slices_ContainsFunc_int64_int64_m xs f = some (xs.any c) := by
  have hL : LIM = 140737488355328 := rfl
  unfold slices_ContainsFunc_int64_int64_m slices_IndexFunc_int64_int64_m
  generalize hB : loopO _ (0 : Int) = L
  have K := loop_any' hB xs c (fun k => (k : Int)) (by
    intro k hk
    rw [if_pos (by simpa using hk), if_pos (by omega), h, Option.bind_some]
    split
    · rfl
    · rw [if_pos (inI_le (by omega) (by omega))]
    ) (by
    rw [if_neg (by simp)]
    )
  rcases K with ⟨h1, k, hk, h⟩ | ⟨h1, h⟩
  · subst h; rw [h1]; simp
  · subst h; rw [h1]; simp
theorem anyfm (xs : List GMIns) (f : GMIns → Option Bool) (c : GMIns → Bool) (h : ∀ x, f x = some (c x)) (hl : xs.length ≤ LIM) : slices_ContainsFunc_impl_MIns_impl_MIns_m xs f = some (xs.any c) := by
  have hL : LIM = 140737488355328 := rfl
  unfold slices_ContainsFunc_impl_MIns_impl_MIns_m slices_IndexFunc_impl_MIns_impl_MIns_m
  generalize hB : loopO _ (0 : Int) = L
  have K := loop_any' hB xs c (fun k => (k : Int)) (by
    intro k hk
    rw [if_pos (by simpa using hk), if_pos (by omega), h, Option.bind_some]
    split
    · rfl
    · rw [if_pos (inI_le (by omega) (by omega))]
    ) (by
    rw [if_neg (by simp)]
    )
  rcases K with ⟨h1, k, hk, h⟩ | ⟨h1, h⟩
  · subst h; rw [h1]; simp
  · subst h; rw [h1]; simp
/-- The sizes of a program that may be right. -/
def szB (p : GProgram) : Bool := decide (1 ≤ p.regs ∧ p.regs ≤ 130 ∧ 1 ≤ p.code.length ∧ p.code.length ≤ 600 ∧ p.params.length ≤ 4 ∧ p.widths.length = p.params.length)
theorem pok_i (p : GProgram) : impl_ProgramOk_m p = some (szB p && okB p) := by
  have hL : LIM = 140737488355328 := rfl
  unfold impl_ProgramOk_m
  by_cases hs : szB p = true
  · have hs' := hs
    simp only [szB, decide_eq_true_eq] at hs'
    obtain ⟨s1, s2, s3, s4, s5, s6⟩ := hs'
    have c1 : impl_within_m p.regs 1 130 = true := by simp [impl_within_m, s1, s2]
    have c2 : decide (((List.length p.params : Int)) > 4) = false := by simp; omega
    have c3 : ((List.length p.widths : Int) != (List.length p.params : Int)) = false := by simp [s6]
    have c4 : impl_within_m (List.length p.code : Int) 1 600 = true := by simp [impl_within_m]; omega
    rw [c1, c2, c3, c4]
    rw [anyf p.params _ (fun x => !(regB p.regs x)) (fun x => by unfold impl_ProgramOk_1_m; rw [within_i p.regs p rfl ⟨s1, s2⟩, Option.bind_some]; rfl) (by omega)]
    rw [anyf p.widths _ (fun x => !(spec_WidthOk_m x)) (fun x => by unfold impl_ProgramOk_2_m; rfl) (by omega)]
    rw [anyfm p.code _ (fun x => !(insB p.regs (p.code.length : Int) x)) (fun x => by unfold impl_ProgramOk_3_m; rw [ins_i p x p.regs _ rfl rfl ⟨s1, s2⟩, Option.bind_some]) (by omega)]
    rw [if_pos (show 0 ≤ ((List.length p.code : Int) - 1) ∧ ((List.length p.code : Int) - 1) < (List.length p.code : Int) by omega)]
    have hl : impl_is_m (at_ p.code ((List.length p.code : Int) - 1)).op_ [31, 33, 34] = some (lastB (at_ p.code ((List.length p.code : Int) - 1)).op_) := by
      unfold impl_is_m
      rw [contains_i _ _ (by simp [hL]), Option.bind_some]
      generalize (at_ p.code ((List.length p.code : Int) - 1)).op_ = o
      simp only [List.any_cons, List.any_nil, Bool.or_false, lastB]
      cases (o == 31) <;> cases (o == 33) <;> rfl
    rw [hl]
    simp only [Option.bind_some, ite_some, okB]
    rw [hs]
    have q1 : (p.params.any fun x => !regB p.regs x) = !(p.params.all (regB p.regs)) := by simp [List.not_all_eq_any_not]
    have q2 : (p.widths.any fun x => !spec_WidthOk_m x) = !(p.widths.all spec_WidthOk_m) := by simp [List.not_all_eq_any_not]
    have q3 : (p.code.any fun x => !insB p.regs (p.code.length : Int) x) = !(p.code.all (insB p.regs (p.code.length : Int))) := by simp [List.not_all_eq_any_not]
    rw [q1, q2, q3]
    generalize p.params.all (regB p.regs) = b1
    generalize p.widths.all spec_WidthOk_m = b2
    generalize p.code.all (insB p.regs (p.code.length : Int)) = b3
    generalize lastB (at_ p.code ((List.length p.code : Int) - 1)).op_ = b4
    cases b1 <;> cases b2 <;> cases b3 <;> cases b4 <;> rfl
  · have hs0 : szB p = false := by simpa using hs
    rw [hs0, if_pos ?_]
    · rfl
    · simp only [szB, decide_eq_true_eq] at hs
      simp only [impl_within_m]
      by_cases k1 : 1 ≤ p.regs ∧ p.regs ≤ 130
      · by_cases k2 : p.params.length ≤ 4
        · by_cases k3 : p.widths.length = p.params.length
          · have : ¬(1 ≤ p.code.length ∧ p.code.length ≤ 600) := fun h => hs ⟨k1.1, k1.2, h.1, h.2, k2, k3⟩
            simp
            omega
          · simp
            omega
        · simp
          omega
      · simp
        omega
theorem pok_s (p : GProgram) : spec_ProgramOk_m p = some (szB p && okB p) := by
  unfold spec_ProgramOk_m
  by_cases hs : szB p = true
  · have hs' := hs
    simp only [szB, decide_eq_true_eq] at hs'
    obtain ⟨s1, s2, s3, s4, s5, s6⟩ := hs'
    have c1 : spec_l1In_m p.regs 1 130 = true := by simp [spec_l1In_m, s1, s2]
    have c2 : decide (((List.length p.params : Int)) > 4) = false := by simp; omega
    have c3 : ((List.length p.widths : Int) != (List.length p.params : Int)) = false := by simp [s6]
    have c4 : spec_l1In_m (List.length p.code : Int) 1 600 = true := by simp [spec_l1In_m]; omega
    rw [c1, c2, c3, c4]
    rw [if_neg (by simp)]
    generalize hB : loopO _ (0 : Int) = L
    have K := loop_anyN' hB p.params.length (fun k => !(regB p.regs (at_ p.params (k : Int)) && spec_WidthOk_m (at_ p.widths (k : Int)))) (fun _ => ()) (by
      intro k hk
      have r1 : spec_l1In_m (at_ p.params (k : Int)) 0 (p.regs - 1) = regB p.regs (at_ p.params (k : Int)) := rfl
      rw [if_pos (by simpa using hk), if_pos (by omega), if_pos (inI_le (by omega) (by omega)), if_pos (show 0 ≤ (k : Int) ∧ (k : Int) < (List.length p.widths : Int) by omega), r1]
      simp only [ite_some, Option.bind_some, if_pos (inI_le (n := (k : Int) + 1) (by omega) (by omega))]
      generalize regB p.regs (at_ p.params (k : Int)) = b1
      generalize spec_WidthOk_m (at_ p.widths (k : Int)) = b2
      cases b1 <;> cases b2 <;> rfl
      ) (by
      rw [if_neg (by simp)]
      )
    rw [hs]
    have q0 : (∀ k, k < p.params.length → regB p.regs (at_ p.params (k : Int)) = true ∧ spec_WidthOk_m (at_ p.widths (k : Int)) = true) ↔ (p.params.all (regB p.regs) = true ∧ p.widths.all spec_WidthOk_m = true) := by
      constructor
      · intro h
        refine ⟨List.all_eq_true.2 fun x hx => ?_, List.all_eq_true.2 fun x hx => ?_⟩
        · obtain ⟨k, hk, rfl⟩ := List.getElem_of_mem hx
          rw [← at_nat hk]; exact (h k hk).1
        · obtain ⟨k, hk, rfl⟩ := List.getElem_of_mem hx
          rw [← at_nat hk]; exact (h k (by omega)).2
      · rintro ⟨h1, h2⟩ k hk
        rw [at_nat hk, at_nat (show k < p.widths.length by omega)]
        exact ⟨List.all_eq_true.1 h1 _ (List.getElem_mem _), List.all_eq_true.1 h2 _ (List.getElem_mem _)⟩
    rcases K with ⟨k, hk, hc, _, h⟩ | ⟨hc, h⟩
    · subst h
      have : ¬(p.params.all (regB p.regs) = true ∧ p.widths.all spec_WidthOk_m = true) := fun h => by
        have := q0.2 h k hk
        rw [this.1, this.2] at hc
        cases hc
      simp only [Option.bind_some, okB]
      have e : (p.params.all (regB p.regs) && p.widths.all spec_WidthOk_m) = false := by
        rw [Bool.eq_false_iff, Ne, Bool.and_eq_true]; exact this
      rw [e]; rfl
    · subst h
      have := q0.1 fun k hk => by
        have := hc k hk
        simpa using this
      simp only [Option.bind_some, okB]
      rw [this.1, this.2]
      clear hB q0 hc
      generalize hB : loopO _ (0 : Int) = L
      have K := loop_any' hB p.code (fun x => !(insB p.regs (p.code.length : Int) x)) (fun _ => ()) (by
        intro k hk
        rw [if_pos (by simpa using hk), if_pos (by omega), ins_s _ _ _ ⟨s1, s2⟩ (by omega), Option.bind_some]
        simp only [if_pos (inI_le (n := (k : Int) + 1) (by omega) (by omega)), ite_some]
        ) (by
        rw [if_neg (by simp)]
        )
      have q3 : (p.code.any fun x => !insB p.regs (p.code.length : Int) x) = !(p.code.all (insB p.regs (p.code.length : Int))) := by simp [List.not_all_eq_any_not]
      rw [q3] at K
      rcases K with ⟨h1, k, hk, h⟩ | ⟨h1, h⟩
      · subst h
        have : p.code.all (insB p.regs (p.code.length : Int)) = false := by simpa using h1
        simp only [Option.bind_some]
        rw [this]; rfl
      · subst h
        have : p.code.all (insB p.regs (p.code.length : Int)) = true := by simpa using h1
        simp only [Option.bind_some]
        rw [this, if_pos (show 0 ≤ ((List.length p.code : Int) - 1) ∧ ((List.length p.code : Int) - 1) < (List.length p.code : Int) by omega)]
        rfl
  · have hs0 : szB p = false := by simpa using hs
    rw [hs0, if_pos ?_]
    · rfl
    · simp only [szB, decide_eq_true_eq] at hs
      simp only [spec_l1In_m]
      by_cases k1 : 1 ≤ p.regs ∧ p.regs ≤ 130
      · by_cases k2 : p.params.length ≤ 4
        · by_cases k3 : p.widths.length = p.params.length
          · have : ¬(1 ≤ p.code.length ∧ p.code.length ≤ 600) := fun h => hs ⟨k1.1, k1.2, h.1, h.2, k2, k3⟩
            simp
            omega
          · simp
            omega
        · simp
          omega
      · simp
        omega
theorem law_pok (p : GProgram) (h : Fit p) : laws_FnExactProgramOk_m p = some true := by
  unfold laws_FnExactProgramOk_m
  obtain ⟨v, hv⟩ := szProgram_ok p h
  rw [hv, Option.bind_some]
  split
  · rfl
  · rw [toProgram_eq p h]
    simp only [Option.bind_some, pok_s, pok_i, beq_self_eq_true, Bool.not_true, Bool.false_eq_true, if_false, eqProgram_self p h]
end Go.Proofs.Ytmckcjoacfekcaa.AM
