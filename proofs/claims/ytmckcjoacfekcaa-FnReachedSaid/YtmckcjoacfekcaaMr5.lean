import Derived.Test.YtmckcjoacfekcaaMr4
set_option linter.unusedVariables false
set_option linter.unusedSimpArgs false
/-! Plain laws: what is reached. -/
namespace Go.Proofs.Ytmckcjoacfekcaa.AM
open Go
set_option linter.unusedSimpArgs false
set_option linter.unusedVariables false
noncomputable def succs (f : GFunc) (b : Int) : List Int := impl_leadsTo_m (at_ f.blocks b).term
def GraphOk (f : GFunc) : Prop := 1 ≤ f.blocks.length ∧ f.blocks.length ≤ 10 ∧ ∀ b ∈ f.blocks, ∀ x ∈ impl_leadsTo_m b.term, 0 ≤ x ∧ x < (f.blocks.length : Int)
theorem leadsTo_len (t : GTerm) : (impl_leadsTo_m t).length ≤ 2 := by
  unfold impl_leadsTo_m
  split
  · simp
  · split <;> simp
theorem isGraph_ok (f : GFunc) (hl : f.blocks.length ≤ 140737488355328) : ∃ g, impl_isGraph_m f = some g ∧ (g = true ↔ GraphOk f) := by
  unfold impl_isGraph_m
  by_cases hn : 1 ≤ f.blocks.length ∧ f.blocks.length ≤ 10
  · rw [if_pos (by simp [impl_within_m]; omega), indexFunc_block_ok f.blocks _ (fun b => (impl_leadsTo_m b.term).any fun x => !impl_within_m x 0 ((f.blocks.length : Int) - 1)) (fun b hb => by
      unfold impl_isGraph_1_m
      rw [indexFunc_int_ok _ _ (fun x => !impl_within_m x 0 ((f.blocks.length : Int) - 1)) (fun x hx => by
        unfold impl_isGraph_1_1_m
        rw [if_pos (inI_le (by omega) (by omega))]) (by have := leadsTo_len b.term; omega)]
      rfl) hl]
    refine ⟨_, rfl, ?_⟩
    simp only [Bool.not_eq_true', List.any_eq_false, Bool.not_eq_true, List.any_eq_true, not_exists, not_and, GraphOk, impl_within_m]
    constructor
    · intro h
      refine ⟨hn.1, hn.2, fun b hb x hx => ?_⟩
      have := h b hb
      simp only [Bool.not_eq_false, List.any_eq_false, Bool.not_eq_true', Bool.and_eq_true, decide_eq_true_eq] at this
      have := this x hx
      omega
    · rintro ⟨_, _, h⟩ b hb
      intro x hx
      have := h b hb x hx
      simp
      omega
  · rw [if_neg (by simp [impl_within_m]; omega)]
    exact ⟨false, rfl, by simp [GraphOk]; omega⟩
theorem l3Succs_ok (f : GFunc) (b : Int) (h : 0 ≤ b ∧ b < (f.blocks.length : Int)) : spec_l3Succs_m f b = some (succs f b) := by
  unfold spec_l3Succs_m succs impl_leadsTo_m
  rw [if_pos h]
  split
  · rfl
  · split <;> rfl
theorem there_ok (f : GFunc) (b : Int) (hl : f.blocks.length ≤ 140737488355328) : ∃ g, spec_l3There_m f b = some g ∧ (g = true ↔ GraphOk f ∧ 0 ≤ b ∧ b < (f.blocks.length : Int)) := by
  unfold spec_l3There_m
  generalize hB : loopO _ (0 : Int) = L
  have K := loop_any' hB f.blocks (fun x => (impl_leadsTo_m x.term).any fun y => !spec_l1In_m y 0 ((f.blocks.length : Int) - 1)) (fun _ => ()) (by
    intro k hk
    rw [if_pos (by simpa using hk), l3Succs_ok f _ (by omega)]
    simp only [Option.bind_some]
    generalize hB2 : loopO _ (0 : Int) = L2
    have hs : (succs f (k : Int)).length ≤ 2 := leadsTo_len _
    have K2 := loop_any' hB2 (succs f (k : Int)) (fun y => !spec_l1In_m y 0 ((f.blocks.length : Int) - 1)) (fun _ => ()) (by
      intro j hj
      rw [if_pos (by simpa using hj), if_pos (by omega)]
      cases spec_l1In_m (at_ (succs f (k : Int)) (j : Int)) 0 ((f.blocks.length : Int) - 1)
      · rw [if_pos (by rfl), if_pos (by rfl)]
      · rw [if_neg (by simp), if_pos (inI_le (by omega) (by omega)), if_neg (by simp)]) (by rw [if_neg (by simp)])
    rcases K2 with ⟨h1, j, h2, rfl⟩ | ⟨h1, rfl⟩
    · unfold succs at h1
      rw [h1]
      simp only [Option.bind_some, if_true]
    · unfold succs at h1
      rw [h1]
      refine (Option.bind_some _ _).trans ?_
      refine (if_pos (inI_le (n := (k : Int) + 1) (by omega) (by omega))).trans ?_
      simp only [Bool.false_eq_true, if_false]) (by rw [if_neg (by simp)])
  have hin : ∀ y : Int, (spec_l1In_m y 0 ((f.blocks.length : Int) - 1) = true) ↔ 0 ≤ y ∧ y < (f.blocks.length : Int) := fun y => by simp [spec_l1In_m]; omega
  rcases K with ⟨h1, k, h2, rfl⟩ | ⟨h1, rfl⟩
  · refine ⟨false, rfl, ?_⟩
    simp only [Bool.false_eq_true, false_iff]
    rintro ⟨⟨g1, g2, g3⟩, _⟩
    simp only [List.any_eq_true, Bool.not_eq_true'] at h1
    obtain ⟨x, hx, y, hy, h⟩ := h1
    have := (hin y).2 (g3 x hx y hy)
    rw [this] at h
    cases h
  · refine ⟨_, rfl, ?_⟩
    simp only [List.any_eq_false, Bool.not_eq_true, Bool.not_eq_false'] at h1
    by_cases hb : 0 ≤ b ∧ b < (f.blocks.length : Int)
    · rw [if_pos ((hin b).2 hb)]
      simp only [decide_eq_true_eq, GraphOk]
      constructor
      · intro h
        exact ⟨⟨by omega, by omega, fun x hx y hy => (hin y).1 (h1 x hx y hy)⟩, hb⟩
      · rintro ⟨⟨_, h, _⟩, _⟩
        omega
    · rw [if_neg (by rw [hin]; exact hb)]
      simp only [Bool.false_eq_true, false_iff]
      rintro ⟨_, h⟩
      exact hb h
theorem GraphOk.succ {f : GFunc} (h : GraphOk f) {a b : Int} (ha : 0 ≤ a ∧ a < (f.blocks.length : Int)) (hb : b ∈ succs f a) : 0 ≤ b ∧ b < (f.blocks.length : Int) := h.2.2 _ (at_mem ha) b hb
/-- What is reached without one (-1: with all). -/
inductive Rch (f : GFunc) (w : Int) : Int → Prop
  | zero : (0 : Int) ≠ w → Rch f w 0
  | step {a b : Int} : Rch f w a → b ∈ succs f a → b ≠ w → Rch f w b
theorem Rch.lt {f : GFunc} (h : GraphOk f) {w b : Int} (hr : Rch f w b) : 0 ≤ b ∧ b < (f.blocks.length : Int) := by
  induction hr with
  | zero _ => have := h.1; omega
  | step _ hb _ ih => exact h.succ ih hb
theorem Rch.ne {f : GFunc} {w b : Int} (hr : Rch f w b) : b ≠ w := by cases hr <;> assumption
theorem reach_ok {f : GFunc} (h : GraphOk f) (w : Int) : ∃ out, impl_reach_m f w = some out ∧ out.length = f.blocks.length ∧ ∀ k : Nat, k < f.blocks.length → (at_ out (k : Int) = true ↔ Rch f w (k : Int)) := by
  have hLIM : LIM = 140737488355328 := rfl
  have hg := h
  obtain ⟨n1, n2, _⟩ := h
  unfold impl_reach_m
  rw [if_pos (by omega)]
  generalize hB : loopO _ _ = L
  obtain ⟨out, rfl, h1, h2, h3, h4⟩ := loop_wf hB
    (fun s => s.1.length = f.blocks.length ∧ (∀ x ∈ s.2, 0 ≤ x ∧ x < (f.blocks.length : Int)) ∧ (∀ x ∈ s.2, x ≠ w → Rch f w x) ∧ (∀ k : Nat, k < f.blocks.length → at_ s.1 (k : Int) = true → Rch f w (k : Int)) ∧
      (∀ k : Nat, k < f.blocks.length → at_ s.1 (k : Int) = true → ∀ b ∈ succs f (k : Int), b ≠ w → at_ s.1 b = true ∨ b ∈ s.2) ∧ ((0 : Int) ≠ w → at_ s.1 (0 : Int) = true ∨ (0 : Int) ∈ s.2) ∧ s.2.length + 3 * s.1.count false ≤ 31)
    (fun s => s.2.length + 3 * s.1.count false)
    (fun out => out.length = f.blocks.length ∧ (∀ k : Nat, k < f.blocks.length → at_ out (k : Int) = true → Rch f w (k : Int)) ∧
      (∀ k : Nat, k < f.blocks.length → at_ out (k : Int) = true → ∀ b ∈ succs f (k : Int), b ≠ w → at_ out b = true) ∧ ((0 : Int) ≠ w → at_ out (0 : Int) = true)) (by
    rintro ⟨out, left⟩ ⟨h1, h2, h3, h4, h5, h6, h7⟩
    simp only at h1 h2 h3 h4 h5 h6 h7
    cases left with
    | nil =>
      right
      rw [if_neg (by simp)]
      exact ⟨_, rfl, h1, h4, fun k hk hm b hb hw => (h5 k hk hm b hb hw).resolve_right (by simp), fun h => (h6 h).resolve_right (by simp)⟩
    | cons b left =>
      left
      have hat : at_ (b :: left) (0 : Int) = b := rfl
      have hbn := h2 b (by simp)
      obtain ⟨m, rfl⟩ := Int.eq_ofNat_of_zero_le hbn.1
      have hm : m < f.blocks.length := by omega
      simp only [hat, List.length_cons, List.drop_succ_cons, List.drop_zero]
      rw [if_pos (by simp only [gt_iff_lt, decide_eq_true_eq]; omega), if_pos (by omega), if_pos (by omega)]
      have e : ∃ j, (if ((m : Int) == w) = true then some true else (if 0 ≤ (m : Int) ∧ (m : Int) < (out.length : Int) then some (at_ out (m : Int)) else none)) = some j ∧ (j = true ↔ (m : Int) = w ∨ at_ out (m : Int) = true) := by
        by_cases hw : (m : Int) = w
        · rw [if_pos (by simpa using hw)]
          exact ⟨_, rfl, by simp [hw]⟩
        · rw [if_neg (by simpa using hw), if_pos (by omega)]
          exact ⟨_, rfl, by simp [hw]⟩
      obtain ⟨j, e, hj⟩ := e
      rw [e]
      simp only [Option.bind_some]
      by_cases hjt : j = true
      · rw [if_pos hjt]
        have hmw := hj.1 hjt
        refine ⟨_, rfl, ⟨h1, fun x hx => h2 x (by simp [hx]), fun x hx => h3 x (by simp [hx]), h4, fun k hk hmk b hb hw => ?_, fun h => ?_, ?_⟩, ?_⟩
        · rcases h5 k hk hmk b hb hw with h | h
          · exact .inl h
          · rcases List.mem_cons.1 h with rfl | h
            · rcases hmw with e | e
              · exact absurd e hw
              · exact .inl e
            · exact .inr h
        · rcases h6 h with h' | h'
          · exact .inl h'
          · rcases List.mem_cons.1 h' with e | h'
            · rcases hmw with e2 | e2
              · exact absurd (e.trans e2) h
              · exact .inl (e ▸ e2)
            · exact .inr h'
        · simp only [List.length_cons] at h7 ⊢; omega
        · simp only [List.length_cons]; omega
      · rw [if_neg hjt]
        have hnw : (m : Int) ≠ w := fun e => hjt (hj.2 (.inl e))
        have hnm : at_ out (m : Int) = false := by cases hh : at_ out (m : Int) with | false => rfl | true => exact absurd (hj.2 (.inr hh)) hjt
        have hs : (impl_leadsTo_m (at_ f.blocks (m : Int)).term).length ≤ 2 := leadsTo_len _
        have hcnt : (out.set m true).count false + 1 = out.count false := by
          have hm2 : m < out.length := by omega
          have hget : out[m] = false := by rw [← at_nat hm2]; exact hnm
          have := List.count_set (l := out) (a := true) (b := false) (i := m) hm2
          have hp : 0 < out.count false := List.count_pos_iff.2 (hget ▸ List.getElem_mem hm2)
          simp [hget] at this
          omega
        rw [if_pos (by omega), if_pos (by omega), if_pos (by simp only [List.length_cons] at h7; omega)]
        have hrm : Rch f w (m : Int) := h3 _ (by simp) hnw
        have hat2 : ∀ k : Nat, k < f.blocks.length → at_ (out.set m true) (k : Int) = if k = m then true else at_ out (k : Int) := fun k hk => by
          rw [at_nat (by simpa [h1] using hk), at_nat (by omega), List.getElem_set]
          by_cases hkm : m = k
          · subst hkm; simp
          · rw [if_neg hkm, if_neg (fun h => hkm h.symm)]
        have hat3 : ∀ b : Int, 0 ≤ b ∧ b < (f.blocks.length : Int) → at_ out b = true → at_ (out.set m true) b = true := fun b hb hmk => by
          obtain ⟨k, rfl⟩ := Int.eq_ofNat_of_zero_le hb.1
          rw [hat2 k (by omega)]
          split
          · rfl
          · exact hmk
        simp only [Int.toNat_natCast]
        refine ⟨_, rfl, ⟨by simpa using h1, fun x hx => ?_, fun x hx hxw => ?_, fun k hk hmk => ?_, fun k hk hmk b hb hw => ?_, fun h => ?_, ?_⟩, ?_⟩
        · rcases List.mem_append.1 hx with hx | hx
          · exact h2 x (by simp [hx])
          · exact hg.succ hbn hx
        · rcases List.mem_append.1 hx with hx | hx
          · exact h3 x (by simp [hx]) hxw
          · exact .step hrm hx hxw
        · rw [hat2 k hk] at hmk
          by_cases hkm : k = m
          · subst hkm; exact hrm
          · rw [if_neg hkm] at hmk; exact h4 k hk hmk
        · have hbl := hg.succ (by omega : 0 ≤ (k : Int) ∧ (k : Int) < (f.blocks.length : Int)) hb
          rw [hat2 k hk] at hmk
          by_cases hkm : k = m
          · subst hkm; exact .inr (List.mem_append_right _ hb)
          · rw [if_neg hkm] at hmk
            rcases h5 k hk hmk b hb hw with h | h
            · exact .inl (hat3 b hbl h)
            · rcases List.mem_cons.1 h with rfl | h
              · left; rw [hat2 m hm]; simp
              · exact .inr (List.mem_append_left _ h)
        · rcases h6 h with h | h
          · exact .inl (hat3 0 (by omega) h)
          · rcases List.mem_cons.1 h with e | h
            · left; rw [e, hat2 m hm]; simp
            · exact .inr (List.mem_append_left _ h)
        · simp only [List.length_append, List.length_cons] at h7 ⊢; omega
        · simp only [List.length_append, List.length_cons]; omega) (by
    refine ⟨by simp, fun x hx => ?_, fun x hx hw => ?_, fun k hk hm => ?_, fun k hk hm => ?_, fun _ => .inr (by simp), ?_⟩
    · simp only [List.mem_singleton] at hx; omega
    · simp only [List.mem_singleton] at hx; subst hx; exact .zero hw
    · rw [at_nat (by simpa using hk)] at hm; simp at hm
    · rw [at_nat (by simpa using hk)] at hm; simp at hm
    · simp only [List.length_singleton]
      have := List.count_le_length (a := false) (l := List.replicate (f.blocks.length : Int).toNat false)
      simp at this ⊢
      omega)
  refine ⟨out, rfl, h1, fun k hk => ⟨h2 k hk, fun hr => ?_⟩⟩
  have key : ∀ b : Int, Rch f w b → at_ out b = true := fun b hr => by
    induction hr with
    | zero hw => exact h4 hw
    | step ha hb hw ih =>
      have hl := ha.lt hg
      obtain ⟨k, rfl⟩ := Int.eq_ofNat_of_zero_le hl.1
      exact h3 k (by omega) ih _ hb hw
  exact key _ hr
theorem l3Reach_ok {f : GFunc} (h : GraphOk f) (w : Int) : ∃ out, spec_l3Reach_m f w = some out ∧ Rising out ∧ out.length ≤ 10 ∧ ∀ b, b ∈ out ↔ Rch f w b := by
  have hLIM : LIM = 140737488355328 := rfl
  have hg := h
  obtain ⟨n1, n2, _⟩ := h
  unfold spec_l3Reach_m
  by_cases hw0 : w = 0
  · rw [if_pos (by simpa using hw0)]
    refine ⟨[], rfl, .nil, by simp, fun b => ?_⟩
    simp only [List.not_mem_nil, false_iff]
    intro hr
    induction hr with
    | zero hw => exact hw hw0.symm
    | step _ _ _ ih => exact ih
  rw [if_neg (by simpa using hw0)]
  generalize hB : loopO _ _ = L
  obtain ⟨out, rfl, h1, h2, h3, h4⟩ := loop_wf hB
    (fun s => (∀ x ∈ s.1, 0 ≤ x ∧ x < (f.blocks.length : Int)) ∧ (∀ x ∈ s.1, x ≠ w → Rch f w x) ∧ Rising s.2 ∧ (∀ x ∈ s.2, Rch f w x) ∧
      (∀ x ∈ s.2, ∀ b ∈ succs f x, b ≠ w → b ∈ s.2 ∨ b ∈ s.1) ∧ ((0 : Int) ∈ s.2 ∨ (0 : Int) ∈ s.1) ∧ s.1.length + 3 * (f.blocks.length - s.2.length) ≤ 31)
    (fun s => s.1.length + 3 * (f.blocks.length - s.2.length))
    (fun out => Rising out ∧ (∀ x ∈ out, Rch f w x) ∧ (∀ x ∈ out, ∀ b ∈ succs f x, b ≠ w → b ∈ out) ∧ (0 : Int) ∈ out) (by
    rintro ⟨work, out⟩ ⟨h1, h2, h3, h4, h5, h6, h7⟩
    simp only at h1 h2 h3 h4 h5 h6 h7
    have hol : out.length ≤ f.blocks.length := by
      have := rising_len (lo := 0) (hi := (f.blocks.length : Int)) h3 (fun x hx => (h4 x hx).lt hg)
      omega
    cases work with
    | nil =>
      right
      rw [if_neg (by simp)]
      exact ⟨_, rfl, h3, h4, fun x hx b hb hw => (h5 x hx b hb hw).resolve_right (by simp), h6.resolve_right (by simp)⟩
    | cons b work =>
      left
      have hat : at_ (b :: work) (0 : Int) = b := rfl
      have hbn := h1 b (by simp)
      simp only [hat, List.length_cons, List.drop_succ_cons, List.drop_zero]
      simp only [List.length_cons] at h7
      rw [if_pos (by simp only [gt_iff_lt, decide_eq_true_eq]; omega), if_pos (by omega), if_pos (by omega), l1Copy_ok _ (by omega)]
      simp only [Option.bind_some]
      have e : ∃ j, (if (b == w) = true then some true else (Option.bind (spec_l1Has_m out b) fun x => some x)) = some j ∧ (j = true ↔ b = w ∨ b ∈ out) := by
        by_cases hw : b = w
        · rw [if_pos (by simpa using hw)]
          exact ⟨_, rfl, by simp [hw]⟩
        · rw [if_neg (by simpa using hw), l1Has_ok _ _ (by omega)]
          exact ⟨_, rfl, by simp [hw]⟩
      obtain ⟨j, e, hj⟩ := e
      rw [e]
      simp only [Option.bind_some]
      by_cases hjt : j = true
      · rw [if_pos hjt]
        have hmw := hj.1 hjt
        refine ⟨_, rfl, ⟨fun x hx => h1 x (by simp [hx]), fun x hx => h2 x (by simp [hx]), h3, h4, fun x hx y hy hw => ?_, ?_, ?_⟩, ?_⟩
        · rcases h5 x hx y hy hw with h | h
          · exact .inl h
          · rcases List.mem_cons.1 h with rfl | h
            · rcases hmw with e | e
              · exact absurd e hw
              · exact .inl e
            · exact .inr h
        · rcases h6 with h' | h'
          · exact .inl h'
          · rcases List.mem_cons.1 h' with e | h'
            · rcases hmw with e2 | e2
              · exact absurd (e.trans e2).symm hw0
              · exact .inl (e ▸ e2)
            · exact .inr h'
        · simp only; omega
        · simp only; omega
      · rw [if_neg hjt]
        have hnw : b ≠ w := fun e => hjt (hj.2 (.inl e))
        have hno : b ∉ out := fun e => hjt (hj.2 (.inr e))
        have hrm : Rch f w b := h2 _ (by simp) hnw
        obtain ⟨out2, e2, p1, p2, p3, _⟩ := put_ok out b h3 (by omega)
        have p3 := p3 hno
        have hol2 : out2.length ≤ f.blocks.length := by
          have := rising_len (lo := 0) (hi := (f.blocks.length : Int)) p1 (fun x hx => by
            rcases (p2 x).1 hx with rfl | hx
            · exact hbn
            · exact (h4 x hx).lt hg)
          omega
        have hs : (succs f b).length ≤ 2 := leadsTo_len _
        rw [e2]
        simp only [Option.bind_some]
        rw [l3Succs_ok f b hbn]
        simp only [Option.bind_some]
        rw [if_pos (by omega)]
        refine ⟨_, rfl, ⟨fun x hx => ?_, fun x hx hxw => ?_, p1, fun x hx => ?_, fun x hx y hy hw => ?_, ?_, ?_⟩, ?_⟩
        · rcases List.mem_append.1 hx with hx | hx
          · exact h1 x (by simp [hx])
          · exact hg.succ hbn hx
        · rcases List.mem_append.1 hx with hx | hx
          · exact h2 x (by simp [hx]) hxw
          · exact .step hrm hx hxw
        · rcases (p2 x).1 hx with rfl | hx
          · exact hrm
          · exact h4 x hx
        · rcases (p2 x).1 hx with rfl | hx
          · exact .inr (List.mem_append_right _ hy)
          · rcases h5 x hx y hy hw with h | h
            · exact .inl ((p2 y).2 (.inr h))
            · rcases List.mem_cons.1 h with rfl | h
              · exact .inl ((p2 y).2 (.inl rfl))
              · exact .inr (List.mem_append_left _ h)
        · rcases h6 with h | h
          · exact .inl ((p2 0).2 (.inr h))
          · rcases List.mem_cons.1 h with e | h
            · exact .inl ((p2 0).2 (.inl e))
            · exact .inr (List.mem_append_left _ h)
        · simp only [List.length_append]; omega
        · simp only [List.length_append]; omega) (by
    refine ⟨fun x hx => ?_, fun x hx hw => ?_, .nil, fun x hx => absurd hx (by simp), fun x hx => absurd hx (by simp), .inr (by simp), ?_⟩
    · simp only [List.mem_singleton] at hx; omega
    · simp only [List.mem_singleton] at hx; subst hx; exact .zero hw
    · simp only [List.length_singleton, List.length_nil]; omega)
  refine ⟨out, rfl, h1, ?_, fun b => ⟨h2 b, fun hr => ?_⟩⟩
  · have := rising_len (lo := 0) (hi := (f.blocks.length : Int)) h1 (fun x hx => (h2 x hx).lt hg)
    omega
  · induction hr with
    | zero hw => exact h4
    | step ha hb hw ih => exact h3 _ ih _ hb hw
end Go.Proofs.Ytmckcjoacfekcaa.AM

/-! Plain laws: laws.FnReached. -/
namespace Go.Proofs.Ytmckcjoacfekcaa.AM
open Go
set_option linter.unusedSimpArgs false
set_option linter.unusedVariables false
theorem implReached_ok (f : GFunc) (hl : f.blocks.length ≤ 140737488355328) : ∃ l, impl_Reached_m f = some l ∧ Rising l ∧ l.length ≤ 10 ∧ ((GraphOk f ∧ ∀ b, b ∈ l ↔ Rch f (-1) b) ∨ (¬ GraphOk f ∧ l = [])) := by
  have hLIM : LIM = 140737488355328 := rfl
  unfold impl_Reached_m
  obtain ⟨g, e, hg⟩ := isGraph_ok f hl
  rw [e]
  simp only [obs]
  by_cases h : GraphOk f
  · rw [if_neg (by rw [hg.2 h]; decide)]
    obtain ⟨out, e2, h1, h2⟩ := reach_ok h (-1)
    have n2 := h.2.1
    rw [e2]
    simp only [obs]
    generalize hB : loopO _ _ = L
    have hlen : ∀ k, (((List.range k).filter (fun i : Nat => at_ out (i : Int))).map Int.ofNat).length ≤ k := fun k => by
      rw [List.length_map]
      exact Nat.le_trans (List.length_filter_le _ _) (by simp)
    have K := loop_cnt hB (fun k => (((List.range k).filter (fun i : Nat => at_ out (i : Int))).map Int.ofNat, (k : Int))) out.length (((List.range out.length).filter (fun i : Nat => at_ out (i : Int))).map Int.ofNat) rfl (by
      intro k hk
      have hlk := hlen k
      simp only
      rw [if_pos (by simpa using hk), if_pos (by omega)]
      have er : ((List.range (k + 1)).filter (fun i : Nat => at_ out (i : Int))).map Int.ofNat = ((List.range k).filter (fun i : Nat => at_ out (i : Int))).map Int.ofNat ++ (if at_ out (k : Int) = true then [(k : Int)] else []) := by
        rw [List.range_succ, List.filter_append, List.map_append]
        congr 1
        cases hh : at_ out (k : Int) <;> simp [hh]
      rw [er]
      by_cases hh : at_ out (k : Int) = true
      · rw [if_pos hh, if_pos hh, if_pos (by simp only [List.length_singleton]; omega), if_pos (inI_le (by omega) (by omega))]
        rfl
      · rw [if_neg hh, if_neg hh, if_pos (inI_le (by omega) (by omega)), List.append_nil]
        rfl) (by
      simp only
      rw [if_neg (by simp)])
    subst K
    refine ⟨_, rfl, rising_filter _ _, Nat.le_trans (hlen _) (by omega), .inl ⟨h, fun b => ?_⟩⟩
    simp only [List.mem_map, List.mem_filter, List.mem_range]
    constructor
    · rintro ⟨k, ⟨hk, hm⟩, rfl⟩
      exact (h2 k (by omega)).1 hm
    · intro hr
      have hb := hr.lt h
      obtain ⟨k, rfl⟩ := Int.eq_ofNat_of_zero_le hb.1
      exact ⟨k, ⟨by omega, (h2 k (by omega)).2 hr⟩, rfl⟩
  · have : g = false := by cases g with | false => rfl | true => exact absurd (hg.1 rfl) h
    subst this
    rw [if_pos (by decide)]
    exact ⟨[], rfl, .nil, by simp, .inr ⟨h, rfl⟩⟩
theorem specReached_ok (f : GFunc) (hl : f.blocks.length ≤ 140737488355328) : ∃ l, spec_Reached_m f = some l ∧ Rising l ∧ ((GraphOk f ∧ ∀ b, b ∈ l ↔ Rch f (-1) b) ∨ (¬ GraphOk f ∧ l = [])) := by
  unfold spec_Reached_m
  obtain ⟨g, e, hg⟩ := there_ok f 0 hl
  rw [e]
  simp only [obs]
  by_cases h : GraphOk f
  · have n1 := h.1
    rw [if_neg (by rw [hg.2 ⟨h, by omega, by omega⟩]; decide)]
    obtain ⟨out, e2, h1, _, h2⟩ := l3Reach_ok h (-1)
    rw [e2]
    exact ⟨_, rfl, h1, .inl ⟨h, h2⟩⟩
  · have : g = false := by cases g with | false => rfl | true => exact absurd (hg.1 rfl).1 h
    subst this
    rw [if_pos (by decide)]
    exact ⟨[], rfl, .nil, .inr ⟨h, rfl⟩⟩
theorem isBlockOf_ok {f : GFunc} (h : GraphOk f) {b : Int} (hb : 0 ≤ b ∧ b < (f.blocks.length : Int)) : impl_isBlockOf_m f b = some true := by
  unfold impl_isBlockOf_m
  have n2 := h.2.1
  obtain ⟨g, e, hg⟩ := isGraph_ok f (by omega)
  rw [e]
  simp only [obs]
  rw [if_pos (hg.2 h)]
  simp [impl_within_m]
  omega
theorem SuccsOf_ok {f : GFunc} (h : GraphOk f) {b : Int} (hb : 0 ≤ b ∧ b < (f.blocks.length : Int)) : impl_SuccsOf_m f b = some (succs f b) := by
  unfold impl_SuccsOf_m
  rw [isBlockOf_ok h hb]
  simp only [obs]
  rw [if_neg (by decide), if_pos hb]
  rfl
theorem PredsOf_ok {f : GFunc} (h : GraphOk f) {b : Int} (hb : 0 ≤ b ∧ b < (f.blocks.length : Int)) : ∃ l, impl_PredsOf_m f b = some l ∧ l.length ≤ 10 ∧ ∀ a, a ∈ l ↔ (0 ≤ a ∧ a < (f.blocks.length : Int)) ∧ b ∈ succs f a := by
  have hLIM : LIM = 140737488355328 := rfl
  have n2 := h.2.1
  unfold impl_PredsOf_m
  rw [isBlockOf_ok h hb]
  simp only [obs]
  rw [if_neg (by decide)]
  unfold impl_predsOf_m
  generalize hB : loopO _ _ = L
  have hlen : ∀ k, (((List.range k).filter (fun i : Nat => decide (b ∈ succs f (i : Int)))).map Int.ofNat).length ≤ k := fun k => by
    rw [List.length_map]
    exact Nat.le_trans (List.length_filter_le _ _) (by simp)
  have K := loop_cnt hB (fun k => (((List.range k).filter (fun i : Nat => decide (b ∈ succs f (i : Int)))).map Int.ofNat, (k : Int))) f.blocks.length (((List.range f.blocks.length).filter (fun i : Nat => decide (b ∈ succs f (i : Int)))).map Int.ofNat) rfl (by
    intro k hk
    have hlk := hlen k
    have hs : (impl_leadsTo_m (at_ f.blocks (k : Int)).term).length ≤ 2 := leadsTo_len _
    simp only
    rw [if_pos (by simpa using hk), if_pos (by omega), contains_int_ok _ _ (by omega), any_eq_mem']
    simp only [obs]
    have er : ((List.range (k + 1)).filter (fun i : Nat => decide (b ∈ succs f (i : Int)))).map Int.ofNat = ((List.range k).filter (fun i : Nat => decide (b ∈ succs f (i : Int)))).map Int.ofNat ++ (if b ∈ succs f (k : Int) then [(k : Int)] else []) := by
      rw [List.range_succ, List.filter_append, List.map_append]
      congr 1
      by_cases hh : b ∈ succs f (k : Int) <;> simp [hh]
    rw [er]
    by_cases hh : b ∈ succs f (k : Int)
    · rw [if_pos hh, if_pos (decide_eq_true (by exact hh)), if_pos (by simp only [List.length_singleton]; omega), if_pos (inI_le (by omega) (by omega))]
      rfl
    · rw [if_neg hh, if_neg (by rw [decide_eq_true_eq]; exact hh), if_pos (inI_le (by omega) (by omega)), List.append_nil]
      rfl) (by
    simp only
    rw [if_neg (by simp)])
  subst K
  refine ⟨_, rfl, Nat.le_trans (hlen _) n2, fun a => ?_⟩
  simp only [List.mem_map, List.mem_filter, List.mem_range, decide_eq_true_eq]
  constructor
  · rintro ⟨k, ⟨hk, hm⟩, rfl⟩
    exact ⟨⟨by simp, by simpa using hk⟩, hm⟩
  · rintro ⟨ha, hm⟩
    obtain ⟨k, rfl⟩ := Int.eq_ofNat_of_zero_le ha.1
    exact ⟨k, ⟨by omega, hm⟩, rfl⟩
theorem graph_ok {r : Gl1Rd} (h : okRd r) : ∃ f r', spec_l1Rd_graph_m r = some (f, r') ∧ okRd r' ∧ f.blocks.length ≤ 140737488355328 := by
  have hLIM : LIM = 140737488355328 := rfl
  unfold spec_l1Rd_graph_m
  obtain ⟨x, r1, e, h1, hx, hx2⟩ := below_ok h 7
  have hx2 := hx2 (by omega)
  rw [e]
  simp only [obs]
  rw [if_pos (inI_le (by omega) (by omega))]
  generalize hB : loopO _ _ = L
  obtain ⟨⟨b, p, bl⟩, rfl, g1, g2, g3⟩ := loop_wf hB (fun s => okRd ⟨s.1, s.2.1⟩ ∧ 0 ≤ s.2.2.2 ∧ s.2.2.2 ≤ 1 + x ∧ (s.2.2.1.length : Int) = s.2.2.2) (fun s => (1 + x - s.2.2.2).toNat) (fun s => okRd ⟨s.1, s.2.1⟩ ∧ s.2.2.length ≤ 7 ∧ 1 ≤ s.2.2.length) (by
    rintro ⟨b, p, bl, i⟩ ⟨h1, h2, h3, h4⟩
    simp only at h1 h2 h3 h4 ⊢
    by_cases hi : i < 1 + x
    · left
      rw [if_pos (by simpa using hi)]
      obtain ⟨y, r2, e2, h5, hy, hy2⟩ := below_ok h1 4
      rw [e2]
      simp only [obs]
      have ej : ∃ j : Gl1Rd × GTerm, (if ((y == 0) || (y == 1)) = true then
            (Option.bind (spec_l1Rd_below_m r2 (1 + x)) fun x14 => (Option.bind (spec_l1Rd_below_m x14.2 (1 + x)) fun x16 => (some ((x16.2, ({ kind := 3, a := 0, x := x14.1, y := x16.1 } : GTerm))))))
            else (if (y == 2) = true then (Option.bind (spec_l1Rd_below_m r2 (1 + x)) fun x19 => (some ((x19.2, ({ kind := 2, a := 0, x := x19.1, y := 0 } : GTerm)))))
            else (some ((r2, ({ kind := 4, a := 0, x := 0, y := 0 } : GTerm)))))) = some j ∧ okRd j.1 := by
        split
        · obtain ⟨u, r3, e3, h6, _⟩ := below_ok h5 (1 + x)
          obtain ⟨v, r4, e4, h7, _⟩ := below_ok h6 (1 + x)
          rw [e3]
          simp only [obs]
          rw [e4]
          exact ⟨_, rfl, h7⟩
        · split
          · obtain ⟨u, r3, e3, h6, _⟩ := below_ok h5 (1 + x)
            rw [e3]
            exact ⟨_, rfl, h6⟩
          · exact ⟨_, rfl, h5⟩
      obtain ⟨j, ej, hj⟩ := ej
      rw [ej]
      simp only [obs]
      rw [if_pos (by simp only [List.length_singleton]; omega), if_pos (inI_le (by omega) (by omega))]
      exact ⟨_, rfl, ⟨hj, by simp only; omega, by simp only; omega, by simp only [List.length_append, List.length_singleton]; omega⟩, by simp only; omega⟩
    · right
      rw [if_neg (by simpa using hi)]
      exact ⟨_, rfl, h1, by simp only; omega, by simp only; omega⟩) ⟨h1, by simp only; omega, by simp only; omega, by simp⟩
  simp only [obs] at g1 g2 g3 ⊢
  obtain ⟨y, r2, e2, h5⟩ := once_ok g1 30 (inI_le (by omega) (by omega))
  rw [e2]
  simp only [obs]
  split
  · obtain ⟨z, r3, e3, h6⟩ := off_ok h5 0 7 (inI_le (by omega) (by omega)) (inI_le (by omega) (by omega)) (fun _ => ⟨by decide, by decide⟩)
    rw [e3]
    simp only [obs]
    rw [if_pos (by omega)]
    exact ⟨_, _, rfl, h6, by simp only [List.length_set]; omega⟩
  · exact ⟨_, _, rfl, h5, by simp only; omega⟩
theorem law_FnReached (code : List Int) (hl : code.length ≤ 140737488355328) (hb : ∀ x ∈ code, 0 ≤ x ∧ x ≤ 255) : laws_FnReached_m code = some true := by
  unfold laws_FnReached_m
  split
  · rfl
  obtain ⟨f, r', e, _, hfl⟩ := graph_ok (open_ok hl hb)
  have e2 : spec_DrawReached_m code = some f := by
    unfold spec_DrawReached_m
    rw [e]
    rfl
  rw [e2]
  simp only [obs]
  obtain ⟨l, el, hr, hll, hc⟩ := implReached_ok f hfl
  obtain ⟨l2, el2, hr2, hc2⟩ := specReached_ok f hfl
  have hll2 : l2 = l := by
    rcases hc with ⟨h, h1⟩ | ⟨h, h1⟩
    · rcases hc2 with ⟨_, h2⟩ | ⟨h', _⟩
      · exact rising_ext hr2 hr fun x => (h2 x).trans (h1 x).symm
      · exact absurd h h'
    · rcases hc2 with ⟨h', _⟩ | ⟨_, h2⟩
      · exact absurd h' h
      · rw [h1, h2]
  subst hll2
  rw [el]
  simp only [obs]
  rw [el2]
  simp only [obs]
  rw [sameInts_ok l2 (by omega)]
  simp only [obs]
  rw [if_neg (by decide)]
  simp only [obs]
  rcases hc with ⟨h, h1⟩ | ⟨h, rfl⟩
  rotate_left
  · rw [if_pos (by decide)]
  have h0 : (0 : Int) ∈ l2 := (h1 0).2 (.zero (by decide))
  have hpos : 0 < l2.length := List.length_pos_of_mem h0
  rw [if_neg (by simp; intro e; subst e; simp at hpos)]
  generalize hB : loopO _ (0 : Int) = L
  have K := loop_anyN' hB l2.length (fun _ => false) (fun _ => ()) (by
    intro k hk
    have hm : at_ l2 (k : Int) ∈ l2 := at_mem (by omega)
    have hm1 := (h1 _).1 hm
    have hlt := hm1.lt h
    have hs : (succs f (at_ l2 (k : Int))).length ≤ 2 := leadsTo_len _
    rw [if_pos (by simpa using hk), if_pos (by omega), SuccsOf_ok h hlt]
    simp only [obs]
    rw [within_ok _ _ (by omega) (by omega) (fun x hx => (h1 x).2 (.step hm1 hx (by have := h.succ hlt hx; omega)))]
    simp only [obs]
    rw [if_neg (by decide), if_pos (by omega)]
    obtain ⟨p, ep, hpl, hp⟩ := PredsOf_ok h hlt
    rw [ep]
    simp only [obs]
    rw [if_pos (by omega)]
    generalize hB2 : loopO _ _ = L2
    have K2 := loop_cnt hB2 (fun i => ((at_ l2 (k : Int) == 0) || (p.take i).any (fun x => decide (x ∈ l2)), (i : Int))) p.length ((at_ l2 (k : Int) == 0) || p.any (fun x => decide (x ∈ l2))) (by simp) (by
      intro i hi
      simp only
      have e1 : p.take (i + 1) = p.take i ++ [at_ p (i : Int)] := by rw [at_nat hi, List.take_add_one, List.getElem?_eq_getElem hi]; rfl
      rw [if_pos (by simpa using hi), e1, List.any_append]
      have e2 : ((at_ l2 (k : Int) == 0) || ((p.take i).any (fun x => decide (x ∈ l2)) || [at_ p (i : Int)].any (fun x => decide (x ∈ l2)))) = (((at_ l2 (k : Int) == 0) || (p.take i).any (fun x => decide (x ∈ l2))) || decide (at_ p (i : Int) ∈ l2)) := by
        simp only [List.any_cons, List.any_nil, Bool.or_false, Bool.or_assoc]
      rw [e2]
      generalize (at_ l2 (k : Int) == 0 || (p.take i).any (fun x => decide (x ∈ l2))) = a
      have ea : (if a = true then some true else (if 0 ≤ (i : Int) ∧ (i : Int) < (p.length : Int) then (Option.bind (laws_has_m l2 (at_ p (i : Int))) fun x41 => some x41) else none)) = some (a || decide (at_ p (i : Int) ∈ l2)) := by
        cases a
        · rw [if_neg (by decide), if_pos (by omega), has_ok _ _ (by omega)]
          simp
        · rw [if_pos rfl]; rfl
      rw [ea]
      simp only [obs]
      rw [if_pos (inI_le (by omega) (by omega))]
      rfl) (by
      simp only
      rw [if_neg (by simp), List.take_length])
    subst K2
    simp only [obs]
    have ht : ((at_ l2 (k : Int) == 0) || p.any (fun x => decide (x ∈ l2))) = true := by
      simp only [Bool.or_eq_true, beq_iff_eq, List.any_eq_true, decide_eq_true_eq]
      generalize at_ l2 (k : Int) = c at hm hm1 hlt hp
      cases hm1 with
      | zero _ => exact .inl rfl
      | step ha hb hw => exact .inr ⟨_, (hp _).2 ⟨ha.lt h, hb⟩, (h1 _).2 ha⟩
    rw [ht, if_neg (by decide), if_pos (inI_le (by omega) (by omega)), if_neg (by decide)]) (by rw [if_neg (by simp)])
  rcases K with ⟨k, _, h, _⟩ | ⟨_, rfl⟩
  · cases h
  simp only [obs]
  rw [has_ok _ _ (by omega)]
  simp only [obs, decide_eq_true h0, if_true]
  rw [rising_ok _ (by omega) hr]
  rfl
end Go.Proofs.Ytmckcjoacfekcaa.AM
