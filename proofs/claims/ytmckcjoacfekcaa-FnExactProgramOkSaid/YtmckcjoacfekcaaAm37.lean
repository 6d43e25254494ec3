import Derived.Test.YtmckcjoacfekcaaAm33
/-! The calculus, thirty-seventh part: what loops over rows come to, in plain Lean. -/
namespace Go.Proofs.Ytmckcjoacfekcaa.AM
open Go

theorem loop_anyN {α : Type} {body : Int → Option (Int ⊕ (α ⊕ Unit))} (n : Nat) (c : Nat → Bool) (a : Nat → α) (h1 : ∀ k : Nat, k < n → body (k : Int) = some (if c k = true then .inr (.inl (a k)) else .inl ((k : Int) + 1)))
    (h2 : body (n : Int) = some (.inr (.inr ()))) :
    (∃ k, k < n ∧ c k = true ∧ (∀ j, j < k → c j = false) ∧ loopO body 0 = some (.inl (a k))) ∨ ((∀ k, k < n → c k = false) ∧ loopO body 0 = some (.inr ())) := by
  have key : ∀ m k : Nat, k + m = n → (∃ i, k ≤ i ∧ i < n ∧ c i = true ∧ (∀ j, k ≤ j → j < i → c j = false) ∧ loopO body (k : Int) = some (.inl (a i))) ∨ ((∀ i, k ≤ i → i < n → c i = false) ∧ loopO body (k : Int) = some (.inr ())) := by
    intro m
    induction m with
    | zero =>
      intro k hk
      obtain rfl : k = n := by omega
      exact .inr ⟨fun i h1 h2 => by omega, by rw [loopO_step, h2]; rfl⟩
    | succ m ih =>
      intro k hk
      by_cases hc : c k = true
      · exact .inl ⟨k, Nat.le_refl _, by omega, hc, fun j h1 h2 => by omega, by rw [loopO_step, h1 k (by omega), if_pos hc]; rfl⟩
      · have hc' : c k = false := by simpa using hc
        have e : loopO body (k : Int) = loopO body ((k + 1 : Nat) : Int) := by
          rw [loopO_step, h1 k (by omega), if_neg hc]
          simp
        rcases ih (k + 1) (by omega) with ⟨i, p1, p2, p3, p4, p5⟩ | ⟨p1, p2⟩
        · refine .inl ⟨i, by omega, p2, p3, fun j hj hji => ?_, by rw [e]; exact p5⟩
          rcases Nat.lt_or_ge k j with h | h
          · exact p4 j (by omega) hji
          · obtain rfl : j = k := by omega
            exact hc'
        · refine .inr ⟨fun i hi hin => ?_, by rw [e]; exact p2⟩
          rcases Nat.lt_or_ge k i with h | h
          · exact p1 i (by omega) hin
          · obtain rfl : i = k := by omega
            exact hc'
  rcases key n 0 (by omega) with ⟨k, _, p2, p3, p4, p5⟩ | ⟨p1, p2⟩
  · exact .inl ⟨k, p2, p3, fun j hj => p4 j (Nat.zero_le _) hj, p5⟩
  · exact .inr ⟨fun i hi => p1 i (Nat.zero_le _) hi, p2⟩
/-- Where only it matters that one is found. -/
theorem loop_any {α β : Type} [Inhabited β] {body : Int → Option (Int ⊕ (α ⊕ Unit))} (xs : List β) (c : β → Bool) (a : Nat → α) (h1 : ∀ k : Nat, k < xs.length → body (k : Int) = some (if c (at_ xs k) = true then .inr (.inl (a k)) else .inl ((k : Int) + 1)))
    (h2 : body (xs.length : Int) = some (.inr (.inr ()))) :
    (xs.any c = true ∧ ∃ k, k < xs.length ∧ loopO body 0 = some (.inl (a k))) ∨ (xs.any c = false ∧ loopO body 0 = some (.inr ())) := by
  have hat : ∀ k (h : k < xs.length), at_ xs (k : Int) = xs[k] := fun k h => by simp [at_, List.getD_eq_getElem?_getD, List.getElem?_eq_getElem h]
  rcases loop_anyN xs.length (fun k => c (at_ xs (k : Int))) a h1 h2 with ⟨k, p1, p2, _, p4⟩ | ⟨p1, p2⟩
  · exact .inl ⟨List.any_eq_true.2 ⟨xs[k], List.getElem_mem p1, by rw [← hat k p1]; exact p2⟩, k, p1, p4⟩
  · refine .inr ⟨?_, p2⟩
    rw [List.any_eq_false]
    intro x hx
    obtain ⟨k, hk, rfl⟩ := List.getElem_of_mem hx
    have := p1 k hk
    rw [hat k hk] at this
    simp [this]
/-- A row that is filled from the first on. -/
theorem loop_fill {β : Type} {body : List β × Int → Option ((List β × Int) ⊕ List β)} (n : Nat) (f : Nat → β) (z : β) (h1 : ∀ (l : List β) (k : Nat), k < n → l.length = n → body (l, (k : Int)) = some (.inl (l.set k (f k), (k : Int) + 1)))
    (h2 : ∀ l : List β, l.length = n → body (l, (n : Int)) = some (.inr l)) : loopO body (List.replicate n z, 0) = some ((List.range n).map f) := by
  have key : ∀ m k : Nat, k + m = n → loopO body ((List.range k).map f ++ List.replicate m z, (k : Int)) = some ((List.range n).map f) := by
    intro m
    induction m with
    | zero =>
      intro k hk
      obtain rfl : k = n := by omega
      rw [loopO_step]
      simp only [List.replicate_zero, List.append_nil]
      rw [h2 _ (by simp)]
      rfl
    | succ m ih =>
      intro k hk
      rw [loopO_step, h1 _ k (by omega) (by simp; omega)]
      simp only [Option.bind_some]
      have e : ((List.range k).map f ++ List.replicate (m + 1) z).set k (f k) = (List.range (k + 1)).map f ++ List.replicate m z := by
        rw [List.set_append_right _ _ (by simp)]
        simp [List.replicate_succ, List.range_succ]
      have e2 : ((k : Int) + 1) = ((k + 1 : Nat) : Int) := by simp
      rw [e, e2]
      exact ih (k + 1) (by omega)
  simpa using key n 0 (by omega)
theorem map_at_range {β : Type} [Inhabited β] (xs : List β) : (List.range xs.length).map (fun k : Nat => at_ xs (k : Int)) = xs := by
  apply List.ext_getElem
  · simp
  · intro i h1 h2
    simp [at_, List.getD_eq_getElem?_getD, List.getElem?_eq_getElem h2]
theorem at_nat {β : Type} [Inhabited β] {xs : List β} {k : Nat} (h : k < xs.length) : at_ xs (k : Int) = xs[k] := by simp [at_, List.getD_eq_getElem?_getD, List.getElem?_eq_getElem h]
theorem loop_anyN' {α : Type} {body : Int → Option (Int ⊕ (α ⊕ Unit))} {L : Option (α ⊕ Unit)} (hB : loopO body 0 = L) (n : Nat) (c : Nat → Bool) (a : Nat → α)
    (h1 : ∀ k : Nat, k < n → body (k : Int) = some (if c k = true then .inr (.inl (a k)) else .inl ((k : Int) + 1))) (h2 : body (n : Int) = some (.inr (.inr ()))) :
    (∃ k, k < n ∧ c k = true ∧ (∀ j, j < k → c j = false) ∧ L = some (.inl (a k))) ∨ ((∀ k, k < n → c k = false) ∧ L = some (.inr ())) := by
  subst hB
  exact loop_anyN n c a h1 h2
theorem loop_any' {α β : Type} [Inhabited β] {body : Int → Option (Int ⊕ (α ⊕ Unit))} {L : Option (α ⊕ Unit)} (hB : loopO body 0 = L) (xs : List β) (c : β → Bool) (a : Nat → α)
    (h1 : ∀ k : Nat, k < xs.length → body (k : Int) = some (if c (at_ xs k) = true then .inr (.inl (a k)) else .inl ((k : Int) + 1))) (h2 : body (xs.length : Int) = some (.inr (.inr ()))) :
    (xs.any c = true ∧ ∃ k, k < xs.length ∧ L = some (.inl (a k))) ∨ (xs.any c = false ∧ L = some (.inr ())) := by
  subst hB
  exact loop_any xs c a h1 h2
end Go.Proofs.Ytmckcjoacfekcaa.AM
