import Derived.Test.YtmckcjoacfekcaaAm18
/-! The calculus, nineteenth part: a call that is handed values to read. -/
namespace Go.Proofs.Ytmckcjoacfekcaa.AM
open Go

mutual
theorem refOk_free {ob : List (Nat × Ob Value)} : ∀ {l : L Value}, idsL l = [] → refOk ob l
  | .int _ _, _ => by simp [refOk]
  | .bool _, _ => by simp [refOk]
  | .str _, _ => by simp [refOk]
  | .nl, _ => by simp [refOk]
  | .nilp, _ => by simp [refOk]
  | .bs _ _ _, _ => by simp [refOk]
  | .os _ _ _, _ => by simp [refOk]
  | .ip _ _, _ => by simp [refOk]
  | .ref _ _ _ _, h => by simp [idsL] at h
  | .ptr _ _ _ _, h => by simp [idsL] at h
  | .fn _ _ caps, h => by
    simp only [refOk]
    exact refOkC_free (by simpa [idsL] using h)
theorem refOkC_free {ob : List (Nat × Ob Value)} : ∀ {ls : List (L Value)}, idsC ls = [] → refOkC ob ls
  | [], _ => by simp [refOkC]
  | l :: ls, h => by
    simp only [idsC, List.append_eq_nil_iff] at h
    simp only [refOkC]
    exact ⟨refOk_free h.1, refOkC_free h.2⟩
end
def hdV : Value → Value
  | .slice a _ c => .slice a 0 c
  | v => v
theorem rootLs_append {δ : Type} (hd : δ → δ) : ∀ (n : Nat) (a b : List (L δ)), rootLs hd n (a ++ b) = ((rootLs hd n a).1 ++ (rootLs hd (n + (rootLs hd n a).2.length) b).1, (rootLs hd n a).2 ++ (rootLs hd (n + (rootLs hd n a).2.length) b).2)
  | n, [], b => by simp [rootLs]
  | n, l :: a, b => by
    have step : ∀ (h : ∀ v m rows, l ≠ .os v m rows), rootLs hd n (l :: a ++ b) = ((rootLs hd n (l :: a)).1 ++ (rootLs hd (n + (rootLs hd n (l :: a)).2.length) b).1, (rootLs hd n (l :: a)).2 ++ (rootLs hd (n + (rootLs hd n (l :: a)).2.length) b).2) := by
      intro h
      have e : ∀ ls, rootLs hd n (l :: ls) = (l :: (rootLs hd n ls).1, (rootLs hd n ls).2) := fun ls => by cases l <;> first | rfl | exact absurd rfl (h _ _ _)
      rw [List.cons_append, e, e, rootLs_append hd n a b]
      simp
    cases l with
    | os v m rows =>
      rw [List.cons_append]
      simp only [rootLs]
      rw [rootLs_append hd (n + 1) a b]
      simp [Nat.add_assoc, Nat.add_comm 1]
    | _ => exact step (by intro v m rows h; cases h)
theorem rootU_leaves {δ : Type} (hd : δ → δ) (n : Nat) (u : U δ) : leavesU (rootU hd n u).1 = (rootLs hd n (leavesU u)).1 ∧ (rootU hd n u).2 = (rootLs hd n (leavesU u)).2 := by
  cases u with
  | one l => cases l <;> exact ⟨rfl, rfl⟩
  | agg ls => exact ⟨rfl, rfl⟩
theorem rootUs_leaves {δ : Type} (hd : δ → δ) : ∀ (n : Nat) (us : List (U δ)), (rootUs hd n us).1.flatMap leavesU = (rootLs hd n (us.flatMap leavesU)).1 ∧ (rootUs hd n us).2 = (rootLs hd n (us.flatMap leavesU)).2
  | n, [] => ⟨rfl, rfl⟩
  | n, u :: us => by
    obtain ⟨h1, h2⟩ := rootU_leaves hd n u
    obtain ⟨h3, h4⟩ := rootUs_leaves hd (n + (rootU hd n u).2.length) us
    simp only [rootUs, List.flatMap_cons, rootLs_append, h1, h2]
    rw [h2] at h3 h4
    exact ⟨by rw [h3], by rw [h4]⟩
theorem rootV_leaves {δ : Type} (hd : δ → δ) (n : Nat) (v : V δ) : leavesV (rootV hd n v).1 = (rootLs hd n (leavesV v)).1 ∧ (rootV hd n v).2 = (rootLs hd n (leavesV v)).2 := by
  cases v with
  | u x => exact rootU_leaves hd n x
  | tup xs => exact rootUs_leaves hd n xs
  | un => exact ⟨rfl, rfl⟩
  | ud => exact ⟨rfl, rfl⟩
theorem rootLs_er : ∀ (n : Nat) (ls : List (L Value)), rootLs (fun _ => ()) n (ls.map erL) = ((rootLs hdV n ls).1.map erL, (rootLs hdV n ls).2.map (fun p => (p.1, erOb p.2)))
  | n, [] => rfl
  | n, l :: ls => by
    cases l with
    | os v m rows =>
      simp only [List.map_cons, mapL, rootLs, rootLs_er (n + 1) ls, mapR_eq, List.length_map]
      simp [mapOb]
    | _ => simp only [List.map_cons, mapL, rootLs, rootLs_er n ls]
theorem rootU_er (n : Nat) (u : U Value) : rootU (fun _ => ()) n (erU u) = (erU (rootU hdV n u).1, (rootU hdV n u).2.map (fun p => (p.1, erOb p.2))) := by
  cases u with
  | one l =>
    have := rootLs_er n [l]
    cases l <;> simp only [mapU, mapL, rootU, rootLs] <;> simp [mapOb, mapR_eq]
  | agg ls =>
    simp only [mapU, rootU]
    rw [rootLs_er]
theorem rootUs_er : ∀ (n : Nat) (us : List (U Value)), rootUs (fun _ => ()) n (us.map erU) = ((rootUs hdV n us).1.map erU, (rootUs hdV n us).2.map (fun p => (p.1, erOb p.2)))
  | n, [] => rfl
  | n, u :: us => by
    simp only [List.map_cons, rootUs, rootU_er, List.length_map]
    rw [rootUs_er]
    simp
theorem rootV_er (n : Nat) (v : V Value) : rootV (fun _ => ()) n (erV v) = (erV (rootV hdV n v).1, (rootV hdV n v).2.map (fun p => (p.1, erOb p.2))) := by
  cases v with
  | u x => simp only [mapV, rootV, rootU_er]
  | tup xs => simp only [mapV, rootV, rootUs_er]
  | un => rfl
  | ud => rfl
theorem rootLs_val : ∀ (n : Nat) (ls : List (L Value)), (rootLs hdV n ls).1.map val = ls.map val
  | n, [] => rfl
  | n, l :: ls => by
    cases l with
    | os v m rows => simp only [rootLs, List.map_cons, rootLs_val (n + 1) ls]; rfl
    | _ => simp only [rootLs, List.map_cons, rootLs_val n ls]
theorem rootU_UR {n : Nat} {u : U Value} {x : Value} (h : UR u x) : UR (rootU hdV n u).1 x := by
  cases u with
  | one l => cases l <;> exact h
  | agg ls =>
    simp only [UR, rootU] at h ⊢
    rw [rootLs_val]
    exact h
theorem rootUs_get : ∀ (n : Nat) (us : List (U Value)), (rootUs hdV n us).1.length = us.length ∧ ∀ (i : Nat) u', (rootUs hdV n us).1[i]? = some u' → ∃ u k, us[i]? = some u ∧ u' = (rootU hdV k u).1
  | n, [] => ⟨rfl, fun i u' h => by simp [rootUs] at h⟩
  | n, u :: us => by
    obtain ⟨h1, h2⟩ := rootUs_get (n + (rootU hdV n u).2.length) us
    refine ⟨by simp [rootUs, h1], fun i u' h => ?_⟩
    cases i with
    | zero =>
      simp only [rootUs, List.getElem?_cons_zero, Option.some.injEq] at h
      exact ⟨u, n, rfl, h.symm⟩
    | succ i =>
      simp only [rootUs, List.getElem?_cons_succ] at h
      simpa using h2 i u' h
theorem rootV_VR {n : Nat} {v : V Value} {x : Value} (h : VR v x) : VR (rootV hdV n v).1 x := by
  cases v with
  | u y => exact rootU_UR h
  | tup xs =>
    obtain ⟨vs, h1, h2, h3⟩ := h
    obtain ⟨g1, g2⟩ := rootUs_get n xs
    refine ⟨vs, h1, by simp only [g1]; exact h2, fun i u' y hu hy => ?_⟩
    obtain ⟨u, k, hu2, rfl⟩ := g2 i u' hu
    exact rootU_UR (h3 i u y hu2 hy)
  | un => exact h
  | ud => exact h
theorem hdr_hdV (v : Value) (m : Nat) (rows : List (List (L Value))) : hdrOwn (hdV v) m rows = hdrOwn v m rows := by
  cases v with
  | slice a n c => cases a <;> rfl
  | _ => rfl
theorem rootLs_own : ∀ (n : Nat) (ls : List (L Value)), ((rootLs hdV n ls).1.flatMap ownL = []) ∧
    ((rootLs hdV n ls).2.flatMap (fun p => hdrOwn p.2.h p.2.n p.2.rows) ++ (obLeaves (rootLs hdV n ls).2).flatMap ownL).Perm (ls.flatMap ownL)
  | n, [] => ⟨rfl, .nil⟩
  | n, l :: ls => by
    have plain : (∀ v m rows, l ≠ .os v m rows) → ((rootLs hdV n (l :: ls)).1.flatMap ownL = []) ∧
        ((rootLs hdV n (l :: ls)).2.flatMap (fun p => hdrOwn p.2.h p.2.n p.2.rows) ++ (obLeaves (rootLs hdV n (l :: ls)).2).flatMap ownL).Perm ((l :: ls).flatMap ownL) := by
      intro h
      obtain ⟨h1, h2⟩ := rootLs_own n ls
      have hl : ownL l = [] := by cases l <;> first | rfl | exact absurd rfl (h _ _ _)
      have e : rootLs hdV n (l :: ls) = (l :: (rootLs hdV n ls).1, (rootLs hdV n ls).2) := by cases l <;> first | rfl | exact absurd rfl (h _ _ _)
      rw [e]
      simp only [List.flatMap_cons, hl, List.nil_append]
      exact ⟨h1, h2⟩
    cases l with
    | os v m rows =>
      obtain ⟨h1, h2⟩ := rootLs_own (n + 1) ls
      refine ⟨by simp only [rootLs, List.flatMap_cons]; rw [h1]; rfl, ?_⟩
      classical
      refine List.perm_iff_count.2 fun a => ?_
      have h3 := List.perm_iff_count.1 h2 a
      have e1 : obLeaves ((n, (⟨hdV v, m, rows⟩ : Ob Value)) :: (rootLs hdV (n + 1) ls).2) = rows.flatten ++ obLeaves (rootLs hdV (n + 1) ls).2 := by simp [obLeaves]
      simp only [rootLs, List.flatMap_cons, e1, List.flatMap_append, List.count_append, hdr_hdV, ownL, ownR_eq] at h3 ⊢
      omega
    | _ => exact plain (by intro v m rows h; cases h)
theorem rootLs_keys {δ : Type} (hd : δ → δ) : ∀ (n : Nat) (ls : List (L δ)), (rootLs hd n ls).2.map (·.1) = List.range' n (rootLs hd n ls).2.length
  | n, [] => rfl
  | n, l :: ls => by
    cases l with
    | os v m rows => simp only [rootLs, List.map_cons, List.length_cons, List.range'_succ, rootLs_keys hd (n + 1) ls]
    | _ => simp only [rootLs]; exact rootLs_keys hd n ls
theorem rootLs_mem : ∀ (n : Nat) (ls : List (L Value)), (∀ l ∈ (rootLs hdV n ls).1, (l ∈ ls ∧ noOs l = true) ∨ ∃ i v m rows, l = .ref v i 0 rows.length ∧ .os v m rows ∈ ls ∧ (i, (⟨hdV v, m, rows⟩ : Ob Value)) ∈ (rootLs hdV n ls).2) ∧
    ∀ p ∈ (rootLs hdV n ls).2, ∃ v m rows, .os v m rows ∈ ls ∧ p.2 = ⟨hdV v, m, rows⟩
  | n, [] => ⟨by simp [rootLs], by simp [rootLs]⟩
  | n, l :: ls => by
    have plain : (∀ v m rows, l ≠ .os v m rows) → _ := fun h => by
      obtain ⟨h1, h2⟩ := rootLs_mem n ls
      have e : rootLs hdV n (l :: ls) = (l :: (rootLs hdV n ls).1, (rootLs hdV n ls).2) := by cases l <;> first | rfl | exact absurd rfl (h _ _ _)
      have hl : noOs l = true := by cases l <;> first | rfl | exact absurd rfl (h _ _ _)
      show (∀ l' ∈ (rootLs hdV n (l :: ls)).1, (l' ∈ l :: ls ∧ noOs l' = true) ∨ ∃ i v m rows, l' = .ref v i 0 rows.length ∧ .os v m rows ∈ l :: ls ∧ (i, (⟨hdV v, m, rows⟩ : Ob Value)) ∈ (rootLs hdV n (l :: ls)).2) ∧
        ∀ p ∈ (rootLs hdV n (l :: ls)).2, ∃ v m rows, .os v m rows ∈ l :: ls ∧ p.2 = ⟨hdV v, m, rows⟩
      rw [e]
      refine ⟨fun l' hl' => ?_, fun p hp => ?_⟩
      · rcases List.mem_cons.1 hl' with rfl | hl'
        · exact .inl ⟨by simp, hl⟩
        · rcases h1 l' hl' with ⟨g1, g2⟩ | ⟨i, v, m, rows, g1, g2, g3⟩
          · exact .inl ⟨by simp [g1], g2⟩
          · exact .inr ⟨i, v, m, rows, g1, by simp [g2], g3⟩
      · obtain ⟨v, m, rows, g1, g2⟩ := h2 p hp
        exact ⟨v, m, rows, by simp [g1], g2⟩
    cases l with
    | os v m rows =>
      obtain ⟨h1, h2⟩ := rootLs_mem (n + 1) ls
      refine ⟨fun l' hl' => ?_, fun p hp => ?_⟩
      · simp only [rootLs] at hl'
        rcases List.mem_cons.1 hl' with rfl | hl'
        · exact .inr ⟨n, v, m, rows, rfl, by simp, by simp [rootLs]⟩
        · rcases h1 l' hl' with ⟨g1, g2⟩ | ⟨i, v', m', rows', g1, g2, g3⟩
          · exact .inl ⟨by simp [g1], g2⟩
          · exact .inr ⟨i, v', m', rows', g1, by simp [g2], by simp [rootLs, g3]⟩
      · simp only [rootLs] at hp
        rcases List.mem_cons.1 hp with rfl | hp
        · exact ⟨v, m, rows, by simp, rfl⟩
        · obtain ⟨v', m', rows', g1, g2⟩ := h2 p hp
          exact ⟨v', m', rows', by simp [g1], g2⟩
    | _ => exact plain (by intro v m rows h; cases h)
end Go.Proofs.Ytmckcjoacfekcaa.AM
