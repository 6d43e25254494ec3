import Derived.Test.YtmckcjoacfekcaaAm23
/-! The calculus, twenty-fourth part: slots that are no longer looked at; rows out of lists. -/
namespace Go.Proofs.Ytmckcjoacfekcaa.AM
open Go

/-- Slots that are kept, the others may hold anything. -/
def keepSl {δ : Type} : List Bool → List (V δ) → List (V δ)
  | b :: bs, v :: vs => (if b then v else .un) :: keepSl bs vs
  | [], vs => vs.map (fun _ => .un)
  | _, [] => []
theorem keepSl_er : ∀ (bs : List Bool) (vs : List (V Value)), (keepSl bs vs).map erV = keepSl bs (vs.map erV)
  | b :: bs, v :: vs => by
    simp only [keepSl, List.map_cons, keepSl_er bs vs]
    cases b <;> rfl
  | [], vs => by
    cases vs with
    | nil => rfl
    | cons v vs => simp [keepSl, erV, mapV]
  | b :: bs, [] => rfl
theorem keepSl_get {δ : Type} : ∀ (bs : List Bool) (vs : List (V δ)) (i : Nat) (w : V δ), (keepSl bs vs)[i]? = some w → w = .un ∨ vs[i]? = some w
  | b :: bs, v :: vs, 0, w, h => by
    simp only [keepSl, List.getElem?_cons_zero, Option.some.injEq] at h
    cases b
    · exact .inl h.symm
    · exact .inr (by simpa using h)
  | b :: bs, v :: vs, i + 1, w, h => by
    simp only [keepSl, List.getElem?_cons_succ] at h
    simpa using keepSl_get bs vs i w h
  | [], vs, i, w, h => by
    have e : keepSl [] vs = vs.map (fun _ => .un) := by cases vs <;> rfl
    rw [e, List.getElem?_map, Option.map_eq_some_iff] at h
    obtain ⟨_, _, rfl⟩ := h
    exact .inl rfl
  | b :: bs, [], i, w, h => by simp [keepSl] at h
theorem keepSl_len {δ : Type} : ∀ (bs : List Bool) (vs : List (V δ)), (keepSl bs vs).length = vs.length
  | b :: bs, v :: vs => by simp [keepSl, keepSl_len bs vs]
  | [], vs => by cases vs <;> simp [keepSl]
  | b :: bs, [] => rfl
theorem keepSl_sub : ∀ (bs : List Bool) (vs : List (V Value)), ((keepSl bs vs).flatMap (fun x => (leavesV x).flatMap ownL)).Sublist (vs.flatMap (fun x => (leavesV x).flatMap ownL))
  | b :: bs, v :: vs => by
    simp only [keepSl, List.flatMap_cons]
    refine List.Sublist.append ?_ (keepSl_sub bs vs)
    cases b
    · exact List.nil_sublist _
    · exact List.Sublist.refl _
  | [], vs => by
    have e : keepSl [] vs = vs.map (fun _ => .un) := by cases vs <;> rfl
    have : (keepSl [] vs).flatMap (fun x => (leavesV x).flatMap ownL) = [] := by
      rw [e, List.flatMap_eq_nil_iff]
      intro x hx
      obtain ⟨_, _, rfl⟩ := List.mem_map.1 hx
      rfl
    rw [this]
    exact List.nil_sublist _
  | b :: bs, [] => List.Sublist.refl _
theorem Gh.keep (s : S Unit) (bs : List Bool) : Gh s ⟨keepSl bs s.sl, s.ob, s.nx⟩ := by
  rintro B a W ⟨d, rfl, hi, hs, hdef, hk, hn⟩
  let d' : S Value := ⟨keepSl bs d.sl, d.ob, d.nx⟩
  have htop : ∀ l ∈ tops d', l ∈ tops d := fun l hl => by
    rcases mem_tops.1 hl with ⟨w, hw, hl2⟩ | hl
    · obtain ⟨i, hi⟩ := List.mem_iff_getElem?.1 hw
      rcases keepSl_get bs d.sl i w hi with rfl | h
      · simp [leavesV] at hl2
      · exact mem_tops.2 (.inl ⟨w, List.mem_of_getElem? h, hl2⟩)
    · exact mem_tops.2 (.inr hl)
  have hsubo : (ownS d').Sublist (ownS d) := by
    simp only [ownS, tops, List.flatMap_append, List.flatMap_assoc, d']
    exact (List.Sublist.refl _).append ((keepSl_sub bs d.sl).append (List.Sublist.refl _))
  refine ⟨d', by simp only [erS, mapS, d', keepSl_er], ?_, ⟨by simpa [d', keepSl_len] using hs.1, fun i w hw => ?_⟩, hdef, fun i hi2 => hk i ?_, hn⟩
  · exact hi.step (Nat.le_refl _) (Same.refl _) (fun _ _ _ => rfl) (fun l hl => hi.good.wf l (htop l hl)) hi.good.obs hi.good.ids
      (fun p hp => ⟨hi.good.own p (hsubo.subset hp), .inl ⟨p, hsubo.subset hp, rfl⟩⟩) (hi.good.nodup.sublist (hsubo.map _)) (fun p hp => by
        obtain ⟨l, hl, hp⟩ := List.mem_flatMap.1 hp
        exact .of_mem (List.mem_flatMap.2 ⟨l, htop l hl, hp⟩)) hi.hdr
  · rcases keepSl_get bs d.sl i w hw with rfl | h
    · trivial
    · exact hs.2 i w h
  · rcases hi2 with ⟨l, hl, h⟩ | h
    · exact .inl ⟨l, htop l hl, h⟩
    · exact .inr h
/-- Rows out of a list. -/
def rowsOf {α : Type} (enc : α → List (L Unit)) (xs : List α) : List (List (L Unit)) := xs.map enc
end Go.Proofs.Ytmckcjoacfekcaa.AM
