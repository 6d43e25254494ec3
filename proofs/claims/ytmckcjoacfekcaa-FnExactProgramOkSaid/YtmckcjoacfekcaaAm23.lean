import Derived.Test.YtmckcjoacfekcaaAm22
/-! The calculus, twenty-third part: an own object goes inline into the value that names it. -/
namespace Go.Proofs.Ytmckcjoacfekcaa.AM
open Go

def nestL {δ : Type} : L δ → Bool
  | .os _ _ _ => true
  | l => plainL l
theorem nest_er (l : L Value) : nestL (erL l) = nestL l := by cases l <;> rfl
theorem nest_wf {l : L Value} (h : nestL l = true) (hw : wfL false l) : wfL true l := by
  cases l <;> simp_all [nestL, plainL, wfL]
def setLf {δ : Type} (u : U δ) (j : Nat) (l : L δ) : U δ := match u with
  | .one l0 => if j = 0 then .one l else .one l0
  | .agg ls => .agg (ls.set j l)
theorem setLf_leaves {δ : Type} {u : U δ} {j : Nat} {l : L δ} (h : j < (leavesU u).length) : leavesU (setLf u j l) = (leavesU u).set j l := by
  cases u with
  | one l0 =>
    simp only [leavesU, List.length_singleton] at h
    have : j = 0 := by omega
    subst this
    rfl
  | agg ls => rfl
theorem setLf_er (u : U Value) (j : Nat) (l : L Value) : erU (setLf u j l) = setLf (erU u) j (erL l) := by
  cases u with
  | one l0 => by_cases h : j = 0 <;> simp [setLf, mapU, h]
  | agg ls => simp [setLf, mapU, List.map_set]
theorem setLf_UR {u : U Value} {j : Nat} {l l0 : L Value} {x : Value} (h : UR u x) (hj : (leavesU u)[j]? = some l0) (hv : val l = val l0) : UR (setLf u j l) x := by
  cases u with
  | one l1 =>
    simp only [leavesU] at hj
    have : j = 0 := by
      rcases j with _ | j
      · rfl
      · simp at hj
    subst this
    simp at hj
    subst hj
    simp only [setLf, UR, if_true] at h ⊢
    rw [hv]; exact h
  | agg ls =>
    simp only [setLf, UR] at h ⊢
    rw [h]
    congr 2
    apply List.ext_getElem?
    intro i
    simp only [List.getElem?_map, List.getElem?_set]
    by_cases hi : j = i
    · subst hi
      simp only [leavesU] at hj
      have hlt := (List.getElem?_eq_some_iff.1 hj).1
      simp only [if_true, hlt, hj, Option.map_some, hv]
    · simp [hi]
theorem perm_set {α β : Type} {f : α → List β} {e : List β} {x x0 : α} : ∀ {ls : List α} {j : Nat}, ls[j]? = some x0 → (f x).Perm (e ++ f x0) → ((ls.set j x).flatMap f).Perm (e ++ ls.flatMap f)
  | [], j, h, _ => by simp at h
  | y :: ls, 0, h, hp => by
    simp only [List.getElem?_cons_zero, Option.some.injEq] at h
    subst h
    simp only [List.set_cons_zero, List.flatMap_cons, ← List.append_assoc]
    exact hp.append_right _
  | y :: ls, j + 1, h, hp => by
    simp only [List.getElem?_cons_succ] at h
    simp only [List.set_cons_succ, List.flatMap_cons]
    refine ((perm_set h hp).append_left (f y)).trans ?_
    rw [← List.append_assoc, ← List.append_assoc]
    exact List.perm_append_comm.append_right _
theorem filter_ne {δ : Type} {l1 l2 : List (Nat × Ob δ)} {id : Nat} {o : Ob δ} (h1 : ∀ p ∈ l1, p.1 ≠ id) (h2 : ∀ p ∈ l2, p.1 ≠ id) : (l1 ++ (id, o) :: l2).filter (fun p => !(p.1 == id)) = l1 ++ l2 := by
  rw [List.filter_append, List.filter_cons_of_neg (by simp), List.filter_eq_self.2 (fun p hp => by simpa using h1 p hp), List.filter_eq_self.2 (fun p hp => by simpa using h2 p hp)]
theorem Gh.fold {s : S Unit} {t j id len : Nat} {u : U Unit} (ht : s.sl[t]? = some (.u u)) (hj : (leavesU u)[j]? = some (.ref () id 0 len)) {o : Ob Unit} (ho : look s.ob id = some o) (hl : len = o.rows.length)
    (hn : o.rows.all (fun r => r.all nestL) = true) : Gh s ⟨s.sl.set t (.u (setLf u j (.os () o.n o.rows))), s.ob.filter (fun p => !(p.1 == id)), s.nx⟩ := by
  rintro B a W ⟨d, rfl, hi, hs, hdef, hk, hn0⟩
  obtain ⟨v1, hv1, hv2⟩ := erS_slot ht
  obtain ⟨u', rfl, rfl⟩ : ∃ u', v1 = .u u' ∧ erU u' = u := by
    cases v1 with
    | u x => exact ⟨x, rfl, by injection hv2⟩
    | tup xs => cases hv2
    | un => cases hv2
    | ud => cases hv2
  rw [leavesU_map, List.getElem?_map, Option.map_eq_some_iff] at hj
  obtain ⟨l', hj', hl'⟩ := hj
  obtain ⟨v', rfl⟩ := er_ref hl'
  obtain ⟨o', ho', rfl⟩ := look_lift ho
  have hlt : t < d.sl.length := (List.getElem?_eq_some_iff.1 hv1).1
  have hjlt : j < (leavesU u').length := (List.getElem?_eq_some_iff.1 hj').1
  have hmem : L.ref v' id 0 len ∈ tops d := mem_tops.2 (.inl ⟨.u u', List.mem_of_getElem? hv1, List.mem_of_getElem? hj'⟩)
  have hlen' : len = o'.rows.length := by simpa [erOb, mapOb] using hl
  subst hlen'
  obtain ⟨_, hform⟩ := (hi.good.wf _ hmem).2 o' ho'
  have hobs : _ ∧ ∀ r ∈ o'.rows, r.length = o'.n := hi.good.obs _ (find?_key ho')
  have hnest : ∀ r ∈ o'.rows, ∀ l ∈ r, nestL l = true := by
    simp only [erOb, mapOb, List.all_map, List.all_eq_true, Function.comp_def, nest_er] at hn
    exact hn
  have hos : isOwn v' o'.rows ∧ hdrOwn v' o'.n o'.rows = hdrOwn o'.h o'.n o'.rows := by
    rcases hform with ⟨h0, hv⟩ | ⟨b, x, c0, h0, hv⟩
    · have hr0 : o'.rows = [] := by
        rcases hobs.1 with ⟨_, h1⟩ | ⟨_, _, _, h1, _⟩
        · exact h1
        · simp only at h1; rw [h0] at h1; cases h1
      exact ⟨.inl ⟨hv, hr0⟩, by rw [hv, h0]⟩
    · rcases hv with hv | ⟨y, _, _, h9, _⟩
      · rcases hobs.1 with ⟨h7, _⟩ | ⟨b2, x2, c2, h7, h8, h9⟩
        · simp only at h7; rw [h0] at h7; cases h7
        · simp only at h7 h8 h9
          rw [h0] at h7
          cases h7
          simp only [Nat.zero_mul, Nat.add_zero, Nat.sub_zero] at hv
          exact ⟨.inr ⟨b, x, c0, hv, h8, h9⟩, by rw [hv, h0]; rfl⟩
      · omega
  have hwfo : wfL false (.os v' o'.n o'.rows) := ⟨hos.1, hobs.2, (wfR_iff _ _).2 fun r hr l hlr => nest_wf (hnest r hr l hlr) (has_ob hi.good ho' hr hlr).1⟩
  let nv : V Value := .u (setLf u' j (.os v' o'.n o'.rows))
  let d' : S Value := ⟨d.sl.set t nv, d.ob.filter (fun p => !(p.1 == id)), d.nx⟩
  have hlv : leavesV nv = (leavesU u').set j (.os v' o'.n o'.rows) := setLf_leaves hjlt
  have hsub : (d.ob.filter (fun p => !(p.1 == id))).Sublist d.ob := List.filter_sublist
  have htop : ∀ l ∈ tops d', l ∈ tops d ∨ l = .os v' o'.n o'.rows := fun l hl => by
    rcases mem_tops.1 hl with ⟨w, hw, hl2⟩ | hl2
    · rcases List.mem_or_eq_of_mem_set hw with hw | rfl
      · exact .inl (mem_tops.2 (.inl ⟨w, hw, hl2⟩))
      · rw [hlv] at hl2
        rcases List.mem_or_eq_of_mem_set hl2 with hl2 | rfl
        · exact .inl (mem_tops.2 (.inl ⟨.u u', List.mem_of_getElem? hv1, hl2⟩))
        · exact .inr rfl
    · obtain ⟨p, hp, r, hr, hlr⟩ := mem_obLeaves.1 hl2
      exact .inl (mem_tops.2 (.inr (mem_obLeaves.2 ⟨p, hsub.subset hp, r, hr, hlr⟩)))
  have hperm : (ownS d').Perm (ownS d) := by
    classical
    obtain ⟨l1, l2, hob, h1, h2⟩ := look_split ho' hi.good.ids
    have hf : d'.ob = l1 ++ l2 := by
      show d.ob.filter _ = _
      rw [hob]
      exact filter_ne h1 h2
    have hleaf : ((leavesV nv).flatMap ownL).Perm (ownL (.os v' o'.n o'.rows) ++ (leavesV (.u u')).flatMap ownL) := by
      rw [hlv]
      exact perm_set hj' (by simp [ownL])
    have hsl := perm_set (f := fun v => (leavesV v).flatMap ownL) hv1 hleaf
    refine List.perm_iff_count.2 fun q => ?_
    have h3 := List.perm_iff_count.1 hsl q
    have e1 : obLeaves ((id, o') :: l2) = o'.rows.flatten ++ obLeaves l2 := by simp [obLeaves]
    have e2 : d'.sl = d.sl.set t nv := rfl
    simp only [ownS, tops, hf, hob, e1, e2, obLeaves_append, List.flatMap_append, List.flatMap_assoc, List.flatMap_cons, List.count_append, ownL, hos.2, ownR_eq] at h3 ⊢
    omega
  refine ⟨d', ?_, ?_, ⟨by simpa [d'] using hs.1, fun i w hw => ?_⟩, hdef, fun i hi2 => hk i ?_, hn0⟩
  · simp only [erS, mapS, d', List.map_set, List.filter_map, Function.comp_def]
    congr 1
    congr 1
    show erV nv = _
    have := setLf_er u' j (.os v' o'.n o'.rows)
    show V.u (erU (setLf u' j (.os v' o'.n o'.rows))) = _
    rw [this]
    simp [mapL, mapR_eq, erOb, mapOb]
  · refine hi.step (Nat.le_refl _) (Same.refl _) (fun _ _ _ => rfl) (fun l hl => ?_) (fun p hp => hi.good.obs p (hsub.subset hp)) (hi.good.ids.sublist (hsub.map _))
      (fun p hp => ⟨hi.good.own p (hperm.mem_iff.1 hp), .inl ⟨p, hperm.mem_iff.1 hp, rfl⟩⟩) ((hperm.map (·.1)).nodup_iff.2 hi.good.nodup) (fun p hp => ?_) (fun p hp => hi.hdr p (hsub.subset hp))
    · rcases htop l hl with h | rfl
      · exact ⟨(hi.good.wf l h).1, refOk_mono (fun i _ => look_filter (f := fun i => !(i == id))) (hi.good.wf l h).2⟩
      · exact ⟨hwfo, by simp [refOk]⟩
    · obtain ⟨l, hl, hp⟩ := List.mem_flatMap.1 hp
      rcases htop l hl with h | rfl
      · exact .of_mem (List.mem_flatMap.2 ⟨l, h, hp⟩)
      · simp only [immL, immR_eq] at hp
        obtain ⟨l2, hl2, hp⟩ := List.mem_flatMap.1 hp
        obtain ⟨r, hr, hl2⟩ := List.mem_flatten.1 hl2
        exact (has_ob hi.good ho' hr hl2).2.2.1 p hp
  · simp only [d', List.getElem?_set] at hw
    by_cases hti : t = i
    · subst hti
      rw [if_pos rfl, if_pos hlt] at hw
      cases hw
      exact setLf_UR (hs.2 t _ hv1) hj' rfl
    · rw [if_neg hti] at hw
      exact hs.2 i w hw
  · rcases hi2 with ⟨l, hl, h⟩ | h
    · rcases htop l hl with h2 | rfl
      · exact .inl ⟨l, h2, h⟩
      · simp [idsL] at h
    · exact .inr ((hsub.map _).subset h)
end Go.Proofs.Ytmckcjoacfekcaa.AM
