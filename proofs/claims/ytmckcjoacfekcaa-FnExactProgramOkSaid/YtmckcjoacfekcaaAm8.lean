import Derived.Test.YtmckcjoacfekcaaAm7
/-! The calculus, eighth part: the state's steps that turn memory. -/
namespace Go.Proofs.Ytmckcjoacfekcaa.AM
open Go

theorem SubIn.trans {p : Addr × List Value} {l l' : List (Addr × List Value)} (h : SubIn p l) (h' : ∀ q ∈ l, SubIn q l') : SubIn p l' := by
  rcases h with h | ⟨q, hq, hs⟩
  · exact .inl h
  · rcases h' q hq with h0 | ⟨r, hr, hs'⟩
    · left
      rcases hp : p.2 with _ | ⟨v, vs⟩
      · rfl
      · exact absurd h0 (hs.ne (by simp [hp]))
    · exact .inr ⟨r, hr, hs.trans hs'⟩
/-- A step of the world and the state, whole. -/
theorem Inv.step {B : Bd} {W W' : World} {d d' : S Value} (h : Inv B W d) (hsz : W.heap.size ≤ W'.heap.size) (hst : Same W W')
    (hfr : ∀ b, b < W.heap.size → (∀ p ∈ ownS d, p.1 ≠ b) → W'.heap[b]? = W.heap[b]?)
    (hwf : ∀ l ∈ tops d', wfL false l ∧ refOk d'.ob l)
    (hobs : ∀ p ∈ d'.ob, ((p.2.h = .slice none 0 0 ∧ p.2.rows = []) ∨ ∃ b x c, p.2.h = .slice (some ⟨b, x, none⟩) 0 c ∧ p.2.rows.length ≤ c ∧ p.2.rows.length ≤ LIM) ∧ ∀ r ∈ p.2.rows, r.length = p.2.n)
    (hids : (d'.ob.map (·.1)).Nodup)
    (hown : ∀ p ∈ ownS d', OwnFact W' p ∧ ((∃ q ∈ ownS d, q.1 = p.1) ∨ W.heap.size ≤ p.1))
    (hnd : ((ownS d').map (·.1)).Nodup) (himm : ∀ p ∈ immS d', SubIn p (immS d)) (hhdr : ∀ p ∈ d'.ob, p.1 < B.n0 → p.2.h = B.H0 p.1) : Inv B W' d' where
  good := {
    wf := hwf
    obs := hobs
    ids := hids
    own := fun p hp => (hown p hp).1
    nodup := hnd
    imm := fun p hp hne => by
      rcases himm p hp with h0 | ⟨q, hq, hs⟩
      · exact absurd h0 hne
      · obtain ⟨h1, h2⟩ := h.good.imm q hq (hs.ne hne)
        have hlt := h1.lt (hs.ne hne)
        refine ⟨hs.fact (h1.same (hfr _ hlt h2)), fun r hr => ?_⟩
        rw [hs.1]
        rcases (hown r hr).2 with ⟨q2, hq2, he⟩ | hge
        · rw [← he]; exact h2 q2 hq2
        · omega }
  fr := ⟨Nat.le_trans h.fr.1 hsz, fun b hb hm => by
    refine (hfr b (Nat.lt_of_lt_of_le hb h.fr.1) fun p hp he => ?_).trans (h.fr.2 b hb hm)
    rcases h.mine p hp with h1 | h1
    · exact hm (he ▸ h1)
    · omega, h.fr.3.trans hst⟩
  mine := fun p hp => by
    rcases (hown p hp).2 with ⟨q, hq, he⟩ | hge
    · rw [← he]; exact h.mine q hq
    · exact .inr (Nat.le_trans h.fr.1 hge)
  seen := fun p hp hne => by
    rcases himm p hp with h0 | ⟨q, hq, hs⟩
    · exact absurd h0 hne
    · rw [hs.1]; exact h.seen q hq (hs.ne hne)
  hdr := hhdr

mutual
theorem refOk_mono {ob ob' : List (Nat × Ob Value)} : ∀ {l : L Value}, (∀ i ∈ idsL l, look ob' i = look ob i ∨ look ob' i = none) → refOk ob l → refOk ob' l
  | .int _ _, _, _ => by simp [refOk]
  | .bool _, _, _ => by simp [refOk]
  | .str _, _, _ => by simp [refOk]
  | .nl, _, _ => by simp [refOk]
  | .nilp, _, _ => by simp [refOk]
  | .bs _ _ _, _, _ => by simp [refOk]
  | .os _ _ _, _, _ => by simp [refOk]
  | .ip _ _, _, _ => by simp [refOk]
  | .ref v id off len, hl, h => fun o ho => by
    rcases hl id (by simp [idsL]) with h1 | h1
    · exact h o (h1 ▸ ho)
    · rw [h1] at ho; cases ho
  | .ptr v id e j, hl, h => fun o ho => by
    rcases hl id (by simp [idsL]) with h1 | h1
    · exact h o (h1 ▸ ho)
    · rw [h1] at ho; cases ho
  | .fn _ _ caps, hl, h => by
    simp only [refOk] at h ⊢
    exact refOkC_mono (fun i hi => hl i (by simpa [idsL] using hi)) h
theorem refOkC_mono {ob ob' : List (Nat × Ob Value)} : ∀ {ls : List (L Value)}, (∀ i ∈ idsC ls, look ob' i = look ob i ∨ look ob' i = none) → refOkC ob ls → refOkC ob' ls
  | [], _, _ => by simp [refOkC]
  | l :: ls, hl, h => by
    simp only [refOkC] at h ⊢
    exact ⟨refOk_mono (fun i hi => hl i (by simp [idsC, hi])) h.1, refOkC_mono (fun i hi => hl i (by simp [idsC, hi])) h.2⟩
end
theorem look_append {δ : Type} {ob : List (Nat × Ob δ)} {k : Nat} {o : Ob δ} {i : Nat} (h : i ≠ k) : look (ob ++ [(k, o)]) i = look ob i := by
  unfold look
  rw [List.find?_append]
  have : [(k, o)].find? (fun p => p.1 == i) = none := by simp [Ne.symm h]
  rw [this, Option.or_none]
theorem look_append_self {δ : Type} {ob : List (Nat × Ob δ)} {k : Nat} {o : Ob δ} (h : k ∉ ob.map (·.1)) : look (ob ++ [(k, o)]) k = some o := by
  unfold look
  rw [List.find?_append]
  have : ob.find? (fun p => p.1 == k) = none := by
    rw [List.find?_eq_none]
    intro p hp
    simp only [beq_iff_eq]
    rintro rfl
    exact h (List.mem_map.2 ⟨p, hp, rfl⟩)
  rw [this]
  simp
theorem look_filter {δ : Type} {ob : List (Nat × Ob δ)} {f : Nat → Bool} {i : Nat} : look (ob.filter (fun p => f p.1)) i = look ob i ∨ look (ob.filter (fun p => f p.1)) i = none := by
  unfold look
  rw [List.find?_filter]
  by_cases hf : f i = true
  · left
    congr 2
    funext p
    by_cases hp : p.1 = i
    · simp [hp, hf]
    · simp [hp]
  · right
    simp only [Option.map_eq_none_iff, List.find?_eq_none]
    intro p _
    simp only [decide_eq_true_eq, not_and, beq_iff_eq, Bool.and_eq_true]
    rintro h1 rfl
    exact hf h1

theorem obLeaves_append {δ : Type} (ob ob' : List (Nat × Ob δ)) : obLeaves (ob ++ ob') = obLeaves ob ++ obLeaves ob' := by simp [obLeaves]
theorem ownS_append (sl : List (V Value)) (ob : List (Nat × Ob Value)) (k : Nat) (o : Ob Value) (nx nx' : Nat) :
    (ownS ⟨sl, ob ++ [(k, o)], nx⟩).Perm (hdrOwn o.h o.n o.rows ++ ownR o.rows ++ ownS ⟨sl, ob, nx'⟩) := by
  classical
  refine List.perm_iff_count.2 fun a => ?_
  have e1 : obLeaves [(k, o)] = o.rows.flatten := by simp [obLeaves]
  simp only [ownS, tops, obLeaves_append, e1, List.flatMap_append, List.count_append, List.flatMap_cons, List.flatMap_nil, List.append_nil, ownR_eq]
  omega
theorem ownR_noOs {rows : List (List (L Value))} (h : ∀ r ∈ rows, ∀ l ∈ r, noOs l = true) : ownR rows = [] := by
  rw [ownR_eq, List.flatMap_eq_nil_iff]
  intro l hl
  obtain ⟨r, hr, hl⟩ := List.mem_flatten.1 hl
  exact ownL_noOs (h r hr l hl)
theorem setRow_heap' {W : World} {g : Nat} {cs : Array Value} : ∀ b, b ≠ g → (W.setRow g cs).heap[b]? = W.heap[b]? := fun b hb => by
  simp only [World.setRow]
  rw [Array.getElem?_modify]
  simp [Ne.symm hb]

theorem sub_flatMap {α β : Type} {l l' : List α} (h : l.Sublist l') (f : α → List β) : (l.flatMap f).Sublist (l'.flatMap f) := by
  induction h with
  | slnil => exact List.Sublist.refl _
  | cons a _ ih => rw [List.flatMap_cons]; exact ih.trans (List.sublist_append_right _ _)
  | cons_cons a _ ih => rw [List.flatMap_cons, List.flatMap_cons]; exact (List.Sublist.refl _).append ih
/-- A new object, some old ones gone. 'f': who stays. -/
theorem Inv.new {B : Bd} {W W' : World} {d : S Value} (h : Inv B W d) (f : Nat → Bool) {nid : Nat} (hf : ∀ i, Knows d i → i ≠ nid) (hn0 : B.n0 ≤ nid) {hd : Value} {n : Nat} {rows : List (List (L Value))}
    (hrow : ∀ r ∈ rows, r.length = n) (hh : ∀ r ∈ rows, ∀ l ∈ r, Has d l ∧ noOs l = true)
    (hsz : W.heap.size ≤ W'.heap.size) (hst : Same W W') (hfr : ∀ b, b < W.heap.size → (∀ p ∈ d.ob, f p.1 = false → ∀ q ∈ hdrOwn p.2.h p.2.n p.2.rows, q.1 ≠ b) → W'.heap[b]? = W.heap[b]?)
    (hhd : (hd = .slice none 0 0 ∧ rows = []) ∨ ∃ b x c, hd = .slice (some ⟨b, x, none⟩) 0 c ∧ rows.length ≤ c ∧ rows.length ≤ LIM ∧ OwnFact W' (b, x, c * n, valR rows) ∧
      (W.heap.size ≤ b ∨ ∃ p ∈ d.ob, f p.1 = false ∧ ∃ q ∈ hdrOwn p.2.h p.2.n p.2.rows, q.1 = b)) :
    Inv B W' ⟨d.sl, d.ob.filter (fun p => f p.1) ++ [(nid, ⟨hd, n, rows⟩)], d.nx + 1⟩ ∧
    ∀ i, Knows (⟨d.sl, d.ob.filter (fun p => f p.1) ++ [(nid, ⟨hd, n, rows⟩)], d.nx + 1⟩ : S Value) i → Knows d i ∨ i = nid := by
  have hnk : nid ∉ d.ob.map (·.1) := fun hm => hf nid (.inr hm) rfl
  have hsub : (d.ob.filter (fun p => f p.1)).Sublist d.ob := List.filter_sublist
  have htop : ∀ l ∈ tops (⟨d.sl, d.ob.filter (fun p => f p.1) ++ [(nid, ⟨hd, n, rows⟩)], d.nx + 1⟩ : S Value), l ∈ tops d ∨ ∃ r ∈ rows, l ∈ r := by
    intro l hl
    rcases mem_tops.1 hl with hl | hl
    · exact .inl (mem_tops.2 (.inl hl))
    · rw [obLeaves_append, List.mem_append] at hl
      rcases hl with hl | hl
      · obtain ⟨p, hp, r, hr, hlr⟩ := mem_obLeaves.1 hl
        exact .inl (mem_tops.2 (.inr (mem_obLeaves.2 ⟨p, hsub.subset hp, r, hr, hlr⟩)))
      · obtain ⟨p, hp, r, hr, hlr⟩ := mem_obLeaves.1 hl
        simp only [List.mem_singleton] at hp
        subst hp
        exact .inr ⟨r, hr, hlr⟩
  have hhas : ∀ l, Has d l → refOk (d.ob.filter (fun p => f p.1) ++ [(nid, ⟨hd, n, rows⟩)]) l := fun l hl => by
    refine refOk_mono (fun i hi => ?_) hl.2.1
    rw [look_append (hf i (hl.2.2.2 i hi))]
    exact look_filter
  have hperm := ownS_append d.sl (d.ob.filter (fun p => f p.1)) nid ⟨hd, n, rows⟩ (d.nx + 1) d.nx
  simp only [ownR_noOs (fun r hr l hl => (hh r hr l hl).2), List.append_nil] at hperm
  have hsubo : (ownS ⟨d.sl, d.ob.filter (fun p => f p.1), d.nx⟩).Sublist (ownS d) := by
    have e : obLeaves (d.ob.filter (fun p => f p.1)) = (d.ob.filter (fun p => f p.1)).flatMap (fun p => p.2.rows.flatten) := rfl
    have e2 : obLeaves d.ob = d.ob.flatMap (fun p => p.2.rows.flatten) := rfl
    simp only [ownS, tops, List.flatMap_append, e, e2, List.flatMap_assoc]
    exact (sub_flatMap hsub _).append ((List.Sublist.refl _).append (sub_flatMap hsub _))
  -- what goes is apart from what stays
  have hgone : ∀ p ∈ d.ob, f p.1 = false → ∀ q ∈ hdrOwn p.2.h p.2.n p.2.rows, ∀ q' ∈ ownS ⟨d.sl, d.ob.filter (fun p => f p.1), d.nx⟩, q'.1 ≠ q.1 := by
    intro p hp hfp q hq q' hq'
    obtain ⟨l1, l2, hl12⟩ := List.append_of_mem hp
    have hnd := h.good.nodup
    have : (ownS d).Perm (hdrOwn p.2.h p.2.n p.2.rows ++ ownR p.2.rows ++ ownS ⟨d.sl, l1 ++ l2, d.nx⟩) := by
      classical
      refine List.perm_iff_count.2 fun a => ?_
      have e1 : obLeaves (p :: l2) = p.2.rows.flatten ++ obLeaves l2 := by simp [obLeaves]
      simp only [ownS, tops, hl12, obLeaves_append, e1, List.flatMap_append, List.count_append, List.flatMap_cons, List.append_nil, ownR_eq]
      omega
    have hnd2 := (this.map (·.1)).nodup_iff.1 hnd
    rw [List.map_append, List.nodup_append] at hnd2
    have hin : q' ∈ ownS ⟨d.sl, l1 ++ l2, d.nx⟩ := by
      have hs2 : (d.ob.filter (fun p => f p.1)).Sublist (l1 ++ l2) := by
        rw [hl12, List.filter_append, List.filter_cons_of_neg (by simp [hfp])]
        exact List.filter_sublist.append List.filter_sublist
      have e : obLeaves (d.ob.filter (fun p => f p.1)) = (d.ob.filter (fun p => f p.1)).flatMap (fun p => p.2.rows.flatten) := rfl
      have e2 : obLeaves (l1 ++ l2) = (l1 ++ l2).flatMap (fun p => p.2.rows.flatten) := rfl
      have : (ownS ⟨d.sl, d.ob.filter (fun p => f p.1), d.nx⟩).Sublist (ownS ⟨d.sl, l1 ++ l2, d.nx⟩) := by
        simp only [ownS, tops, List.flatMap_append, e, e2, List.flatMap_assoc]
        rw [← List.flatMap_append, ← List.flatMap_append]
        exact (sub_flatMap hs2 _).append ((List.Sublist.refl _).append (sub_flatMap hs2 _))
      exact this.subset hq'
    exact fun he => hnd2.2.2 q.1 (List.mem_map.2 ⟨q, List.mem_append_left _ hq, rfl⟩) q'.1 (List.mem_map.2 ⟨q', hin, rfl⟩) he.symm
  constructor
  · refine h.step hsz hst (fun b hb hno => hfr b hb fun p hp _ q hq => hno q ?_) (fun l hl => ?_) (fun p hp => ?_) ?_ (fun p hp => ?_) ?_ (fun p hp => ?_) (fun p hp hlt => by
      rcases List.mem_append.1 hp with hp | hp
      · exact h.hdr p (hsub.subset hp) hlt
      · simp only [List.mem_singleton] at hp
        subst hp
        simp only at hlt
        omega)
    · simp only [ownS, List.mem_append]
      exact .inl (List.mem_flatMap.2 ⟨p, hp, hq⟩)
    · rcases htop l hl with hl | ⟨r, hr, hl⟩
      · exact ⟨(h.good.wf l hl).1, hhas l (has_top h.good hl)⟩
      · exact ⟨(hh r hr l hl).1.1, hhas l (hh r hr l hl).1⟩
    · rcases List.mem_append.1 hp with hp | hp
      · exact h.good.obs p (hsub.subset hp)
      · simp only [List.mem_singleton] at hp
        subst hp
        refine ⟨?_, hrow⟩
        rcases hhd with hhd | ⟨b, x, c, e1, e2, e3, _⟩
        · exact .inl hhd
        · exact .inr ⟨b, x, c, e1, e2, e3⟩
    · rw [List.map_append, List.nodup_append]
      refine ⟨h.good.ids.sublist (hsub.map _), by simp, ?_⟩
      intro i hi j hj
      simp only [List.map_cons, List.map_nil, List.mem_singleton] at hj
      subst hj
      rintro rfl
      exact hnk ((hsub.map _).subset hi)
    · have hp := hperm.mem_iff.1 hp
      rcases List.mem_append.1 hp with hp | hp
      · rcases hhd with ⟨e1, _⟩ | ⟨b, x, c, e1, e2, e3, e4, e5⟩
        · rw [e1] at hp; simp [hdrOwn] at hp
        · rw [e1] at hp
          simp only [hdrOwn, List.mem_singleton] at hp
          subst hp
          refine ⟨e4, ?_⟩
          rcases e5 with e5 | ⟨q, hq, _, r, hr, rfl⟩
          · exact .inr e5
          · refine .inl ⟨r, ?_, rfl⟩
            simp only [ownS, List.mem_append]
            exact .inl (List.mem_flatMap.2 ⟨q, hq, hr⟩)
      · have hd := hsubo.subset hp
        refine ⟨(h.good.own p hd).same (hfr _ (h.good.own p hd).lt fun q hq hfq r hr => Ne.symm (hgone q hq hfq r hr p hp)), .inl ⟨p, hd, rfl⟩⟩
    · rw [(hperm.map (·.1)).nodup_iff, List.map_append, List.nodup_append]
      refine ⟨?_, h.good.nodup.sublist (hsubo.map _), ?_⟩
      · rcases hhd with ⟨e1, _⟩ | ⟨b, x, c, e1, _⟩ <;> simp [e1, hdrOwn]
      · intro i hi j hj
        rcases hhd with ⟨e1, _⟩ | ⟨b, x, c, e1, e2, e3, e4, e5⟩
        · simp [e1, hdrOwn] at hi
        · simp [e1, hdrOwn] at hi
          subst hi
          obtain ⟨q, hq, rfl⟩ := List.mem_map.1 hj
          rcases e5 with e5 | ⟨p, hp, hfp, r, hr, rfl⟩
          · have := (h.good.own q (hsubo.subset hq)).lt
            omega
          · exact Ne.symm (hgone p hp hfp r hr q hq)
    · obtain ⟨l, hl, hp⟩ := List.mem_flatMap.1 hp
      rcases htop l hl with hl | ⟨r, hr, hl⟩
      · exact .of_mem (List.mem_flatMap.2 ⟨l, hl, hp⟩)
      · exact (hh r hr l hl).1.2.2.1 p hp
  · rintro i (⟨l, hl, hi⟩ | hi)
    · rcases htop l hl with hl | ⟨r, hr, hl⟩
      · exact .inl (.inl ⟨l, hl, hi⟩)
      · exact .inl ((hh r hr l hl).1.2.2.2 i hi)
    · simp only [List.map_append, List.map_cons, List.map_nil, List.mem_append, List.mem_singleton] at hi
      rcases hi with hi | hi
      · exact .inl (.inr ((hsub.map _).subset hi))
      · exact .inr hi
end Go.Proofs.Ytmckcjoacfekcaa.AM
