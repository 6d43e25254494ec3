import Derived.Test.YtmckcjoacfekcaaAm28
/-! The calculus, twenty-ninth part: a state seen in other words: slots and objects let go, objects numbered anew. -/
namespace Go.Proofs.Ytmckcjoacfekcaa.AM
open Go

section ren
variable {δ : Type}
mutual
def renL (g : Nat → Nat) : L δ → L δ
  | .ref v id off len => .ref v (g id) off len
  | .ptr v id e j => .ptr v (g id) e j
  | .fn v f caps => .fn v f (renC g caps)
  | l => l
def renC (g : Nat → Nat) : List (L δ) → List (L δ)
  | [] => []
  | l :: ls => renL g l :: renC g ls
end
theorem renC_eq (g : Nat → Nat) : ∀ ls : List (L δ), renC g ls = ls.map (renL g)
  | [] => rfl
  | l :: ls => by simp [renC, renC_eq g ls]
def renU (g : Nat → Nat) : U δ → U δ
  | .one l => .one (renL g l)
  | .agg ls => .agg (ls.map (renL g))
def renV (g : Nat → Nat) : V δ → V δ
  | .u x => .u (renU g x)
  | .tup xs => .tup (xs.map (renU g))
  | .un => .un
  | .ud => .ud
def renOb (g : Nat → Nat) (o : Ob δ) : Ob δ := ⟨o.h, o.n, o.rows.map (fun r => r.map (renL g))⟩
theorem leavesU_ren (g : Nat → Nat) (u : U δ) : leavesU (renU g u) = (leavesU u).map (renL g) := by cases u <;> simp [leavesU, renU]
theorem leavesV_ren (g : Nat → Nat) (v : V δ) : leavesV (renV g v) = (leavesV v).map (renL g) := by
  cases v with
  | u x => exact leavesU_ren g x
  | tup xs => simp [leavesV, renV, List.map_flatMap, List.flatMap_map, leavesU_ren]
  | un => rfl
  | ud => rfl
mutual
theorem idsL_ren (g : Nat → Nat) : ∀ l : L δ, idsL (renL g l) = (idsL l).map g
  | .int _ _ | .bool _ | .str _ | .nl | .nilp | .bs _ _ _ | .os _ _ _ | .ip _ _ => by simp [renL, idsL]
  | .ref _ _ _ _ | .ptr _ _ _ _ => by simp [renL, idsL]
  | .fn _ _ caps => by simp [renL, idsL, idsC_ren g caps]
theorem idsC_ren (g : Nat → Nat) : ∀ ls : List (L δ), idsC (renC g ls) = (idsC ls).map g
  | [] => rfl
  | l :: ls => by simp [renC, idsC, idsL_ren g l, idsC_ren g ls]
end
end ren
mutual
theorem val_ren (g : Nat → Nat) : ∀ l : L Value, val (renL g l) = val l
  | .int _ _ | .bool _ | .str _ | .nl | .nilp | .bs _ _ _ | .os _ _ _ | .ip _ _ | .ref _ _ _ _ | .ptr _ _ _ _ | .fn _ _ _ => by simp [renL, val]
end
theorem own_ren (g : Nat → Nat) (l : L Value) : ownL (renL g l) = ownL l := by cases l <;> simp [renL, ownL]
mutual
theorem imm_ren (g : Nat → Nat) : ∀ l : L Value, immL (renL g l) = immL l
  | .int _ _ | .bool _ | .str _ | .nl | .nilp | .bs _ _ _ | .os _ _ _ | .ip _ _ | .ref _ _ _ _ | .ptr _ _ _ _ => by simp [renL, immL]
  | .fn _ _ caps => by simp [renL, immL, immC_ren g caps]
theorem immC_ren (g : Nat → Nat) : ∀ ls : List (L Value), immC (renC g ls) = immC ls
  | [] => rfl
  | l :: ls => by simp [renC, immC, imm_ren g l, immC_ren g ls]
end
mutual
theorem wf_ren (g : Nat → Nat) (ns : Bool) : ∀ l : L Value, wfL ns (renL g l) ↔ wfL ns l
  | .int _ _ | .bool _ | .str _ | .nl | .nilp | .bs _ _ _ | .os _ _ _ | .ip _ _ | .ref _ _ _ _ | .ptr _ _ _ _ => by simp [renL, wfL]
  | .fn v f caps => by
    have : (renC g caps).map val = caps.map val := by rw [renC_eq, List.map_map]; exact List.map_congr_left fun l _ => val_ren g l
    simp [renL, wfL, this, wfC_ren g false caps]
theorem wfC_ren (g : Nat → Nat) (ns : Bool) : ∀ ls : List (L Value), wfC ns (renC g ls) ↔ wfC ns ls
  | [] => by simp [renC]
  | l :: ls => by simp [renC, wfC, wf_ren g ns l, wfC_ren g ns ls]
end
-- what is forgotten can be named anew
mutual
theorem er_ren (g : Nat → Nat) : ∀ (l' : L Unit) (l : L Value), erL l = renL g l' → ∃ l2 : L Value, erL l2 = l' ∧ renL g l2 = l
  | .int k n, l, h => ⟨l, h, by cases l <;> simp_all [mapL, renL]⟩
  | .bool b, l, h => ⟨l, h, by cases l <;> simp_all [mapL, renL]⟩
  | .str s, l, h => ⟨l, h, by cases l <;> simp_all [mapL, renL]⟩
  | .nl, l, h => ⟨l, h, by cases l <;> simp_all [mapL, renL]⟩
  | .nilp, l, h => ⟨l, h, by cases l <;> simp_all [mapL, renL]⟩
  | .bs v n rows, l, h => ⟨l, h, by cases l <;> simp_all [mapL, renL]⟩
  | .os v n rows, l, h => ⟨l, h, by cases l <;> simp_all [mapL, renL]⟩
  | .ip v cs, l, h => ⟨l, h, by cases l <;> simp_all [mapL, renL]⟩
  | .ref v id off len, l, h => by
    cases l <;> simp [mapL, renL] at h
    rename_i v' id' off' len'
    obtain ⟨rfl, rfl, rfl⟩ := h
    exact ⟨.ref v' id off' len', by simp [mapL], by simp [renL]⟩
  | .ptr v id e j, l, h => by
    cases l <;> simp [mapL, renL] at h
    rename_i v' id' off' len'
    obtain ⟨rfl, rfl, rfl⟩ := h
    exact ⟨.ptr v' id off' len', by simp [mapL], by simp [renL]⟩
  | .fn v f caps, l, h => by
    cases l <;> simp [mapL, renL] at h
    rename_i v' f' caps'
    obtain ⟨rfl, h⟩ := h
    obtain ⟨c2, h1, h2⟩ := erC_ren g caps caps' h
    exact ⟨.fn v' f' c2, by simp [mapL, h1], by simp [renL, h2]⟩
theorem erC_ren (g : Nat → Nat) : ∀ (ls' : List (L Unit)) (ls : List (L Value)), mapC (fun _ => ()) ls = renC g ls' → ∃ l2 : List (L Value), mapC (fun _ => ()) l2 = ls' ∧ renC g l2 = ls
  | [], ls, h => by
    cases ls with
    | nil => exact ⟨[], rfl, rfl⟩
    | cons l ls => simp [mapC, renC] at h
  | l' :: ls', ls, h => by
    cases ls with
    | nil => simp [mapC, renC] at h
    | cons l ls =>
      simp only [mapC, renC, List.cons.injEq] at h
      obtain ⟨l2, h1, h2⟩ := er_ren g l' l h.1
      obtain ⟨ls2, h3, h4⟩ := erC_ren g ls' ls h.2
      exact ⟨l2 :: ls2, by simp [mapC, h1, h3], by simp [renC, h2, h4]⟩
end
theorem erLs_ren (g : Nat → Nat) {ls' : List (L Unit)} {ls : List (L Value)} (h : ls.map erL = ls'.map (renL g)) : ∃ l2 : List (L Value), l2.map erL = ls' ∧ l2.map (renL g) = ls := by
  have := erC_ren g ls' ls (by rw [mapC_eq, renC_eq]; exact h)
  simpa [mapC_eq, renC_eq] using this
theorem erU_ren (g : Nat → Nat) {u' : U Unit} {u : U Value} (h : erU u = renU g u') : ∃ u2 : U Value, erU u2 = u' ∧ renU g u2 = u := by
  cases u' with
  | one l' => cases u with
    | one l =>
      simp only [mapU, renU, U.one.injEq] at h
      obtain ⟨l2, h1, h2⟩ := er_ren g l' l h
      exact ⟨.one l2, by simp [mapU, h1], by simp [renU, h2]⟩
    | agg ls => cases h
  | agg ls' => cases u with
    | one l => cases h
    | agg ls =>
      simp only [mapU, renU, U.agg.injEq] at h
      obtain ⟨l2, h1, h2⟩ := erLs_ren g h
      exact ⟨.agg l2, by simp [mapU, h1], by simp [renU, h2]⟩
theorem erUs_ren (g : Nat → Nat) : ∀ {us' : List (U Unit)} {us : List (U Value)}, us.map erU = us'.map (renU g) → ∃ u2 : List (U Value), u2.map erU = us' ∧ u2.map (renU g) = us
  | [], us, h => ⟨[], rfl, by simpa using h.symm⟩
  | u' :: us', us, h => by
    cases us with
    | nil => simp at h
    | cons u us =>
      simp only [List.map_cons, List.cons.injEq] at h
      obtain ⟨u2, h1, h2⟩ := erU_ren g h.1
      obtain ⟨us2, h3, h4⟩ := erUs_ren g h.2
      exact ⟨u2 :: us2, by simp [h1, h3], by simp [h2, h4]⟩
theorem erV_ren (g : Nat → Nat) {v' : V Unit} {v : V Value} (h : erV v = renV g v') : ∃ v2 : V Value, erV v2 = v' ∧ renV g v2 = v := by
  cases v' with
  | u x' => cases v with
    | u x =>
      simp only [mapV, renV, V.u.injEq] at h
      obtain ⟨l2, h1, h2⟩ := erU_ren g h
      exact ⟨.u l2, by simp [mapV, h1], by simp [renV, h2]⟩
    | _ => cases h
  | tup xs' => cases v with
    | tup xs =>
      simp only [mapV, renV, V.tup.injEq] at h
      obtain ⟨l2, h1, h2⟩ := erUs_ren g h
      exact ⟨.tup l2, by simp [mapV, h1], by simp [renV, h2]⟩
    | _ => cases h
  | un => cases v with
    | un => exact ⟨.un, rfl, rfl⟩
    | _ => cases h
  | ud => cases v with
    | ud => exact ⟨.ud, rfl, rfl⟩
    | _ => cases h
theorem erRows_ren (g : Nat → Nat) : ∀ {rs' : List (List (L Unit))} {rs : List (List (L Value))}, rs.map (fun r => r.map erL) = rs'.map (fun r => r.map (renL g)) → ∃ r2 : List (List (L Value)), r2.map (fun r => r.map erL) = rs' ∧ r2.map (fun r => r.map (renL g)) = rs
  | [], rs, h => ⟨[], rfl, by simpa using h.symm⟩
  | r' :: rs', rs, h => by
    cases rs with
    | nil => simp at h
    | cons r rs =>
      simp only [List.map_cons, List.cons.injEq] at h
      obtain ⟨r2, h1, h2⟩ := erLs_ren g h.1
      obtain ⟨rs2, h3, h4⟩ := erRows_ren g h.2
      exact ⟨r2 :: rs2, by simp [h1, h3], by simp [h2, h4]⟩
theorem VR_ren (g : Nat → Nat) {v : V Value} {x : Value} (h : VR (renV g v) x) : VR v x := by
  have hu : ∀ {u : U Value} {x : Value}, UR (renU g u) x → UR u x := fun {u x} h => by
    cases u with
    | one l => simp only [renU, UR, val_ren] at h ⊢; exact h
    | agg ls =>
      simp only [renU, UR, List.map_map] at h ⊢
      rw [h]
      congr 2
      exact List.map_congr_left fun l _ => val_ren g l
  cases v with
  | u y => exact hu h
  | tup xs =>
    obtain ⟨vs, h1, h2, h3⟩ := h
    refine ⟨vs, h1, by simpa using h2, fun i y z hy hz => hu (h3 i (renU g y) z (by rw [List.getElem?_map, hy]; rfl) hz)⟩
  | un => trivial
  | ud => exact h
/-- Part of a list, once each: the list is that and some more. -/
theorem perm_part {α : Type} : ∀ {l' l : List α}, l'.Nodup → (∀ x ∈ l', x ∈ l) → ∃ rest, l.Perm (l' ++ rest)
  | [], l, _, _ => ⟨l, .refl _⟩
  | x :: l', l, hn, h => by
    rw [List.nodup_cons] at hn
    obtain ⟨l1, l2, rfl⟩ := List.append_of_mem (h x (by simp))
    obtain ⟨rest, hr⟩ := perm_part (l' := l') (l := l1 ++ l2) hn.2 fun y hy => by
      have := h y (by simp [hy])
      simp only [List.mem_append, List.mem_cons] at this ⊢
      rcases this with h1 | rfl | h1
      · exact .inl h1
      · exact absurd hy hn.1
      · exact .inr h1
    exact ⟨rest, List.perm_middle.trans (hr.cons x)⟩
theorem slots_sub {g : Nat → Nat} {f : L Value → List OwnE} (hf : ∀ l, f (renL g l) = f l) : ∀ {sl' sl : List (V Value)}, sl'.length = sl.length → (∀ (t : Nat) v, sl'[t]? = some v → v = .un ∨ sl[t]? = some (renV g v)) →
    (sl'.flatMap (fun v => (leavesV v).flatMap f)).Sublist (sl.flatMap (fun v => (leavesV v).flatMap f))
  | [], sl, _, _ => List.nil_sublist _
  | v :: sl', [], h, _ => by simp at h
  | v :: sl', w :: sl, h, hs => by
    simp only [List.flatMap_cons]
    refine List.Sublist.append ?_ (slots_sub hf (by simpa using h) fun t v hv => by simpa using hs (t + 1) v (by simpa using hv))
    rcases hs 0 v rfl with rfl | h0
    · exact List.nil_sublist _
    · simp only [List.getElem?_cons_zero, Option.some.injEq] at h0
      rw [h0, leavesV_ren, List.flatMap_map]
      simp only [hf]
      exact List.Sublist.refl _
mutual
theorem refOk_ren {g : Nat → Nat} {ob ob' : List (Nat × Ob Value)} (hl : ∀ i o, look ob' i = some o → look ob (g i) = some (renOb g o)) : ∀ l : L Value, refOk ob (renL g l) → refOk ob' l
  | .int _ _, _ | .bool _, _ | .str _, _ | .nl, _ | .nilp, _ | .bs _ _ _, _ | .os _ _ _, _ | .ip _ _, _ => by simp [refOk]
  | .ref v id off len, h => fun o ho => by
    have := h _ (hl id o ho)
    simpa [renOb] using this
  | .ptr v id e j, h => fun o ho => by
    have := h _ (hl id o ho)
    simpa [renOb] using this
  | .fn v f caps, h => by
    simp only [renL, refOk] at h ⊢
    exact refOkC_ren hl caps h
theorem refOkC_ren {g : Nat → Nat} {ob ob' : List (Nat × Ob Value)} (hl : ∀ i o, look ob' i = some o → look ob (g i) = some (renOb g o)) : ∀ ls : List (L Value), refOkC ob (renC g ls) → refOkC ob' ls
  | [], _ => by simp [refOkC]
  | l :: ls, h => by
    simp only [renC, refOkC] at h ⊢
    exact ⟨refOk_ren hl l h.1, refOkC_ren hl ls h.2⟩
end
theorem GhB.view {B : Bd} {s s' : S Unit} (g : Nat → Nat) (hlen : s'.sl.length = s.sl.length) (hsl : ∀ (t : Nat) v', s'.sl[t]? = some v' → v' = .un ∨ s.sl[t]? = some (renV g v'))
    (hob : ∀ p ∈ s'.ob, look s.ob (g p.1) = some (renOb g p.2)) (hids : (s'.ob.map (·.1)).Nodup) (hinj : ∀ i j, i < s'.nx → j < s'.nx → g i = g j → i = j) (hkn : ∀ i, Knows s' i → i < s'.nx)
    (hn : B.n0 ≤ s'.nx) (hg : ∀ i, i < B.n0 → g i = i) : GhB B s s' := by
  rintro a W ⟨d, rfl, hi, hs, hdef, hk, hn0⟩
  -- the state's slots and objects, numbered anew
  have exSl : ∀ {sl' : List (V Unit)} {sl : List (V Value)}, sl'.length = (sl.map erV).length → (∀ (t : Nat) v', sl'[t]? = some v' → v' = .un ∨ (sl.map erV)[t]? = some (renV g v')) →
      ∃ sl2 : List (V Value), sl2.map erV = sl' ∧ sl2.length = sl.length ∧ ∀ (t : Nat) v, sl2[t]? = some v → v = .un ∨ sl[t]? = some (renV g v) := by
    intro sl'
    induction sl' with
    | nil =>
      intro sl h _
      cases sl with
      | nil => exact ⟨[], rfl, rfl, by simp⟩
      | cons v sl => simp at h
    | cons v' sl' ih =>
      intro sl h hs
      cases sl with
      | nil => simp at h
      | cons v sl =>
        obtain ⟨sl2, h1, h2, h3⟩ := ih (sl := sl) (by simpa using h) (fun t w hw => by simpa using hs (t + 1) w (by simpa using hw))
        rcases hs 0 v' rfl with rfl | h0
        · refine ⟨.un :: sl2, by simp [h1, erV, mapV], by simp [h2], fun t w hw => ?_⟩
          cases t with
          | zero => simp at hw; exact .inl hw.symm
          | succ t => simpa using h3 t w (by simpa using hw)
        · simp only [List.map_cons, List.getElem?_cons_zero, Option.some.injEq] at h0
          obtain ⟨v2, e1, e2⟩ := erV_ren g h0
          refine ⟨v2 :: sl2, by simp [h1, e1], by simp [h2], fun t w hw => ?_⟩
          cases t with
          | zero => simp at hw; subst hw; right; simp [e2]
          | succ t => simpa using h3 t w (by simpa using hw)
  have exOb : ∀ {ob' : List (Nat × Ob Unit)}, (∀ p ∈ ob', look (erS d).ob (g p.1) = some (renOb g p.2)) → ∃ ob2 : List (Nat × Ob Value), ob2.map (fun p => (p.1, erOb p.2)) = ob' ∧ ∀ p ∈ ob2, (g p.1, renOb g p.2) ∈ d.ob := by
    intro ob'
    induction ob' with
    | nil => intro _; exact ⟨[], rfl, by simp⟩
    | cons p ob' ih =>
      intro h
      obtain ⟨ob2, h1, h2⟩ := ih fun q hq => h q (by simp [hq])
      obtain ⟨o, ho, he⟩ := look_lift (h p (by simp))
      obtain ⟨i, ⟨oh, on, orr⟩⟩ := p
      have he' : o.n = on ∧ o.rows.map (fun r => r.map erL) = orr.map (fun r => r.map (renL g)) := by
        simp only [erOb, mapOb, renOb, Ob.mk.injEq] at he
        exact ⟨he.2.1, he.2.2⟩
      obtain ⟨r2, e1, e2⟩ := erRows_ren g he'.2
      refine ⟨(i, ⟨o.h, o.n, r2⟩) :: ob2, ?_, fun q hq => ?_⟩
      · rw [List.map_cons, h1]
        simp only [erOb, mapOb, e1, he'.1]
      · rcases List.mem_cons.1 hq with rfl | hq
        · simp only [renOb, e2]
          exact find?_key ho
        · exact h2 q hq
  obtain ⟨sl2, a1, a2, a3⟩ := exSl (sl' := s'.sl) (sl := d.sl) hlen hsl
  obtain ⟨ob2, b1, b2⟩ := exOb hob
  let d' : S Value := ⟨sl2, ob2, s'.nx⟩
  have he : erS d' = s' := by
    have : erS d' = ⟨sl2.map erV, ob2.map (fun p => (p.1, erOb p.2)), s'.nx⟩ := rfl
    rw [this, a1, b1]
  have hkn' : ∀ i, Knows d' i → i < s'.nx := fun i hi => hkn i (by
    rcases hi with ⟨l, hl, hi⟩ | hi
    · refine .inl ⟨erL l, ?_, by rw [idsL_er]; exact hi⟩
      rw [← he]
      rcases mem_tops.1 hl with ⟨v, hv, hl2⟩ | hl2
      · refine mem_tops.2 (.inl ⟨erV v, List.mem_map.2 ⟨v, hv, rfl⟩, ?_⟩)
        rw [leavesV_map]; exact List.mem_map.2 ⟨l, hl2, rfl⟩
      · obtain ⟨p, hp, r, hr, hlr⟩ := mem_obLeaves.1 hl2
        refine mem_tops.2 (.inr (mem_obLeaves.2 ⟨(p.1, erOb p.2), List.mem_map.2 ⟨p, hp, rfl⟩, r.map erL, ?_, List.mem_map.2 ⟨l, hlr, rfl⟩⟩))
        exact List.mem_map.2 ⟨r, hr, rfl⟩
    · refine .inr ?_
      rw [← he]
      obtain ⟨p, hp, rfl⟩ := List.mem_map.1 hi
      exact List.mem_map.2 ⟨(p.1, erOb p.2), List.mem_map.2 ⟨p, hp, rfl⟩, rfl⟩)
  have hids2 : (ob2.map (·.1)).Nodup := by
    have : ob2.map (·.1) = s'.ob.map (·.1) := by rw [← b1, List.map_map]; rfl
    rw [this]; exact hids
  have htop : ∀ l ∈ tops d', renL g l ∈ tops d := fun l hl => by
    rcases mem_tops.1 hl with ⟨v, hv, hl2⟩ | hl2
    · obtain ⟨t, ht⟩ := List.mem_iff_getElem?.1 hv
      rcases a3 t v ht with rfl | h
      · simp [leavesV] at hl2
      · exact mem_tops.2 (.inl ⟨_, List.mem_of_getElem? h, by rw [leavesV_ren]; exact List.mem_map.2 ⟨l, hl2, rfl⟩⟩)
    · obtain ⟨p, hp, r, hr, hlr⟩ := mem_obLeaves.1 hl2
      exact mem_tops.2 (.inr (mem_obLeaves.2 ⟨_, b2 p hp, r.map (renL g), List.mem_map.2 ⟨r, hr, rfl⟩, List.mem_map.2 ⟨l, hlr, rfl⟩⟩))
  have hlook : ∀ i o, look ob2 i = some o → look d.ob (g i) = some (renOb g o) := fun i o ho => look_mem hi.good.ids (b2 _ (find?_key ho))
  have hrows : ∀ o : Ob Value, (renOb g o).rows.length = o.rows.length := fun o => by simp [renOb]
  have refL : ∀ l : L Value, refOk d.ob (renL g l) → refOk ob2 l := refOk_ren hlook
  obtain ⟨rest, hperm⟩ := perm_part (l' := ob2.map (fun p => (g p.1, renOb g p.2))) (l := d.ob) (by
    have hnd : (ob2.map (fun p => g p.1)).Nodup := by
      rw [List.nodup_iff_pairwise_ne, List.pairwise_map]
      have h1 : ob2.Pairwise (fun p q => p.1 ≠ q.1) := by
        have := List.nodup_iff_pairwise_ne.1 hids2
        rwa [List.pairwise_map] at this
      refine List.Pairwise.imp_of_mem (fun hp hq hne heq => hne (hinj _ _ ?_ ?_ heq)) h1
      · exact hkn' _ (.inr (List.mem_map.2 ⟨_, hp, rfl⟩))
      · exact hkn' _ (.inr (List.mem_map.2 ⟨_, hq, rfl⟩))
    rw [List.nodup_iff_pairwise_ne, List.pairwise_map] at hnd ⊢
    exact hnd.imp fun h e => h (congrArg (·.1) e)) (fun x hx => by
    obtain ⟨p, hp, rfl⟩ := List.mem_map.1 hx
    exact b2 p hp)
  have hown : ∃ more, (ownS d).Perm (ownS d' ++ more) := by
    have e1 : (d.ob.flatMap (fun p => hdrOwn p.2.h p.2.n p.2.rows)).Perm (ob2.flatMap (fun p => hdrOwn p.2.h p.2.n p.2.rows) ++ rest.flatMap (fun p => hdrOwn p.2.h p.2.n p.2.rows)) := by
      refine (hperm.flatMap_right _).trans ?_
      rw [List.flatMap_append, List.flatMap_map]
      refine List.Perm.append_right _ (List.Perm.of_eq ?_)
      congr 1
      funext p
      have hv : valR (renOb g p.2).rows = valR p.2.rows := by
        simp only [valR, renOb, List.map_flatten, List.map_map]
        congr 1
        refine List.map_congr_left fun r _ => ?_
        simp only [Function.comp_apply, List.map_map]
        exact List.map_congr_left fun l _ => val_ren g l
      simp only [hdrOwn, hv]
      rfl
    have e2 : ((obLeaves d.ob).flatMap ownL).Perm ((obLeaves ob2).flatMap ownL ++ (obLeaves rest).flatMap ownL) := by
      have e0 : ∀ ob : List (Nat × Ob Value), (obLeaves ob).flatMap ownL = ob.flatMap (fun p => p.2.rows.flatten.flatMap ownL) := fun ob => by simp only [obLeaves, List.flatMap_assoc]
      rw [e0, e0, e0]
      refine (hperm.flatMap_right _).trans ?_
      rw [List.flatMap_append, List.flatMap_map]
      refine List.Perm.append_right _ (List.Perm.of_eq ?_)
      congr 1
      funext p
      simp only [renOb, ← List.map_flatten, List.flatMap_map, own_ren]
    obtain ⟨m3, e3⟩ : ∃ m3, ((d.sl.flatMap leavesV).flatMap ownL).Perm ((sl2.flatMap leavesV).flatMap ownL ++ m3) := by
      rw [List.flatMap_assoc, List.flatMap_assoc]
      have := slots_sub (g := g) (f := ownL) (own_ren g) (sl' := sl2) (sl := d.sl) a2 a3
      exact this.exists_perm_append
    refine ⟨rest.flatMap (fun p => hdrOwn p.2.h p.2.n p.2.rows) ++ (m3 ++ (obLeaves rest).flatMap ownL), ?_⟩
    classical
    refine List.perm_iff_count.2 fun a => ?_
    have c1 := List.perm_iff_count.1 e1 a
    have c2 := List.perm_iff_count.1 e2 a
    have c3 := List.perm_iff_count.1 e3 a
    simp only [ownS, tops, d', List.flatMap_append, List.count_append] at c1 c2 c3 ⊢
    omega
  obtain ⟨more, hown⟩ := hown
  have hmem : ∀ p ∈ ownS d', p ∈ ownS d := fun p hp => hown.mem_iff.2 (List.mem_append_left _ hp)
  refine ⟨d', he, ?_, ⟨by rw [hs.1]; exact a2.symm, fun i v hv => ?_⟩, hdef, hkn', hn⟩
  · refine hi.step (Nat.le_refl _) (Same.refl _) (fun _ _ _ => rfl) (fun l hl => ?_) (fun p hp => ?_) hids2 (fun p hp => ⟨hi.good.own p (hmem p hp), .inl ⟨p, hmem p hp, rfl⟩⟩) ?_ (fun p hp => ?_) (fun p hp hlt => ?_)
    · have := hi.good.wf _ (htop l hl)
      exact ⟨(wf_ren g false l).1 this.1, refL l this.2⟩
    · have := hi.good.obs _ (b2 p hp)
      simp only [renOb, List.length_map, List.mem_map, List.map_eq_nil_iff] at this
      refine ⟨this.1, fun r hr => ?_⟩
      have h2 := this.2 _ ⟨r, hr, rfl⟩
      simpa using h2
    · have := (hown.map (·.1)).nodup_iff.1 hi.good.nodup
      rw [List.map_append, List.nodup_append] at this
      exact this.1
    · obtain ⟨l, hl, hp⟩ := List.mem_flatMap.1 hp
      exact .of_mem (List.mem_flatMap.2 ⟨_, htop l hl, by rw [imm_ren]; exact hp⟩)
    · have := hi.hdr _ (b2 p hp)
      simp only [renOb, hg p.1 hlt] at this
      exact this hlt
  · rcases a3 i v hv with rfl | h
    · trivial
    · exact VR_ren g (hs.2 i _ h)
end Go.Proofs.Ytmckcjoacfekcaa.AM
