import Derived.Test.YtmckcjoacfekcaaAm8
/-! The calculus, ninth part: variables, stores, new rows. -/
namespace Go.Proofs.Ytmckcjoacfekcaa.AM
open Go

theorem one_val {l : L Value} (h : wfL false l) : (val l).oneCell' = true ∧ (val l).cells = #[val l] := by
  cases l with
  | int k n => exact ⟨rfl, rfl⟩
  | bool b => exact ⟨rfl, rfl⟩
  | str s => exact ⟨rfl, rfl⟩
  | nl => exact ⟨rfl, rfl⟩
  | nilp => exact ⟨rfl, rfl⟩
  | bs v n rows => obtain ⟨⟨a, c, rfl, _⟩, _⟩ := h; exact ⟨rfl, rfl⟩
  | os v n rows =>
    rcases h.1 with ⟨rfl, _⟩ | ⟨_, _, _, rfl, _⟩ <;> exact ⟨rfl, rfl⟩
  | ref v id off len => obtain ⟨_, a, m, c, rfl⟩ := h; exact ⟨rfl, rfl⟩
  | ptr v id e j => obtain ⟨_, a, rfl⟩ := h; exact ⟨rfl, rfl⟩
  | ip v cells => obtain ⟨_, ⟨b, o, rfl⟩, _⟩ := h; exact ⟨rfl, rfl⟩
  | fn v f caps => obtain ⟨_, rfl, _⟩ := h; exact ⟨rfl, rfl⟩
theorem cells_u {u : U Value} {x : Value} (hx : UR u x) (h : ∀ l ∈ leavesU u, wfL false l) : x.cells = ((leavesU u).map val).toArray := by
  cases u with
  | one l => cases hx; rw [(one_val (h l (by simp [leavesU]))).2]; rfl
  | agg ls => cases hx; rfl
/-- Cells are laid over others. -/
def putC {α : Type} (cs : List α) (off : Nat) (ls : List α) : List α := cs.take off ++ ls ++ cs.drop (off + ls.length)
theorem putC_length {α : Type} {cs ls : List α} {off : Nat} (h : off + ls.length ≤ cs.length) : (putC cs off ls).length = cs.length := by
  simp [putC]; omega
theorem putC_map {α β : Type} (f : α → β) (cs ls : List α) (off : Nat) : (putC cs off ls).map f = putC (cs.map f) off (ls.map f) := by
  simp [putC, List.map_take, List.map_drop]
theorem mem_putC {α : Type} {cs ls : List α} {off : Nat} {x : α} (h : x ∈ putC cs off ls) : x ∈ cs ∨ x ∈ ls := by
  simp only [putC, List.mem_append] at h
  rcases h with (h | h) | h
  · exact .inl (List.mem_of_mem_take h)
  · exact .inr h
  · exact .inl (List.mem_of_mem_drop h)
theorem putC_get {α : Type} {cs ls : List α} {off j : Nat} (h : off + ls.length ≤ cs.length) : (putC cs off ls)[j]? = if off ≤ j ∧ j < off + ls.length then ls[j - off]? else cs[j]? := by
  unfold putC
  have h1 : (cs.take off).length = off := by rw [List.length_take]; omega
  by_cases h2 : j < off
  · rw [List.append_assoc, List.getElem?_append_left (by omega), List.getElem?_take, if_pos h2, if_neg (by omega)]
  · by_cases h3 : j < off + ls.length
    · rw [if_pos ⟨by omega, h3⟩, List.append_assoc, List.getElem?_append_right (by omega), h1, List.getElem?_append_left (by omega)]
    · rw [if_neg (by omega), List.append_assoc, List.getElem?_append_right (by omega), h1, List.getElem?_append_right (by omega), List.getElem?_drop]
      congr 1
      omega

theorem look_split {δ : Type} {ob : List (Nat × Ob δ)} {id : Nat} {o : Ob δ} (h : look ob id = some o) (hn : (ob.map (·.1)).Nodup) :
    ∃ l1 l2, ob = l1 ++ (id, o) :: l2 ∧ (∀ p ∈ l1, p.1 ≠ id) ∧ ∀ p ∈ l2, p.1 ≠ id := by
  obtain ⟨l1, l2, rfl⟩ := List.append_of_mem (find?_key h)
  refine ⟨l1, l2, rfl, fun p hp he => ?_, fun p hp he => ?_⟩
  · rw [List.map_append, List.nodup_append] at hn
    exact hn.2.2 p.1 (List.mem_map.2 ⟨p, hp, rfl⟩) id (by simp) he
  · rw [List.map_append, List.nodup_append, List.map_cons, List.nodup_cons] at hn
    exact hn.2.1.1 (List.mem_map.2 ⟨p, hp, he⟩)
def updOb {δ : Type} (ob : List (Nat × Ob δ)) (id : Nat) (rows : List (List (L δ))) : List (Nat × Ob δ) := ob.map fun p => if p.1 = id then (p.1, ⟨p.2.h, p.2.n, rows⟩) else p
theorem updOb_split {δ : Type} {l1 l2 : List (Nat × Ob δ)} {id : Nat} {o : Ob δ} (h1 : ∀ p ∈ l1, p.1 ≠ id) (h2 : ∀ p ∈ l2, p.1 ≠ id) (rows : List (List (L δ))) :
    updOb (l1 ++ (id, o) :: l2) id rows = l1 ++ (id, ⟨o.h, o.n, rows⟩) :: l2 := by
  have e : ∀ l : List (Nat × Ob δ), (∀ p ∈ l, p.1 ≠ id) → l.map (fun p => if p.1 = id then (p.1, ⟨p.2.h, p.2.n, rows⟩) else p) = l := fun l h => by
    conv => rhs; rw [← List.map_id l]
    exact List.map_congr_left fun p hp => by rw [if_neg (h p hp)]; rfl
  simp [updOb, e l1 h1, e l2 h2]
theorem look_upd {δ : Type} {ob : List (Nat × Ob δ)} {id i : Nat} {rows : List (List (L δ))} : look (updOb ob id rows) i = if i = id then (look ob i).map (fun o => ⟨o.h, o.n, rows⟩) else look ob i := by
  unfold look updOb
  rw [List.find?_map]
  have : ((fun p : Nat × Ob δ => p.1 == i) ∘ fun p : Nat × Ob δ => if p.1 = id then (p.1, ⟨p.2.h, p.2.n, rows⟩) else p) = fun p => p.1 == i := by
    funext p
    simp only [Function.comp]
    split <;> rfl
  rw [this]
  by_cases h : i = id
  · subst h
    rw [if_pos rfl]
    cases hf : ob.find? (fun p => p.1 == i) with
    | none => rfl
    | some p =>
      have := List.find?_some hf
      simp only [beq_iff_eq] at this
      simp [this]
  · rw [if_neg h]
    cases hf : ob.find? (fun p => p.1 == i) with
    | none => rfl
    | some p =>
      have := List.find?_some hf
      simp only [beq_iff_eq] at this
      have hne : p.1 ≠ id := by rw [this]; exact h
      simp [hne]

mutual
theorem refOk_key {ob ob' : List (Nat × Ob Value)} (key : ∀ i o2, look ob' i = some o2 → ∃ o1, look ob i = some o1 ∧ o2.h = o1.h ∧ o2.n = o1.n ∧ o2.rows.length = o1.rows.length) : ∀ {l : L Value}, refOk ob l → refOk ob' l
  | .int _ _, _ => by simp [refOk]
  | .bool _, _ => by simp [refOk]
  | .str _, _ => by simp [refOk]
  | .nl, _ => by simp [refOk]
  | .nilp, _ => by simp [refOk]
  | .bs _ _ _, _ => by simp [refOk]
  | .os _ _ _, _ => by simp [refOk]
  | .ip _ _, _ => by simp [refOk]
  | .ref v i off len, h => fun o2 h2 => by
    obtain ⟨o1, h1, e1, e2, e3⟩ := key i o2 h2
    rw [e1, e2, e3]
    exact h o1 h1
  | .ptr v i e j, h => fun o2 h2 => by
    obtain ⟨o1, h1, e1, e2, e3⟩ := key i o2 h2
    rw [e1, e2]
    exact h o1 h1
  | .fn _ _ caps, h => by
    simp only [refOk] at h ⊢
    exact refOkC_key key h
theorem refOkC_key {ob ob' : List (Nat × Ob Value)} (key : ∀ i o2, look ob' i = some o2 → ∃ o1, look ob i = some o1 ∧ o2.h = o1.h ∧ o2.n = o1.n ∧ o2.rows.length = o1.rows.length) : ∀ {ls : List (L Value)}, refOkC ob ls → refOkC ob' ls
  | [], _ => by simp [refOkC]
  | l :: ls, h => by
    simp only [refOkC] at h ⊢
    exact ⟨refOk_key key h.1, refOkC_key key h.2⟩
end
theorem refOk_upd {d : S Value} {id : Nat} {o : Ob Value} (ho : look d.ob id = some o) {rows : List (List (L Value))} (hl : rows.length = o.rows.length) {l : L Value} (h : refOk d.ob l) : refOk (updOb d.ob id rows) l := by
  refine refOk_key (fun i o2 h2 => ?_) h
  rw [look_upd] at h2
  split at h2
  · rename_i hi
    subst hi
    rw [ho] at h2
    cases h2
    exact ⟨o, ho, rfl, rfl, hl⟩
  · exact ⟨o2, h2, rfl, rfl, rfl⟩

/-- An object's rows turn. -/
theorem Inv.upd {B : Bd} {W W' : World} {d : S Value} (h : Inv B W d) {id : Nat} {o : Ob Value} (ho : look d.ob id = some o) {rows : List (List (L Value))} (hrow : ∀ r ∈ rows, r.length = o.n)
    (hlen : rows.length = o.rows.length) (hh : ∀ r ∈ rows, ∀ l ∈ r, Has d l) (hsub : (ownR rows).Sublist (ownR o.rows)) {b x c : Nat} (hhd : o.h = .slice (some ⟨b, x, none⟩) 0 c)
    (hsz : W'.heap.size = W.heap.size) (hst : Same W W') (hfr : ∀ b', b' ≠ b → W'.heap[b']? = W.heap[b']?) (hof : OwnFact W' (b, x, c * o.n, valR rows)) :
    Inv B W' ⟨d.sl, updOb d.ob id rows, d.nx⟩ ∧ ∀ i, Knows (⟨d.sl, updOb d.ob id rows, d.nx⟩ : S Value) i → Knows d i := by
  obtain ⟨l1, l2, hob, h1, h2⟩ := look_split ho h.good.ids
  have hupd : updOb d.ob id rows = l1 ++ (id, ⟨o.h, o.n, rows⟩) :: l2 := by rw [hob]; exact updOb_split h1 h2 rows
  have hmem : ∀ p ∈ updOb d.ob id rows, p ∈ d.ob ∨ p = (id, ⟨o.h, o.n, rows⟩) := fun p hp => by
    rw [hupd] at hp
    rw [hob]
    simp only [List.mem_append, List.mem_cons] at hp ⊢
    rcases hp with hp | hp | hp
    · exact .inl (.inl hp)
    · exact .inr hp
    · exact .inl (.inr (.inr hp))
  have hkeys : (updOb d.ob id rows).map (·.1) = d.ob.map (·.1) := by rw [hupd, hob]; simp
  have htop : ∀ l ∈ tops (⟨d.sl, updOb d.ob id rows, d.nx⟩ : S Value), Has d l := by
    intro l hl
    rcases mem_tops.1 hl with hl | hl
    · exact has_top h.good (mem_tops.2 (.inl hl))
    · obtain ⟨p, hp, r, hr, hlr⟩ := mem_obLeaves.1 hl
      rcases hmem p hp with hp | rfl
      · exact has_top h.good (mem_tops.2 (.inr (mem_obLeaves.2 ⟨p, hp, r, hr, hlr⟩)))
      · exact hh r hr l hlr
  have perm : ∀ o' : Ob Value, (ownS ⟨d.sl, l1 ++ (id, o') :: l2, d.nx⟩).Perm (hdrOwn o'.h o'.n o'.rows ++ (ownR o'.rows ++ ownS ⟨d.sl, l1 ++ l2, d.nx⟩)) := by
    classical
    intro o'
    refine List.perm_iff_count.2 fun a => ?_
    have e1 : obLeaves ((id, o') :: l2) = o'.rows.flatten ++ obLeaves l2 := by simp [obLeaves]
    simp only [ownS, tops, obLeaves_append, e1, List.flatMap_append, List.count_append, List.flatMap_cons, List.append_nil, ownR_eq]
    omega
  have p0 := perm o
  rw [← hob] at p0
  have p1 := perm ⟨o.h, o.n, rows⟩
  rw [← hupd] at p1
  simp only [hdrOwn, hhd, List.singleton_append] at p0 p1
  have hnd0 := (p0.map (·.1)).nodup_iff.1 h.good.nodup
  have hrest : (ownR rows ++ ownS ⟨d.sl, l1 ++ l2, d.nx⟩).Sublist (ownR o.rows ++ ownS ⟨d.sl, l1 ++ l2, d.nx⟩) := hsub.append (List.Sublist.refl _)
  constructor
  · refine h.step (by omega) hst (fun b' hb hno => hfr b' fun he => ?_) (fun l hl => ⟨(htop l hl).1, refOk_upd ho hlen (htop l hl).2.1⟩) (fun p hp => ?_) (by simpa only [hkeys] using h.good.ids) (fun p hp => ?_) ?_ (fun p hp => ?_) (fun p hp hlt => by
      rcases hmem p hp with hp | rfl
      · exact h.hdr p hp hlt
      · exact h.hdr (id, o) (find?_key ho) hlt)
    · exact hno (b, x, c * o.n, valR o.rows) (p0.mem_iff.2 (by simp)) he.symm
    · rcases hmem p hp with hp | rfl
      · exact h.good.obs p hp
      · have := (h.good.obs _ (find?_key ho)).1
        refine ⟨?_, hrow⟩
        rcases this with ⟨h0, _⟩ | ⟨b2, x2, c2, e1, e2, e3⟩
        · rw [hhd] at h0; cases h0
        · exact .inr ⟨b2, x2, c2, e1, by simpa [hlen] using e2, by simpa [hlen] using e3⟩
    · have hp := p1.mem_iff.1 hp
      rcases List.mem_cons.1 hp with rfl | hp
      · exact ⟨hof, .inl ⟨_, p0.mem_iff.2 (List.mem_cons_self ..), rfl⟩⟩
      · have hp0 := hrest.subset hp
        have hd : p ∈ ownS d := p0.mem_iff.2 (List.mem_cons_of_mem _ hp0)
        refine ⟨(h.good.own p hd).same (hfr _ fun he => ?_), .inl ⟨p, hd, rfl⟩⟩
        rw [List.map_cons, List.nodup_cons] at hnd0
        exact hnd0.1 (List.mem_map.2 ⟨p, hp0, he⟩)
    · rw [(p1.map (·.1)).nodup_iff]
      rw [List.map_cons, List.nodup_cons] at hnd0 ⊢
      exact ⟨fun hm => hnd0.1 ((hrest.map _).subset hm), hnd0.2.sublist (hrest.map _)⟩
    · obtain ⟨l, hl, hp⟩ := List.mem_flatMap.1 hp
      exact (htop l hl).2.2.1 p hp
  · rintro i (⟨l, hl, hi⟩ | hi)
    · exact (htop l hl).2.2.2 i hi
    · right
      simpa only [hkeys] using hi

-- how an effect looks
theorem app_new {δ : Type} (s : S δ) (dst : Option Nat) (nid : Nat) (v : V δ) (o : Ob δ) : app s dst nid v [o] [] [] = setSl ⟨s.sl, s.ob ++ [(nid, o)], s.nx + 1⟩ dst v := by
  simp [app, updP_nil, List.filter_eq_self.2 (fun _ _ => rfl)]
theorem app_upd {δ : Type} (s : S δ) (dst : Option Nat) (nid : Nat) (v : V δ) (id : Nat) (rows : List (List (L δ))) : app s dst nid v [] [(id, rows)] [] = setSl ⟨s.sl, updOb s.ob id rows, s.nx⟩ dst v := by
  have e : (updP [(id, rows)] : Nat × Ob δ → _) = fun p => if p.1 = id then (p.1, ⟨p.2.h, p.2.n, rows⟩) else p := by
    funext p
    unfold updP
    by_cases h : p.1 = id
    · simp [h]
    · have : (p.1 == id) = false := by simpa using h
      simp [List.lookup, this, h]
  unfold app updOb
  rw [e]
  have e2 : s.ob.filter (fun p => !([] : List Nat).contains p.1) = s.ob := List.filter_eq_self.2 (fun _ _ => rfl)
  rw [e2]
  simp
theorem app_renew {δ : Type} (s : S δ) (dst : Option Nat) (nid : Nat) (v : V δ) (o : Ob δ) (id : Nat) : app s dst nid v [o] [] [id] = setSl ⟨s.sl, s.ob.filter (fun p => !(p.1 == id)) ++ [(nid, o)], s.nx + 1⟩ dst v := by
  have e : (fun p : Nat × Ob δ => !([id].contains p.1)) = fun p => !(p.1 == id) := by
    funext p
    by_cases h : p.1 = id <;> simp [h]
  simp only [app, e, updP_nil, List.map_id_fun, _root_.id, Nat.zero_add, List.zipIdx_cons, List.zipIdx_nil, List.map_cons, List.map_nil, List.length_cons, List.length_nil]
theorem er_ob_append (d : S Value) (k : Nat) (o : Ob Value) (n : Nat) : erS ⟨d.sl, d.ob ++ [(k, o)], n⟩ = ⟨(erS d).sl, (erS d).ob ++ [(k, erOb o)], n⟩ := by simp [erS, mapS]
theorem er_ob_renew (d : S Value) (f : Nat → Bool) (k : Nat) (o : Ob Value) (n : Nat) : erS ⟨d.sl, d.ob.filter (fun p => f p.1) ++ [(k, o)], n⟩ = ⟨(erS d).sl, (erS d).ob.filter (fun p => f p.1) ++ [(k, erOb o)], n⟩ := by
  simp [erS, mapS, List.filter_map, Function.comp_def]
theorem er_ob_upd (d : S Value) (id : Nat) (rows : List (List (L Value))) : erS ⟨d.sl, updOb d.ob id rows, d.nx⟩ = ⟨(erS d).sl, updOb (erS d).ob id (rows.map (fun r => r.map erL)), (erS d).nx⟩ := by
  simp only [erS, mapS, updOb, List.map_map]
  congr 1
  refine List.map_congr_left fun p _ => ?_
  simp only [Function.comp]
  by_cases h : p.1 = id <;> simp [h, mapOb]

/-- An operation that turned the objects and gave a value. -/
theorem done_ob {P : Program} {B : Bd} {o : Oper} {a : Act} {W W' : World} {d d1 : S Value} {nid : Nat} {e : Eff} (hi : Inv B W' d1) (hsl : d1.sl = d.sl) (hs : SlR d a) {r : Next} {x : Value}
    (hr : (execOp a.eval o).run P W = .ok r W') (hx : r = .value x ∨ (r = .skip ∧ x = undef)) {v : V Value} (hv : VR v x) (hno : noOsV v = true) (hh : ∀ l ∈ leavesV v, Has d1 l)
    (her : setSl (erS d1) o.dst (erV v) = appE (erS d) o.dst nid e) (hk : ∀ i, Knows d1 i → Knows d i ∨ (nid ≤ i ∧ i < nid + e.news.length)) (hp : e.hyp) : Done P B o a W d nid e :=
  ⟨hp, r, x, W', setSl d1 o.dst v, hr, hx, by rw [erS_setSl, her], hi.put (Keeps.refl _) o.dst hno (fun l hl => ⟨(hh l hl).1, (hh l hl).2.1⟩) (fun l hl => (hh l hl).2.2.1),
    SlR.put (d := d1) ⟨by rw [hsl]; exact hs.1, by rw [hsl]; exact hs.2⟩ o.dst hv, fun i hi => hk i (knows_put (fun l hl => (hh l hl).2.2.2) hi)⟩
def Fresh (B : Bd) (d : S Value) (nid n : Nat) : Prop := (∀ i, Knows d i → i < nid ∨ nid + n ≤ i) ∧ B.n0 ≤ nid

-- stores
def stF (P : Program) (t : TypeId) (lk : Lk) (l : Option (L Unit)) (u : Option (U Unit)) : Option Eff :=
  (tiOf P t).bind fun i => match l, u with
    | some (.ptr _ id e j), some u => (lk id).bind fun o => (o.rows[e]?).bind fun r =>
        if noOsU u then if (leavesU u).length = i.size then if j + i.size ≤ r.length then some { v := .ud, rd := [id], upd := [(id, o.rows.set e (putC r j (leavesU u)))] } else none else none else none
    | _, _ => none
theorem mem_set_rows {α : Type} {rows : List (List α)} {e : Nat} {r' : List α} {r : List α} (h : r ∈ rows.set e r') : r ∈ rows ∨ r = r' := List.mem_or_eq_of_mem_set h
theorem flatten_set_own {rows : List (List (L Value))} {e : Nat} {r r' : List (L Value)} (hr : rows[e]? = some r) (h : (r'.flatMap ownL).Sublist (r.flatMap ownL)) : (ownR (rows.set e r')).Sublist (ownR rows) := by
  simp only [ownR_eq]
  induction rows generalizing e with
  | nil => simp at hr
  | cons q qs ih =>
    cases e with
    | zero =>
      simp only [List.getElem?_cons_zero, Option.some.injEq] at hr
      subst hr
      simp only [List.set_cons_zero, List.flatten_cons, List.flatMap_append]
      exact h.append (List.Sublist.refl _)
    | succ e =>
      simp only [List.getElem?_cons_succ] at hr
      simp only [List.set_cons_succ, List.flatten_cons, List.flatMap_append]
      exact (List.Sublist.refl _).append (ih hr)
theorem putC_own {r ls : List (L Value)} {j : Nat} (h : ∀ l ∈ ls, noOs l = true) : ((putC r j ls).flatMap ownL).Sublist (r.flatMap ownL) := by
  have e : ls.flatMap ownL = [] := List.flatMap_eq_nil_iff.2 fun l hl => ownL_noOs (h l hl)
  simp only [putC, List.flatMap_append, e, List.append_nil]
  have h1 : ((r.drop (j + ls.length)).flatMap ownL).Sublist ((r.drop j).flatMap ownL) := by
    rw [← List.drop_drop]
    exact sub_flatMap (List.drop_sublist _ _) _
  have := (List.Sublist.refl ((r.take j).flatMap ownL)).append h1
  rwa [← List.flatMap_append (xs := r.take j) (ys := r.drop j), List.take_append_drop] at this
theorem valR_set {n : Nat} {rows : List (List (L Value))} (hl : ∀ r ∈ rows, r.length = n) {e : Nat} {r r' : List (L Value)} (hr : rows[e]? = some r) (hr' : r'.length = n) :
    valR (rows.set e r') = (valR rows).take (e * n) ++ r'.map val ++ (valR rows).drop (e * n + n) := by
  unfold valR
  induction rows generalizing e with
  | nil => simp at hr
  | cons q qs ih =>
    have hq : q.length = n := hl q (by simp)
    cases e with
    | zero =>
      simp only [List.set_cons_zero, List.flatten_cons, List.map_append, Nat.zero_mul, List.take_zero, List.nil_append, Nat.zero_add]
      congr 1
      rw [List.drop_append_of_le_length (by simp [hq]), List.drop_eq_nil_of_le (by simp [hq]), List.nil_append]
    | succ e =>
      simp only [List.getElem?_cons_succ] at hr
      have := ih (fun r hr => hl r (List.mem_cons_of_mem _ hr)) hr
      simp only [List.set_cons_succ, List.flatten_cons, List.map_append, this, List.append_assoc]
      have e1 : (e + 1) * n = (q.map val).length + e * n := by rw [List.length_map, hq, Nat.add_mul]; omega
      rw [e1, List.take_length_add_append, Nat.add_assoc, List.drop_length_add_append]
      simp
theorem valR_len {n : Nat} : ∀ {rows : List (List (L Value))}, (∀ r ∈ rows, r.length = n) → (valR rows).length = rows.length * n
  | [], _ => by simp [valR]
  | q :: qs, hl => by
    have := valR_len (fun r hr => hl r (List.mem_cons_of_mem _ hr))
    simp only [valR, List.flatten_cons, List.map_append, List.length_append, List.length_map, List.length_cons, Nat.add_mul] at this ⊢
    rw [this, hl q (by simp)]
    omega
theorem run_storeVar' {P : Program} {W : World} {t : TypeId} {i : TI} (ht : tiOf P t = some i) {b o : Nat} {cur : Array Value} {ty : TypeId} (hb : W.heap[b]? = some (.cells cur ty (0, 0))) {u : U Value} {x : Value}
    (hx : UR u x) (hw : ∀ l ∈ leavesU u, wfL false l) (hl : (leavesU u).length = i.size) (hle : o + i.size ≤ cur.size) :
    (Instr.storeAt t (.pointer (some ⟨b, o, none⟩)) x).run P W = .ok () (W.setRow b (putC cur.toList o ((leavesU u).map val)).toArray) := by
  obtain ⟨info, d, z, hi, hu, _, _, _, _, hsz, _⟩ := tiOf_spec ht
  have hc := cells_u hx hw
  have hsize : (sizeOf t).run P W = .ok i.size W := by simp [sizeOf, typeInfo, hi, hsz]
  have := run_storeCells_at P b o ty ((leavesU u).map val) 0 cur W hb (by simp [hl]; omega) (fun v hv => by
    obtain ⟨l, hl, rfl⟩ := List.mem_map.1 hv
    exact (one_val (hw l hl)).1)
  simp only [Nat.add_zero] at this
  simp only [Instr.storeAt, Instr.sureAddr, Sem.run_bind, Sem.run_pure, Result.andThen_ok, storeVar, hsize, hc]
  rw [if_neg (by simp [hl])]
  simp only [this, putC]
theorem st_ok {P : Program} {B : Bd} {o : Oper} {a : Act} {W : World} {d : S Value} {nid : Nat} {e : Eff} (hi : Inv B W d) (hs : SlR d a) {t : TypeId} {x y : Operand} (ho : o.op = .store t x y)
    (he : stF P t (look (erS d).ob) (lO (evA (erS d) x)) (uO (evA (erS d) y)) = some e) : Done P B o a W d nid e := by
  unfold stF at he
  obtain ⟨i, ht, he⟩ := bind_some he
  split at he
  · rename_i v id e' j u hx hy
    obtain ⟨ob, hob, he⟩ := bind_some he
    obtain ⟨r, hr, he⟩ := bind_some he
    split at he
    · rename_i hno
      split at he
      · rename_i hlen
        split at he
        · rename_i hle
          cases he
          obtain ⟨l', h1, h2, h3⟩ := leaf_ok hi.good hs hx
          obtain ⟨v', rfl⟩ := er_ptr h1
          obtain ⟨u', g1, g2, g3⟩ := u_ok hi.good hs hy
          subst g1
          rw [noOsU_er] at hno
          rw [leavesU_map, List.length_map] at hlen
          obtain ⟨ob', ho', rfl⟩ := look_lift hob
          obtain ⟨b, q, c0, hh, hv⟩ := h3.2.1 ob' ho'
          obtain ⟨r', hr', rfl⟩ := rows_er hr
          rw [List.length_map] at hle
          have hobs : _ ∧ ∀ r ∈ ob'.rows, r.length = ob'.n := hi.good.obs _ (find?_key ho')
          have hown : (b, q, c0 * ob'.n, valR ob'.rows) ∈ ownS d := by
            simp only [ownS, List.mem_append]
            left
            exact List.mem_flatMap.2 ⟨(id, ob'), find?_key ho', by simp [hdrOwn, hh]⟩
          obtain ⟨arr, ty, hb, hs1, hs2, hs3⟩ := hi.good.own _ hown
          have hrn : r'.length = ob'.n := hobs.2 _ (List.mem_of_getElem? hr')
          have hlt : e' < ob'.rows.length := (List.getElem?_eq_some_iff.1 hr').1
          have hflat : (valR ob'.rows).length = ob'.rows.length * ob'.n := valR_len hobs.2
          have hrow' : (putC r' j (leavesU u')).length = ob'.n := by rw [putC_length (by omega), hrn]
          have he1 : (e' + 1) * ob'.n ≤ ob'.rows.length * ob'.n := Nat.mul_le_mul_right _ hlt
          rw [Nat.add_mul, Nat.one_mul] at he1
          simp only at hs1 hs2 hs3
          have hfit : q + (e' * ob'.n + j) + i.size ≤ arr.size := by omega
          have hnoL : ∀ l ∈ leavesU u', noOs l = true := by simpa [noOsU, List.all_eq_true] using hno
          have hrun := run_storeVar' (W := W) ht (o := q + (e' * ob'.n + j)) hb g2 (fun l hl => (g3 l hl).1) hlen hfit
          have hupd := hi.upd (W' := W.setRow b (putC arr.toList (q + (e' * ob'.n + j)) ((leavesU u').map val)).toArray) ho' (rows := ob'.rows.set e' (putC r' j (leavesU u')))
            (fun r hr => by
              rcases mem_set_rows hr with hr | rfl
              · exact hobs.2 r hr
              · exact hrow') (by simp)
            (fun r hr l hl => by
              rcases mem_set_rows hr with hr | rfl
              · exact has_ob hi.good ho' hr hl
              · rcases mem_putC hl with hl | hl
                · exact has_ob hi.good ho' (List.mem_of_getElem? hr') hl
                · exact g3 l hl)
            (flatten_set_own hr' (putC_own hnoL)) hh (by simp) ⟨rfl, rfl, rfl⟩ (fun b' hb' => setRow_heap' b' hb') (by
              refine ⟨(putC arr.toList (q + (e' * ob'.n + j)) ((leavesU u').map val)).toArray, ty, setRow_heap W b arr _ ty (0, 0) hb, ?_, ?_, ?_⟩
              · rw [List.size_toArray, putC_length (by simp; omega)]
                simpa using hs1
              · simp only
                rw [valR_len (n := ob'.n) (fun r hr => by
                  rcases mem_set_rows hr with hr | rfl
                  · exact hobs.2 r hr
                  · exact hrow'), List.length_set, ← hflat]
                exact hs2
              · intro k v hk
                simp only [List.getElem?_toArray]
                rw [putC_get (by simp; omega)]
                rw [valR_set hobs.2 hr' hrow', putC_map] at hk
                simp only [List.length_map]
                have hk2 : putC (valR ob'.rows) (e' * ob'.n) (putC (r'.map val) j ((leavesU u').map val)) = (valR ob'.rows).take (e' * ob'.n) ++ putC (r'.map val) j ((leavesU u').map val) ++ (valR ob'.rows).drop (e' * ob'.n + ob'.n) := by
                  unfold putC
                  simp [hrn]
                  omega
                have hl2 : (putC (r'.map val) j ((leavesU u').map val)).length = ob'.n := by rw [putC_length (by simp; omega)]; simp [hrn]
                rw [← hk2, putC_get (by rw [hl2, hflat]; omega), hl2] at hk
                by_cases hin : e' * ob'.n ≤ k ∧ k < e' * ob'.n + ob'.n
                · rw [if_pos hin, putC_get (by simp; omega)] at hk
                  simp only [List.length_map] at hk
                  by_cases hin2 : j ≤ k - e' * ob'.n ∧ k - e' * ob'.n < j + (leavesU u').length
                  · rw [if_pos hin2] at hk
                    rw [if_pos (by omega)]
                    rw [← hk]
                    congr 1
                    omega
                  · rw [if_neg hin2] at hk
                    rw [if_neg (by omega)]
                    rw [Array.getElem?_toList]
                    refine hs3 k v ?_
                    rw [List.getElem?_map, Option.map_eq_some_iff] at hk
                    obtain ⟨l, hl, rfl⟩ := hk
                    have := valR_get hobs.2 hr' hl
                    rw [← this]
                    congr 1
                    omega
                · rw [if_neg hin] at hk
                  rw [if_neg (by omega), Array.getElem?_toList]
                  exact hs3 k v hk)
          refine done_ob (v := .ud) (x := undef) (r := .skip) hupd.1 rfl hs ?_ (.inr ⟨rfl, rfl⟩) rfl rfl (by simp [leavesV]) ?_ (fun i hk => .inl (hupd.2 i hk)) trivial
          · simp only [execOp, ho, h2, val, hv]
            rw [Sem.run_bind, hrun]
            rfl
          · rw [appE, app_upd, er_ob_upd]
            simp [erV, mapV, List.map_set, putC_map, leavesU_map, erOb, mapOb]
        · cases he
      · cases he
    · cases he
  · cases he
end Go.Proofs.Ytmckcjoacfekcaa.AM
