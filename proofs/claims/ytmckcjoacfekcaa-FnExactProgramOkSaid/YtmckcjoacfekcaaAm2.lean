import Derived.Test.YtmckcjoacfekcaaAm1
/-! The calculus, second part: what holds of a state under the world's steps; a slot is set; operands. -/
namespace Go.Proofs.Ytmckcjoacfekcaa.AM
open Go

theorem find?_key {δ : Type} {ob : List (Nat × Ob δ)} {id : Nat} {o : Ob δ} (h : look ob id = some o) : (id, o) ∈ ob := by
  unfold look at h
  rw [Option.map_eq_some_iff] at h
  obtain ⟨p, hp, rfl⟩ := h
  have := List.find?_some hp
  have hm := List.mem_of_find?_eq_some hp
  simp at this
  rw [← this]
  exact hm
theorem look_mem {δ : Type} {ob : List (Nat × Ob δ)} (hn : (ob.map (·.1)).Nodup) {id : Nat} {o : Ob δ} (h : (id, o) ∈ ob) : look ob id = some o := by
  induction ob with
  | nil => cases h
  | cons p ps ih =>
    simp only [List.map_cons, List.nodup_cons] at hn
    unfold look
    rw [List.find?_cons]
    rcases List.mem_cons.1 h with rfl | h
    · simp
    · have : p.1 ≠ id := by
        rintro rfl
        exact hn.1 (List.mem_map.2 ⟨_, h, rfl⟩)
      have h2 : (p.1 == id) = false := by simpa using this
      rw [h2]
      exact ih hn.2 h

theorem mem_obLeaves {δ : Type} {ob : List (Nat × Ob δ)} {l : L δ} : l ∈ obLeaves ob ↔ ∃ p ∈ ob, ∃ r ∈ p.2.rows, l ∈ r := by
  simp only [obLeaves, List.mem_flatMap, List.mem_flatten]
theorem mem_tops {δ : Type} {s : S δ} {l : L δ} : l ∈ tops s ↔ (∃ v ∈ s.sl, l ∈ leavesV v) ∨ l ∈ obLeaves s.ob := by
  simp only [tops, List.mem_append, List.mem_flatMap]

theorem OwnFact.lt {W : World} {p : OwnE} (h : OwnFact W p) : p.1 < W.heap.size := by
  obtain ⟨arr, ty, hb, _⟩ := h
  exact (Array.getElem?_eq_some_iff.1 hb).1
theorem OwnFact.same {W W' : World} {p : OwnE} (h : OwnFact W p) (hb : W'.heap[p.1]? = W.heap[p.1]?) : OwnFact W' p := by
  obtain ⟨arr, ty, h1, h2⟩ := h
  exact ⟨arr, ty, by rw [hb]; exact h1, h2⟩
theorem ImmFact.same {W W' : World} {p : Addr × List Value} (h : ImmFact W p) (hb : W'.heap[p.1.block]? = W.heap[p.1.block]?) : ImmFact W' p := by
  intro j v hj
  have := h j v hj
  simp only [World.cell?] at this ⊢
  rw [hb]
  exact this
theorem ImmFact.lt {W : World} {p : Addr × List Value} (h : ImmFact W p) (hne : p.2 ≠ []) : p.1.block < W.heap.size := by
  obtain ⟨v, vs, hv⟩ := List.exists_cons_of_ne_nil hne
  have := h 0 v (by rw [hv]; rfl)
  simp only [World.cell?] at this
  cases hb : W.heap[p.1.block]? with
  | none => rw [hb] at this; cases this
  | some o => exact (Array.getElem?_eq_some_iff.1 hb).1

/-- The world's blocks stay as they are; there may be more of them. -/
def Same (W W' : World) : Prop := W'.os = W.os ∧ W'.tape = W.tape ∧ W'.output = W.output
theorem Same.refl (W : World) : Same W W := ⟨rfl, rfl, rfl⟩
theorem Same.trans {W W' W'' : World} (h : Same W W') (h' : Same W' W'') : Same W W'' := ⟨h'.1.trans h.1, h'.2.1.trans h.2.1, h'.2.2.trans h.2.2⟩
structure Keeps (W W' : World) : Prop where
  size : W.heap.size ≤ W'.heap.size
  block : ∀ b, b < W.heap.size → W'.heap[b]? = W.heap[b]?
  st : Same W W'
theorem Keeps.refl (W : World) : Keeps W W := ⟨Nat.le_refl _, fun _ _ => rfl, Same.refl W⟩
theorem Keeps.trans {W W' W'' : World} (h : Keeps W W') (h' : Keeps W' W'') : Keeps W W'' :=
  ⟨Nat.le_trans h.1 h'.1, fun b hb => (h'.2 b (Nat.lt_of_lt_of_le hb h.1)).trans (h.2 b hb), h.3.trans h'.3⟩
theorem keeps_alloc (W : World) (o : Obj) : Keeps W (W.alloc o) := by
  refine ⟨?_, fun b hb => ?_, rfl, rfl, rfl⟩
  · show W.heap.size ≤ (W.heap.push o).size
    rw [Array.size_push]
    omega
  · show (W.heap.push o)[b]? = _
    rw [Array.getElem?_push_lt hb, Array.getElem?_eq_getElem hb]
theorem keeps_of_heap {W W' : World} (h : W'.heap = W.heap) (hs : Same W W' := by exact ⟨rfl, rfl, rfl⟩) : Keeps W W' := ⟨by rw [h]; exact Nat.le_refl _, fun b _ => by rw [h], hs⟩

theorem Good.keeps {W W' : World} {d : S Value} (h : Good W d) (hk : Keeps W W') : Good W' d where
  wf := h.wf
  obs := h.obs
  ids := h.ids
  own := fun p hp => (h.own p hp).same (hk.2 _ (h.own p hp).lt)
  nodup := h.nodup
  imm := fun p hp hne => by
    obtain ⟨h1, h2⟩ := h.imm p hp hne
    exact ⟨h1.same (hk.2 _ (h1.lt hne)), h2⟩

/-- A piece of what lies in memory. -/
def Sub (p q : Addr × List Value) : Prop := p.1.block = q.1.block ∧ ∃ k, p.1.off = q.1.off + k ∧ ∀ (j : Nat) v, p.2[j]? = some v → q.2[k + j]? = some v
theorem Sub.refl (p : Addr × List Value) : Sub p p := ⟨rfl, 0, rfl, fun j v h => by rwa [Nat.zero_add]⟩
theorem Sub.trans {p q r : Addr × List Value} (h : Sub p q) (h' : Sub q r) : Sub p r := by
  obtain ⟨h1, k, h2, h3⟩ := h
  obtain ⟨g1, m, g2, g3⟩ := h'
  refine ⟨h1.trans g1, m + k, by omega, fun j v hj => ?_⟩
  have := g3 _ _ (h3 _ _ hj)
  rwa [← Nat.add_assoc] at this
theorem Sub.ne {p q : Addr × List Value} (h : Sub p q) (hp : p.2 ≠ []) : q.2 ≠ [] := by
  obtain ⟨v, vs, hv⟩ := List.exists_cons_of_ne_nil hp
  obtain ⟨_, k, _, h3⟩ := h
  have := h3 0 v (by rw [hv]; rfl)
  rintro h0
  rw [h0] at this
  cases this
theorem Sub.fact {W : World} {p q : Addr × List Value} (h : Sub p q) (hq : ImmFact W q) : ImmFact W p := by
  obtain ⟨h1, k, h2, h3⟩ := h
  intro j v hj
  have := hq _ _ (h3 j v hj)
  rw [h1, h2, Nat.add_assoc]
  exact this
def SubIn (p : Addr × List Value) (l : List (Addr × List Value)) : Prop := p.2 = [] ∨ ∃ q ∈ l, Sub p q
theorem SubIn.of_mem {p : Addr × List Value} {l : List (Addr × List Value)} (h : p ∈ l) : SubIn p l := .inr ⟨p, h, Sub.refl p⟩
/-- A state out of another one's parts. -/
theorem Good.part {W : World} {d d' : S Value} (h : Good W d) (hob : d'.ob = d.ob) (hwf : ∀ l ∈ tops d', wfL false l ∧ refOk d.ob l)
    (ho : (ownS d').Sublist (ownS d)) (hi : ∀ p ∈ immS d', SubIn p (immS d)) : Good W d' where
  wf := fun l hl => by rw [hob]; exact hwf l hl
  obs := by rw [hob]; exact h.obs
  ids := by rw [hob]; exact h.ids
  own := fun p hp => h.own p (ho.subset hp)
  nodup := h.nodup.sublist (ho.map _)
  imm := fun p hp hne => by
    rcases hi p hp with h0 | ⟨q, hq, hs⟩
    · exact absurd h0 hne
    · obtain ⟨h1, h2⟩ := h.imm q hq (hs.ne hne)
      exact ⟨hs.fact h1, fun r hr => by rw [hs.1]; exact h2 r (ho.subset hr)⟩

theorem flatMap_set_sublist {α β : Type} (f : α → List β) (v : α) (hv : f v = []) : ∀ (l : List α) (i : Nat), ((l.set i v).flatMap f).Sublist (l.flatMap f)
  | [], _ => by simp
  | x :: xs, 0 => by simp [hv]
  | x :: xs, i + 1 => by simpa using (List.Sublist.refl (f x)).append (flatMap_set_sublist f v hv xs i)

def noOs {δ : Type} : L δ → Bool
  | .os _ _ _ => false
  | _ => true
theorem ownL_noOs {l : L Value} (h : noOs l = true) : ownL l = [] := by
  cases l <;> simp_all [noOs, ownL]
def noOsV {δ : Type} (v : V δ) : Bool := (leavesV v).all noOs
theorem ownV_noOs {v : V Value} (h : noOsV v = true) : (leavesV v).flatMap ownL = [] := by
  unfold noOsV at h
  rw [List.all_eq_true] at h
  simp only [List.flatMap_eq_nil_iff]
  exact fun l hl => ownL_noOs (h l hl)
theorem noOs_er (l : L Value) : noOs (erL l) = noOs l := by cases l <;> rfl
theorem leavesU_map {δ ε : Type} (g : δ → ε) (x : U δ) : leavesU (mapU g x) = (leavesU x).map (mapL g) := by cases x <;> simp [leavesU, mapU]
theorem leavesV_map {δ ε : Type} (g : δ → ε) (v : V δ) : leavesV (mapV g v) = (leavesV v).map (mapL g) := by
  cases v with
  | u x => exact leavesU_map g x
  | tup xs => simp [leavesV, mapV, List.map_flatMap, List.flatMap_map, leavesU_map]
  | un => rfl
  | ud => rfl
theorem noOsV_er (v : V Value) : noOsV (erV v) = noOsV v := by
  simp only [noOsV, leavesV_map, List.all_map]
  congr 1
  funext l
  exact noOs_er l

def setSl {δ : Type} (s : S δ) (dst : Option Nat) (v : V δ) : S δ := match dst with | some i => { s with sl := s.sl.set i v } | none => s
theorem setSl_ob {δ : Type} (s : S δ) (dst : Option Nat) (v : V δ) : (setSl s dst v).ob = s.ob := by cases dst <;> rfl
theorem setSl_nx {δ : Type} (s : S δ) (dst : Option Nat) (v : V δ) : (setSl s dst v).nx = s.nx := by cases dst <;> rfl
theorem erS_setSl (d : S Value) (dst : Option Nat) (v : V Value) : erS (setSl d dst v) = setSl (erS d) dst (erV v) := by
  cases dst with
  | none => rfl
  | some i => simp [setSl, erS, mapS, List.map_set]

/-- A slot gets a value without rows of its own inline, whose leaves are told. -/
theorem Good.put {W : World} {d : S Value} (h : Good W d) (dst : Option Nat) {v : V Value} (hno : noOsV v = true) (hwf : ∀ l ∈ leavesV v, wfL false l ∧ refOk d.ob l)
    (hi : ∀ l ∈ leavesV v, ∀ p ∈ immL l, SubIn p (immS d)) : Good W (setSl d dst v) := by
  cases dst with
  | none => exact h
  | some i =>
    refine h.part rfl (fun l hl => ?_) ?_ (fun p hp => ?_)
    · rcases mem_tops.1 hl with ⟨u, hu, hl2⟩ | hl
      · rcases List.mem_or_eq_of_mem_set hu with hu | rfl
        · exact h.wf l (mem_tops.2 (.inl ⟨u, hu, hl2⟩))
        · exact hwf l hl2
      · exact h.wf l (mem_tops.2 (.inr hl))
    · simp only [ownS, setSl, tops, List.flatMap_append]
      refine (List.Sublist.refl _).append (List.Sublist.append ?_ (List.Sublist.refl _))
      rw [List.flatMap_assoc, List.flatMap_assoc]
      exact flatMap_set_sublist (fun x => List.flatMap ownL (leavesV x)) _ (ownV_noOs hno) _ _
    · obtain ⟨l, hl, hp2⟩ := List.mem_flatMap.1 hp
      rcases mem_tops.1 hl with ⟨u, hu, hl2⟩ | hl
      · rcases List.mem_or_eq_of_mem_set hu with hu | rfl
        · exact .of_mem (List.mem_flatMap.2 ⟨l, mem_tops.2 (.inl ⟨u, hu, hl2⟩), hp2⟩)
        · exact hi l hl2 p hp2
      · exact .of_mem (List.mem_flatMap.2 ⟨l, mem_tops.2 (.inr hl), hp2⟩)

/-- Where a call began: the world, the blocks that it was handed to write, and those that it was handed to read. -/
structure Bd where
  W0 : World
  M0 : Nat → Prop
  I0 : Nat → Prop
  n0 : Nat
  H0 : Nat → Value
structure Fr (W W' : World) (M : Nat → Prop) : Prop where
  size : W.heap.size ≤ W'.heap.size
  block : ∀ b, b < W.heap.size → ¬ M b → W'.heap[b]? = W.heap[b]?
  st : Same W W'
theorem Fr.keeps {W W' W'' : World} {M : Nat → Prop} (h : Fr W W' M) (hk : Keeps W' W'') : Fr W W'' M :=
  ⟨Nat.le_trans h.1 hk.1, fun b hb hm => (hk.2 b (Nat.lt_of_lt_of_le hb h.1)).trans (h.2 b hb hm), h.3.trans hk.3⟩
structure Inv (B : Bd) (W : World) (d : S Value) : Prop where
  good : Good W d
  fr : Fr B.W0 W B.M0
  mine : ∀ p ∈ ownS d, B.M0 p.1 ∨ B.W0.heap.size ≤ p.1
  seen : ∀ p ∈ immS d, p.2 ≠ [] → B.I0 p.1.block ∨ B.M0 p.1.block ∨ B.W0.heap.size ≤ p.1.block
  hdr : ∀ p ∈ d.ob, p.1 < B.n0 → p.2.h = B.H0 p.1
def SlR (d : S Value) (a : Act) : Prop := a.tmps.size = d.sl.length ∧ ∀ (i : Nat) v, d.sl[i]? = some v → VR v (a.tmps.getD i undef)
def Rel (B : Bd) (s : S Unit) (a : Act) (W : World) : Prop := ∃ d, erS d = s ∧ Inv B W d ∧ SlR d a ∧ a.defers = [] ∧ (∀ i, Knows d i → i < d.nx) ∧ B.n0 ≤ d.nx

theorem SlR.put {d : S Value} {a : Act} (h : SlR d a) (dst : Option Nat) {v : V Value} {x : Value} (hv : VR v x) : SlR (setSl d dst v) (a.put dst x) := by
  cases dst with
  | none => exact h
  | some i =>
    refine ⟨by simp [Act.put, setSl, h.1], fun j u hu => ?_⟩
    simp only [setSl] at hu
    rw [List.getElem?_set] at hu
    simp only [Act.put]
    by_cases hij : i = j
    · subst hij
      rw [if_pos rfl] at hu
      by_cases hlt : i < d.sl.length
      · rw [if_pos hlt] at hu
        cases hu
        rw [Array.getD_eq_getD_getElem?, Array.getElem?_setIfInBounds_self_of_lt (by rw [h.1]; exact hlt)]
        exact hv
      · rw [if_neg hlt] at hu; cases hu
    · rw [if_neg hij] at hu
      rw [Array.getD_eq_getD_getElem?, Array.getElem?_setIfInBounds_ne hij, ← Array.getD_eq_getD_getElem?]
      exact h.2 j u hu
theorem put_defers' (a : Act) (dst : Option Nat) (x : Value) : (a.put dst x).defers = a.defers := by cases dst <;> rfl

theorem Inv.put {B : Bd} {W W' : World} {d : S Value} (h : Inv B W d) (hk : Keeps W W') (dst : Option Nat) {v : V Value} (hno : noOsV v = true) (hwf : ∀ l ∈ leavesV v, wfL false l ∧ refOk d.ob l)
    (hi : ∀ l ∈ leavesV v, ∀ p ∈ immL l, SubIn p (immS d)) : Inv B W' (setSl d dst v) where
  good := (h.good.keeps hk).put dst hno hwf hi
  fr := h.fr.keeps hk
  mine := fun p hp => by
    refine h.mine p ?_
    cases dst with
    | none => exact hp
    | some i =>
      have : (ownS (setSl d (some i) v)).Sublist (ownS d) := by
        simp only [ownS, setSl, tops, List.flatMap_append]
        refine (List.Sublist.refl _).append (List.Sublist.append ?_ (List.Sublist.refl _))
        rw [List.flatMap_assoc, List.flatMap_assoc]
        exact flatMap_set_sublist (fun x => List.flatMap ownL (leavesV x)) _ (ownV_noOs hno) _ _
      exact this.subset hp
  seen := fun p hp hne => by
    have key : SubIn p (immS d) := by
      cases dst with
      | none => exact .of_mem hp
      | some i =>
        obtain ⟨l, hl, hp2⟩ := List.mem_flatMap.1 hp
        rcases mem_tops.1 hl with ⟨u, hu, hl2⟩ | hl
        · rcases List.mem_or_eq_of_mem_set hu with hu | rfl
          · exact .of_mem (List.mem_flatMap.2 ⟨l, mem_tops.2 (.inl ⟨u, hu, hl2⟩), hp2⟩)
          · exact hi l hl2 p hp2
        · exact .of_mem (List.mem_flatMap.2 ⟨l, mem_tops.2 (.inr hl), hp2⟩)
    rcases key with h0 | ⟨q, hq, hs⟩
    · exact absurd h0 hne
    · rw [hs.1]; exact h.seen q hq (hs.ne hne)
  hdr := by rw [setSl_ob]; exact h.hdr
end Go.Proofs.Ytmckcjoacfekcaa.AM
