import Derived.Orders
import Derived.WalkKit
import Derived.Laws.CopyRow
import Derived.Laws.Small
import Derived.Great.BuildSlice
set_option linter.unusedVariables false
set_option linter.unusedSimpArgs false
namespace Go.Proofs.YtaocimmckbhhbaaGreat.AM
open Go
section
inductive L (δ : Type) : Type where
 | int (k : IntKind) (n : Int)
 | bool (b : Bool)
 | str (s : ByteArray)
 | nl
 | nilp
 | bs (v : δ) (n : Nat) (rows : List (List (L δ)))
 | os (v : δ) (n : Nat) (rows : List (List (L δ)))
 | ref (v : δ) (id off len : Nat)
 | ptr (v : δ) (id e j : Nat)
 | ip (v : δ) (cells : List (L δ))
 | fn (v : δ) (f : FuncId) (caps : List (L δ))
inductive U (δ : Type) : Type where
 | one (l : L δ)
 | agg (ls : List (L δ))
inductive V (δ : Type) : Type where
 | u (x : U δ)
 | tup (xs : List (U δ))
 | un
 | ud
structure Ob (δ : Type) where
 h : δ
 n : Nat
 rows : List (List (L δ))
structure S (δ : Type) where
 sl : List (V δ)
 ob : List (Nat × Ob δ)
 nx : Nat
section maps
variable {δ ε : Type}
mutual
def mapL (g : δ → ε) : L δ → L ε
 | .int k n => .int k n
 | .bool b => .bool b
 | .str s => .str s
 | .nl => .nl
 | .nilp => .nilp
 | .bs v n rows => .bs (g v) n (mapR g rows)
 | .os v n rows => .os (g v) n (mapR g rows)
 | .ref v id off len => .ref (g v) id off len
 | .ptr v id e j => .ptr (g v) id e j
 | .ip v cells => .ip (g v) (mapC g cells)
 | .fn v f caps => .fn (g v) f (mapC g caps)
def mapC (g : δ → ε) : List (L δ) → List (L ε)
 | [] => []
 | l :: ls => mapL g l :: mapC g ls
def mapR (g : δ → ε) : List (List (L δ)) → List (List (L ε))
 | [] => []
 | r :: rs => mapC g r :: mapR g rs
end
theorem Z7f (g : δ → ε) : ∀ ls : List (L δ), mapC g ls = ls.map (mapL g)
 | [] => rfl
 | l :: ls => by simp [mapC, Z7f g ls]
theorem Z1m (g : δ → ε) : ∀ rs : List (List (L δ)), mapR g rs = rs.map (fun r => r.map (mapL g))
 | [] => rfl
 | r :: rs => by simp [mapR, Z7f, Z1m g rs]
def mapU (g : δ → ε) : U δ → U ε
 | .one l => .one (mapL g l)
 | .agg ls => .agg (ls.map (mapL g))
def mapV (g : δ → ε) : V δ → V ε
 | .u x => .u (mapU g x)
 | .tup xs => .tup (xs.map (mapU g))
 | .un => .un
 | .ud => .ud
def Z3e (g : δ → ε) (o : Ob δ) : Ob ε := ⟨g o.h, o.n, o.rows.map (fun r => r.map (mapL g))⟩
def mapS (g : δ → ε) (s : S δ) : S ε := ⟨s.sl.map (mapV g), s.ob.map (fun p => (p.1, Z3e g p.2)), s.nx⟩
end maps
abbrev erL : L Value → L Unit := mapL (fun _ => ())
abbrev erU : U Value → U Unit := mapU (fun _ => ())
abbrev erV : V Value → V Unit := mapV (fun _ => ())
abbrev erOb : Ob Value → Ob Unit := Z3e (fun _ => ())
abbrev erS : S Value → S Unit := mapS (fun _ => ())
def val : L Value → Value
 | .int k n => .int k n
 | .bool b => .bool b
 | .str s => .string s
 | .nl => .slice none 0 0
 | .nilp => .pointer none
 | .bs v _ _ => v
 | .os v _ _ => v
 | .ref v _ _ _ => v
 | .ptr v _ _ _ => v
 | .ip v _ => v
 | .fn v _ _ => v
def valR (rows : List (List (L Value))) : List Value := rows.flatten.map val
abbrev OwnE := Nat × Nat × Nat × List Value
def Y7 (v : Value) (n : Nat) (rows : List (List (L Value))) : List OwnE :=
 match v with
 | .slice (some a) _ c => [(a.block, a.off, c * n, valR rows)]
 | _ => []
mutual
def ownL : L Value → List OwnE
 | .os v n rows => Y7 v n rows ++ ownR rows
 | _ => []
def ownC : List (L Value) → List OwnE
 | [] => []
 | l :: ls => ownL l ++ ownC ls
def ownR : List (List (L Value)) → List OwnE
 | [] => []
 | r :: rs => ownC r ++ ownR rs
end
theorem W2q : ∀ ls, ownC ls = ls.flatMap ownL
 | [] => rfl
 | l :: ls => by simp [ownC, W2q ls]
theorem Z0t : ∀ rs, ownR rs = rs.flatten.flatMap ownL
 | [] => rfl
 | r :: rs => by simp [ownR, Z0t rs, W2q, List.flatMap_append]
def Z2w (v : Value) (cells : List Value) : List (Addr × List Value) :=
 match v with
 | .slice (some a) _ _ => [(a, cells)]
 | .pointer (some a) => [(a, cells)]
 | _ => []
mutual
def immL : L Value → List (Addr × List Value)
 | .bs v _ rows => Z2w v (valR rows) ++ immR rows
 | .os _ _ rows => immR rows
 | .ip v cells => Z2w v (cells.map val) ++ immC cells
 | .fn _ _ caps => immC caps
 | _ => []
def immC : List (L Value) → List (Addr × List Value)
 | [] => []
 | l :: ls => immL l ++ immC ls
def immR : List (List (L Value)) → List (Addr × List Value)
 | [] => []
 | r :: rs => immC r ++ immR rs
end
theorem Z7z : ∀ ls, immC ls = ls.flatMap immL
 | [] => rfl
 | l :: ls => by simp [immC, Z7z ls]
theorem Z4r : ∀ rs, immR rs = rs.flatten.flatMap immL
 | [] => rfl
 | r :: rs => by simp [immR, Z4r rs, Z7z, List.flatMap_append]
def LIM : Nat := 140737488355328
def isSl (v : Value) (rows : List (List (L Value))) : Prop :=
 ∃ a c, v = .slice a rows.length c ∧ rows.length ≤ c ∧ rows.length ≤ LIM ∧ (rows ≠ [] → ∃ b o, a = some ⟨b, o, none⟩)
def X3p (v : Value) (rows : List (List (L Value))) : Prop :=
 (v = .slice none 0 0 ∧ rows = []) ∨ ∃ b o c, v = .slice (some ⟨b, o, none⟩) rows.length c ∧ rows.length ≤ c ∧ rows.length ≤ LIM
mutual
def wfL (nest : Bool) : L Value → Prop
 | .bs v n rows => isSl v rows ∧ (∀ r ∈ rows, r.length = n) ∧ wfR true rows
 | .os v n rows => X3p v rows ∧ (∀ r ∈ rows, r.length = n) ∧ wfR true rows
 | .ref v _ _ _ => nest = false ∧ ∃ a m c, v = .slice a m c
 | .ptr v _ _ _ => nest = false ∧ ∃ a, v = .pointer a
 | .ip v cells => nest = false ∧ (∃ b o, v = .pointer (some ⟨b, o, none⟩)) ∧ wfC true cells
 | .fn v f caps => nest = false ∧ v = .func (.func f) #[] (caps.map val).toArray ∧ wfC false caps
 | _ => True
def wfC (nest : Bool) : List (L Value) → Prop
 | [] => True
 | l :: ls => wfL nest l ∧ wfC nest ls
def wfR (nest : Bool) : List (List (L Value)) → Prop
 | [] => True
 | r :: rs => wfC nest r ∧ wfR nest rs
end
theorem Z8n (nest : Bool) : ∀ ls, wfC nest ls ↔ ∀ l ∈ ls, wfL nest l
 | [] => by simp [wfC]
 | l :: ls => by simp [wfC, Z8n nest ls]
theorem Z5h (nest : Bool) : ∀ rs, wfR nest rs ↔ ∀ r ∈ rs, ∀ l ∈ r, wfL nest l
 | [] => by simp [wfR]
 | r :: rs => by simp [wfR, Z5h nest rs, Z8n]
def look {δ : Type} (ob : List (Nat × Ob δ)) (id : Nat) : Option (Ob δ) := (ob.find? (fun p => p.1 == id)).map (·.2)
mutual
def W7 (ob : List (Nat × Ob Value)) : L Value → Prop
 | .ref v id off len => ∀ o, look ob id = some o → off + len ≤ o.rows.length ∧ ((o.h = .slice none 0 0 ∧ v = .slice none 0 0) ∨
   ∃ b x c0, o.h = .slice (some ⟨b, x, none⟩) 0 c0 ∧ (v = .slice (some ⟨b, x + off * o.n, none⟩) len (c0 - off) ∨ ∃ y, v = .slice (some ⟨b, y, none⟩) 0 0 ∧ len = 0 ∧ 0 < off ∧ y ≤ x + c0 * o.n))
 | .ptr v id e j => ∀ o, look ob id = some o → ∃ b x c0, o.h = .slice (some ⟨b, x, none⟩) 0 c0 ∧ v = .pointer (some ⟨b, x + (e * o.n + j), none⟩)
 | .fn _ _ caps => Z3j ob caps
 | _ => True
def Z3j (ob : List (Nat × Ob Value)) : List (L Value) → Prop
 | [] => True
 | l :: ls => W7 ob l ∧ Z3j ob ls
end
theorem Z9h (ob) : ∀ ls, Z3j ob ls ↔ ∀ l ∈ ls, W7 ob l
 | [] => by simp [Z3j]
 | l :: ls => by simp [Z3j, Z9h ob ls]
def Z1 {δ : Type} : U δ → List (L δ)
 | .one l => [l]
 | .agg ls => ls
def Z3 {δ : Type} : V δ → List (L δ)
 | .u x => Z1 x
 | .tup xs => xs.flatMap Z1
 | .un => []
 | .ud => []
def X6 {δ : Type} (ob : List (Nat × Ob δ)) : List (L δ) := ob.flatMap (fun p => p.2.rows.flatten)
def tops {δ : Type} (s : S δ) : List (L δ) := s.sl.flatMap Z3 ++ X6 s.ob
def ownS (d : S Value) : List OwnE := d.ob.flatMap (fun p => Y7 p.2.h p.2.n p.2.rows) ++ (tops d).flatMap ownL
def immS (d : S Value) : List (Addr × List Value) := (tops d).flatMap immL
def OwnFact (W : World) (p : OwnE) : Prop :=
 ∃ arr ty, W.heap[p.1]? = some (.cells arr ty (0, 0)) ∧ p.2.1 + p.2.2.1 ≤ arr.size ∧ p.2.2.2.length ≤ p.2.2.1 ∧ ∀ (j : Nat) v, p.2.2.2[j]? = some v → arr[p.2.1 + j]? = some v
def ImmFact (W : World) (p : Addr × List Value) : Prop :=
 ∀ (j : Nat) v, p.2[j]? = some v → W.cell? ⟨p.1.block, p.1.off + j, none⟩ = some v
mutual
def idsL {δ : Type} : L δ → List Nat
 | .ref _ id _ _ => [id]
 | .ptr _ id _ _ => [id]
 | .fn _ _ caps => idsC caps
 | _ => []
def idsC {δ : Type} : List (L δ) → List Nat
 | [] => []
 | l :: ls => idsL l ++ idsC ls
end
theorem Y2w {δ : Type} : ∀ ls : List (L δ), idsC ls = ls.flatMap idsL
 | [] => rfl
 | l :: ls => by simp [idsC, Y2w ls]
def Z3h {δ : Type} (d : S δ) (i : Nat) : Prop := (∃ l ∈ tops d, i ∈ idsL l) ∨ i ∈ d.ob.map (·.1)
structure Good (W : World) (d : S Value) : Prop where
 wf : ∀ l ∈ tops d, wfL false l ∧ W7 d.ob l
 obs : ∀ p ∈ d.ob, ((p.2.h = .slice none 0 0 ∧ p.2.rows = []) ∨ ∃ b x c, p.2.h = .slice (some ⟨b, x, none⟩) 0 c ∧ p.2.rows.length ≤ c ∧ p.2.rows.length ≤ LIM) ∧ ∀ r ∈ p.2.rows, r.length = p.2.n
 ids : (d.ob.map (·.1)).Nodup
 own : ∀ p ∈ ownS d, OwnFact W p
 nodup : ((ownS d).map (·.1)).Nodup
 imm : ∀ p ∈ immS d, p.2 ≠ [] → ImmFact W p ∧ ∀ q ∈ ownS d, q.1 ≠ p.1.block
def UR : U Value → Value → Prop
 | .one l, x => x = val l
 | .agg ls, x => x = .agg (ls.map val).toArray
def VR : V Value → Value → Prop
 | .u x, v => UR x v
 | .tup xs, v => ∃ vs : List Value, v = .tuple vs.toArray ∧ vs.length = xs.length ∧ ∀ (i : Nat) x y, xs[i]? = some x → vs[i]? = some y → UR x y
 | .un, _ => True
 | .ud, v => v = undef
end
section
theorem find?_key {δ : Type} {ob : List (Nat × Ob δ)} {id : Nat} {o : Ob δ} (h : look ob id = some o) : (id, o) ∈ ob := by
 unfold look at h
 rw [Option.map_eq_some_iff] at h
 obtain ⟨p, hp, rfl⟩ := h
 have := List.find?_some hp
 have hm := List.mem_of_find?_eq_some hp
 simp at this
 rw [← this]
 exact hm
theorem J2 {δ : Type} {ob : List (Nat × Ob δ)} (hn : (ob.map (·.1)).Nodup) {id : Nat} {o : Ob δ} (h : (id, o) ∈ ob) : look ob id = some o := by
 induction ob with
 | nil => cases h
 | cons p ps ih =>
  simp only [List.map_cons, List.nodup_cons] at hn
  unfold look
  rw [List.find?_cons]
  rcases List.mem_cons.1 h with rfl | h
  ·simp
  ·have : p.1 ≠ id := by
    rintro rfl
    exact hn.1 (List.mem_map.2 ⟨_, h, rfl⟩)
   have h2 : (p.1 == id) = false := by simpa using this
   rw [h2]
   exact ih hn.2 h
theorem mem_obLeaves {δ : Type} {ob : List (Nat × Ob δ)} {l : L δ} : l ∈ X6 ob ↔ ∃ p ∈ ob, ∃ r ∈ p.2.rows, l ∈ r := by
 simp only [X6, List.mem_flatMap, List.mem_flatten]
theorem mem_tops {δ : Type} {s : S δ} {l : L δ} : l ∈ tops s ↔ (∃ v ∈ s.sl, l ∈ Z3 v) ∨ l ∈ X6 s.ob := by
 simp only [tops, List.mem_append, List.mem_flatMap]
theorem OwnFact.lt {W : World} {p : OwnE} (h : OwnFact W p) : p.1 < W.heap.size := by
 obtain ⟨arr, ty, hb, _⟩ := h
 exact (Array.getElem?_eq_some_iff.1 hb).1
theorem OwnFact.same {W W' : World} {p : OwnE} (h : OwnFact W p) (hb : W'.heap[p.1]? = W.heap[p.1]?) : OwnFact W' p := by
 obtain ⟨arr, ty, h1, h2⟩ := h
 exact ⟨arr, ty, by rw [hb]; exact h1, h2⟩
theorem ImmFact.same {W W' : World} {p : Addr × List Value} (h : ImmFact W p) (hb : W'.heap[p.1.block]? = W.heap[p.1.block]?) : ImmFact W' p := by
 intro j v hj
 have := h j v hj
 simp only [World.cell?] at this ⊢
 rw [hb]
 exact this
theorem ImmFact.lt {W : World} {p : Addr × List Value} (h : ImmFact W p) (hne : p.2 ≠ []) : p.1.block < W.heap.size := by
 obtain ⟨v, vs, hv⟩ := List.exists_cons_of_ne_nil hne
 have := h 0 v (by rw [hv]; rfl)
 simp only [World.cell?] at this
 cases hb : W.heap[p.1.block]? with
 | none => rw [hb] at this; cases this
 | some o => exact (Array.getElem?_eq_some_iff.1 hb).1
def Same (W W' : World) : Prop := W'.os = W.os ∧ W'.tape = W.tape ∧ W'.output = W.output
theorem Same.refl (W : World) : Same W W := ⟨rfl, rfl, rfl⟩
theorem Same.trans {W W' W'' : World} (h : Same W W') (h' : Same W' W'') : Same W W'' := ⟨h'.1.trans h.1, h'.2.1.trans h.2.1, h'.2.2.trans h.2.2⟩
structure Keeps (W W' : World) : Prop where
 size : W.heap.size ≤ W'.heap.size
 block : ∀ b, b < W.heap.size → W'.heap[b]? = W.heap[b]?
 st : Same W W'
theorem Keeps.refl (W : World) : Keeps W W := ⟨Nat.le_refl _, fun _ _ => rfl, Same.refl W⟩
theorem X3m {W W' : World} (h : W'.heap = W.heap) (hs : Same W W' := by exact ⟨rfl, rfl, rfl⟩) : Keeps W W' := ⟨by rw [h]; exact Nat.le_refl _, fun b _ => by rw [h], hs⟩
theorem Good.keeps {W W' : World} {d : S Value} (h : Good W d) (hk : Keeps W W') : Good W' d where
 wf := h.wf
 obs := h.obs
 ids := h.ids
 own := fun p hp => (h.own p hp).same (hk.2 _ (h.own p hp).lt)
 nodup := h.nodup
 imm := fun p hp hne => by
  obtain ⟨h1, h2⟩ := h.imm p hp hne
  exact ⟨h1.same (hk.2 _ (h1.lt hne)), h2⟩
def Sub (p q : Addr × List Value) : Prop := p.1.block = q.1.block ∧ ∃ k, p.1.off = q.1.off + k ∧ ∀ (j : Nat) v, p.2[j]? = some v → q.2[k + j]? = some v
theorem Sub.refl (p : Addr × List Value) : Sub p p := ⟨rfl, 0, rfl, fun j v h => by rwa [Nat.zero_add]⟩
theorem Sub.trans {p q r : Addr × List Value} (h : Sub p q) (h' : Sub q r) : Sub p r := by
 obtain ⟨h1, k, h2, h3⟩ := h
 obtain ⟨g1, m, g2, g3⟩ := h'
 refine ⟨h1.trans g1, m + k, by omega, fun j v hj => ?_⟩
 have := g3 _ _ (h3 _ _ hj)
 rwa [← Nat.add_assoc] at this
theorem Sub.ne {p q : Addr × List Value} (h : Sub p q) (hp : p.2 ≠ []) : q.2 ≠ [] := by
 obtain ⟨v, vs, hv⟩ := List.exists_cons_of_ne_nil hp
 obtain ⟨_, k, _, h3⟩ := h
 have := h3 0 v (by rw [hv]; rfl)
 rintro h0
 rw [h0] at this
 cases this
theorem Sub.fact {W : World} {p q : Addr × List Value} (h : Sub p q) (hq : ImmFact W q) : ImmFact W p := by
 obtain ⟨h1, k, h2, h3⟩ := h
 intro j v hj
 have := hq _ _ (h3 j v hj)
 rw [h1, h2, Nat.add_assoc]
 exact this
def SubIn (p : Addr × List Value) (l : List (Addr × List Value)) : Prop := p.2 = [] ∨ ∃ q ∈ l, Sub p q
theorem SubIn.of_mem {p : Addr × List Value} {l : List (Addr × List Value)} (h : p ∈ l) : SubIn p l := .inr ⟨p, h, Sub.refl p⟩
theorem Good.part {W : World} {d d' : S Value} (h : Good W d) (hob : d'.ob = d.ob) (hwf : ∀ l ∈ tops d', wfL false l ∧ W7 d.ob l)
  (ho : (ownS d').Sublist (ownS d)) (hi : ∀ p ∈ immS d', SubIn p (immS d)) : Good W d' where
 wf := fun l hl => by rw [hob]; exact hwf l hl
 obs := by rw [hob]; exact h.obs
 ids := by rw [hob]; exact h.ids
 own := fun p hp => h.own p (ho.subset hp)
 nodup := h.nodup.sublist (ho.map _)
 imm := fun p hp hne => by
  rcases hi p hp with h0 | ⟨q, hq, hs⟩
  ·exact absurd h0 hne
  ·obtain ⟨h1, h2⟩ := h.imm q hq (hs.ne hne)
   exact ⟨hs.fact h1, fun r hr => by rw [hs.1]; exact h2 r (ho.subset hr)⟩
theorem Z1h {α β : Type} (f : α → List β) (v : α) (hv : f v = []) : ∀ (l : List α) (i : Nat), ((l.set i v).flatMap f).Sublist (l.flatMap f)
 | [], _ => by simp
 | x :: xs, 0 => by simp [hv]
 | x :: xs, i + 1 => by simpa using (List.Sublist.refl (f x)).append (Z1h f v hv xs i)
def noOs {δ : Type} : L δ → Bool
 | .os _ _ _ => false
 | _ => true
theorem Z0m {l : L Value} (h : noOs l = true) : ownL l = [] := by
 cases l <;> simp_all [noOs, ownL]
def Y2s {δ : Type} (v : V δ) : Bool := (Z3 v).all noOs
theorem X5g {v : V Value} (h : Y2s v = true) : (Z3 v).flatMap ownL = [] := by
 unfold Y2s at h
 rw [List.all_eq_true] at h
 simp only [List.flatMap_eq_nil_iff]
 exact fun l hl => Z0m (h l hl)
theorem Z9p (l : L Value) : noOs (erL l) = noOs l := by cases l <;> rfl
theorem Q2 {δ ε : Type} (g : δ → ε) (x : U δ) : Z1 (mapU g x) = (Z1 x).map (mapL g) := by cases x <;> simp [Z1, mapU]
theorem Z9r {δ ε : Type} (g : δ → ε) (v : V δ) : Z3 (mapV g v) = (Z3 v).map (mapL g) := by
 cases v with
 | u x => exact Q2 g x
 | tup xs => simp [Z3, mapV, List.map_flatMap, List.flatMap_map, Q2]
 | un => rfl
 | ud => rfl
theorem Y4v (v : V Value) : Y2s (erV v) = Y2s v := by
 simp only [Y2s, Z9r, List.all_map]
 congr 1
 funext l
 exact Z9p l
def U1 {δ : Type} (s : S δ) (dst : Option Nat) (v : V δ) : S δ := match dst with | some i => { s with sl := s.sl.set i v } | none => s
theorem Z4y {δ : Type} (s : S δ) (dst : Option Nat) (v : V δ) : (U1 s dst v).ob = s.ob := by cases dst <;> rfl
theorem Y3c {δ : Type} (s : S δ) (dst : Option Nat) (v : V δ) : (U1 s dst v).nx = s.nx := by cases dst <;> rfl
theorem Y0x (d : S Value) (dst : Option Nat) (v : V Value) : erS (U1 d dst v) = U1 (erS d) dst (erV v) := by
 cases dst with
 | none => rfl
 | some i => simp [U1, erS, mapS, List.map_set]
theorem Good.put {W : World} {d : S Value} (h : Good W d) (dst : Option Nat) {v : V Value} (hno : Y2s v = true) (hwf : ∀ l ∈ Z3 v, wfL false l ∧ W7 d.ob l)
  (hi : ∀ l ∈ Z3 v, ∀ p ∈ immL l, SubIn p (immS d)) : Good W (U1 d dst v) := by
 cases dst with
 | none => exact h
 | some i =>
  refine h.part rfl (fun l hl => ?_) ?_ (fun p hp => ?_)
  ·rcases mem_tops.1 hl with ⟨u, hu, hl2⟩ | hl
   ·rcases List.mem_or_eq_of_mem_set hu with hu | rfl
    ·exact h.wf l (mem_tops.2 (.inl ⟨u, hu, hl2⟩))
    ·exact hwf l hl2
   ·exact h.wf l (mem_tops.2 (.inr hl))
  ·simp only [ownS, U1, tops, List.flatMap_append]
   refine (List.Sublist.refl _).append (List.Sublist.append ?_ (List.Sublist.refl _))
   rw [List.flatMap_assoc, List.flatMap_assoc]
   exact Z1h (fun x => List.flatMap ownL (Z3 x)) _ (X5g hno) _ _
  ·obtain ⟨l, hl, hp2⟩ := List.mem_flatMap.1 hp
   rcases mem_tops.1 hl with ⟨u, hu, hl2⟩ | hl
   ·rcases List.mem_or_eq_of_mem_set hu with hu | rfl
    ·exact .of_mem (List.mem_flatMap.2 ⟨l, mem_tops.2 (.inl ⟨u, hu, hl2⟩), hp2⟩)
    ·exact hi l hl2 p hp2
   ·exact .of_mem (List.mem_flatMap.2 ⟨l, mem_tops.2 (.inr hl), hp2⟩)
structure Bd where
 W0 : World
 M0 : Nat → Prop
 I0 : Nat → Prop
 n0 : Nat
 H0 : Nat → Value
structure Fr (W W' : World) (M : Nat → Prop) : Prop where
 size : W.heap.size ≤ W'.heap.size
 block : ∀ b, b < W.heap.size → ¬ M b → W'.heap[b]? = W.heap[b]?
 st : Same W W'
theorem Fr.keeps {W W' W'' : World} {M : Nat → Prop} (h : Fr W W' M) (hk : Keeps W' W'') : Fr W W'' M :=
 ⟨Nat.le_trans h.1 hk.1, fun b hb hm => (hk.2 b (Nat.lt_of_lt_of_le hb h.1)).trans (h.2 b hb hm), h.3.trans hk.3⟩
structure Inv (B : Bd) (W : World) (d : S Value) : Prop where
 good : Good W d
 fr : Fr B.W0 W B.M0
 mine : ∀ p ∈ ownS d, B.M0 p.1 ∨ B.W0.heap.size ≤ p.1
 seen : ∀ p ∈ immS d, p.2 ≠ [] → B.I0 p.1.block ∨ B.M0 p.1.block ∨ B.W0.heap.size ≤ p.1.block
 hdr : ∀ p ∈ d.ob, p.1 < B.n0 → p.2.h = B.H0 p.1
def SlR (d : S Value) (a : Act) : Prop := a.tmps.size = d.sl.length ∧ ∀ (i : Nat) v, d.sl[i]? = some v → VR v (a.tmps.getD i undef)
def Rel (B : Bd) (s : S Unit) (a : Act) (W : World) : Prop := ∃ d, erS d = s ∧ Inv B W d ∧ SlR d a ∧ a.defers = [] ∧ (∀ i, Z3h d i → i < d.nx) ∧ B.n0 ≤ d.nx
theorem SlR.put {d : S Value} {a : Act} (h : SlR d a) (dst : Option Nat) {v : V Value} {x : Value} (hv : VR v x) : SlR (U1 d dst v) (a.put dst x) := by
 cases dst with
 | none => exact h
 | some i =>
  refine ⟨by simp [Act.put, U1, h.1], fun j u hu => ?_⟩
  simp only [U1] at hu
  rw [List.getElem?_set] at hu
  simp only [Act.put]
  by_cases hij : i = j
  ·subst hij
   rw [if_pos rfl] at hu
   by_cases hlt : i < d.sl.length
   ·rw [if_pos hlt] at hu
    cases hu
    rw [Array.getD_eq_getD_getElem?, Array.getElem?_setIfInBounds_self_of_lt (by rw [h.1]; exact hlt)]
    exact hv
   ·rw [if_neg hlt] at hu; cases hu
  ·rw [if_neg hij] at hu
   rw [Array.getD_eq_getD_getElem?, Array.getElem?_setIfInBounds_ne hij, ← Array.getD_eq_getD_getElem?]
   exact h.2 j u hu
theorem Z6n (a : Act) (dst : Option Nat) (x : Value) : (a.put dst x).defers = a.defers := by cases dst <;> rfl
theorem Inv.put {B : Bd} {W W' : World} {d : S Value} (h : Inv B W d) (hk : Keeps W W') (dst : Option Nat) {v : V Value} (hno : Y2s v = true) (hwf : ∀ l ∈ Z3 v, wfL false l ∧ W7 d.ob l)
  (hi : ∀ l ∈ Z3 v, ∀ p ∈ immL l, SubIn p (immS d)) : Inv B W' (U1 d dst v) where
 good := (h.good.keeps hk).put dst hno hwf hi
 fr := h.fr.keeps hk
 mine := fun p hp => by
  refine h.mine p ?_
  cases dst with
  | none => exact hp
  | some i =>
   have : (ownS (U1 d (some i) v)).Sublist (ownS d) := by
    simp only [ownS, U1, tops, List.flatMap_append]
    refine (List.Sublist.refl _).append (List.Sublist.append ?_ (List.Sublist.refl _))
    rw [List.flatMap_assoc, List.flatMap_assoc]
    exact Z1h (fun x => List.flatMap ownL (Z3 x)) _ (X5g hno) _ _
   exact this.subset hp
 seen := fun p hp hne => by
  have key : SubIn p (immS d) := by
   cases dst with
   | none => exact .of_mem hp
   | some i =>
    obtain ⟨l, hl, hp2⟩ := List.mem_flatMap.1 hp
    rcases mem_tops.1 hl with ⟨u, hu, hl2⟩ | hl
    ·rcases List.mem_or_eq_of_mem_set hu with hu | rfl
     ·exact .of_mem (List.mem_flatMap.2 ⟨l, mem_tops.2 (.inl ⟨u, hu, hl2⟩), hp2⟩)
     ·exact hi l hl2 p hp2
    ·exact .of_mem (List.mem_flatMap.2 ⟨l, mem_tops.2 (.inr hl), hp2⟩)
  rcases key with h0 | ⟨q, hq, hs⟩
  ·exact absurd h0 hne
  ·rw [hs.1]; exact h.seen q hq (hs.ne hne)
 hdr := by rw [Z4y]; exact h.hdr
end
section
inductive Z where
 | int (k : IntKind) (n : Int)
 | bool (b : Bool)
 | str (s : ByteArray)
 | nl
 | nilp
def zL {δ : Type} : Z → L δ
 | .int k n => .int k n
 | .bool b => .bool b
 | .str s => .str s
 | .nl => .nl
 | .nilp => .nilp
def zV : Z → Value
 | .int k n => .int k n
 | .bool b => .bool b
 | .str s => .string s
 | .nl => .slice none 0 0
 | .nilp => .pointer none
def zOf : Value → Option Z
 | .int k n => some (.int k n)
 | .bool b => some (.bool b)
 | .string s => some (.str s)
 | .slice none 0 0 => some .nl
 | .pointer none => some .nilp
 | _ => none
def zsOf : List Value → Option (List Z)
 | [] => some []
 | v :: vs => match zOf v, zsOf vs with
  | some z, some zs => some (z :: zs)
  | _, _ => none
theorem zOf_eq {v : Value} {z : Z} (h : zOf v = some z) : zV z = v := by
 unfold zOf at h
 split at h <;> first | (cases h; rfl) | cases h
theorem W1a : ∀ {vs : List Value} {zs : List Z}, zsOf vs = some zs → zs.map zV = vs
 | [], zs, h => by cases h; rfl
 | v :: vs, zs, h => by
  unfold zsOf at h
  cases hz : zOf v with
  | none => rw [hz] at h; cases h
  | some z =>
   cases hzs : zsOf vs with
   | none => rw [hz, hzs] at h; cases h
   | some zs' =>
    rw [hz, hzs] at h
    cases h
    simp [zOf_eq hz, W1a hzs]
theorem X7s (z : Z) : val (zL z) = zV z := by cases z <;> rfl
theorem er_zL (z : Z) : erL (zL z) = zL z := by cases z <;> rfl
inductive TK where
 | bool | int (k : IntKind) | str | slice | struct | ptr | other
structure TI where
 kd : TK
 agg : Bool
 size : Nat
 bytes : Nat
 zero : List Z
 fields : List (Nat × TypeId)
 elem : TypeId
 places : List (Nat × Nat)
def kdD : TypeDesc → TK
 | .bool => .bool
 | .int k => .int k
 | .string => .str
 | .slice _ => .slice
 | .struct _ => .struct
 | .pointer _ => .ptr
 | _ => .other
def X2c : TypeDesc → Bool
 | .struct _ | .array _ _ => true
 | _ => false
def X3w : TypeDesc → List (Nat × TypeId)
 | .struct fs => fs.toList.map fun f => (f.offset, f.type)
 | _ => []
def Y6z : TypeDesc → TypeId
 | .slice e => e
 | _ => 0
def Y9u (P : Program) : List Field → Option (List (Nat × Nat))
 | [] => some []
 | f :: fs => match P.info? f.type, Y9u P fs with
  | some i, some ps => some ((f.offset, i.size) :: ps)
  | _, _ => none
def X6m (P : Program) : TypeDesc → Option (List (Nat × Nat))
 | .struct fs => Y9u P fs.toList
 | _ => some []
def tiOf (P : Program) (t : TypeId) : Option TI :=
 match P.info? t, P.underlying t with
 | some i, some d => match i.zero with
  | some z => match zsOf z.cells.toList with
   | some zs => match X6m P d with
    | some ps => some { kd := kdD d, agg := X2c d, size := i.size, bytes := i.bytes, zero := zs, fields := X3w d, elem := Y6z d, places := ps }
    | none => none
   | none => none
  | none => none
 | _, _ => none
theorem U6 {P : Program} {t : TypeId} {i : TI} (h : tiOf P t = some i) : ∃ info d z, P.info? t = some info ∧ P.underlying t = some d ∧ info.zero = some z ∧ i.zero.map zV = z.cells.toList ∧
  i.kd = kdD d ∧ i.agg = X2c d ∧ i.size = info.size ∧ i.bytes = info.bytes ∧ i.fields = X3w d ∧ i.elem = Y6z d ∧ X6m P d = some i.places := by
 unfold tiOf at h
 split at h
 ·rename_i info d hi hu
  split at h
  ·rename_i z hz
   split at h
   ·rename_i zs hzs
    split at h
    ·rename_i ps hps
     cases h
     exact ⟨info, d, z, hi, hu, hz, W1a hzs, rfl, rfl, rfl, rfl, rfl, rfl, hps⟩
    ·cases h
   ·cases h
  ·cases h
 ·cases h
structure Eff where
 v : V Unit
 rd : List Nat := []
 news : List (Ob Unit) := []
 upd : List (Nat × List (List (L Unit))) := []
 del : List Nat := []
 hyp : Prop := True
def updP {δ : Type} (upd : List (Nat × List (List (L δ)))) (p : Nat × Ob δ) : Nat × Ob δ := match upd.lookup p.1 with | some rows => (p.1, ⟨p.2.h, p.2.n, rows⟩) | none => p
theorem Y3a {δ : Type} : (updP [] : Nat × Ob δ → _) = id := rfl
def app {δ : Type} (s : S δ) (dst : Option Nat) (nid : Nat) (v : V δ) (news : List (Ob δ)) (upd : List (Nat × List (List (L δ)))) (del : List Nat) : S δ :=
 U1 { s with ob := ((s.ob.filter (fun p => !del.contains p.1)).map (updP upd)) ++
  (news.zipIdx nid).map (fun q => (q.2, q.1)), nx := s.nx + news.length } dst v
def appE (s : S Unit) (dst : Option Nat) (nid : Nat) (e : Eff) : S Unit := app s dst nid e.v e.news e.upd e.del
abbrev Env := Operand → Option (V Unit)
abbrev Lk := Nat → Option (Ob Unit)
def cstL {δ : Type} : Value → Option (L δ)
 | .int k n => some (.int k n)
 | .bool b => some (.bool b)
 | .string s => some (.str s)
 | .slice none 0 0 => some .nl
 | .pointer none => some .nilp
 | _ => none
def cstC {δ : Type} : List Value → Option (List (L δ))
 | [] => some []
 | v :: vs => match cstL v, cstC vs with
  | some l, some ls => some (l :: ls)
  | _, _ => none
def cst {δ : Type} : Value → Option (U δ)
 | .agg cs => (cstC cs.toList).map .agg
 | v => (cstL v).map .one
def evV {δ : Type} (fv : FuncId → δ) (sl : List (V δ)) : Operand → Option (V δ)
 | .tmp t => sl[t]?
 | .const v => (cst v).map .u
 | .func f => some (.u (.one (.fn (fv f) f [])))
 | .global _ => none
def fvD (f : FuncId) : Value := .func (.func f) #[] #[]
abbrev evA (s : S Unit) : Env := evV (fun _ => ()) s.sl
abbrev evD (d : S Value) : Operand → Option (V Value) := evV fvD d.sl
theorem W4e {v : Value} : (cstL v : Option (L Value)).map erL = cstL v := by
 unfold cstL
 split <;> rfl
theorem W4f : ∀ {vs : List Value}, (cstC vs : Option (List (L Value))).map (List.map erL) = cstC vs
 | [] => rfl
 | v :: vs => by
  unfold cstC
  rw [← W4e (v := v), ← W4f (vs := vs)]
  cases (cstL v : Option (L Value)) <;> cases (cstC vs : Option (List (L Value))) <;> rfl
theorem cst_er (v : Value) : (cst v : Option (U Value)).map erU = cst v := by
 unfold cst
 split
 ·rw [← W4f]
  cases (cstC _ : Option (List (L Value))) <;> rfl
 ·rw [← W4e]
  cases (cstL _ : Option (L Value)) <;> rfl
theorem evA_er (d : S Value) (x : Operand) : evA (erS d) x = (evD d x).map erV := by
 cases x with
 | tmp t => simp [evV, erS, mapS, List.getElem?_map]
 | const v =>
  simp only [evV]
  rw [← cst_er]
  cases (cst v : Option (U Value)) <;> rfl
 | func f => rfl
 | global g => rfl
theorem X9n {v : Value} {l : L Value} (h : cstL v = some l) : val l = v ∧ ownL l = [] ∧ immL l = [] ∧ (∀ ns, wfL ns l) ∧ (∀ ob, W7 ob l) ∧ idsL l = [] := by
 unfold cstL at h
 split at h <;> first | (cases h; exact ⟨rfl, rfl, rfl, fun _ => by simp [wfL], fun _ => by simp [W7], rfl⟩) | cases h
theorem X9p : ∀ {vs : List Value} {ls : List (L Value)}, cstC vs = some ls → ls.map val = vs ∧ ∀ l ∈ ls, ownL l = [] ∧ immL l = [] ∧ (∀ ns, wfL ns l) ∧ (∀ ob, W7 ob l) ∧ idsL l = []
 | [], ls, h => by cases h; simp
 | v :: vs, ls, h => by
  unfold cstC at h
  cases h1 : (cstL v : Option (L Value)) with
  | none => rw [h1] at h; cases h
  | some l =>
   cases h2 : (cstC vs : Option (List (L Value))) with
   | none => rw [h1, h2] at h; cases h
   | some ls' =>
    rw [h1, h2] at h
    cases h
    have a := X9n h1
    have b := X9p h2
    refine ⟨by simp [a.1, b.1], fun l hl => ?_⟩
    rcases List.mem_cons.1 hl with rfl | hl
    ·exact a.2
    ·exact b.2 l hl
def Has (d : S Value) (l : L Value) : Prop := wfL false l ∧ W7 d.ob l ∧ (∀ p ∈ immL l, SubIn p (immS d)) ∧ ∀ i ∈ idsL l, Z3h d i
theorem Z8a {W : World} {d : S Value} (h : Good W d) {l : L Value} (hl : l ∈ tops d) : Has d l :=
 ⟨(h.wf l hl).1, (h.wf l hl).2, fun p hp => .of_mem (List.mem_flatMap.2 ⟨l, hl, hp⟩), fun i hi => .inl ⟨l, hl, hi⟩⟩
theorem X9f {W : World} {d : S Value} {a : Act} (h : Good W d) (hs : SlR d a) {x : Operand} {v : V Value} (hv : evD d x = some v) : VR v (a.eval x) ∧ ∀ l ∈ Z3 v, Has d l := by
 cases x with
 | tmp t =>
  simp only [evV] at hv
  refine ⟨hs.2 t v hv, fun l hl => Z8a h (mem_tops.2 (.inl ⟨v, List.mem_of_getElem? hv, hl⟩))⟩
 | const c =>
  simp only [evV, Option.map_eq_some_iff] at hv
  obtain ⟨u, hu, rfl⟩ := hv
  unfold cst at hu
  split at hu
  ·rw [Option.map_eq_some_iff] at hu
   obtain ⟨ls, hls, rfl⟩ := hu
   have a := X9p hls
   refine ⟨?_, fun l hl => ?_⟩
   ·simp [VR, UR, Act.eval, a.1]
   ·have b := a.2 l hl
    exact ⟨b.2.2.1 _, b.2.2.2.1 _, fun p hp => (by rw [b.2.1] at hp; cases hp), fun i hi => (by rw [b.2.2.2.2] at hi; cases hi)⟩
  ·rw [Option.map_eq_some_iff] at hu
   obtain ⟨l, hl, rfl⟩ := hu
   have a := X9n hl
   refine ⟨by simp [VR, UR, Act.eval, a.1], fun l' hl' => ?_⟩
   simp only [Z3, Z1, List.mem_singleton] at hl'
   subst hl'
   exact ⟨a.2.2.2.1 _, a.2.2.2.2.1 _, fun p hp => (by rw [a.2.2.1] at hp; cases hp), fun i hi => (by rw [a.2.2.2.2.2] at hi; cases hi)⟩
 | func f =>
  simp only [evV, Option.some.injEq] at hv
  subst hv
  refine ⟨rfl, fun l hl => ?_⟩
  simp only [Z3, Z1, List.mem_singleton] at hl
  subst hl
  exact ⟨by simp [wfL, wfC, fvD], by simp [W7, Z3j], fun p hp => (by simp [immL, immC] at hp), fun i hi => (by simp [idsL, idsC] at hi)⟩
 | global g => simp [evV] at hv
def uO {δ : Type} : Option (V δ) → Option (U δ)
 | some (.u x) => some x
 | _ => none
def lO {δ : Type} : Option (V δ) → Option (L δ)
 | some (.u (.one l)) => some l
 | _ => none
end
section
def Done (P : Program) (B : Bd) (o : Oper) (a : Act) (W : World) (d : S Value) (nid : Nat) (e : Eff) : Prop :=
 e.hyp ∧ ∃ r x W' d', (execOp a.eval o).run P W = .ok r W' ∧ (r = .value x ∨ (r = .skip ∧ x = undef)) ∧ erS d' = appE (erS d) o.dst nid e ∧ Inv B W' d' ∧ SlR d' (a.put o.dst x) ∧
  ∀ i, Z3h d' i → Z3h d i ∨ (nid ≤ i ∧ i < nid + e.news.length)
theorem X0c {d : S Value} {dst : Option Nat} {v : V Value} (h : ∀ l ∈ Z3 v, ∀ i ∈ idsL l, Z3h d i) {i : Nat} (hk : Z3h (U1 d dst v) i) : Z3h d i := by
 cases dst with
 | none => exact hk
 | some t =>
  rcases hk with ⟨l, hl, hi⟩ | hi
  ·rcases mem_tops.1 hl with ⟨u, hu, hl2⟩ | hl
   ·rcases List.mem_or_eq_of_mem_set hu with hu | rfl
    ·exact .inl ⟨l, mem_tops.2 (.inl ⟨u, hu, hl2⟩), hi⟩
    ·exact h l hl2 i hi
   ·exact .inl ⟨l, mem_tops.2 (.inr hl), hi⟩
  ·exact .inr hi
theorem X9w {δ : Type} (s : S δ) (dst : Option Nat) (nid : Nat) (v : V δ) : app s dst nid v [] [] [] = U1 s dst v := by
 simp [app, Y3a, List.filter_eq_self.2 (fun _ _ => rfl)]
theorem Z9v {P : Program} {B : Bd} {o : Oper} {a : Act} {W : World} {d : S Value} {nid : Nat} (hi : Inv B W d) (hs : SlR d a) {v : V Value} {x : Value} {rd : List Nat} {hyp : Prop}
  (hr : (execOp a.eval o).run P W = .ok (.value x) W) (hv : VR v x) (hno : Y2s v = true) (hh : ∀ l ∈ Z3 v, Has d l) (hp : hyp) : Done P B o a W d nid { v := erV v, rd := rd, hyp := hyp } :=
 ⟨hp, _, x, W, U1 d o.dst v, hr, .inl rfl, by rw [appE, X9w, Y0x], hi.put (Keeps.refl W) o.dst hno (fun l hl => ⟨(hh l hl).1, (hh l hl).2.1⟩) (fun l hl => (hh l hl).2.2.1), hs.put o.dst hv,
  fun i hk => .inl (X0c (fun l hl => (hh l hl).2.2.2) hk)⟩
def scal {δ : Type} : L δ → Bool
 | .int _ _ | .bool _ | .str _ | .nl | .nilp => true
 | _ => false
theorem W5g {d : S Value} {l : L Value} (h : scal l = true) : Has d l ∧ noOs l = true := by
 cases l <;> simp_all [scal, Has, wfL, W7, immL, noOs, idsL]
theorem X8p {d : TypeDesc} (h : kdD d = .bool) : d = .bool := by cases d <;> simp [kdD] at h <;> rfl
theorem kdD_int {d : TypeDesc} {k : IntKind} (h : kdD d = .int k) : d = .int k := by cases d <;> simp [kdD] at h <;> rw [h]
theorem X3n {d : TypeDesc} (h : kdD d = .str) : d = .string := by cases d <;> simp [kdD] at h <;> rfl
theorem Z7h {d : TypeDesc} (h : kdD d = .slice) : d = .slice (Y6z d) := by cases d <;> simp [kdD] at h <;> rfl
def binF {δ : Type} (op : BinOp) (i : TI) (x y : L δ) : Option (L δ) :=
 match x, y with
 | .int k a, .int k' b =>
  match op with
  | .shl => if b < 0 then none else some (.int k (k.wrap (a * 2 ^ min b.toNat k.bits)))
  | .shr => if b < 0 then none else some (.int k (a / 2 ^ min b.toNat k.bits))
  | _ => if k = k' then (match op with
   | .add => some (.int k (k.wrap (a + b)))
   | .sub => some (.int k (k.wrap (a - b)))
   | .mul => some (.int k (k.wrap (a * b)))
   | .quo => if b = 0 then none else some (.int k (k.wrap (a.tdiv b)))
   | .rem => if b = 0 then none else some (.int k (a.tmod b))
   | .and | .or | .xor | .andNot => some (.int k (bits op k a b))
   | .eql => some (.bool (a == b))
   | .neq => some (.bool (a != b))
   | .lss => some (.bool (decide (a < b)))
   | .leq => some (.bool (decide (a ≤ b)))
   | .gtr => some (.bool (decide (a > b)))
   | .geq => some (.bool (decide (a ≥ b)))
   | _ => none) else none
 | .str a, .str b =>
  match op with
  | .add => if ((a.size + b.size : Nat) : Int) ≤ 9223372036854775807 then some (.str (a ++ b)) else none
  | .eql => some (.bool (a.toList == b.toList))
  | .neq => some (.bool !(a.toList == b.toList))
  | .lss => some (.bool (Op.bytesLess a.toList b.toList))
  | .geq => some (.bool !(Op.bytesLess a.toList b.toList))
  | _ => none
 | .bool a, .bool b =>
  match i.kd, op with
  | .bool, .eql => some (.bool (a == b))
  | .bool, .neq => some (.bool (!(a == b)))
  | _, _ => none
 | _, _ => none
theorem binF_er (op : BinOp) (i : TI) (x y : L Value) : (binF op i x y).map erL = binF op i (erL x) (erL y) := by
 unfold binF
 cases x <;> cases y <;> simp only [mapL] <;> (try rfl)
 ·cases op <;> simp only [] <;> (repeat' split) <;> rfl
 ·cases i.kd <;> cases op <;> rfl
 ·cases op <;> simp only [] <;> (repeat' split) <;> rfl
theorem W4k {δ : Type} {op : BinOp} {i : TI} {x y z : L δ} (h : binF op i x y = some z) : scal z = true := by
 unfold binF at h
 repeat' split at h
 all_goals first | (cases h; rfl) | cases h
theorem i64_max : IntKind.i64.max = 9223372036854775807 := by decide
set_option maxHeartbeats 1000000 in
theorem W5h {P : Program} {W : World} {op : BinOp} {t : TypeId} {i : TI} (ht : tiOf P t = some i) {x y z : L Value} (h : binF op i x y = some z) (ox oy : Operand) :
    (do eqGuard op t ox oy (val x) (val y); binOp op t (val x) (val y) : Sem Value).run P W = .ok (val z) W := by
  obtain ⟨info, d, zv, _, hu, _, _, hkd, _⟩ := U6 ht
  unfold binF at h
  split at h
  · rename_i k a k' b
    simp only [val, eqGuard_at_int, pure_bind]
    split at h
    · split at h
      · cases h
      · cases h
        rename_i hb
        simp [binOp, Op.shift, hb, val]
    · split at h
      · cases h
      · cases h
        rename_i hb
        have : (0 : Int) ≤ 2 ^ min b.toNat k.bits := Int.pow_nonneg (by decide)
        simp [binOp, Op.shift, hb, val, Int.fdiv_eq_ediv_of_nonneg _ this]
    · split at h
      · rename_i hk
        subst hk
        split at h <;> first
          | (cases h; simp [go_sem, Op.intArith, Op.intDiv, Op.intCmp, val]; done)
          | (split at h
             · cases h
             · rename_i hb
               cases h
               simp [go_sem, Op.intArith, Op.intDiv, Op.intCmp, val, hb])
          | cases h
      · cases h
  · rename_i a b
    simp only [val, eqGuard_at_string, pure_bind]
    split at h
    · split at h
      · rename_i hle
        cases h
        have : ¬ (((a.size + b.size : Nat) : Int) > IntKind.i64.max) := by rw [i64_max]; omega
        simp only [binOp, Op.stringOp, if_neg this]
        rfl
      · cases h
    all_goals first
      | (cases h; simp [binOp, Op.stringOp, val]; done)
      | cases h
  · rename_i a b
    simp only [val, eqGuard_at_bool, pure_bind]
    split at h
    · rename_i hb
      cases h
      rw [hb] at hkd
      have hd := X8p hkd.symm
      subst hd
      exact run_eql_bool W t a b hu
    · rename_i hb
      cases h
      rw [hb] at hkd
      have hd := X8p hkd.symm
      subst hd
      exact run_neq_bool W t a b hu
    · cases h
  · cases h
end
section
theorem X7f {d : S Value} {x : Operand} {v : V Unit} (h : evA (erS d) x = some v) : ∃ v', evD d x = some v' ∧ erV v' = v := by
 rw [evA_er, Option.map_eq_some_iff] at h
 exact h
theorem lift_u {d : S Value} {x : Operand} {u : U Unit} (h : uO (evA (erS d) x) = some u) : ∃ u', evD d x = some (.u u') ∧ erU u' = u := by
 cases he : evA (erS d) x with
 | none => rw [he] at h; cases h
 | some v =>
  rw [he] at h
  obtain ⟨v', h1, h2⟩ := X7f he
  cases v' with
  | u u' => subst h2; cases h; exact ⟨u', h1, rfl⟩
  | tup xs => subst h2; cases h
  | un => subst h2; cases h
  | ud => subst h2; cases h
theorem lO_u {δ : Type} {v : Option (V δ)} {l : L δ} (h : lO v = some l) : uO v = some (.one l) := by
 unfold lO at h
 split at h
 ·cases h; rfl
 ·cases h
theorem lift_l {d : S Value} {x : Operand} {l : L Unit} (h : lO (evA (erS d) x) = some l) : ∃ l', evD d x = some (.u (.one l')) ∧ erL l' = l := by
 obtain ⟨u', h1, h2⟩ := lift_u (lO_u h)
 cases u' with
 | one l' => exact ⟨l', h1, by injection h2⟩
 | agg ls => cases h2
theorem V8 {W : World} {d : S Value} {a : Act} (h : Good W d) (hs : SlR d a) {x : Operand} {l : L Unit} (hl : lO (evA (erS d) x) = some l) : ∃ l', erL l' = l ∧ a.eval x = val l' ∧ Has d l' := by
 obtain ⟨l', h1, h2⟩ := lift_l hl
 obtain ⟨h3, h4⟩ := X9f h hs h1
 exact ⟨l', h2, h3, h4 l' (by simp [Z3, Z1])⟩
theorem u_ok {W : World} {d : S Value} {a : Act} (h : Good W d) (hs : SlR d a) {x : Operand} {u : U Unit} (hu : uO (evA (erS d) x) = some u) : ∃ u', erU u' = u ∧ UR u' (a.eval x) ∧ ∀ l ∈ Z1 u', Has d l := by
 obtain ⟨u', h1, h2⟩ := lift_u hu
 obtain ⟨h3, h4⟩ := X9f h hs h1
 exact ⟨u', h2, h3, h4⟩
theorem Y3t {l : L Value} {k n} (h : erL l = .int k n) : l = .int k n := by cases l <;> simp [mapL] at h <;> rw [h.1, h.2]
theorem X7h {l : L Value} {b} (h : erL l = .bool b) : l = .bool b := by cases l <;> simp [mapL] at h <;> rw [h]
theorem X9h {l : L Value} {s} (h : erL l = .str s) : l = .str s := by cases l <;> simp [mapL] at h <;> rw [h]
theorem W6g {l : L Value} (h : erL l = .nl) : l = .nl := by cases l <;> simp [mapL] at h <;> rfl
theorem W6h {l : L Value} {v n rows} (h : erL l = .bs v n rows) : ∃ v' rows', l = .bs v' n rows' ∧ mapR (fun _ => ()) rows' = rows := by
 cases l <;> simp [mapL] at h
 rename_i v' n' rows'
 exact ⟨v', rows', by rw [h.1], h.2⟩
theorem Y5m {l : L Value} {v id off len} (h : erL l = .ref v id off len) : ∃ v', l = .ref v' id off len := by
 cases l <;> simp [mapL] at h
 rename_i v' i o n
 exact ⟨v', by rw [h.1, h.2.1, h.2.2]⟩
theorem X2g {l : L Value} {v id e j} (h : erL l = .ptr v id e j) : ∃ v', l = .ptr v' id e j := by
 cases l <;> simp [mapL] at h
 rename_i v' i o n
 exact ⟨v', by rw [h.1, h.2.1, h.2.2]⟩
theorem er_ip {l : L Value} {v cells} (h : erL l = .ip v cells) : ∃ v' cells', l = .ip v' cells' ∧ mapC (fun _ => ()) cells' = cells := by
 cases l <;> simp [mapL] at h
 rename_i v' c'
 exact ⟨v', c', rfl, h⟩
def one1 {δ : Type} (l : L δ) : V δ := .u (.one l)
theorem J4 {P : Program} {B : Bd} {o : Oper} {a : Act} {W : World} {d : S Value} {nid : Nat} (hi : Inv B W d) (hs : SlR d a) {l : L Value} {rd : List Nat} {hyp : Prop}
  (hr : (execOp a.eval o).run P W = .ok (.value (val l)) W) (hno : noOs l = true) (hh : Has d l) (hp : hyp := by trivial) : Done P B o a W d nid { v := one1 (erL l), rd := rd, hyp := hyp } :=
 Z9v hi hs (v := one1 l) hr rfl (by simp [Y2s, Z3, Z1, one1, hno]) (fun l' hl => by simp only [Z3, Z1, one1, List.mem_singleton] at hl; subst hl; exact hh) hp
theorem Y1r {d : S Value} (k : IntKind) (n : Int) : Has d (.int k n) := by simp [Has, wfL, W7, immL, idsL]
theorem X8u {d : S Value} (b : Bool) : Has d (.bool b) := by simp [Has, wfL, W7, immL, idsL]
theorem W3m {d : S Value} (s : ByteArray) : Has d (.str s) := by simp [Has, wfL, W7, immL, idsL]
def mvF (v : Option (V Unit)) : Option Eff := match v with | some v => if Y2s v then some { v := v } else none | none => none
theorem W5u {P : Program} {B : Bd} {o : Oper} {a : Act} {W : World} {d : S Value} {nid : Nat} {e : Eff} (hi : Inv B W d) (hs : SlR d a) {x : Operand}
  (hr : (execOp a.eval o).run P W = .ok (.value (a.eval x)) W) (he : mvF (evA (erS d) x) = some e) : Done P B o a W d nid e := by
 unfold mvF at he
 split at he
 ·rename_i v hv
  split at he
  ·rename_i hno
   cases he
   obtain ⟨v', h1, rfl⟩ := X7f hv
   obtain ⟨h3, h4⟩ := X9f hi.good hs h1
   exact Z9v hi hs hr h3 (by rwa [← Y4v]) h4 trivial
  ·cases he
 ·cases he
def W0g (ρ : Env) (c x y : Operand) : Option Eff := match lO (ρ c) with | some (.bool t) => mvF (if t then ρ x else ρ y) | _ => none
theorem pick_ok {P : Program} {B : Bd} {o : Oper} {a : Act} {W : World} {d : S Value} {nid : Nat} {e : Eff} (hi : Inv B W d) (hs : SlR d a) {c x y : Operand} (ho : o.op = .pick c x y)
  (he : W0g (evA (erS d)) c x y = some e) : Done P B o a W d nid e := by
 unfold W0g at he
 split at he
 ·rename_i t ht
  obtain ⟨l', h1, h2, _⟩ := V8 hi.good hs ht
  obtain rfl := X7h h1
  cases t with
  | true => exact W5u hi hs (x := x) (by simp [execOp, ho, h2, val, asBool]) he
  | false => exact W5u hi hs (x := y) (by simp [execOp, ho, h2, val, asBool]) he
 ·cases he
def ncF (ρ : Env) (x : Operand) : Option Eff := match lO (ρ x) with
 | some (.ptr v id e j) => some { v := one1 (.ptr v id e j) }
 | some (.ip v c) => some { v := one1 (.ip v c) }
 | _ => none
theorem nc_ok {P : Program} {B : Bd} {o : Oper} {a : Act} {W : World} {d : S Value} {nid : Nat} {e : Eff} (hi : Inv B W d) (hs : SlR d a) {x : Operand} (ho : o.op = .nilCheck x)
  (hlive : ∀ v id e' j, lO (evA (erS d) x) = some (.ptr v id e' j) → (look (erS d).ob id).isSome = true)
  (he : ncF (evA (erS d)) x = some e) : Done P B o a W d nid e := by
 unfold ncF at he
 split at he
 ·rename_i v id e' j hx
  cases he
  obtain ⟨l', h1, h2, h3⟩ := V8 hi.good hs hx
  obtain ⟨v', rfl⟩ := X2g h1
  have hl := hlive _ _ _ _ hx
  obtain ⟨ob, hob⟩ := Option.isSome_iff_exists.1 hl
  have : ∃ o', look d.ob id = some o' := by
   unfold look erS mapS at hob
   rw [List.find?_map] at hob
   simp only [Option.map_map, Option.map_eq_some_iff] at hob
   obtain ⟨p, hp, _⟩ := hob
   exact ⟨p.2, by unfold look; simp only [Option.map_eq_some_iff]; exact ⟨p, hp, rfl⟩⟩
  obtain ⟨o', ho'⟩ := this
  obtain ⟨b, _, c0, _, hv⟩ := h3.2.1 o' ho'
  exact J4 (l := .ptr v' id e' j) hi hs (by simp [execOp, ho, h2, val, hv]) rfl h3
 ·rename_i v c hx
  cases he
  obtain ⟨l', h1, h2, h3⟩ := V8 hi.good hs hx
  obtain ⟨v', c', rfl, rfl⟩ := er_ip h1
  obtain ⟨_, ⟨b, o', hv⟩, _⟩ := h3.1
  exact J4 (l := .ip v' c') hi hs (by simp [execOp, ho, h2, val, hv]) rfl h3
 ·cases he
def unF {δ : Type} (op : UnOp) (x : L δ) : Option (L δ) := match op, x with
 | .neg, .int k n => some (.int k (k.wrap (0 - n)))
 | .xor, .int k n => some (.int k (bits .xor k (if k.signed then -1 else k.max) n))
 | .not, .bool b => some (.bool !b)
 | _, _ => none
def unE (ρ : Env) (op : UnOp) (x : Operand) : Option Eff := match lO (ρ x) with | some l => (unF op l).map fun z => { v := one1 z } | none => none
theorem un_ok {P : Program} {B : Bd} {o : Oper} {a : Act} {W : World} {d : S Value} {nid : Nat} {e : Eff} (hi : Inv B W d) (hs : SlR d a) {op : UnOp} {t : TypeId} {x : Operand} (ho : o.op = .unOp op t x)
  (he : unE (evA (erS d)) op x = some e) : Done P B o a W d nid e := by
 unfold unE at he
 split at he
 ·rename_i l hx
  obtain ⟨l', h1, h2, h3⟩ := V8 hi.good hs hx
  rw [Option.map_eq_some_iff] at he
  obtain ⟨z, hz, rfl⟩ := he
  unfold unF at hz
  split at hz
  ·cases hz
   obtain rfl := Y3t h1
   exact J4 (l := .int _ _) hi hs (by simp [execOp, ho, h2, val, Op.unary, Op.intArith]) rfl (Y1r _ _)
  ·cases hz
   obtain rfl := Y3t h1
   exact J4 (l := .int _ _) hi hs (by simp only [execOp, ho, h2, val, Op.unary]; rfl) rfl (Y1r _ _)
  ·cases hz
   obtain rfl := X7h h1
   exact J4 (l := .bool _) hi hs (by simp [execOp, ho, h2, val, Op.unary]) rfl (X8u _)
  ·cases hz
 ·cases he
def biE (P : Program) (ρ : Env) (op : BinOp) (t : TypeId) (x y : Operand) : Option Eff :=
 match tiOf P t, lO (ρ x), lO (ρ y) with
 | some i, some l, some m => (binF op i l m).map fun z => { v := one1 z }
 | _, _, _ => none
theorem bi_ok {P : Program} {B : Bd} {o : Oper} {a : Act} {W : World} {d : S Value} {nid : Nat} {e : Eff} (hi : Inv B W d) (hs : SlR d a) {op : BinOp} {t t' : TypeId} {x y : Operand} (ho : o.op = .binOp op t x y t')
  (he : biE P (evA (erS d)) op t x y = some e) : Done P B o a W d nid e := by
 unfold biE at he
 split at he
 ·rename_i i l m ht hx hy
  obtain ⟨l', h1, h2, h3⟩ := V8 hi.good hs hx
  obtain ⟨m', g1, g2, g3⟩ := V8 hi.good hs hy
  rw [Option.map_eq_some_iff] at he
  obtain ⟨z, hz, rfl⟩ := he
  rw [← h1, ← g1, ← binF_er, Option.map_eq_some_iff] at hz
  obtain ⟨z', hz', rfl⟩ := hz
  have hsc := W5g (d := d) (W4k hz')
  refine J4 (l := z') hi hs ?_ hsc.2 hsc.1
  have := W5h (W := W) ht hz' x y
  simp only [execOp, ho, h2, g2]
  rw [Sem.run_bind, this]
  rfl
 ·cases he
def cvE (P : Program) (ρ : Env) (src dst : TypeId) (x : Operand) : Option Eff :=
 match tiOf P src, tiOf P dst, lO (ρ x) with
 | some _, some i, some (.int _ n) => (match i.kd with | .int k => some { v := one1 (.int k (k.wrap n)) } | _ => none)
 | some _, some i, some (.str s) => (match i.kd with | .str => some { v := one1 (.str s) } | _ => none)
 | _, _, _ => none
theorem cv_ok {P : Program} {B : Bd} {o : Oper} {a : Act} {W : World} {d : S Value} {nid : Nat} {e : Eff} (hi : Inv B W d) (hs : SlR d a) {src dst : TypeId} {x : Operand} (ho : o.op = .convert src dst x)
  (he : cvE P (evA (erS d)) src dst x = some e) : Done P B o a W d nid e := by
 unfold cvE at he
 split at he
 ·rename_i i0 i k0 n h0 ht hx
  obtain ⟨l', h1, h2, h3⟩ := V8 hi.good hs hx
  obtain rfl := Y3t h1
  obtain ⟨_, d0, _, _, hu0, _⟩ := U6 h0
  obtain ⟨_, d1, _, _, hu1, _, _, hk, _⟩ := U6 ht
  split at he
  ·rename_i k hkd
   cases he
   have := kdD_int (hk.symm.trans hkd)
   subst this
   refine J4 (l := .int _ _) hi hs ?_ rfl (Y1r _ _)
   simp [execOp, ho, h2, val, convert, run_underlying hu0, run_underlying hu1, Conv.intToInt]
  ·cases he
 ·rename_i i0 i s h0 ht hx
  obtain ⟨l', h1, h2, h3⟩ := V8 hi.good hs hx
  obtain rfl := X9h h1
  obtain ⟨_, d0, _, _, hu0, _⟩ := U6 h0
  obtain ⟨_, d1, _, _, hu1, _, _, hk, _⟩ := U6 ht
  split at he
  ·rename_i hkd
   cases he
   have := X3n (hk.symm.trans hkd)
   subst this
   refine J4 (l := .str _) hi hs ?_ rfl (W3m _)
   simp only [execOp, ho, h2, val]
   cases d0 <;> simp [convert, run_underlying hu0, run_underlying hu1]
  ·cases he
 ·cases he
end
section
mutual
theorem Z6k : ∀ {l : L Value}, wfL true l → wfL false l ∧ (∀ ob, W7 ob l) ∧ idsL l = []
 | .int _ _, _ => by simp [wfL, W7, idsL]
 | .bool _, _ => by simp [wfL, W7, idsL]
 | .str _, _ => by simp [wfL, W7, idsL]
 | .nl, _ => by simp [wfL, W7, idsL]
 | .nilp, _ => by simp [wfL, W7, idsL]
 | .bs _ _ _, h => by simpa [wfL, W7, idsL] using h
 | .os _ _ _, h => by simpa [wfL, W7, idsL] using h
 | .ref _ _ _ _, h => by simp [wfL] at h
 | .ptr _ _ _ _, h => by simp [wfL] at h
 | .ip _ _, h => by simp [wfL] at h
 | .fn _ _ _, h => by simp [wfL] at h
end
theorem X9c {α : Type} {n : Nat} : ∀ {rows : List (List α)} {i j : Nat} {r : List α} {x : α}, (∀ r ∈ rows, r.length = n) → rows[i]? = some r → r[j]? = some x → rows.flatten[i * n + j]? = some x
 | [], i, j, r, x, _, hi, _ => by simp at hi
 | q :: qs, 0, j, r, x, hl, hi, hj => by
  simp only [List.getElem?_cons_zero, Option.some.injEq] at hi
  subst hi
  have : j < q.length := (List.getElem?_eq_some_iff.1 hj).1
  rw [List.flatten_cons, Nat.zero_mul, Nat.zero_add, List.getElem?_append_left this]
  exact hj
 | q :: qs, i + 1, j, r, x, hl, hi, hj => by
  have hq : q.length = n := hl q (by simp)
  simp only [List.getElem?_cons_succ] at hi
  rw [List.flatten_cons, List.getElem?_append_right (by rw [hq, Nat.add_mul]; omega), hq]
  have := X9c (fun r hr => hl r (List.mem_cons_of_mem _ hr)) hi hj
  rw [← this]
  congr 1
  rw [Nat.add_mul]
  omega
theorem Y8d {n : Nat} {rows : List (List (L Value))} {i j : Nat} {r : List (L Value)} {x : L Value} (hl : ∀ r ∈ rows, r.length = n) (hi : rows[i]? = some r) (hj : r[j]? = some x) :
  (valR rows)[i * n + j]? = some (val x) := by
 unfold valR
 rw [List.getElem?_map, X9c hl hi hj]
 rfl
theorem X3j {rows : List (List (L Value))} {r : List (L Value)} {l : L Value} {p} (hr : r ∈ rows) (hl : l ∈ r) (hp : p ∈ immL l) : p ∈ immR rows := by
 rw [Z4r]
 exact List.mem_flatMap.2 ⟨l, List.mem_flatten.2 ⟨r, hr, hl⟩, hp⟩
theorem X2d {d : S Value} {l : L Value} (h : wfL true l) (hi : ∀ p ∈ immL l, SubIn p (immS d)) : Has d l :=
 ⟨(Z6k h).1, (Z6k h).2.1 _, hi, fun i hi => by rw [(Z6k h).2.2] at hi; cases hi⟩
theorem has_row {d : S Value} {v : Value} {n : Nat} {rows : List (List (L Value))} (h : Has d (.bs v n rows)) {i : Nat} {r : List (L Value)} (hr : rows[i]? = some r) :
  ∃ b o c, v = .slice (some ⟨b, o, none⟩) rows.length c ∧ Has d (.ip (.pointer (some ⟨b, o + i * n, none⟩)) r) := by
 obtain ⟨⟨a, c, hv, hlen, hlim, ha⟩, hl, hw⟩ := h.1
 have hne : rows ≠ [] := by rintro rfl; simp at hr
 obtain ⟨b, o, rfl⟩ := ha hne
 have hm := List.mem_of_getElem? hr
 refine ⟨b, o, c, hv, ⟨⟨rfl, ⟨b, _, rfl⟩, ?_⟩, by simp [W7], fun p hp => ?_, by simp [idsL]⟩⟩
 ·rw [Z8n]
  rw [Z5h] at hw
  exact hw r hm
 ·simp only [immL, Z2w, List.mem_append, List.mem_singleton] at hp
  rcases hp with rfl | hp
  ·have hs : Sub ((⟨b, o + i * n, none⟩ : Addr), r.map val) ((⟨b, o, none⟩ : Addr), valR rows) := by
    refine ⟨rfl, i * n, rfl, fun j u hj => ?_⟩
    simp only [List.getElem?_map, Option.map_eq_some_iff] at hj
    obtain ⟨x, hx, rfl⟩ := hj
    exact Y8d hl hr hx
   by_cases hrn : r = []
   ·left; simp [hrn]
   ·have := h.2.2.1 (⟨b, o, none⟩, valR rows) (by simp [immL, hv, Z2w])
    rcases this with h0 | ⟨q, hq, hs'⟩
    ·left
     have := hs.ne (by simpa using hrn)
     exact absurd h0 this
    ·exact .inr ⟨q, hq, hs.trans hs'⟩
  ·rw [Z7z] at hp
   obtain ⟨l, hl2, hp2⟩ := List.mem_flatMap.1 hp
   exact h.2.2.1 p (by simp only [immL, List.mem_append]; exact .inr (X3j hm hl2 hp2))
theorem X6y {d : S Value} {v : Value} {cells : List (L Value)} (h : Has d (.ip v cells)) {l : L Value} (hl : l ∈ cells) : Has d l := by
 obtain ⟨_, _, hw⟩ := h.1
 rw [Z8n] at hw
 refine X2d (hw l hl) (fun p hp => h.2.2.1 p ?_)
 simp only [immL, List.mem_append]
 right
 rw [Z7z]
 exact List.mem_flatMap.2 ⟨l, hl, hp⟩
theorem X6z {d : S Value} {b o : Nat} {cells : List (L Value)} (h : Has d (.ip (.pointer (some ⟨b, o, none⟩)) cells)) (k : Nat) : Has d (.ip (.pointer (some ⟨b, o + k, none⟩)) (cells.drop k)) := by
 refine ⟨⟨rfl, ⟨b, _, rfl⟩, ?_⟩, by simp [W7], fun p hp => ?_, by simp [idsL]⟩
 ·have := h.1.2.2
  rw [Z8n] at this ⊢
  exact fun l hl => this l (List.mem_of_mem_drop hl)
 ·simp only [immL, Z2w, List.mem_append, List.mem_singleton] at hp
  rcases hp with rfl | hp
  ·have hs : Sub ((⟨b, o + k, none⟩ : Addr), (cells.drop k).map val) ((⟨b, o, none⟩ : Addr), cells.map val) := by
    refine ⟨rfl, k, rfl, fun j u hj => ?_⟩
    simpa [List.getElem?_map, List.getElem?_drop] using hj
   by_cases hrn : cells.drop k = []
   ·left; simp [hrn]
   ·have := h.2.2.1 (⟨b, o, none⟩, cells.map val) (by simp [immL, Z2w])
    rcases this with h0 | ⟨q, hq, hs'⟩
    ·exact absurd h0 (hs.ne (by simpa using hrn))
    ·exact .inr ⟨q, hq, hs.trans hs'⟩
  ·rw [Z7z] at hp
   obtain ⟨l, hl2, hp2⟩ := List.mem_flatMap.1 hp
   refine h.2.2.1 p ?_
   simp only [immL, List.mem_append]
   right
   rw [Z7z]
   exact List.mem_flatMap.2 ⟨l, List.mem_of_mem_drop hl2, hp2⟩
theorem X7a {W : World} {d : S Value} (hg : Good W d) {b o : Nat} {cells : List (L Value)} (h : Has d (.ip (.pointer (some ⟨b, o, none⟩)) cells)) {j : Nat} {l : L Value} (hj : cells[j]? = some l) :
  W.cell? ⟨b, o + j, none⟩ = some (val l) := by
 rcases h.2.2.1 (⟨b, o, none⟩, cells.map val) (by simp [immL, Z2w]) with h0 | ⟨q, hq, hs⟩
 ·rw [List.map_eq_nil_iff] at h0
  subst h0
  simp at hj
 ·have hne : cells.map val ≠ [] := by
   rintro h0
   rw [List.map_eq_nil_iff] at h0
   subst h0
   simp at hj
  exact (hs.fact (hg.imm q hq (hs.ne hne)).1) j (val l) (by simp [hj])
theorem look_er (d : S Value) (id : Nat) : look (erS d).ob id = (look d.ob id).map erOb := by
 unfold look erS mapS
 rw [List.find?_map]
 simp only [Option.map_map, Function.comp_def]
theorem U7 {d : S Value} {id : Nat} {o : Ob Unit} (h : look (erS d).ob id = some o) : ∃ o', look d.ob id = some o' ∧ erOb o' = o := by
 rw [look_er, Option.map_eq_some_iff] at h
 exact h
theorem Z6v {W : World} {d : S Value} (hg : Good W d) {id : Nat} {o : Ob Value} (ho : look d.ob id = some o) {r : List (L Value)} (hr : r ∈ o.rows) {l : L Value} (hl : l ∈ r) : Has d l :=
 Z8a hg (mem_tops.2 (.inr (mem_obLeaves.2 ⟨_, find?_key ho, r, hr, hl⟩)))
theorem X6r {W : World} {d : S Value} (hg : Good W d) {id : Nat} {o : Ob Value} (ho : look d.ob id = some o) {b x c : Nat} (hh : o.h = .slice (some ⟨b, x, none⟩) 0 c)
  {e j : Nat} {r : List (L Value)} {l : L Value} (hr : o.rows[e]? = some r) (hj : r[j]? = some l) : W.cell? ⟨b, x + (e * o.n + j), none⟩ = some (val l) := by
 have hm := find?_key ho
 have : (b, x, c * o.n, valR o.rows) ∈ ownS d := by
  simp only [ownS, List.mem_append]
  left
  exact List.mem_flatMap.2 ⟨(id, o), hm, by simp [Y7, hh]⟩
 obtain ⟨arr, ty, h1, h2, h3, h4⟩ := hg.own _ this
 have hv := Y8d (hg.obs _ hm).2 hr hj
 have := h4 _ _ hv
 simp only [World.cell?, h1]
 simpa using this
theorem Z8d (b o k : Nat) : (⟨b, o, none⟩ : Addr).add k = ⟨b, o + k, none⟩ := by unfold Addr.add; split <;> simp_all
def pk {δ : Type} (i : TI) (cells : List (L δ)) (off : Nat) : Option (U δ) :=
 if i.agg then (if off + i.size ≤ cells.length then some (.agg ((cells.drop off).take i.size)) else none) else (cells[off]?).map .one
theorem W5q (i : TI) (cells : List (L Value)) (off : Nat) : (pk i cells off).map erU = pk i (cells.map erL) off := by
 unfold pk
 split
 ·rw [List.length_map]
  split
  ·simp [mapU, List.map_take, List.map_drop]
  ·rfl
 ·rw [List.getElem?_map]
  cases cells[off]? <;> rfl
theorem X8e {δ : Type} {i : TI} {cells : List (L δ)} {off : Nat} {u : U δ} (h : pk i cells off = some u) : ∀ l ∈ Z1 u, l ∈ cells := by
 unfold pk at h
 split at h
 ·split at h
  ·cases h
   exact fun l hl => List.mem_of_mem_drop (List.mem_of_mem_take hl)
  ·cases h
 ·rw [Option.map_eq_some_iff] at h
  obtain ⟨l, hl, rfl⟩ := h
  intro l' hl'
  simp only [Z1, List.mem_singleton] at hl'
  subst hl'
  exact List.mem_of_getElem? hl
def Z5i {δ : Type} (u : U δ) : Bool := (Z1 u).all noOs
theorem Y8m (u : U Value) : Z5i (erU u) = Z5i u := by
 simp only [Z5i, Q2, List.all_map]
 congr 1
 funext l
 exact Z9p l
theorem W1x {P : Program} {W : World} {t : TypeId} {i : TI} (ht : tiOf P t = some i) {b o off : Nat} {cells : List (L Value)} {u : U Value} (h : pk i cells off = some u)
  (hc : ∀ (j : Nat) l, cells[j]? = some l → W.cell? ⟨b, o + j, none⟩ = some (val l)) : ∃ x, (Instr.loadAt t (.pointer (some ⟨b, o + off, none⟩))).run P W = .ok x W ∧ UR u x := by
 obtain ⟨info, d, z, hi, hu, _, _, _, hagg, hsz, _⟩ := U6 ht
 have hsize : ∀ w : World, (sizeOf t).run P w = .ok info.size w := fun w => by simp [sizeOf, typeInfo, hi]
 have hisagg : ∀ w : World, (isAgg t).run P w = .ok (X2c d) w := fun w => by
  unfold isAgg
  rw [Sem.run_bind, run_underlying hu]
  cases d <;> rfl
 unfold pk at h
 simp only [Instr.loadAt, Instr.sureAddr, Sem.run_bind, Sem.run_pure, Result.andThen_ok, loadVar, hisagg]
 rw [hagg] at h
 split at h
 ·rename_i hag
  split at h
  ·rename_i hle
   cases h
   rw [hag]
   simp only [if_true, Sem.run_bind, hsize, Result.andThen_ok]
   have hl : ((cells.drop off).take i.size).length = info.size := by rw [List.length_take, List.length_drop, ← hsz]; omega
   have := run_loadCells_list (P := P) W ⟨b, o + off, none⟩ (((cells.drop off).take i.size).map val) (fun j v hj => by
    rw [List.getElem?_map, Option.map_eq_some_iff] at hj
    obtain ⟨l, hl, rfl⟩ := hj
    rw [Z8d, Nat.add_assoc]
    refine hc _ _ ?_
    rw [List.getElem?_take] at hl
    split at hl
    ·rwa [List.getElem?_drop] at hl
    ·cases hl)
   rw [List.length_map, hl] at this
   rw [this]
   exact ⟨_, rfl, rfl⟩
  ·cases h
 ·rename_i hag
  rw [Option.map_eq_some_iff] at h
  obtain ⟨l, hl, rfl⟩ := h
  have hag' : X2c d = false := by simpa using hag
  rw [hag']
  simp only [Bool.false_eq_true, if_false, run_load, hc _ _ hl]
  exact ⟨_, rfl, rfl⟩
def ldF (P : Program) (t : TypeId) (lk : Lk) (l : Option (L Unit)) : Option Eff :=
 (tiOf P t).bind fun i => match l with
  | some (.ptr _ id e j) => (lk id).bind fun o => (o.rows[e]?).bind fun r => (pk i r j).bind fun u => if Z5i u then some { v := .u u, rd := [id] } else none
  | some (.ip _ cells) => (pk i cells 0).bind fun u => if Z5i u then some { v := .u u } else none
  | _ => none
theorem bind_some {α β : Type} {x : Option α} {f : α → Option β} {y : β} (h : x.bind f = some y) : ∃ a, x = some a ∧ f a = some y := by
 cases x with
 | none => cases h
 | some a => exact ⟨a, rfl, h⟩
theorem Y1c {o : Ob Value} {e : Nat} {r : List (L Unit)} (h : (erOb o).rows[e]? = some r) : ∃ r', o.rows[e]? = some r' ∧ r'.map erL = r := by
 simp only [erOb, Z3e, List.getElem?_map, Option.map_eq_some_iff] at h
 exact h
theorem ld_ok {P : Program} {B : Bd} {o : Oper} {a : Act} {W : World} {d : S Value} {nid : Nat} {e : Eff} (hi : Inv B W d) (hs : SlR d a) {t : TypeId} {x : Operand} (ho : o.op = .load t x)
  (he : ldF P t (look (erS d).ob) (lO (evA (erS d) x)) = some e) : Done P B o a W d nid e := by
 unfold ldF at he
 obtain ⟨i, ht, he⟩ := bind_some he
 split at he
 ·rename_i v id e' j hx
  obtain ⟨ob, hob, he⟩ := bind_some he
  obtain ⟨r, hr, he⟩ := bind_some he
  obtain ⟨u, hu, he⟩ := bind_some he
  split at he
  ·rename_i hno
   cases he
   obtain ⟨l', h1, h2, h3⟩ := V8 hi.good hs hx
   obtain ⟨v', rfl⟩ := X2g h1
   obtain ⟨ob', ho', rfl⟩ := U7 hob
   obtain ⟨b, y, c0, hh, hv⟩ := h3.2.1 ob' ho'
   obtain ⟨r', hr', rfl⟩ := Y1c hr
   rw [← W5q, Option.map_eq_some_iff] at hu
   obtain ⟨u', hu', rfl⟩ := hu
   obtain ⟨x', hx', hur⟩ := W1x (W := W) ht (b := b) (o := y + e' * ob'.n) hu' (fun k l hk => by rw [Nat.add_assoc]; exact X6r hi.good ho' hh hr' hk)
   refine Z9v hi hs (v := .u u') (x := x') ?_ hur (by rw [← Y4v]; exact hno) (fun l hl => Z6v hi.good ho' (List.mem_of_getElem? hr') (X8e hu' l hl)) trivial
   simp only [execOp, ho, h2, val, hv]
   rw [← Nat.add_assoc, Sem.run_bind, hx']
   rfl
  ·cases he
 ·rename_i v cells hx
  obtain ⟨u, hu, he⟩ := bind_some he
  split at he
  ·rename_i hno
   cases he
   obtain ⟨l', h1, h2, h3⟩ := V8 hi.good hs hx
   obtain ⟨v', c', rfl, rfl⟩ := er_ip h1
   rw [Z7f, ← W5q, Option.map_eq_some_iff] at hu
   obtain ⟨u', hu', rfl⟩ := hu
   obtain ⟨_, ⟨b, y, rfl⟩, _⟩ := h3.1
   obtain ⟨x', hx', hur⟩ := W1x (W := W) ht (b := b) (o := y) hu' (fun k l hk => X7a hi.good h3 hk)
   refine Z9v hi hs (v := .u u') (x := x') ?_ hur (by rw [← Y4v]; exact hno) (fun l hl => X6y h3 (X8e hu' l hl)) trivial
   simp only [execOp, ho, h2, val]
   rw [Nat.add_zero] at hx'
   rw [Sem.run_bind, hx']
   rfl
  ·cases he
 ·cases he
end
section
theorem Y6k {d : TypeDesc} (h : kdD d = .struct) : ∃ fs, d = .struct fs := by cases d <;> simp [kdD] at h; exact ⟨_, rfl⟩
theorem X2f {d : TypeDesc} {fs : Array Field} (hd : d = .struct fs) {f : Nat} {p : Nat × TypeId} (h : (X3w d)[f]? = some p) : ∃ x, fs[f]? = some x ∧ x.offset = p.1 ∧ x.type = p.2 := by
 subst hd
 simp only [X3w, List.getElem?_map, Option.map_eq_some_iff, Array.getElem?_toList] at h
 obtain ⟨x, hx, rfl⟩ := h
 exact ⟨x, hx, rfl, rfl⟩
def faF (P : Program) (s : TypeId) (f : Nat) (lk : Lk) (l : Option (L Unit)) : Option Eff :=
 (tiOf P s).bind fun i => match i.kd with
  | .struct => (i.fields[f]?).bind fun p => (tiOf P p.2).bind fun k => if k.size = 0 then none else
   match l with
   | some (.ptr v id e j) => (lk id).bind fun _ => some { v := one1 (.ptr v id e (j + p.1)), rd := [id] }
   | some (.ip v cells) => some { v := one1 (.ip v (cells.drop p.1)) }
   | _ => none
  | _ => none
theorem fa_ok {P : Program} {B : Bd} {o : Oper} {a : Act} {W : World} {d : S Value} {nid : Nat} {e : Eff} (hi : Inv B W d) (hs : SlR d a) {s : TypeId} {f : Nat} {x : Operand} (ho : o.op = .fieldAddr s x f)
  (he : faF P s f (look (erS d).ob) (lO (evA (erS d) x)) = some e) : Done P B o a W d nid e := by
 unfold faF at he
 obtain ⟨i, ht, he⟩ := bind_some he
 obtain ⟨info, td, z, hinf, hu, _, _, hkd, _, _, _, hfs, _⟩ := U6 ht
 split at he
 ·rename_i hk
  obtain ⟨fs, hd⟩ := Y6k (hkd.symm.trans hk)
  obtain ⟨p, hp, he⟩ := bind_some he
  rw [hfs] at hp
  obtain ⟨fld, hf1, hf2, hf3⟩ := X2f hd hp
  obtain ⟨k, hk2, he⟩ := bind_some he
  obtain ⟨info2, _, _, hinf2, _, _, _, _, _, hsz2, _⟩ := U6 hk2
  subst hd
  split at he
  ·cases he
  ·rename_i hne
   have hrun : ∀ (b y : Nat), (Instr.fieldAt s (.pointer (some ⟨b, y, none⟩)) f).run P W = .ok (.pointer (some ⟨b, y + p.1, none⟩)) W := fun b y => by
    have hsz : (sizeOf fld.type).run P W = .ok k.size W := by simp [sizeOf, typeInfo, hf3, hinf2, hsz2]
    simp [Instr.fieldAt, run_underlying hu, hf1, Instr.sureAddr, fieldPlace, hsz, hne, Z8d, hf2]
   split at he
   ·rename_i v id e' j hx
    obtain ⟨ob, hob, he⟩ := bind_some he
    cases he
    obtain ⟨l', h1, h2, h3⟩ := V8 hi.good hs hx
    obtain ⟨v', rfl⟩ := X2g h1
    obtain ⟨ob', ho', rfl⟩ := U7 hob
    obtain ⟨b, y, c0, hh, hv⟩ := h3.2.1 ob' ho'
    refine J4 (l := .ptr (.pointer (some ⟨b, y + (e' * ob'.n + (j + p.1)), none⟩)) id e' (j + p.1)) hi hs ?_ rfl ⟨⟨rfl, _, rfl⟩, fun o2 ho2 => ?_, by simp [immL], h3.2.2.2⟩
    ·simp only [execOp, ho, h2, val, hv]
     rw [Sem.run_bind, hrun]
     simp [Nat.add_assoc]
    ·rw [ho'] at ho2
     cases ho2
     exact ⟨b, y, c0, hh, rfl⟩
   ·rename_i v cells hx
    cases he
    obtain ⟨l', h1, h2, h3⟩ := V8 hi.good hs hx
    obtain ⟨v', c', rfl, rfl⟩ := er_ip h1
    obtain ⟨_, ⟨b, y, rfl⟩, _⟩ := h3.1
    have := J4 (P := P) (B := B) (o := o) (a := a) (W := W) (nid := nid) (rd := []) (hyp := True) (l := .ip (.pointer (some ⟨b, y + p.1, none⟩)) (c'.drop p.1)) hi hs (by
     simp only [execOp, ho, h2, val]
     rw [Sem.run_bind, hrun]
     rfl) rfl (X6z h3 p.1)
    simpa [mapL, Z7f, List.map_drop] using this
   ·cases he
 ·cases he
def fdF (P : Program) (s : TypeId) (f : Nat) (u : Option (U Unit)) : Option Eff :=
 (tiOf P s).bind fun i => match i.kd with
  | .struct => (i.fields[f]?).bind fun p => (tiOf P p.2).bind fun k => match u with
   | some (.agg ls) => (pk k ls p.1).bind fun u => if Z5i u then some { v := .u u } else none
   | _ => none
  | _ => none
theorem W1y {P : Program} {W : World} {t : TypeId} {i : TI} (ht : tiOf P t = some i) {off : Nat} {cells : List (L Value)} {u : U Value} (h : pk i cells off = some u) :
  ∃ x, (part t (cells.map val).toArray off).run P W = .ok x W ∧ UR u x := by
 obtain ⟨info, d, z, hi, hu, _, _, _, hagg, hsz, _⟩ := U6 ht
 have hsize : (sizeOf t).run P W = .ok info.size W := by simp [sizeOf, typeInfo, hi]
 have hisagg : (isAgg t).run P W = .ok (X2c d) W := by
  unfold isAgg
  rw [Sem.run_bind, run_underlying hu]
  cases d <;> rfl
 unfold pk at h
 rw [hagg] at h
 simp only [part, Sem.run_bind, hisagg, Result.andThen_ok]
 split at h
 ·rename_i hag
  split at h
  ·cases h
   rw [hag]
   simp only [if_true, Sem.run_bind, hsize, Result.andThen_ok]
   refine ⟨_, rfl, ?_⟩
   simp only [UR]
   congr 1
   rw [← hsz]
   simp [List.map_take, List.map_drop]
  ·cases h
 ·rename_i hag
  rw [Option.map_eq_some_iff] at h
  obtain ⟨l, hl, rfl⟩ := h
  have hag' : X2c d = false := by simpa using hag
  rw [hag']
  simp [hl]
  rfl
theorem fd_ok {P : Program} {B : Bd} {o : Oper} {a : Act} {W : World} {d : S Value} {nid : Nat} {e : Eff} (hi : Inv B W d) (hs : SlR d a) {s : TypeId} {f : Nat} {x : Operand} (ho : o.op = .field s x f)
  (he : fdF P s f (uO (evA (erS d) x)) = some e) : Done P B o a W d nid e := by
 unfold fdF at he
 obtain ⟨i, ht, he⟩ := bind_some he
 obtain ⟨info, td, z, hinf, hu, _, _, hkd, _, _, _, hfs, _⟩ := U6 ht
 split at he
 ·rename_i hk
  obtain ⟨fs, hd⟩ := Y6k (hkd.symm.trans hk)
  obtain ⟨p, hp, he⟩ := bind_some he
  rw [hfs] at hp
  obtain ⟨fld, hf1, hf2, hf3⟩ := X2f hd hp
  obtain ⟨k, hk2, he⟩ := bind_some he
  subst hd
  split at he
  ·rename_i ls hx
   obtain ⟨u, hu2, he⟩ := bind_some he
   split at he
   ·rename_i hno
    cases he
    obtain ⟨u', h1, h2, h3⟩ := u_ok hi.good hs hx
    cases u' with
    | one l => cases h1
    | agg ls' =>
     simp only [mapU, U.agg.injEq] at h1
     subst h1
     rw [← W5q, Option.map_eq_some_iff] at hu2
     obtain ⟨u2, hu2, rfl⟩ := hu2
     obtain ⟨x', hx', hur⟩ := W1y (W := W) hk2 hu2
     refine Z9v hi hs (v := .u u2) (x := x') ?_ hur (by rw [← Y4v]; exact hno) (fun l hl => h3 l (X8e hu2 l hl)) trivial
     simp only [UR] at h2
     simp only [execOp, ho, h2]
     simp [Instr.field, run_underlying hu, hf1, asAgg, hf2, hf3, hx']
   ·cases he
  ·cases he
 ·cases he
def ixF (P : Program) (t : TypeId) (lk : Lk) (l ix : Option (L Unit)) : Option Eff :=
 (tiOf P t).bind fun i => match i.kd with
  | .slice => (tiOf P i.elem).bind fun ie => match ix with
   | some (.int _ n) => (match l with
    | some (.bs v m rows) => if m = ie.size then (if 0 ≤ n ∧ n < (rows.length : Int) then (rows[n.toNat]?).bind fun r => some { v := one1 (.ip v r) } else none) else none
    | some (.ref v id off len) => (lk id).bind fun ob => if ob.n = ie.size then (if 0 ≤ n ∧ n < (len : Int) then some { v := one1 (.ptr v id (off + n.toNat) 0), rd := [id] } else none) else none
    | _ => none)
   | _ => none
  | _ => none
theorem ix_ok {P : Program} {B : Bd} {o : Oper} {a : Act} {W : World} {d : S Value} {nid : Nat} {e : Eff} (hi : Inv B W d) (hs : SlR d a) {t : TypeId} {x y : Operand} (ho : o.op = .indexAddr t x y)
  (he : ixF P t (look (erS d).ob) (lO (evA (erS d) x)) (lO (evA (erS d) y)) = some e) : Done P B o a W d nid e := by
 unfold ixF at he
 obtain ⟨i, ht, he⟩ := bind_some he
 obtain ⟨info, td, z, hinf, hu, _, _, hkd, _, _, _, _, hel, _⟩ := U6 ht
 split at he
 ·rename_i hk
  have hd := Z7h (hkd.symm.trans hk)
  obtain ⟨ie, hie, he⟩ := bind_some he
  obtain ⟨info2, _, _, hinf2, _, _, _, _, _, hsz2, _⟩ := U6 hie
  rw [hel] at hinf2
  have hsz : ∀ w : World, (sizeOf (Y6z td)).run P w = .ok ie.size w := fun w => by simp [sizeOf, typeInfo, hinf2, hsz2]
  rw [hd] at hu
  split at he
  ·rename_i k n hy
   obtain ⟨y', g1, g2, g3⟩ := V8 hi.good hs hy
   obtain rfl := Y3t g1
   have hrun : ∀ (b q len c : Nat), 0 ≤ n ∧ n < (len : Int) → (Instr.indexAt t (.slice (some ⟨b, q, none⟩) len c) (.int k n)).run P W = .ok (.pointer (some ⟨b, q + n.toNat * ie.size, none⟩)) W := fun b q len c hb => by
    simp [Instr.indexAt, run_underlying hu, asIntOf, hb, hsz, Z8d]
   split at he
   ·rename_i v m rows hx
    split at he
    ·rename_i hm
     split at he
     ·rename_i hb
      obtain ⟨r, hr, he⟩ := bind_some he
      cases he
      obtain ⟨l', h1, h2, h3⟩ := V8 hi.good hs hx
      obtain ⟨v', rows', rfl, rfl⟩ := W6h h1
      rw [Z1m, List.getElem?_map, Option.map_eq_some_iff] at hr
      obtain ⟨r', hr', rfl⟩ := hr
      rw [Z1m, List.length_map] at hb
      obtain ⟨b, q, c, hv, hh⟩ := has_row h3 hr'
      have := J4 (P := P) (B := B) (o := o) (a := a) (W := W) (nid := nid) (rd := []) (hyp := True) (l := .ip (.pointer (some ⟨b, q + n.toNat * m, none⟩)) r') hi hs (by
       simp only [execOp, ho, h2, g2, val, hv]
       rw [Sem.run_bind, hrun _ _ _ _ hb, hm]
       rfl) rfl hh
      simpa [mapL, Z7f] using this
     ·cases he
    ·cases he
   ·rename_i v id off len hx
    obtain ⟨ob, hob, he⟩ := bind_some he
    split at he
    ·rename_i hm
     split at he
     ·rename_i hb
      cases he
      obtain ⟨l', h1, h2, h3⟩ := V8 hi.good hs hx
      obtain ⟨v', rfl⟩ := Y5m h1
      obtain ⟨ob', ho', rfl⟩ := U7 hob
      obtain ⟨hlen, hv⟩ := h3.2.1 ob' ho'
      rcases hv with ⟨hh, hv⟩ | ⟨b, q, c0, hh, hv⟩
      ·have := (hi.good.obs _ (find?_key ho')).1
       rcases this with ⟨_, h0⟩ | ⟨b, q, c, h0, _⟩
       ·rw [h0] at hlen; simp at hlen; omega
       ·rw [hh] at h0; cases h0
      ·rcases hv with hv | ⟨a0, hv, h0, _⟩
       ·refine J4 (l := .ptr (.pointer (some ⟨b, q + ((off + n.toNat) * ob'.n + 0), none⟩)) id (off + n.toNat) 0) hi hs ?_ rfl ⟨⟨rfl, _, rfl⟩, fun o2 ho2 => ?_, by simp [immL], h3.2.2.2⟩
        ·simp only [execOp, ho, h2, g2, val, hv]
         rw [Sem.run_bind, hrun _ _ _ _ hb]
         have : (erOb ob').n = ob'.n := rfl
         rw [this] at hm
         simp [hm, Nat.add_mul, Nat.add_assoc]
        ·rw [ho'] at ho2
         cases ho2
         exact ⟨b, q, c0, hh, rfl⟩
       ·omega
     ·cases he
    ·cases he
   ·cases he
  ·cases he
 ·cases he
def siF (P : Program) (t : TypeId) (l ix : Option (L Unit)) : Option Eff :=
 (tiOf P t).bind fun i => match i.kd, l, ix with
  | .str, some (.str s), some (.int _ n) => if 0 ≤ n then (s[n.toNat]?).bind fun b => some { v := one1 (.int .u8 b.toNat) } else none
  | _, _, _ => none
theorem si_ok {P : Program} {B : Bd} {o : Oper} {a : Act} {W : World} {d : S Value} {nid : Nat} {e : Eff} (hi : Inv B W d) (hs : SlR d a) {t : TypeId} {x y : Operand} (ho : o.op = .index t x y)
  (he : siF P t (lO (evA (erS d) x)) (lO (evA (erS d) y)) = some e) : Done P B o a W d nid e := by
 unfold siF at he
 obtain ⟨i, ht, he⟩ := bind_some he
 obtain ⟨info, td, z, hinf, hu, _, _, hkd, _⟩ := U6 ht
 split at he
 ·rename_i s k n hk hx hy
  obtain rfl := X3n (hkd.symm.trans hk)
  obtain ⟨l', h1, h2, h3⟩ := V8 hi.good hs hx
  obtain rfl := X9h h1
  obtain ⟨y', g1, g2, g3⟩ := V8 hi.good hs hy
  obtain rfl := Y3t g1
  split at he
  ·rename_i hn
   obtain ⟨b, hb, he⟩ := bind_some he
   cases he
   refine J4 (l := .int _ _) hi hs ?_ rfl (Y1r _ _)
   simp [execOp, ho, h2, g2, val, Instr.index, asIntOf, run_underlying hu, hn, hb]
  ·cases he
 ·cases he
def exF (v : Option (V Unit)) (n : Nat) : Option Eff := match v with
 | some (.tup xs) => (xs[n]?).bind fun u => if Z5i u then some { v := .u u } else none
 | _ => none
theorem ex_ok {P : Program} {B : Bd} {o : Oper} {a : Act} {W : World} {d : S Value} {nid : Nat} {e : Eff} (hi : Inv B W d) (hs : SlR d a) {x : Operand} {n : Nat} (ho : o.op = .extract x n)
  (he : exF (evA (erS d) x) n = some e) : Done P B o a W d nid e := by
 unfold exF at he
 split at he
 ·rename_i xs hx
  obtain ⟨u, hu, he⟩ := bind_some he
  split at he
  ·rename_i hno
   cases he
   obtain ⟨v', h1, h2⟩ := X7f hx
   obtain ⟨h3, h4⟩ := X9f hi.good hs h1
   cases v' with
   | tup xs' =>
    simp only [mapV, V.tup.injEq] at h2
    subst h2
    rw [List.getElem?_map, Option.map_eq_some_iff] at hu
    obtain ⟨u', hu', rfl⟩ := hu
    obtain ⟨vs, hv, hl, hall⟩ := h3
    have hlt : n < vs.length := by rw [hl]; exact (List.getElem?_eq_some_iff.1 hu').1
    refine Z9v hi hs (v := .u u') (x := vs[n]) ?_ (hall n u' _ hu' (List.getElem?_eq_getElem hlt)) (by rw [← Y4v]; exact hno) (fun l hl => h4 l ?_) trivial
    ·simp [execOp, ho, hv, Instr.extract, hlt]
    ·simp only [Z3]
     exact List.mem_flatMap.2 ⟨u', List.mem_of_getElem? hu', hl⟩
   | u x => cases h2
   | un => cases h2
   | ud => cases h2
  ·cases he
 ·cases he
def lenF (P : Program) (ts : Array TypeId) (lk : Lk) (l : Option (L Unit)) : Option Eff := match ts[0]? with
 | some t => (tiOf P t).bind fun i => match i.kd, l with
  | .str, some (.str s) => some { v := one1 (.int .i64 s.size) }
  | .slice, some .nl => some { v := one1 (.int .i64 0) }
  | .slice, some (.bs _ _ rows) => some { v := one1 (.int .i64 rows.length), hyp := rows.length ≤ LIM }
  | .slice, some (.ref _ id _ len) => (lk id).bind fun _ => some { v := one1 (.int .i64 len), rd := [id], hyp := len ≤ LIM }
  | _, _ => none
 | none => none
theorem len_ok {P : Program} {B : Bd} {o : Oper} {a : Act} {W : World} {d : S Value} {nid : Nat} {e : Eff} (hi : Inv B W d) (hs : SlR d a) {ts : Array TypeId} {x : Operand}
  (ho : o.op = .call { callee := .builtin .len, args := #[x], argTypes := ts }) (he : lenF P ts (look (erS d).ob) (lO (evA (erS d) x)) = some e) : Done P B o a W d nid e := by
 unfold lenF at he
 split at he
 ·rename_i t hts
  obtain ⟨i, ht, he⟩ := bind_some he
  obtain ⟨info, td, z, hinf, hu, _, _, hkd, _⟩ := U6 ht
  have hrun : ∀ v r, a.eval x = v → (match td, v with | .string, .string s => (goInt s.size) = r | .slice _, .slice _ n _ => goInt n = r | _, _ => False) → (execOp a.eval o).run P W = .ok (.value r) W := fun v r hv h => by
   simp only [execOp, ho, resolve, invoke, builtin, Builtin.len_, List.map_toArray, List.map_cons, List.map_nil, hv]
   split at h
   ·simp [hts, run_underlying hu, h]
   ·simp [hts, run_underlying hu, h]
   ·cases h
  split at he
  ·rename_i s hk hx
   obtain rfl := X3n (hkd.symm.trans hk)
   cases he
   obtain ⟨l', h1, h2, h3⟩ := V8 hi.good hs hx
   obtain rfl := X9h h1
   exact J4 (l := .int _ _) hi hs (hrun _ _ h2 rfl) rfl (Y1r _ _)
  ·rename_i hk hx
   have hd := Z7h (hkd.symm.trans hk)
   cases he
   obtain ⟨l', h1, h2, h3⟩ := V8 hi.good hs hx
   obtain rfl := W6g h1
   exact J4 (l := .int _ _) hi hs (hrun _ _ h2 (by rw [hd]; rfl)) rfl (Y1r _ _)
  ·rename_i v m rows hk hx
   have hd := Z7h (hkd.symm.trans hk)
   cases he
   obtain ⟨l', h1, h2, h3⟩ := V8 hi.good hs hx
   obtain ⟨v', rows', rfl, rfl⟩ := W6h h1
   obtain ⟨⟨a0, c, hv, _, hlim, _⟩, _⟩ := h3.1
   have hl : (mapR (fun _ => ()) rows').length = rows'.length := by rw [Z1m, List.length_map]
   rw [hl]
   exact J4 (l := .int _ _) hi hs (hrun _ _ h2 (by rw [hd, val, hv]; rfl)) rfl (Y1r _ _) hlim
  ·rename_i v id off len hk hx
   have hd := Z7h (hkd.symm.trans hk)
   obtain ⟨ob, hob, he⟩ := bind_some he
   cases he
   obtain ⟨l', h1, h2, h3⟩ := V8 hi.good hs hx
   obtain ⟨v', rfl⟩ := Y5m h1
   obtain ⟨ob', ho', rfl⟩ := U7 hob
   obtain ⟨hlen, hv⟩ := h3.2.1 ob' ho'
   have hlim : len ≤ LIM := by
    have := (hi.good.obs _ (find?_key ho')).1
    rcases this with ⟨_, h0⟩ | ⟨_, _, _, _, _, h0⟩
    ·rw [h0] at hlen; simp at hlen; omega
    ·simp only at h0; omega
   have hval : ∃ a0 c, v' = .slice a0 len c := by
    rcases hv with ⟨hh, hv⟩ | ⟨b, q, c0, hh, hv⟩
    ·have := (hi.good.obs _ (find?_key ho')).1
     rcases this with ⟨_, h0⟩ | ⟨b, q, c, h0, _⟩
     ·rw [h0] at hlen; simp at hlen
      obtain ⟨_, rfl⟩ := hlen
      exact ⟨_, _, hv⟩
     ·rw [hh] at h0; cases h0
    ·rcases hv with hv | ⟨a0, hv, rfl, _⟩
     ·exact ⟨_, _, hv⟩
     ·exact ⟨_, _, hv⟩
   obtain ⟨a0, c, hv2⟩ := hval
   exact J4 (l := .int _ _) hi hs (hrun _ _ h2 (by rw [hd, val, hv2]; rfl)) rfl (Y1r _ _) hlim
  ·cases he
 ·cases he
def mmF (mx : Bool) (x y : Option (L Unit)) : Option Eff := match x, y with
 | some (.int k a), some (.int _ b) => some { v := one1 (.int k (if (if mx then b > a else b < a) then b else a)) }
 | _, _ => none
theorem mm_ok {P : Program} {B : Bd} {o : Oper} {a : Act} {W : World} {d : S Value} {nid : Nat} {e : Eff} (hi : Inv B W d) (hs : SlR d a) {ts : Array TypeId} {mx : Bool} {x y : Operand}
  (ho : o.op = .call { callee := .builtin (if mx then .max else .min), args := #[x, y], argTypes := ts }) (he : mmF mx (lO (evA (erS d) x)) (lO (evA (erS d) y)) = some e) : Done P B o a W d nid e := by
 unfold mmF at he
 split at he
 ·rename_i k m k' n hx hy
  cases he
  obtain ⟨l', h1, h2, h3⟩ := V8 hi.good hs hx
  obtain rfl := Y3t h1
  obtain ⟨y', g1, g2, g3⟩ := V8 hi.good hs hy
  obtain rfl := Y3t g1
  refine J4 (l := .int _ _) hi hs ?_ rfl (Y1r _ _)
  cases mx <;> simp [execOp, ho, resolve, invoke, builtin, Builtin.max_, Builtin.min_, Builtin.max2, Builtin.min2, h2, g2, val]
 ·cases he
end
section
theorem SubIn.trans {p : Addr × List Value} {l l' : List (Addr × List Value)} (h : SubIn p l) (h' : ∀ q ∈ l, SubIn q l') : SubIn p l' := by
 rcases h with h | ⟨q, hq, hs⟩
 ·exact .inl h
 ·rcases h' q hq with h0 | ⟨r, hr, hs'⟩
  ·left
   rcases hp : p.2 with _ | ⟨v, vs⟩
   ·rfl
   ·exact absurd h0 (hs.ne (by simp [hp]))
  ·exact .inr ⟨r, hr, hs.trans hs'⟩
theorem Inv.step {B : Bd} {W W' : World} {d d' : S Value} (h : Inv B W d) (hsz : W.heap.size ≤ W'.heap.size) (hst : Same W W')
  (hfr : ∀ b, b < W.heap.size → (∀ p ∈ ownS d, p.1 ≠ b) → W'.heap[b]? = W.heap[b]?)
  (hwf : ∀ l ∈ tops d', wfL false l ∧ W7 d'.ob l)
  (hobs : ∀ p ∈ d'.ob, ((p.2.h = .slice none 0 0 ∧ p.2.rows = []) ∨ ∃ b x c, p.2.h = .slice (some ⟨b, x, none⟩) 0 c ∧ p.2.rows.length ≤ c ∧ p.2.rows.length ≤ LIM) ∧ ∀ r ∈ p.2.rows, r.length = p.2.n)
  (hids : (d'.ob.map (·.1)).Nodup)
  (hown : ∀ p ∈ ownS d', OwnFact W' p ∧ ((∃ q ∈ ownS d, q.1 = p.1) ∨ W.heap.size ≤ p.1))
  (hnd : ((ownS d').map (·.1)).Nodup) (himm : ∀ p ∈ immS d', SubIn p (immS d)) (hhdr : ∀ p ∈ d'.ob, p.1 < B.n0 → p.2.h = B.H0 p.1) : Inv B W' d' where
 good := {
  wf := hwf
  obs := hobs
  ids := hids
  own := fun p hp => (hown p hp).1
  nodup := hnd
  imm := fun p hp hne => by
   rcases himm p hp with h0 | ⟨q, hq, hs⟩
   ·exact absurd h0 hne
   ·obtain ⟨h1, h2⟩ := h.good.imm q hq (hs.ne hne)
    have hlt := h1.lt (hs.ne hne)
    refine ⟨hs.fact (h1.same (hfr _ hlt h2)), fun r hr => ?_⟩
    rw [hs.1]
    rcases (hown r hr).2 with ⟨q2, hq2, he⟩ | hge
    ·rw [← he]; exact h2 q2 hq2
    ·omega }
 fr := ⟨Nat.le_trans h.fr.1 hsz, fun b hb hm => by
  refine (hfr b (Nat.lt_of_lt_of_le hb h.fr.1) fun p hp he => ?_).trans (h.fr.2 b hb hm)
  rcases h.mine p hp with h1 | h1
  ·exact hm (he ▸ h1)
  ·omega, h.fr.3.trans hst⟩
 mine := fun p hp => by
  rcases (hown p hp).2 with ⟨q, hq, he⟩ | hge
  ·rw [← he]; exact h.mine q hq
  ·exact .inr (Nat.le_trans h.fr.1 hge)
 seen := fun p hp hne => by
  rcases himm p hp with h0 | ⟨q, hq, hs⟩
  ·exact absurd h0 hne
  ·rw [hs.1]; exact h.seen q hq (hs.ne hne)
 hdr := hhdr
mutual
theorem Z7v {ob ob' : List (Nat × Ob Value)} : ∀ {l : L Value}, (∀ i ∈ idsL l, look ob' i = look ob i ∨ look ob' i = none) → W7 ob l → W7 ob' l
 | .int _ _, _, _ => by simp [W7]
 | .bool _, _, _ => by simp [W7]
 | .str _, _, _ => by simp [W7]
 | .nl, _, _ => by simp [W7]
 | .nilp, _, _ => by simp [W7]
 | .bs _ _ _, _, _ => by simp [W7]
 | .os _ _ _, _, _ => by simp [W7]
 | .ip _ _, _, _ => by simp [W7]
 | .ref v id off len, hl, h => fun o ho => by
  rcases hl id (by simp [idsL]) with h1 | h1
  ·exact h o (h1 ▸ ho)
  ·rw [h1] at ho; cases ho
 | .ptr v id e j, hl, h => fun o ho => by
  rcases hl id (by simp [idsL]) with h1 | h1
  ·exact h o (h1 ▸ ho)
  ·rw [h1] at ho; cases ho
 | .fn _ _ caps, hl, h => by
  simp only [W7] at h ⊢
  exact Y9p (fun i hi => hl i (by simpa [idsL] using hi)) h
theorem Y9p {ob ob' : List (Nat × Ob Value)} : ∀ {ls : List (L Value)}, (∀ i ∈ idsC ls, look ob' i = look ob i ∨ look ob' i = none) → Z3j ob ls → Z3j ob' ls
 | [], _, _ => by simp [Z3j]
 | l :: ls, hl, h => by
  simp only [Z3j] at h ⊢
  exact ⟨Z7v (fun i hi => hl i (by simp [idsC, hi])) h.1, Y9p (fun i hi => hl i (by simp [idsC, hi])) h.2⟩
end
theorem X6v {δ : Type} {ob : List (Nat × Ob δ)} {k : Nat} {o : Ob δ} {i : Nat} (h : i ≠ k) : look (ob ++ [(k, o)]) i = look ob i := by
 unfold look
 rw [List.find?_append]
 have : [(k, o)].find? (fun p => p.1 == i) = none := by simp [Ne.symm h]
 rw [this, Option.or_none]
theorem Y7r {δ : Type} {ob : List (Nat × Ob δ)} {k : Nat} {o : Ob δ} (h : k ∉ ob.map (·.1)) : look (ob ++ [(k, o)]) k = some o := by
 unfold look
 rw [List.find?_append]
 have : ob.find? (fun p => p.1 == k) = none := by
  rw [List.find?_eq_none]
  intro p hp
  simp only [beq_iff_eq]
  rintro rfl
  exact h (List.mem_map.2 ⟨p, hp, rfl⟩)
 rw [this]
 simp
theorem Z9q {δ : Type} {ob : List (Nat × Ob δ)} {f : Nat → Bool} {i : Nat} : look (ob.filter (fun p => f p.1)) i = look ob i ∨ look (ob.filter (fun p => f p.1)) i = none := by
 unfold look
 rw [List.find?_filter]
 by_cases hf : f i = true
 ·left
  congr 2
  funext p
  by_cases hp : p.1 = i
  ·simp [hp, hf]
  ·simp [hp]
 ·right
  simp only [Option.map_eq_none_iff, List.find?_eq_none]
  intro p _
  simp only [decide_eq_true_eq, not_and, beq_iff_eq, Bool.and_eq_true]
  rintro h1 rfl
  exact hf h1
theorem Z0n {δ : Type} (ob ob' : List (Nat × Ob δ)) : X6 (ob ++ ob') = X6 ob ++ X6 ob' := by simp [X6]
theorem X6n (sl : List (V Value)) (ob : List (Nat × Ob Value)) (k : Nat) (o : Ob Value) (nx nx' : Nat) :
  (ownS ⟨sl, ob ++ [(k, o)], nx⟩).Perm (Y7 o.h o.n o.rows ++ ownR o.rows ++ ownS ⟨sl, ob, nx'⟩) := by
 classical
 refine List.perm_iff_count.2 fun a => ?_
 have e1 : X6 [(k, o)] = o.rows.flatten := by simp [X6]
 simp only [ownS, tops, Z0n, e1, List.flatMap_append, List.count_append, List.flatMap_cons, List.flatMap_nil, List.append_nil, Z0t]
 omega
theorem X5h {rows : List (List (L Value))} (h : ∀ r ∈ rows, ∀ l ∈ r, noOs l = true) : ownR rows = [] := by
 rw [Z0t, List.flatMap_eq_nil_iff]
 intro l hl
 obtain ⟨r, hr, hl⟩ := List.mem_flatten.1 hl
 exact Z0m (h r hr l hl)
theorem Y7a {W : World} {g : Nat} {cs : Array Value} : ∀ b, b ≠ g → (W.setRow g cs).heap[b]? = W.heap[b]? := fun b hb => by
 simp only [World.setRow]
 rw [Array.getElem?_modify]
 simp [Ne.symm hb]
theorem Z1c {α β : Type} {l l' : List α} (h : l.Sublist l') (f : α → List β) : (l.flatMap f).Sublist (l'.flatMap f) := by
 induction h with
 | slnil => exact List.Sublist.refl _
 | cons a _ ih => rw [List.flatMap_cons]; exact ih.trans (List.sublist_append_right _ _)
 | cons_cons a _ ih => rw [List.flatMap_cons, List.flatMap_cons]; exact (List.Sublist.refl _).append ih
theorem Inv.newR {B : Bd} {W W' : World} {d : S Value} (h : Inv B W d) (f : Nat → Bool) {nid : Nat} (hf : ∀ i, Z3h d i → i ≠ nid) (hn0 : B.n0 ≤ nid) {hd : Value} {n : Nat} {rows : List (List (L Value))}
  (hrow : ∀ r ∈ rows, r.length = n) (hh : ∀ r ∈ rows, ∀ l ∈ r, Has d l) (hor : ownR rows = [] ∨ ∃ p ∈ d.ob, f p.1 = false ∧ (ownR rows).Sublist (ownR p.2.rows))
  (hsz : W.heap.size ≤ W'.heap.size) (hst : Same W W') (hfr : ∀ b, b < W.heap.size → (∀ p ∈ d.ob, f p.1 = false → ∀ q ∈ Y7 p.2.h p.2.n p.2.rows, q.1 ≠ b) → W'.heap[b]? = W.heap[b]?)
  (hhd : (hd = .slice none 0 0 ∧ rows = []) ∨ ∃ b x c, hd = .slice (some ⟨b, x, none⟩) 0 c ∧ rows.length ≤ c ∧ rows.length ≤ LIM ∧ OwnFact W' (b, x, c * n, valR rows) ∧
   (W.heap.size ≤ b ∨ ∃ p ∈ d.ob, f p.1 = false ∧ ∃ q ∈ Y7 p.2.h p.2.n p.2.rows, q.1 = b)) :
  Inv B W' ⟨d.sl, d.ob.filter (fun p => f p.1) ++ [(nid, ⟨hd, n, rows⟩)], d.nx + 1⟩ ∧
  ∀ i, Z3h (⟨d.sl, d.ob.filter (fun p => f p.1) ++ [(nid, ⟨hd, n, rows⟩)], d.nx + 1⟩ : S Value) i → Z3h d i ∨ i = nid := by
 have hnk : nid ∉ d.ob.map (·.1) := fun hm => hf nid (.inr hm) rfl
 have hsub : (d.ob.filter (fun p => f p.1)).Sublist d.ob := List.filter_sublist
 have htop : ∀ l ∈ tops (⟨d.sl, d.ob.filter (fun p => f p.1) ++ [(nid, ⟨hd, n, rows⟩)], d.nx + 1⟩ : S Value), l ∈ tops d ∨ ∃ r ∈ rows, l ∈ r := by
  intro l hl
  rcases mem_tops.1 hl with hl | hl
  ·exact .inl (mem_tops.2 (.inl hl))
  ·rw [Z0n, List.mem_append] at hl
   rcases hl with hl | hl
   ·obtain ⟨p, hp, r, hr, hlr⟩ := mem_obLeaves.1 hl
    exact .inl (mem_tops.2 (.inr (mem_obLeaves.2 ⟨p, hsub.subset hp, r, hr, hlr⟩)))
   ·obtain ⟨p, hp, r, hr, hlr⟩ := mem_obLeaves.1 hl
    simp only [List.mem_singleton] at hp
    subst hp
    exact .inr ⟨r, hr, hlr⟩
 have hhas : ∀ l, Has d l → W7 (d.ob.filter (fun p => f p.1) ++ [(nid, ⟨hd, n, rows⟩)]) l := fun l hl => by
  refine Z7v (fun i hi => ?_) hl.2.1
  rw [X6v (hf i (hl.2.2.2 i hi))]
  exact Z9q
 have hperm := X6n d.sl (d.ob.filter (fun p => f p.1)) nid ⟨hd, n, rows⟩ (d.nx + 1) d.nx
 have hsubo : (ownS ⟨d.sl, d.ob.filter (fun p => f p.1), d.nx⟩).Sublist (ownS d) := by
  have e : X6 (d.ob.filter (fun p => f p.1)) = (d.ob.filter (fun p => f p.1)).flatMap (fun p => p.2.rows.flatten) := rfl
  have e2 : X6 d.ob = d.ob.flatMap (fun p => p.2.rows.flatten) := rfl
  simp only [ownS, tops, List.flatMap_append, e, e2, List.flatMap_assoc]
  exact (Z1c hsub _).append ((List.Sublist.refl _).append (Z1c hsub _))
 have hgone : ∀ p ∈ d.ob, f p.1 = false → ∀ q ∈ Y7 p.2.h p.2.n p.2.rows, ∀ q' ∈ ownS ⟨d.sl, d.ob.filter (fun p => f p.1), d.nx⟩, q'.1 ≠ q.1 := by
  intro p hp hfp q hq q' hq'
  obtain ⟨l1, l2, hl12⟩ := List.append_of_mem hp
  have hnd := h.good.nodup
  have : (ownS d).Perm (Y7 p.2.h p.2.n p.2.rows ++ ownR p.2.rows ++ ownS ⟨d.sl, l1 ++ l2, d.nx⟩) := by
   classical
   refine List.perm_iff_count.2 fun a => ?_
   have e1 : X6 (p :: l2) = p.2.rows.flatten ++ X6 l2 := by simp [X6]
   simp only [ownS, tops, hl12, Z0n, e1, List.flatMap_append, List.count_append, List.flatMap_cons, List.append_nil, Z0t]
   omega
  have hnd2 := (this.map (·.1)).nodup_iff.1 hnd
  rw [List.map_append, List.nodup_append] at hnd2
  have hin : q' ∈ ownS ⟨d.sl, l1 ++ l2, d.nx⟩ := by
   have hs2 : (d.ob.filter (fun p => f p.1)).Sublist (l1 ++ l2) := by
    rw [hl12, List.filter_append, List.filter_cons_of_neg (by simp [hfp])]
    exact List.filter_sublist.append List.filter_sublist
   have e : X6 (d.ob.filter (fun p => f p.1)) = (d.ob.filter (fun p => f p.1)).flatMap (fun p => p.2.rows.flatten) := rfl
   have e2 : X6 (l1 ++ l2) = (l1 ++ l2).flatMap (fun p => p.2.rows.flatten) := rfl
   have : (ownS ⟨d.sl, d.ob.filter (fun p => f p.1), d.nx⟩).Sublist (ownS ⟨d.sl, l1 ++ l2, d.nx⟩) := by
    simp only [ownS, tops, List.flatMap_append, e, e2, List.flatMap_assoc]
    rw [← List.flatMap_append, ← List.flatMap_append]
    exact (Z1c hs2 _).append ((List.Sublist.refl _).append (Z1c hs2 _))
   exact this.subset hq'
  exact fun he => hnd2.2.2 q.1 (List.mem_map.2 ⟨q, List.mem_append_left _ hq, rfl⟩) q'.1 (List.mem_map.2 ⟨q', hin, rfl⟩) he.symm
 have hsub2 : ∀ q ∈ ownR rows, q ∈ ownS d ∧ ∃ l ∈ tops d, q ∈ ownL l := fun q hq => by
  rcases hor with h0 | ⟨p, hp, _, hs⟩
  ·rw [h0] at hq; cases hq
  ·have h1 := hs.subset hq
   rw [Z0t] at h1
   obtain ⟨l, hl, hq2⟩ := List.mem_flatMap.1 h1
   obtain ⟨r, hr, hl⟩ := List.mem_flatten.1 hl
   have ht : l ∈ tops d := mem_tops.2 (.inr (mem_obLeaves.2 ⟨p, hp, r, hr, hl⟩))
   refine ⟨?_, l, ht, hq2⟩
   simp only [ownS, List.mem_append]
   exact .inr (List.mem_flatMap.2 ⟨l, ht, hq2⟩)
 have hgone2 : ∀ p ∈ d.ob, ∀ q ∈ Y7 p.2.h p.2.n p.2.rows, ∀ q' ∈ ownR rows, q'.1 ≠ q.1 := by
  intro p hp q hq q' hq' he
  have hnd := h.good.nodup
  unfold ownS at hnd
  rw [List.map_append, List.nodup_append] at hnd
  obtain ⟨_, l, hl, hq2⟩ := hsub2 q' hq'
  exact hnd.2.2 q.1 (List.mem_map.2 ⟨q, List.mem_flatMap.2 ⟨p, hp, hq⟩, rfl⟩) q'.1 (List.mem_map.2 ⟨q', List.mem_flatMap.2 ⟨l, hl, hq2⟩, rfl⟩) he.symm
 have hRst : ((ownR rows).map (·.1)).Nodup ∧ ∀ q ∈ ownR rows, ∀ q' ∈ ownS ⟨d.sl, d.ob.filter (fun p => f p.1), d.nx⟩, q.1 ≠ q'.1 := by
  rcases hor with h0 | ⟨p, hp, hfp, hs⟩
  ·rw [h0]
   exact ⟨by simp, fun q hq => by cases hq⟩
  ·obtain ⟨l1, l2, hl12⟩ := List.append_of_mem hp
   have hnd := h.good.nodup
   have hpm : (ownS d).Perm (Y7 p.2.h p.2.n p.2.rows ++ ownR p.2.rows ++ ownS ⟨d.sl, l1 ++ l2, d.nx⟩) := by
    classical
    refine List.perm_iff_count.2 fun a => ?_
    have e1 : X6 (p :: l2) = p.2.rows.flatten ++ X6 l2 := by simp [X6]
    simp only [ownS, tops, hl12, Z0n, e1, List.flatMap_append, List.count_append, List.flatMap_cons, List.append_nil, Z0t]
    omega
   have hnd2 := (hpm.map (·.1)).nodup_iff.1 hnd
   rw [List.map_append, List.nodup_append, List.map_append, List.nodup_append] at hnd2
   refine ⟨hnd2.1.2.1.sublist (hs.map _), fun q hq q' hq' he => ?_⟩
   have hs2 : (d.ob.filter (fun p => f p.1)).Sublist (l1 ++ l2) := by
    rw [hl12, List.filter_append, List.filter_cons_of_neg (by simp [hfp])]
    exact List.filter_sublist.append List.filter_sublist
   have hin : q' ∈ ownS ⟨d.sl, l1 ++ l2, d.nx⟩ := by
    have e : X6 (d.ob.filter (fun p => f p.1)) = (d.ob.filter (fun p => f p.1)).flatMap (fun p => p.2.rows.flatten) := rfl
    have e2 : X6 (l1 ++ l2) = (l1 ++ l2).flatMap (fun p => p.2.rows.flatten) := rfl
    have : (ownS ⟨d.sl, d.ob.filter (fun p => f p.1), d.nx⟩).Sublist (ownS ⟨d.sl, l1 ++ l2, d.nx⟩) := by
     simp only [ownS, tops, List.flatMap_append, e, e2, List.flatMap_assoc]
     rw [← List.flatMap_append, ← List.flatMap_append]
     exact (Z1c hs2 _).append ((List.Sublist.refl _).append (Z1c hs2 _))
    exact this.subset hq'
   exact hnd2.2.2 q.1 (List.mem_append_right _ (List.mem_map.2 ⟨q, hs.subset hq, rfl⟩)) q'.1 (List.mem_map.2 ⟨q', hin, rfl⟩) he
 constructor
 ·refine h.step hsz hst (fun b hb hno => hfr b hb fun p hp _ q hq => hno q ?_) (fun l hl => ?_) (fun p hp => ?_) ?_ (fun p hp => ?_) ?_ (fun p hp => ?_) (fun p hp hlt => by
   rcases List.mem_append.1 hp with hp | hp
   ·exact h.hdr p (hsub.subset hp) hlt
   ·simp only [List.mem_singleton] at hp
    subst hp
    simp only at hlt
    omega)
  ·simp only [ownS, List.mem_append]
   exact .inl (List.mem_flatMap.2 ⟨p, hp, hq⟩)
  ·rcases htop l hl with hl | ⟨r, hr, hl⟩
   ·exact ⟨(h.good.wf l hl).1, hhas l (Z8a h.good hl)⟩
   ·exact ⟨(hh r hr l hl).1, hhas l (hh r hr l hl)⟩
  ·rcases List.mem_append.1 hp with hp | hp
   ·exact h.good.obs p (hsub.subset hp)
   ·simp only [List.mem_singleton] at hp
    subst hp
    refine ⟨?_, hrow⟩
    rcases hhd with hhd | ⟨b, x, c, e1, e2, e3, _⟩
    ·exact .inl hhd
    ·exact .inr ⟨b, x, c, e1, e2, e3⟩
  ·rw [List.map_append, List.nodup_append]
   refine ⟨h.good.ids.sublist (hsub.map _), by simp, ?_⟩
   intro i hi j hj
   simp only [List.map_cons, List.map_nil, List.mem_singleton] at hj
   subst hj
   rintro rfl
   exact hnk ((hsub.map _).subset hi)
  ·have hp := hperm.mem_iff.1 hp
   rw [List.append_assoc] at hp
   rcases List.mem_append.1 hp with hp | hp
   ·rcases hhd with ⟨e1, _⟩ | ⟨b, x, c, e1, e2, e3, e4, e5⟩
    ·rw [e1] at hp; simp [Y7] at hp
    ·rw [e1] at hp
     simp only [Y7, List.mem_singleton] at hp
     subst hp
     refine ⟨e4, ?_⟩
     rcases e5 with e5 | ⟨q, hq, _, r, hr, rfl⟩
     ·exact .inr e5
     ·refine .inl ⟨r, ?_, rfl⟩
      simp only [ownS, List.mem_append]
      exact .inl (List.mem_flatMap.2 ⟨q, hq, hr⟩)
   ·rcases List.mem_append.1 hp with hp | hp
    ·have hd := (hsub2 p hp).1
     exact ⟨(h.good.own p hd).same (hfr _ (h.good.own p hd).lt fun q hq hfq r hr => Ne.symm (hgone2 q hq r hr p hp)), .inl ⟨p, hd, rfl⟩⟩
    have hd := hsubo.subset hp
    refine ⟨(h.good.own p hd).same (hfr _ (h.good.own p hd).lt fun q hq hfq r hr => Ne.symm (hgone q hq hfq r hr p hp)), .inl ⟨p, hd, rfl⟩⟩
  ·rw [(hperm.map (·.1)).nodup_iff, List.append_assoc, List.map_append, List.nodup_append]
   refine ⟨?_, ?_, ?_⟩
   ·rcases hhd with ⟨e1, _⟩ | ⟨b, x, c, e1, _⟩ <;> simp [e1, Y7]
   ·rw [List.map_append, List.nodup_append]
    refine ⟨hRst.1, h.good.nodup.sublist (hsubo.map _), fun i hi j hj => ?_⟩
    obtain ⟨q, hq, rfl⟩ := List.mem_map.1 hi
    obtain ⟨q', hq', rfl⟩ := List.mem_map.1 hj
    exact hRst.2 q hq q' hq'
   ·intro i hi j hj
    rcases hhd with ⟨e1, _⟩ | ⟨b, x, c, e1, e2, e3, e4, e5⟩
    ·simp [e1, Y7] at hi
    ·simp [e1, Y7] at hi
     subst hi
     obtain ⟨q, hq, rfl⟩ := List.mem_map.1 hj
     rcases List.mem_append.1 hq with hq | hq
     ·rcases e5 with e5 | ⟨p, hp, hfp, r, hr, rfl⟩
      ·have := (h.good.own q (hsub2 q hq).1).lt
       omega
      ·exact Ne.symm (hgone2 p hp r hr q hq)
     rcases e5 with e5 | ⟨p, hp, hfp, r, hr, rfl⟩
     ·have := (h.good.own q (hsubo.subset hq)).lt
      omega
     ·exact Ne.symm (hgone p hp hfp r hr q hq)
  ·obtain ⟨l, hl, hp⟩ := List.mem_flatMap.1 hp
   rcases htop l hl with hl | ⟨r, hr, hl⟩
   ·exact .of_mem (List.mem_flatMap.2 ⟨l, hl, hp⟩)
   ·exact (hh r hr l hl).2.2.1 p hp
 ·rintro i (⟨l, hl, hi⟩ | hi)
  ·rcases htop l hl with hl | ⟨r, hr, hl⟩
   ·exact .inl (.inl ⟨l, hl, hi⟩)
   ·exact .inl ((hh r hr l hl).2.2.2 i hi)
  ·simp only [List.map_append, List.map_cons, List.map_nil, List.mem_append, List.mem_singleton] at hi
   rcases hi with hi | hi
   ·exact .inl (.inr ((hsub.map _).subset hi))
   ·exact .inr hi
theorem Inv.new {B : Bd} {W W' : World} {d : S Value} (h : Inv B W d) (f : Nat → Bool) {nid : Nat} (hf : ∀ i, Z3h d i → i ≠ nid) (hn0 : B.n0 ≤ nid) {hd : Value} {n : Nat} {rows : List (List (L Value))}
  (hrow : ∀ r ∈ rows, r.length = n) (hh : ∀ r ∈ rows, ∀ l ∈ r, Has d l ∧ noOs l = true)
  (hsz : W.heap.size ≤ W'.heap.size) (hst : Same W W') (hfr : ∀ b, b < W.heap.size → (∀ p ∈ d.ob, f p.1 = false → ∀ q ∈ Y7 p.2.h p.2.n p.2.rows, q.1 ≠ b) → W'.heap[b]? = W.heap[b]?)
  (hhd : (hd = .slice none 0 0 ∧ rows = []) ∨ ∃ b x c, hd = .slice (some ⟨b, x, none⟩) 0 c ∧ rows.length ≤ c ∧ rows.length ≤ LIM ∧ OwnFact W' (b, x, c * n, valR rows) ∧
   (W.heap.size ≤ b ∨ ∃ p ∈ d.ob, f p.1 = false ∧ ∃ q ∈ Y7 p.2.h p.2.n p.2.rows, q.1 = b)) :
  Inv B W' ⟨d.sl, d.ob.filter (fun p => f p.1) ++ [(nid, ⟨hd, n, rows⟩)], d.nx + 1⟩ ∧
  ∀ i, Z3h (⟨d.sl, d.ob.filter (fun p => f p.1) ++ [(nid, ⟨hd, n, rows⟩)], d.nx + 1⟩ : S Value) i → Z3h d i ∨ i = nid :=
 h.newR f hf hn0 hrow (fun r hr l hl => (hh r hr l hl).1) (.inl (X5h fun r hr l hl => (hh r hr l hl).2)) hsz hst hfr hhd
end
section
theorem X6q {l : L Value} (h : wfL false l) : (val l).oneCell' = true ∧ (val l).cells = #[val l] := by
 cases l with
 | int k n => exact ⟨rfl, rfl⟩
 | bool b => exact ⟨rfl, rfl⟩
 | str s => exact ⟨rfl, rfl⟩
 | nl => exact ⟨rfl, rfl⟩
 | nilp => exact ⟨rfl, rfl⟩
 | bs v n rows => obtain ⟨⟨a, c, rfl, _⟩, _⟩ := h; exact ⟨rfl, rfl⟩
 | os v n rows =>
  rcases h.1 with ⟨rfl, _⟩ | ⟨_, _, _, rfl, _⟩ <;> exact ⟨rfl, rfl⟩
 | ref v id off len => obtain ⟨_, a, m, c, rfl⟩ := h; exact ⟨rfl, rfl⟩
 | ptr v id e j => obtain ⟨_, a, rfl⟩ := h; exact ⟨rfl, rfl⟩
 | ip v cells => obtain ⟨_, ⟨b, o, rfl⟩, _⟩ := h; exact ⟨rfl, rfl⟩
 | fn v f caps => obtain ⟨_, rfl, _⟩ := h; exact ⟨rfl, rfl⟩
theorem X4c {u : U Value} {x : Value} (hx : UR u x) (h : ∀ l ∈ Z1 u, wfL false l) : x.cells = ((Z1 u).map val).toArray := by
 cases u with
 | one l => cases hx; rw [(X6q (h l (by simp [Z1]))).2]; rfl
 | agg ls => cases hx; rfl
def putC {α : Type} (cs : List α) (off : Nat) (ls : List α) : List α := cs.take off ++ ls ++ cs.drop (off + ls.length)
theorem Y1e {α : Type} {cs ls : List α} {off : Nat} (h : off + ls.length ≤ cs.length) : (putC cs off ls).length = cs.length := by
 simp [putC]; omega
theorem Y8k {α β : Type} (f : α → β) (cs ls : List α) (off : Nat) : (putC cs off ls).map f = putC (cs.map f) off (ls.map f) := by
 simp [putC, List.map_take, List.map_drop]
theorem X8i {α : Type} {cs ls : List α} {off : Nat} {x : α} (h : x ∈ putC cs off ls) : x ∈ cs ∨ x ∈ ls := by
 simp only [putC, List.mem_append] at h
 rcases h with (h | h) | h
 ·exact .inl (List.mem_of_mem_take h)
 ·exact .inr h
 ·exact .inl (List.mem_of_mem_drop h)
theorem Y3f {α : Type} {cs ls : List α} {off j : Nat} (h : off + ls.length ≤ cs.length) : (putC cs off ls)[j]? = if off ≤ j ∧ j < off + ls.length then ls[j - off]? else cs[j]? := by
 unfold putC
 have h1 : (cs.take off).length = off := by rw [List.length_take]; omega
 by_cases h2 : j < off
 ·rw [List.append_assoc, List.getElem?_append_left (by omega), List.getElem?_take, if_pos h2, if_neg (by omega)]
 ·by_cases h3 : j < off + ls.length
  ·rw [if_pos ⟨by omega, h3⟩, List.append_assoc, List.getElem?_append_right (by omega), h1, List.getElem?_append_left (by omega)]
  ·rw [if_neg (by omega), List.append_assoc, List.getElem?_append_right (by omega), h1, List.getElem?_append_right (by omega), List.getElem?_drop]
   congr 1
   omega
theorem Z2p {δ : Type} {ob : List (Nat × Ob δ)} {id : Nat} {o : Ob δ} (h : look ob id = some o) (hn : (ob.map (·.1)).Nodup) :
  ∃ l1 l2, ob = l1 ++ (id, o) :: l2 ∧ (∀ p ∈ l1, p.1 ≠ id) ∧ ∀ p ∈ l2, p.1 ≠ id := by
 obtain ⟨l1, l2, rfl⟩ := List.append_of_mem (find?_key h)
 refine ⟨l1, l2, rfl, fun p hp he => ?_, fun p hp he => ?_⟩
 ·rw [List.map_append, List.nodup_append] at hn
  exact hn.2.2 p.1 (List.mem_map.2 ⟨p, hp, rfl⟩) id (by simp) he
 ·rw [List.map_append, List.nodup_append, List.map_cons, List.nodup_cons] at hn
  exact hn.2.1.1 (List.mem_map.2 ⟨p, hp, he⟩)
def K0 {δ : Type} (ob : List (Nat × Ob δ)) (id : Nat) (rows : List (List (L δ))) : List (Nat × Ob δ) := ob.map fun p => if p.1 = id then (p.1, ⟨p.2.h, p.2.n, rows⟩) else p
theorem Z7q {δ : Type} {l1 l2 : List (Nat × Ob δ)} {id : Nat} {o : Ob δ} (h1 : ∀ p ∈ l1, p.1 ≠ id) (h2 : ∀ p ∈ l2, p.1 ≠ id) (rows : List (List (L δ))) :
  K0 (l1 ++ (id, o) :: l2) id rows = l1 ++ (id, ⟨o.h, o.n, rows⟩) :: l2 := by
 have e : ∀ l : List (Nat × Ob δ), (∀ p ∈ l, p.1 ≠ id) → l.map (fun p => if p.1 = id then (p.1, ⟨p.2.h, p.2.n, rows⟩) else p) = l := fun l h => by
  conv => rhs; rw [← List.map_id l]
  exact List.map_congr_left fun p hp => by rw [if_neg (h p hp)]; rfl
 simp [K0, e l1 h1, e l2 h2]
theorem Y8p {δ : Type} {ob : List (Nat × Ob δ)} {id i : Nat} {rows : List (List (L δ))} : look (K0 ob id rows) i = if i = id then (look ob i).map (fun o => ⟨o.h, o.n, rows⟩) else look ob i := by
 unfold look K0
 rw [List.find?_map]
 have : ((fun p : Nat × Ob δ => p.1 == i) ∘ fun p : Nat × Ob δ => if p.1 = id then (p.1, ⟨p.2.h, p.2.n, rows⟩) else p) = fun p => p.1 == i := by
  funext p
  simp only [Function.comp]
  split <;> rfl
 rw [this]
 by_cases h : i = id
 ·subst h
  rw [if_pos rfl]
  cases hf : ob.find? (fun p => p.1 == i) with
  | none => rfl
  | some p =>
   have := List.find?_some hf
   simp only [beq_iff_eq] at this
   simp [this]
 ·rw [if_neg h]
  cases hf : ob.find? (fun p => p.1 == i) with
  | none => rfl
  | some p =>
   have := List.find?_some hf
   simp only [beq_iff_eq] at this
   have hne : p.1 ≠ id := by rw [this]; exact h
   simp [hne]
mutual
theorem X5b {ob ob' : List (Nat × Ob Value)} (key : ∀ i o2, look ob' i = some o2 → ∃ o1, look ob i = some o1 ∧ o2.h = o1.h ∧ o2.n = o1.n ∧ o2.rows.length = o1.rows.length) : ∀ {l : L Value}, W7 ob l → W7 ob' l
 | .int _ _, _ => by simp [W7]
 | .bool _, _ => by simp [W7]
 | .str _, _ => by simp [W7]
 | .nl, _ => by simp [W7]
 | .nilp, _ => by simp [W7]
 | .bs _ _ _, _ => by simp [W7]
 | .os _ _ _, _ => by simp [W7]
 | .ip _ _, _ => by simp [W7]
 | .ref v i off len, h => fun o2 h2 => by
  obtain ⟨o1, h1, e1, e2, e3⟩ := key i o2 h2
  rw [e1, e2, e3]
  exact h o1 h1
 | .ptr v i e j, h => fun o2 h2 => by
  obtain ⟨o1, h1, e1, e2, e3⟩ := key i o2 h2
  rw [e1, e2]
  exact h o1 h1
 | .fn _ _ caps, h => by
  simp only [W7] at h ⊢
  exact X1s key h
theorem X1s {ob ob' : List (Nat × Ob Value)} (key : ∀ i o2, look ob' i = some o2 → ∃ o1, look ob i = some o1 ∧ o2.h = o1.h ∧ o2.n = o1.n ∧ o2.rows.length = o1.rows.length) : ∀ {ls : List (L Value)}, Z3j ob ls → Z3j ob' ls
 | [], _ => by simp [Z3j]
 | l :: ls, h => by
  simp only [Z3j] at h ⊢
  exact ⟨X5b key h.1, X1s key h.2⟩
end
theorem Y9n {d : S Value} {id : Nat} {o : Ob Value} (ho : look d.ob id = some o) {rows : List (List (L Value))} (hl : rows.length = o.rows.length) {l : L Value} (h : W7 d.ob l) : W7 (K0 d.ob id rows) l := by
 refine X5b (fun i o2 h2 => ?_) h
 rw [Y8p] at h2
 split at h2
 ·rename_i hi
  subst hi
  rw [ho] at h2
  cases h2
  exact ⟨o, ho, rfl, rfl, hl⟩
 ·exact ⟨o2, h2, rfl, rfl, rfl⟩
theorem Inv.upd {B : Bd} {W W' : World} {d : S Value} (h : Inv B W d) {id : Nat} {o : Ob Value} (ho : look d.ob id = some o) {rows : List (List (L Value))} (hrow : ∀ r ∈ rows, r.length = o.n)
  (hlen : rows.length = o.rows.length) (hh : ∀ r ∈ rows, ∀ l ∈ r, Has d l) (hsub : (ownR rows).Sublist (ownR o.rows)) {b x c : Nat} (hhd : o.h = .slice (some ⟨b, x, none⟩) 0 c)
  (hsz : W'.heap.size = W.heap.size) (hst : Same W W') (hfr : ∀ b', b' ≠ b → W'.heap[b']? = W.heap[b']?) (hof : OwnFact W' (b, x, c * o.n, valR rows)) :
  Inv B W' ⟨d.sl, K0 d.ob id rows, d.nx⟩ ∧ ∀ i, Z3h (⟨d.sl, K0 d.ob id rows, d.nx⟩ : S Value) i → Z3h d i := by
 obtain ⟨l1, l2, hob, h1, h2⟩ := Z2p ho h.good.ids
 have hupd : K0 d.ob id rows = l1 ++ (id, ⟨o.h, o.n, rows⟩) :: l2 := by rw [hob]; exact Z7q h1 h2 rows
 have hmem : ∀ p ∈ K0 d.ob id rows, p ∈ d.ob ∨ p = (id, ⟨o.h, o.n, rows⟩) := fun p hp => by
  rw [hupd] at hp
  rw [hob]
  simp only [List.mem_append, List.mem_cons] at hp ⊢
  rcases hp with hp | hp | hp
  ·exact .inl (.inl hp)
  ·exact .inr hp
  ·exact .inl (.inr (.inr hp))
 have hkeys : (K0 d.ob id rows).map (·.1) = d.ob.map (·.1) := by rw [hupd, hob]; simp
 have htop : ∀ l ∈ tops (⟨d.sl, K0 d.ob id rows, d.nx⟩ : S Value), Has d l := by
  intro l hl
  rcases mem_tops.1 hl with hl | hl
  ·exact Z8a h.good (mem_tops.2 (.inl hl))
  ·obtain ⟨p, hp, r, hr, hlr⟩ := mem_obLeaves.1 hl
   rcases hmem p hp with hp | rfl
   ·exact Z8a h.good (mem_tops.2 (.inr (mem_obLeaves.2 ⟨p, hp, r, hr, hlr⟩)))
   ·exact hh r hr l hlr
 have perm : ∀ o' : Ob Value, (ownS ⟨d.sl, l1 ++ (id, o') :: l2, d.nx⟩).Perm (Y7 o'.h o'.n o'.rows ++ (ownR o'.rows ++ ownS ⟨d.sl, l1 ++ l2, d.nx⟩)) := by
  classical
  intro o'
  refine List.perm_iff_count.2 fun a => ?_
  have e1 : X6 ((id, o') :: l2) = o'.rows.flatten ++ X6 l2 := by simp [X6]
  simp only [ownS, tops, Z0n, e1, List.flatMap_append, List.count_append, List.flatMap_cons, List.append_nil, Z0t]
  omega
 have p0 := perm o
 rw [← hob] at p0
 have p1 := perm ⟨o.h, o.n, rows⟩
 rw [← hupd] at p1
 simp only [Y7, hhd, List.singleton_append] at p0 p1
 have hnd0 := (p0.map (·.1)).nodup_iff.1 h.good.nodup
 have hrest : (ownR rows ++ ownS ⟨d.sl, l1 ++ l2, d.nx⟩).Sublist (ownR o.rows ++ ownS ⟨d.sl, l1 ++ l2, d.nx⟩) := hsub.append (List.Sublist.refl _)
 constructor
 ·refine h.step (by omega) hst (fun b' hb hno => hfr b' fun he => ?_) (fun l hl => ⟨(htop l hl).1, Y9n ho hlen (htop l hl).2.1⟩) (fun p hp => ?_) (by simpa only [hkeys] using h.good.ids) (fun p hp => ?_) ?_ (fun p hp => ?_) (fun p hp hlt => by
   rcases hmem p hp with hp | rfl
   ·exact h.hdr p hp hlt
   ·exact h.hdr (id, o) (find?_key ho) hlt)
  ·exact hno (b, x, c * o.n, valR o.rows) (p0.mem_iff.2 (by simp)) he.symm
  ·rcases hmem p hp with hp | rfl
   ·exact h.good.obs p hp
   ·have := (h.good.obs _ (find?_key ho)).1
    refine ⟨?_, hrow⟩
    rcases this with ⟨h0, _⟩ | ⟨b2, x2, c2, e1, e2, e3⟩
    ·rw [hhd] at h0; cases h0
    ·exact .inr ⟨b2, x2, c2, e1, by simpa [hlen] using e2, by simpa [hlen] using e3⟩
  ·have hp := p1.mem_iff.1 hp
   rcases List.mem_cons.1 hp with rfl | hp
   ·exact ⟨hof, .inl ⟨_, p0.mem_iff.2 (List.mem_cons_self ..), rfl⟩⟩
   ·have hp0 := hrest.subset hp
    have hd : p ∈ ownS d := p0.mem_iff.2 (List.mem_cons_of_mem _ hp0)
    refine ⟨(h.good.own p hd).same (hfr _ fun he => ?_), .inl ⟨p, hd, rfl⟩⟩
    rw [List.map_cons, List.nodup_cons] at hnd0
    exact hnd0.1 (List.mem_map.2 ⟨p, hp0, he⟩)
  ·rw [(p1.map (·.1)).nodup_iff]
   rw [List.map_cons, List.nodup_cons] at hnd0 ⊢
   exact ⟨fun hm => hnd0.1 ((hrest.map _).subset hm), hnd0.2.sublist (hrest.map _)⟩
  ·obtain ⟨l, hl, hp⟩ := List.mem_flatMap.1 hp
   exact (htop l hl).2.2.1 p hp
 ·rintro i (⟨l, hl, hi⟩ | hi)
  ·exact (htop l hl).2.2.2 i hi
  ·right
   simpa only [hkeys] using hi
theorem app_new {δ : Type} (s : S δ) (dst : Option Nat) (nid : Nat) (v : V δ) (o : Ob δ) : app s dst nid v [o] [] [] = U1 ⟨s.sl, s.ob ++ [(nid, o)], s.nx + 1⟩ dst v := by
 simp [app, Y3a, List.filter_eq_self.2 (fun _ _ => rfl)]
theorem W4q {δ : Type} (s : S δ) (dst : Option Nat) (nid : Nat) (v : V δ) (id : Nat) (rows : List (List (L δ))) : app s dst nid v [] [(id, rows)] [] = U1 ⟨s.sl, K0 s.ob id rows, s.nx⟩ dst v := by
 have e : (updP [(id, rows)] : Nat × Ob δ → _) = fun p => if p.1 = id then (p.1, ⟨p.2.h, p.2.n, rows⟩) else p := by
  funext p
  unfold updP
  by_cases h : p.1 = id
  ·simp [h]
  ·have : (p.1 == id) = false := by simpa using h
   simp [List.lookup, this, h]
 unfold app K0
 rw [e]
 have e2 : s.ob.filter (fun p => !([] : List Nat).contains p.1) = s.ob := List.filter_eq_self.2 (fun _ _ => rfl)
 rw [e2]
 simp
theorem X7g (d : S Value) (f : Nat → Bool) (k : Nat) (o : Ob Value) (n : Nat) : erS ⟨d.sl, d.ob.filter (fun p => f p.1) ++ [(k, o)], n⟩ = ⟨(erS d).sl, (erS d).ob.filter (fun p => f p.1) ++ [(k, erOb o)], n⟩ := by
 simp [erS, mapS, List.filter_map, Function.comp_def]
theorem W3y (d : S Value) (id : Nat) (rows : List (List (L Value))) : erS ⟨d.sl, K0 d.ob id rows, d.nx⟩ = ⟨(erS d).sl, K0 (erS d).ob id (rows.map (fun r => r.map erL)), (erS d).nx⟩ := by
 simp only [erS, mapS, K0, List.map_map]
 congr 1
 refine List.map_congr_left fun p _ => ?_
 simp only [Function.comp]
 by_cases h : p.1 = id <;> simp [h, Z3e]
theorem W4c {P : Program} {B : Bd} {o : Oper} {a : Act} {W W' : World} {d d1 : S Value} {nid : Nat} {e : Eff} (hi : Inv B W' d1) (hsl : d1.sl = d.sl) (hs : SlR d a) {r : Next} {x : Value}
  (hr : (execOp a.eval o).run P W = .ok r W') (hx : r = .value x ∨ (r = .skip ∧ x = undef)) {v : V Value} (hv : VR v x) (hno : Y2s v = true) (hh : ∀ l ∈ Z3 v, Has d1 l)
  (her : U1 (erS d1) o.dst (erV v) = appE (erS d) o.dst nid e) (hk : ∀ i, Z3h d1 i → Z3h d i ∨ (nid ≤ i ∧ i < nid + e.news.length)) (hp : e.hyp) : Done P B o a W d nid e :=
 ⟨hp, r, x, W', U1 d1 o.dst v, hr, hx, by rw [Y0x, her], hi.put (Keeps.refl _) o.dst hno (fun l hl => ⟨(hh l hl).1, (hh l hl).2.1⟩) (fun l hl => (hh l hl).2.2.1),
  SlR.put (d := d1) ⟨by rw [hsl]; exact hs.1, by rw [hsl]; exact hs.2⟩ o.dst hv, fun i hi => hk i (X0c (fun l hl => (hh l hl).2.2.2) hi)⟩
def Fresh (B : Bd) (d : S Value) (nid n : Nat) : Prop := (∀ i, Z3h d i → i < nid ∨ nid + n ≤ i) ∧ B.n0 ≤ nid
def stF (P : Program) (t : TypeId) (lk : Lk) (l : Option (L Unit)) (u : Option (U Unit)) : Option Eff :=
 (tiOf P t).bind fun i => match l, u with
  | some (.ptr _ id e j), some u => (lk id).bind fun o => (o.rows[e]?).bind fun r =>
    if Z5i u then if (Z1 u).length = i.size then if j + i.size ≤ r.length then some { v := .ud, rd := [id], upd := [(id, o.rows.set e (putC r j (Z1 u)))] } else none else none else none
  | _, _ => none
theorem Z6t {α : Type} {rows : List (List α)} {e : Nat} {r' : List α} {r : List α} (h : r ∈ rows.set e r') : r ∈ rows ∨ r = r' := List.mem_or_eq_of_mem_set h
theorem X0n {rows : List (List (L Value))} {e : Nat} {r r' : List (L Value)} (hr : rows[e]? = some r) (h : (r'.flatMap ownL).Sublist (r.flatMap ownL)) : (ownR (rows.set e r')).Sublist (ownR rows) := by
 simp only [Z0t]
 induction rows generalizing e with
 | nil => simp at hr
 | cons q qs ih =>
  cases e with
  | zero =>
   simp only [List.getElem?_cons_zero, Option.some.injEq] at hr
   subst hr
   simp only [List.set_cons_zero, List.flatten_cons, List.flatMap_append]
   exact h.append (List.Sublist.refl _)
  | succ e =>
   simp only [List.getElem?_cons_succ] at hr
   simp only [List.set_cons_succ, List.flatten_cons, List.flatMap_append]
   exact (List.Sublist.refl _).append (ih hr)
theorem W5p {r ls : List (L Value)} {j : Nat} (h : ∀ l ∈ ls, noOs l = true) : ((putC r j ls).flatMap ownL).Sublist (r.flatMap ownL) := by
 have e : ls.flatMap ownL = [] := List.flatMap_eq_nil_iff.2 fun l hl => Z0m (h l hl)
 simp only [putC, List.flatMap_append, e, List.append_nil]
 have h1 : ((r.drop (j + ls.length)).flatMap ownL).Sublist ((r.drop j).flatMap ownL) := by
  rw [← List.drop_drop]
  exact Z1c (List.drop_sublist _ _) _
 have := (List.Sublist.refl ((r.take j).flatMap ownL)).append h1
 rwa [← List.flatMap_append (xs := r.take j) (ys := r.drop j), List.take_append_drop] at this
theorem X7t {n : Nat} {rows : List (List (L Value))} (hl : ∀ r ∈ rows, r.length = n) {e : Nat} {r r' : List (L Value)} (hr : rows[e]? = some r) (hr' : r'.length = n) :
  valR (rows.set e r') = (valR rows).take (e * n) ++ r'.map val ++ (valR rows).drop (e * n + n) := by
 unfold valR
 induction rows generalizing e with
 | nil => simp at hr
 | cons q qs ih =>
  have hq : q.length = n := hl q (by simp)
  cases e with
  | zero =>
   simp only [List.set_cons_zero, List.flatten_cons, List.map_append, Nat.zero_mul, List.take_zero, List.nil_append, Nat.zero_add]
   congr 1
   rw [List.drop_append_of_le_length (by simp [hq]), List.drop_eq_nil_of_le (by simp [hq]), List.nil_append]
  | succ e =>
   simp only [List.getElem?_cons_succ] at hr
   have := ih (fun r hr => hl r (List.mem_cons_of_mem _ hr)) hr
   simp only [List.set_cons_succ, List.flatten_cons, List.map_append, this, List.append_assoc]
   have e1 : (e + 1) * n = (q.map val).length + e * n := by rw [List.length_map, hq, Nat.add_mul]; omega
   rw [e1, List.take_length_add_append, Nat.add_assoc, List.drop_length_add_append]
   simp
theorem Z2f {n : Nat} : ∀ {rows : List (List (L Value))}, (∀ r ∈ rows, r.length = n) → (valR rows).length = rows.length * n
 | [], _ => by simp [valR]
 | q :: qs, hl => by
  have := Z2f (fun r hr => hl r (List.mem_cons_of_mem _ hr))
  simp only [valR, List.flatten_cons, List.map_append, List.length_append, List.length_map, List.length_cons, Nat.add_mul] at this ⊢
  rw [this, hl q (by simp)]
  omega
theorem X2r {P : Program} {W : World} {t : TypeId} {i : TI} (ht : tiOf P t = some i) {b o : Nat} {cur : Array Value} {ty : TypeId} (hb : W.heap[b]? = some (.cells cur ty (0, 0))) {u : U Value} {x : Value}
  (hx : UR u x) (hw : ∀ l ∈ Z1 u, wfL false l) (hl : (Z1 u).length = i.size) (hle : o + i.size ≤ cur.size) :
  (Instr.storeAt t (.pointer (some ⟨b, o, none⟩)) x).run P W = .ok () (W.setRow b (putC cur.toList o ((Z1 u).map val)).toArray) := by
 obtain ⟨info, d, z, hi, hu, _, _, _, _, hsz, _⟩ := U6 ht
 have hc := X4c hx hw
 have hsize : (sizeOf t).run P W = .ok i.size W := by simp [sizeOf, typeInfo, hi, hsz]
 have := run_storeCells_at P b o ty ((Z1 u).map val) 0 cur W hb (by simp [hl]; omega) (fun v hv => by
  obtain ⟨l, hl, rfl⟩ := List.mem_map.1 hv
  exact (X6q (hw l hl)).1)
 simp only [Nat.add_zero] at this
 simp only [Instr.storeAt, Instr.sureAddr, Sem.run_bind, Sem.run_pure, Result.andThen_ok, storeVar, hsize, hc]
 rw [if_neg (by simp [hl])]
 simp only [this, putC]
theorem st_ok {P : Program} {B : Bd} {o : Oper} {a : Act} {W : World} {d : S Value} {nid : Nat} {e : Eff} (hi : Inv B W d) (hs : SlR d a) {t : TypeId} {x y : Operand} (ho : o.op = .store t x y)
  (he : stF P t (look (erS d).ob) (lO (evA (erS d) x)) (uO (evA (erS d) y)) = some e) : Done P B o a W d nid e := by
 unfold stF at he
 obtain ⟨i, ht, he⟩ := bind_some he
 split at he
 ·rename_i v id e' j u hx hy
  obtain ⟨ob, hob, he⟩ := bind_some he
  obtain ⟨r, hr, he⟩ := bind_some he
  split at he
  ·rename_i hno
   split at he
   ·rename_i hlen
    split at he
    ·rename_i hle
     cases he
     obtain ⟨l', h1, h2, h3⟩ := V8 hi.good hs hx
     obtain ⟨v', rfl⟩ := X2g h1
     obtain ⟨u', g1, g2, g3⟩ := u_ok hi.good hs hy
     subst g1
     rw [Y8m] at hno
     rw [Q2, List.length_map] at hlen
     obtain ⟨ob', ho', rfl⟩ := U7 hob
     obtain ⟨b, q, c0, hh, hv⟩ := h3.2.1 ob' ho'
     obtain ⟨r', hr', rfl⟩ := Y1c hr
     rw [List.length_map] at hle
     have hobs : _ ∧ ∀ r ∈ ob'.rows, r.length = ob'.n := hi.good.obs _ (find?_key ho')
     have hown : (b, q, c0 * ob'.n, valR ob'.rows) ∈ ownS d := by
      simp only [ownS, List.mem_append]
      left
      exact List.mem_flatMap.2 ⟨(id, ob'), find?_key ho', by simp [Y7, hh]⟩
     obtain ⟨arr, ty, hb, hs1, hs2, hs3⟩ := hi.good.own _ hown
     have hrn : r'.length = ob'.n := hobs.2 _ (List.mem_of_getElem? hr')
     have hlt : e' < ob'.rows.length := (List.getElem?_eq_some_iff.1 hr').1
     have hflat : (valR ob'.rows).length = ob'.rows.length * ob'.n := Z2f hobs.2
     have hrow' : (putC r' j (Z1 u')).length = ob'.n := by rw [Y1e (by omega), hrn]
     have he1 : (e' + 1) * ob'.n ≤ ob'.rows.length * ob'.n := Nat.mul_le_mul_right _ hlt
     rw [Nat.add_mul, Nat.one_mul] at he1
     simp only at hs1 hs2 hs3
     have hfit : q + (e' * ob'.n + j) + i.size ≤ arr.size := by omega
     have hnoL : ∀ l ∈ Z1 u', noOs l = true := by simpa [Z5i, List.all_eq_true] using hno
     have hrun := X2r (W := W) ht (o := q + (e' * ob'.n + j)) hb g2 (fun l hl => (g3 l hl).1) hlen hfit
     have hupd := hi.upd (W' := W.setRow b (putC arr.toList (q + (e' * ob'.n + j)) ((Z1 u').map val)).toArray) ho' (rows := ob'.rows.set e' (putC r' j (Z1 u')))
      (fun r hr => by
       rcases Z6t hr with hr | rfl
       ·exact hobs.2 r hr
       ·exact hrow') (by simp)
      (fun r hr l hl => by
       rcases Z6t hr with hr | rfl
       ·exact Z6v hi.good ho' hr hl
       ·rcases X8i hl with hl | hl
        ·exact Z6v hi.good ho' (List.mem_of_getElem? hr') hl
        ·exact g3 l hl)
      (X0n hr' (W5p hnoL)) hh (by simp) ⟨rfl, rfl, rfl⟩ (fun b' hb' => Y7a b' hb') (by
       refine ⟨(putC arr.toList (q + (e' * ob'.n + j)) ((Z1 u').map val)).toArray, ty, setRow_heap W b arr _ ty (0, 0) hb, ?_, ?_, ?_⟩
       ·rw [List.size_toArray, Y1e (by simp; omega)]
        simpa using hs1
       ·simp only
        rw [Z2f (n := ob'.n) (fun r hr => by
         rcases Z6t hr with hr | rfl
         ·exact hobs.2 r hr
         ·exact hrow'), List.length_set, ← hflat]
        exact hs2
       ·intro k v hk
        simp only [List.getElem?_toArray]
        rw [Y3f (by simp; omega)]
        rw [X7t hobs.2 hr' hrow', Y8k] at hk
        simp only [List.length_map]
        have hk2 : putC (valR ob'.rows) (e' * ob'.n) (putC (r'.map val) j ((Z1 u').map val)) = (valR ob'.rows).take (e' * ob'.n) ++ putC (r'.map val) j ((Z1 u').map val) ++ (valR ob'.rows).drop (e' * ob'.n + ob'.n) := by
         unfold putC
         simp [hrn]
         omega
        have hl2 : (putC (r'.map val) j ((Z1 u').map val)).length = ob'.n := by rw [Y1e (by simp; omega)]; simp [hrn]
        rw [← hk2, Y3f (by rw [hl2, hflat]; omega), hl2] at hk
        by_cases hin : e' * ob'.n ≤ k ∧ k < e' * ob'.n + ob'.n
        ·rw [if_pos hin, Y3f (by simp; omega)] at hk
         simp only [List.length_map] at hk
         by_cases hin2 : j ≤ k - e' * ob'.n ∧ k - e' * ob'.n < j + (Z1 u').length
         ·rw [if_pos hin2] at hk
          rw [if_pos (by omega)]
          rw [← hk]
          congr 1
          omega
         ·rw [if_neg hin2] at hk
          rw [if_neg (by omega)]
          rw [Array.getElem?_toList]
          refine hs3 k v ?_
          rw [List.getElem?_map, Option.map_eq_some_iff] at hk
          obtain ⟨l, hl, rfl⟩ := hk
          have := Y8d hobs.2 hr' hl
          rw [← this]
          congr 1
          omega
        ·rw [if_neg hin] at hk
         rw [if_neg (by omega), Array.getElem?_toList]
         exact hs3 k v hk)
     refine W4c (v := .ud) (x := undef) (r := .skip) hupd.1 rfl hs ?_ (.inr ⟨rfl, rfl⟩) rfl rfl (by simp [Z3]) ?_ (fun i hk => .inl (hupd.2 i hk)) trivial
     ·simp only [execOp, ho, h2, val, hv]
      rw [Sem.run_bind, hrun]
      rfl
     ·rw [appE, W4q, W3y]
      simp [erV, mapV, List.map_set, Y8k, Q2, erOb, Z3e]
    ·cases he
   ·cases he
  ·cases he
 ·cases he
end
section
theorem W6u {δ : Type} (s : S δ) (dst : Option Nat) (nid : Nat) (v : V δ) (o : Ob δ) (dl : List Nat) : app s dst nid v [o] [] dl = U1 ⟨s.sl, s.ob.filter (fun p => !dl.contains p.1) ++ [(nid, o)], s.nx + 1⟩ dst v := by
 simp [app, Y3a]
def Z7t (rows : List (List (L Value))) : List (List (L Unit)) := rows.map (fun r => r.map erL)
def d1of (d : S Value) (dl : List Nat) (nid : Nat) (o : Ob Value) : S Value := ⟨d.sl, d.ob.filter (fun p => !dl.contains p.1) ++ [(nid, o)], d.nx + 1⟩
theorem Y1t {P : Program} {B : Bd} {o : Oper} {a : Act} {W W' : World} {d : S Value} {nid : Nat} (hs : SlR d a) (hf : Fresh B d nid 1) {dl : List Nat} {ob : Ob Value}
  (hnew : Inv B W' (d1of d dl nid ob) ∧ ∀ i, Z3h (d1of d dl nid ob) i → Z3h d i ∨ i = nid) {l : L Value} (hno : noOs l = true)
  (hw : wfL false l) (hok : W7 (d1of d dl nid ob).ob l) (him : immL l = []) (hid : idsL l = [nid]) (hr : (execOp a.eval o).run P W = .ok (.value (val l)) W') {rd : List Nat} {hyp : Prop} (hp : hyp) :
  Done P B o a W d nid { v := one1 (erL l), rd := rd, news := [⟨(), ob.n, Z7t ob.rows⟩], del := dl, hyp := hyp } := by
 refine W4c (d1 := d1of d dl nid ob) hnew.1 rfl hs hr (.inl rfl) (v := one1 l) rfl (by simp [Y2s, Z3, Z1, one1, hno]) (fun l' hl => ?_) ?_ (fun i hi => ?_) hp
 ·simp only [Z3, Z1, one1, List.mem_singleton] at hl
  subst hl
  refine ⟨hw, hok, by simp [him], fun i hi => ?_⟩
  rw [hid] at hi
  right
  simp only [List.mem_singleton] at hi
  simp [d1of, hi]
 ·rw [appE, W6u, d1of, X7g d (fun i => !dl.contains i) nid ob (d.nx + 1)]
  rfl
 ·rcases hnew.2 i hi with h | h
  ·exact .inl h
  ·exact .inr ⟨by omega, by simp; omega⟩
theorem X6u {B : Bd} {d : S Value} {dl : List Nat} {nid : Nat} (hf : Fresh B d nid 1) (ob : Ob Value) : look (d1of d dl nid ob).ob nid = some ob := by
 refine Y7r fun hm => ?_
 have : Z3h d nid := .inr ((List.filter_sublist.map _).subset hm)
 have := hf.1 nid this
 omega
theorem Fresh.ne {B : Bd} {d : S Value} {nid : Nat} (hf : Fresh B d nid 1) : ∀ i, Z3h d i → i ≠ nid := fun i hi he => by
 have := hf.1 i hi
 omega
theorem Y4w {B : Bd} {W W' : World} {d : S Value} (h : Inv B W d) {nid : Nat} (hf : Fresh B d nid 1) (dl : List Nat) {cells : Array Value} {ty : TypeId} (hW : W'.heap = W.heap.push (.cells cells ty)) (hst : Same W W')
  {n c : Nat} {rows : List (List (L Value))} (hrow : ∀ r ∈ rows, r.length = n) (hh : ∀ r ∈ rows, ∀ l ∈ r, Has d l ∧ noOs l = true) (hlen : rows.length ≤ c) (hlim : rows.length ≤ LIM)
  (hcn : c * n ≤ cells.size) (hcell : ∀ (j : Nat) v, (valR rows)[j]? = some v → cells[j]? = some v) :
  Inv B W' (d1of d dl nid ⟨.slice (some ⟨W.heap.size, 0, none⟩) 0 c, n, rows⟩) ∧ ∀ i, Z3h (d1of d dl nid ⟨.slice (some ⟨W.heap.size, 0, none⟩) 0 c, n, rows⟩) i → Z3h d i ∨ i = nid := by
 have hsz : W'.heap.size = W.heap.size + 1 := by rw [hW, Array.size_push]
 refine h.new (fun i => !dl.contains i) hf.ne hf.2 hrow hh (by omega) hst (fun b hb _ => ?_) (.inr ⟨_, 0, c, rfl, hlen, hlim, ⟨cells, ty, ?_, by simpa using hcn, ?_, fun j v hj => ?_⟩, .inl (Nat.le_refl _)⟩)
 ·rw [hW, Array.getElem?_push_lt hb, Array.getElem?_eq_getElem hb]
 ·simp [hW]
 ·simp only [Z2f hrow]
  exact Nat.mul_le_mul_right _ hlen
 ·rw [Nat.zero_add]; exact hcell j v hj
theorem W0i {B : Bd} {W W' : World} {d : S Value} (h : Inv B W d) {nid : Nat} (hf : Fresh B d nid 1) (dl : List Nat) {cells : Array Value} {ty : TypeId} (hW : W'.heap = W.heap.push (.cells cells ty)) (hst : Same W W')
  {n c : Nat} {rows : List (List (L Value))} (hrow : ∀ r ∈ rows, r.length = n) (hh : ∀ r ∈ rows, ∀ l ∈ r, Has d l) (hor : ownR rows = [] ∨ ∃ p ∈ d.ob, (!dl.contains p.1) = false ∧ (ownR rows).Sublist (ownR p.2.rows)) (hlen : rows.length ≤ c) (hlim : rows.length ≤ LIM)
  (hcn : c * n ≤ cells.size) (hcell : ∀ (j : Nat) v, (valR rows)[j]? = some v → cells[j]? = some v) :
  Inv B W' (d1of d dl nid ⟨.slice (some ⟨W.heap.size, 0, none⟩) 0 c, n, rows⟩) ∧ ∀ i, Z3h (d1of d dl nid ⟨.slice (some ⟨W.heap.size, 0, none⟩) 0 c, n, rows⟩) i → Z3h d i ∨ i = nid := by
 have hsz : W'.heap.size = W.heap.size + 1 := by rw [hW, Array.size_push]
 refine h.newR (fun i => !dl.contains i) hf.ne hf.2 hrow hh hor (by omega) hst (fun b hb _ => ?_) (.inr ⟨_, 0, c, rfl, hlen, hlim, ⟨cells, ty, ?_, by simpa using hcn, ?_, fun j v hj => ?_⟩, .inl (Nat.le_refl _)⟩)
 ·rw [hW, Array.getElem?_push_lt hb, Array.getElem?_eq_getElem hb]
 ·simp [hW]
 ·simp only [Z2f hrow]
  exact Nat.mul_le_mul_right _ hlen
 ·rw [Nat.zero_add]; exact hcell j v hj
theorem X8d {B : Bd} {d : S Value} {dl : List Nat} {nid : Nat} (hf : Fresh B d nid 1) {b x c n : Nat} {rows : List (List (L Value))} : W7 (d1of d dl nid ⟨.slice (some ⟨b, x, none⟩) 0 c, n, rows⟩).ob (.ref (.slice (some ⟨b, x, none⟩) rows.length c) nid 0 rows.length) := by
 intro o ho
 rw [X6u hf] at ho
 cases ho
 exact ⟨by simp, .inr ⟨b, x, c, rfl, .inl (by simp)⟩⟩
theorem ptr_ok {B : Bd} {d : S Value} {dl : List Nat} {nid : Nat} (hf : Fresh B d nid 1) {b x c n : Nat} {rows : List (List (L Value))} : W7 (d1of d dl nid ⟨.slice (some ⟨b, x, none⟩) 0 c, n, rows⟩).ob (.ptr (.pointer (some ⟨b, x, none⟩)) nid 0 0) := by
 intro o ho
 rw [X6u hf] at ho
 cases ho
 exact ⟨b, x, c, rfl, by simp⟩
def alF (P : Program) (t : TypeId) (nid : Nat) : Option Eff := (tiOf P t).bind fun i => some { v := one1 (.ptr () nid 0 0), news := [⟨(), i.zero.length, [i.zero.map zL]⟩] }
def bxF (u : Option (U Unit)) (nid : Nat) : Option Eff := match u with
 | some u => if Z5i u then some { v := one1 (.ptr () nid 0 0), news := [⟨(), (Z1 u).length, [Z1 u]⟩] } else none
 | none => none
theorem X8t {d : S Value} (z : Z) : Has d (zL z) ∧ noOs (zL z : L Value) = true := by cases z <;> simp [zL, Has, wfL, W7, immL, idsL, noOs]
theorem al_ok {P : Program} {B : Bd} {o : Oper} {a : Act} {W : World} {d : S Value} {nid : Nat} {e : Eff} (hi : Inv B W d) (hs : SlR d a) (hf : Fresh B d nid e.news.length) {t : TypeId} (ho : o.op = .alloc t)
  (he : alF P t nid = some e) : Done P B o a W d nid e := by
 unfold alF at he
 obtain ⟨i, ht, he⟩ := bind_some he
 cases he
 obtain ⟨info, td, z, hinf, hu, hz, hzs, _⟩ := U6 ht
 have hr : (execOp a.eval o).run P W = .ok (.value (.pointer (some ⟨W.heap.size, 0, none⟩))) (W.alloc (.cells z.cells t)) := by
  simp [execOp, ho, Instr.alloc, zeroValue, typeInfo, hinf, hz, newVar, newRow]
 have hv : valR [i.zero.map zL] = z.cells.toList := by
  simp only [valR, List.flatten_cons, List.flatten_nil, List.append_nil, List.map_map, ← hzs]
  exact List.map_congr_left fun z _ => X7s z
 have hzl : i.zero.length = z.cells.size := by
  have := congrArg List.length hzs
  simpa using this
 have hnew := Y4w (W' := W.alloc (.cells z.cells t)) hi hf [] (cells := z.cells) (ty := t) rfl ⟨rfl, rfl, rfl⟩ (n := i.zero.length) (c := 1) (rows := [i.zero.map zL]) (by simp)
  (fun r hr l hl => by
   simp only [List.mem_singleton] at hr
   subst hr
   obtain ⟨z, _, rfl⟩ := List.mem_map.1 hl
   exact X8t z) (by simp) (by simp [LIM]) (by omega) (fun j v hj => by rw [hv] at hj; simpa using hj)
 have := Y1t (P := P) (o := o) (rd := []) (hyp := True) hs hf hnew (l := .ptr (.pointer (some ⟨W.heap.size, 0, none⟩)) nid 0 0) rfl ⟨rfl, _, rfl⟩ (ptr_ok hf) rfl rfl hr trivial
 simpa [Z7t, er_zL, Function.comp_def, mapL] using this
theorem bx_ok {P : Program} {B : Bd} {o : Oper} {a : Act} {W : World} {d : S Value} {nid : Nat} {e : Eff} (hi : Inv B W d) (hs : SlR d a) (hf : Fresh B d nid e.news.length) {t : TypeId} {x : Operand} (ho : o.op = .box t x)
  (he : bxF (uO (evA (erS d) x)) nid = some e) : Done P B o a W d nid e := by
 unfold bxF at he
 split at he
 ·rename_i u hx
  split at he
  ·rename_i hno
   cases he
   obtain ⟨u', h1, h2, h3⟩ := u_ok hi.good hs hx
   subst h1
   rw [Y8m] at hno
   have hc := X4c h2 (fun l hl => (h3 l hl).1)
   have hr : (execOp a.eval o).run P W = .ok (.value (.pointer (some ⟨W.heap.size, 0, none⟩))) (W.alloc (.cells ((Z1 u').map val).toArray t)) := by
    simp [execOp, ho, Instr.box, newVar, newRow, hc]
   have hnew := Y4w (W' := W.alloc (.cells ((Z1 u').map val).toArray t)) hi hf [] (cells := ((Z1 u').map val).toArray) (ty := t) rfl ⟨rfl, rfl, rfl⟩ (n := (Z1 u').length) (c := 1) (rows := [Z1 u']) (by simp)
    (fun r hr l hl => by
     simp only [List.mem_singleton] at hr
     subst hr
     exact ⟨h3 l hl, by simp only [Z5i, List.all_eq_true] at hno; exact hno l hl⟩) (by simp) (by simp [LIM]) (by simp) (fun j v hj => by simpa [valR] using hj)
   have := Y1t (P := P) (o := o) (rd := []) (hyp := True) hs hf hnew (l := .ptr (.pointer (some ⟨W.heap.size, 0, none⟩)) nid 0 0) rfl ⟨rfl, _, rfl⟩ (ptr_ok hf) rfl rfl hr trivial
   simpa [Z7t, Q2, mapL] using this
  ·cases he
 ·cases he
def mkF (P : Program) (t : TypeId) (l c : Option (L Unit)) (nid : Nat) : Option Eff :=
 (tiOf P t).bind fun i => match i.kd with
  | .slice => (tiOf P i.elem).bind fun ie => match l, c with
   | some (.int _ n), some (.int _ m) => if ie.zero.length = ie.size ∧ 0 < ie.size then if 0 ≤ n ∧ n ≤ m ∧ m * (ie.bytes : Int) ≤ 140737488355328 ∧ m ≤ 140737488355328 then
     some { v := one1 (.ref () nid 0 n.toNat), news := [⟨(), ie.size, List.replicate n.toNat (ie.zero.map zL)⟩] } else none else none
   | _, _ => none
  | _ => none
theorem X8j {z : Array Value} {k j : Nat} (hz : 0 < z.size) (hj : j < k) : (madeCells z k)[j]? = z[j % z.size]? := by
 have h1 : j % z.size < z.size := Nat.mod_lt _ hz
 simp only [madeCells, Array.getElem?_map, Array.getElem?_range, hj, if_true, Option.map_some]
 rw [Array.getElem!_eq_getD, Array.getD_eq_getD_getElem?, Array.getElem?_eq_getElem h1]
 rfl
theorem X3v {α : Type} {n : Nat} {r : List α} (hr : r.length = n) (hn : 0 < n) : ∀ (k j : Nat) x, ((List.replicate k r).flatten)[j]? = some x → j < k * n ∧ r[j % n]? = some x
 | 0, j, x, h => by simp at h
 | k + 1, j, x, h => by
  rw [List.replicate_succ, List.flatten_cons] at h
  by_cases hj : j < n
  ·rw [List.getElem?_append_left (by omega)] at h
   refine ⟨?_, by rwa [Nat.mod_eq_of_lt hj]⟩
   rw [Nat.add_mul]; omega
  ·rw [List.getElem?_append_right (by omega), hr] at h
   obtain ⟨h1, h2⟩ := X3v hr hn k _ _ h
   refine ⟨by rw [Nat.add_mul]; omega, ?_⟩
   rw [← h2]
   congr 1
   have : j = (j - n) + n := by omega
   conv => lhs; rw [this]
   rw [Nat.add_mod_right]
theorem mk_ok {P : Program} {B : Bd} {o : Oper} {a : Act} {W : World} {d : S Value} {nid : Nat} {e : Eff} (hi : Inv B W d) (hs : SlR d a) (hf : Fresh B d nid e.news.length) {t : TypeId} {x y : Operand} (ho : o.op = .makeSlice t x y)
  (he : mkF P t (lO (evA (erS d) x)) (lO (evA (erS d) y)) nid = some e) : Done P B o a W d nid e := by
 unfold mkF at he
 obtain ⟨i, ht, he⟩ := bind_some he
 obtain ⟨info, td, _, hinf, hu, _, _, hkd, _, _, _, _, hel, _⟩ := U6 ht
 split at he
 ·rename_i hk
  have hd := Z7h (hkd.symm.trans hk)
  obtain ⟨ie, hie, he⟩ := bind_some he
  obtain ⟨info2, _, z, hinf2, _, hz, hzs, _, _, hsz2, hby2, _⟩ := U6 hie
  rw [hel] at hinf2
  rw [hd] at hu
  split at he
  ·rename_i k n k' m hx hy
   split at he
   ·rename_i hzl
    split at he
    ·rename_i hb
     cases he
     obtain ⟨l', h1, h2, h3⟩ := V8 hi.good hs hx
     obtain rfl := Y3t h1
     obtain ⟨y', g1, g2, g3⟩ := V8 hi.good hs hy
     obtain rfl := Y3t g1
     have hzc : z.cells.size = ie.size := by
      have := congrArg List.length hzs
      simp only [List.length_map, Array.length_toList] at this
      omega
     have hrun := run_make (P := P) W t (Y6z td) info2 z hu hinf2 hz k k' n m hb.1 hb.2.1 (by rw [← hby2, Int.mul_comm]; omega) (by omega)
     rw [← hsz2] at hrun
     have hlen : (ie.zero.map (zL (δ := Value))).length = ie.size := by simp [hzl.1]
     have hnew := Y4w (W' := W.alloc (.cells (madeCells z.cells (m.toNat * ie.size)) (Y6z td))) hi hf [] (cells := madeCells z.cells (m.toNat * ie.size)) (ty := Y6z td) rfl ⟨rfl, rfl, rfl⟩ (n := ie.size) (c := m.toNat)
      (rows := List.replicate n.toNat (ie.zero.map zL)) (fun r hr => by rw [List.eq_of_mem_replicate hr]; exact hlen)
      (fun r hr l hl => by
       rw [List.eq_of_mem_replicate hr] at hl
       obtain ⟨z, _, rfl⟩ := List.mem_map.1 hl
       exact X8t z) (by simp; omega) (by simp [LIM]; omega) (by rw [size_madeCells]; exact Nat.le_refl _) (fun j v hj => by
       simp only [valR, List.getElem?_map, Option.map_eq_some_iff] at hj
       obtain ⟨l, hl, rfl⟩ := hj
       obtain ⟨h1, h2⟩ := X3v hlen hzl.2 _ _ _ hl
       have hm : n.toNat * ie.size ≤ m.toNat * ie.size := Nat.mul_le_mul_right _ (by omega)
       rw [X8j (by omega) (by omega), hzc]
       rw [List.getElem?_map, Option.map_eq_some_iff] at h2
       obtain ⟨q, hq, rfl⟩ := h2
       rw [X7s]
       have := congrArg (fun l : List Value => l[j % ie.size]?) hzs
       simp only [List.getElem?_map, hq, Option.map_some, Array.getElem?_toList] at this
       exact this.symm)
     have := Y1t (P := P) (o := o) (a := a) (rd := []) (hyp := True) hs hf hnew (l := .ref (.slice (some ⟨W.heap.size, 0, none⟩) (List.replicate n.toNat (ie.zero.map (zL (δ := Value)))).length m.toNat) nid 0 (List.replicate n.toNat (ie.zero.map (zL (δ := Value)))).length) rfl ⟨rfl, _, _, _, rfl⟩ (X8d hf) rfl rfl (by
      simp only [execOp, ho, h2, g2, val, List.length_replicate]
      rw [Sem.run_bind, hrun]
      rfl) trivial
     simpa [Z7t, er_zL, Function.comp_def, mapL] using this
    ·cases he
   ·cases he
  ·cases he
 ·cases he
end
section
inductive All2 {α β : Type} (R : α → β → Prop) : List α → List β → Prop
 | nil : All2 R [] []
 | cons {x : α} {y : β} {xs : List α} {ys : List β} : R x y → All2 R xs ys → All2 R (x :: xs) (y :: ys)
def Z5s {δ : Type} (ρ : Operand → Option (V δ)) : List (Nat × Operand) → Option (List (Nat × U δ))
 | [] => some []
 | (i, x) :: ps => (uO (ρ x)).bind fun u => if Z5i u then (Z5s ρ ps).map fun us => (i, u) :: us else none
theorem X3e {W : World} {d : S Value} {a : Act} (h : Good W d) (hs : SlR d a) : ∀ {ps : List (Nat × Operand)} {us : List (Nat × U Unit)}, Z5s (evA (erS d)) ps = some us →
  ∃ us' : List (Nat × U Value), us'.map (fun p => (p.1, erU p.2)) = us ∧ All2 (fun p q => q.1 = p.1 ∧ UR p.2 q.2) us' (ps.map fun p => (p.1, a.eval p.2)) ∧ ∀ p ∈ us', ∀ l ∈ Z1 p.2, Has d l ∧ noOs l = true
 | [], us, he => by
  cases he
  exact ⟨[], rfl, .nil, by simp⟩
 | (i, x) :: ps, us, he => by
  unfold Z5s at he
  obtain ⟨u, hu, he⟩ := bind_some he
  split at he
  ·rename_i hno
   rw [Option.map_eq_some_iff] at he
   obtain ⟨us1, hus1, rfl⟩ := he
   obtain ⟨u', h1, h2, h3⟩ := u_ok h hs hu
   obtain ⟨us', g1, g2, g3⟩ := X3e h hs hus1
   subst h1
   rw [Y8m] at hno
   refine ⟨(i, u') :: us', by simp [g1], .cons ⟨rfl, h2⟩ g2, fun p hp => ?_⟩
   rcases List.mem_cons.1 hp with rfl | hp
   ·intro l hl
    simp only [Z5i, List.all_eq_true] at hno
    exact ⟨h3 l hl, hno l hl⟩
   ·exact g3 p hp
  ·cases he
def Y6x {δ : Type} (place : Nat → Option (Nat × Nat)) : List (Nat × U δ) → List (L δ) → Option (List (L δ))
 | [], cells => some cells
 | (i, u) :: rest, cells => (place i).bind fun p => if (Z1 u).length = p.2 ∧ p.1 + p.2 ≤ cells.length then Y6x place rest (putC cells p.1 (Z1 u)) else none
theorem X9e (place : Nat → Option (Nat × Nat)) : ∀ (us : List (Nat × U Value)) (cells : List (L Value)),
  Y6x place (us.map fun p => (p.1, erU p.2)) (cells.map erL) = (Y6x place us cells).map (List.map erL)
 | [], cells => rfl
 | (i, u) :: us, cells => by
  simp only [List.map_cons, Y6x, Q2, List.length_map]
  cases place i with
  | none => rfl
  | some p =>
   simp only [Option.bind_some]
   split
   ·rw [← Y8k, X9e place us]
   ·rfl
theorem X3u : ∀ (l : List Value) (k off : Nat) (cells : Array Value), off + k + l.length ≤ cells.size →
  (l.zipIdx k).foldl (fun cs p => cs.setIfInBounds (off + p.2) p.1) cells = (putC cells.toList (off + k) l).toArray
 | [], k, off, cells, h => by simp [putC]
 | v :: l, k, off, cells, h => by
  simp only [List.length_cons] at h
  rw [List.zipIdx_cons, List.foldl_cons, X3u l (k + 1) off _ (by simp; omega)]
  congr 1
  simp only [Array.toList_setIfInBounds]
  apply List.ext_getElem?
  intro j
  rw [Y3f (by simp; omega), Y3f (by simp; omega)]
  simp only [List.length_cons]
  by_cases h1 : off + k + 1 ≤ j ∧ j < off + k + 1 + l.length
  ·rw [if_pos (by omega), if_pos (by omega)]
   have : j - (off + k) = (j - (off + (k + 1))) + 1 := by omega
   rw [this, List.getElem?_cons_succ]
  ·rw [if_neg (by omega)]
   by_cases h2 : j = off + k
   ·subst h2
    rw [if_pos (by omega), Nat.sub_self, List.getElem?_cons_zero, List.getElem?_set_self (by simp; omega)]
   ·rw [if_neg (by omega), List.getElem?_set_ne (Ne.symm h2)]
theorem W3v {place : Nat → Option (Nat × Nat)} : ∀ {us : List (Nat × U Value)} {ps : List (Nat × Value)} {cells cells' : List (L Value)}, All2 (fun p q => q.1 = p.1 ∧ UR p.2 q.2) us ps →
  (∀ p ∈ us, ∀ l ∈ Z1 p.2, wfL false l) → Y6x place us cells = some cells' → Instr.fill place (cells.map val).toArray ps = some (cells'.map val).toArray
 | [], [], cells, cells', _, _, h => by cases h; rfl
 | (i, u) :: us, (i', x) :: ps, cells, cells', hf, hw, h => by
  cases hf with
  | cons hp hf =>
   obtain ⟨rfl, hx⟩ := hp
   simp only [Y6x] at h
   obtain ⟨p, hp, h⟩ := bind_some h
   obtain ⟨off, size⟩ := p
   split at h
   ·rename_i hb
    have hc := X4c hx (hw _ (by simp))
    simp only at hb
    simp only [Instr.fill, hp, hc, List.size_toArray, List.length_map]
    rw [if_neg (by simp [hb.1]; omega)]
    have := X3u ((Z1 u).map val) 0 off (cells.map val).toArray (by simp; omega)
    simp only [Nat.add_zero, ← Y8k] at this
    have e : (((Z1 u).map val).toArray.zipIdx.foldl (fun cs x => match x with | (c, j) => cs.setIfInBounds (off + j) c) (cells.map val).toArray) = ((putC cells off (Z1 u)).map val).toArray := by
     rw [← this]
     simp
    rw [e]
    exact W3v hf (fun p hp => hw p (List.mem_cons_of_mem _ hp)) h
   ·cases h
theorem X5v {δ : Type} {place : Nat → Option (Nat × Nat)} : ∀ {us : List (Nat × U δ)} {cells cells' : List (L δ)}, Y6x place us cells = some cells' → ∀ l ∈ cells', l ∈ cells ∨ ∃ p ∈ us, l ∈ Z1 p.2
 | [], cells, cells', h, l, hl => by cases h; exact .inl hl
 | (i, u) :: us, cells, cells', h, l, hl => by
  simp only [Y6x] at h
  obtain ⟨p, hp, h⟩ := bind_some h
  split at h
  ·rcases X5v h l hl with h1 | ⟨q, hq, h1⟩
   ·rcases X8i h1 with h1 | h1
    ·exact .inl h1
    ·exact .inr ⟨(i, u), by simp, h1⟩
   ·exact .inr ⟨q, List.mem_cons_of_mem _ hq, h1⟩
  ·cases h
def buF (P : Program) (t : TypeId) (ps : Array (Nat × Operand)) (ρ : Env) : Option Eff :=
 (tiOf P t).bind fun i => match i.kd with
  | .struct => (Z5s ρ ps.toList).bind fun us => (Y6x (i.places[·]?) us (i.zero.map zL)).bind fun cells => some { v := .u (.agg cells) }
  | _ => none
theorem Y7f {P : Program} : ∀ {fs : List Field} {ps : List (Nat × Nat)}, Y9u P fs = some ps → fs.mapM (fun f => (P.info? f.type).map fun i => (f.offset, i.size)) = some ps
 | [], ps, h => by cases h; rfl
 | f :: fs, ps, h => by
  unfold Y9u at h
  cases h1 : P.info? f.type with
  | none => simp [h1] at h
  | some i =>
   cases h2 : Y9u P fs with
   | none => simp [h1, h2] at h
   | some qs =>
    simp [h1, h2] at h
    subst h
    simp [List.mapM_cons, h1, Y7f h2]
theorem X9g (zs : List Z) : (zs.map (zL (δ := Value))).map erL = zs.map zL := by
 rw [List.map_map]
 exact List.map_congr_left fun z _ => er_zL z
theorem W1e (zs : List Z) : (zs.map (zL (δ := Value))).map val = zs.map zV := by
 rw [List.map_map]
 exact List.map_congr_left fun z _ => X7s z
theorem bu_ok {P : Program} {B : Bd} {o : Oper} {a : Act} {W : World} {d : S Value} {nid : Nat} {e : Eff} (hi : Inv B W d) (hs : SlR d a) {t : TypeId} {ps : Array (Nat × Operand)} (ho : o.op = .build t ps)
  (he : buF P t ps (evA (erS d)) = some e) : Done P B o a W d nid e := by
 unfold buF at he
 obtain ⟨i, ht, he⟩ := bind_some he
 obtain ⟨info, td, z, hinf, hu, hz, hzs, hkd, _, _, _, _, _, hpl⟩ := U6 ht
 split at he
 ·rename_i hk
  obtain ⟨fs, rfl⟩ := Y6k (hkd.symm.trans hk)
  obtain ⟨us, hus, he⟩ := bind_some he
  obtain ⟨cells, hc, he⟩ := bind_some he
  cases he
  obtain ⟨us', h1, h2, h3⟩ := X3e hi.good hs hus
  subst h1
  rw [← X9g, X9e, Option.map_eq_some_iff] at hc
  obtain ⟨cells', hc', rfl⟩ := hc
  have hfill := W3v h2 (fun p hp l hl => (h3 p hp l hl).1.1) hc'
  rw [W1e, hzs] at hfill
  have hall : ∀ l ∈ cells', Has d l ∧ noOs l = true := fun l hl => by
   rcases X5v hc' l hl with h | ⟨p, hp, h⟩
   ·obtain ⟨z, _, rfl⟩ := List.mem_map.1 h
    exact X8t z
   ·exact h3 p hp l h
  refine Z9v hi hs (v := .u (.agg cells')) (x := .agg (cells'.map val).toArray) ?_ rfl (by simpa [Y2s, Z3, Z1, List.all_eq_true] using fun l hl => (hall l hl).2) (fun l hl => (hall l hl).1) trivial
  simp only [execOp, ho]
  have hb : P.built t (ps.map fun x => match x with | (i, x) => (i, a.eval x)).toList = some (cells'.map val).toArray := by
   simp only [Program.built, hinf, hu, hz]
   simp only [X6m] at hpl
   rw [Y7f hpl]
   simp only [Array.toList_map]
   simpa using hfill
  rw [Sem.run_bind, run_build W t _ _ hb]
  rfl
 ·cases he
def Y4d {δ : Type} (n : Nat) : List (Nat × U δ) → List (List (L δ)) → Option (List (List (L δ)))
 | [], rows => some rows
 | (i, u) :: rest, rows => if (Z1 u).length = n ∧ i < rows.length then Y4d n rest (rows.set i (Z1 u)) else none
theorem X9d (n : Nat) : ∀ (us : List (Nat × U Value)) (rows : List (List (L Value))), Y4d n (us.map fun p => (p.1, erU p.2)) (Z7t rows) = (Y4d n us rows).map Z7t
 | [], rows => rfl
 | (i, u) :: us, rows => by
  simp only [List.map_cons, Y4d, Q2, List.length_map, Z7t]
  split
  ·have := X9d n us (rows.set i (Z1 u))
   simp only [Z7t, List.map_set] at this
   exact this
  ·rfl
theorem W6e {n : Nat} : ∀ {us : List (Nat × U Value)} {rows rows' : List (List (L Value))}, (∀ r ∈ rows, r.length = n) → (∀ r ∈ rows, ∀ l ∈ r, ∃ z, l = zL z) → Y4d n us rows = some rows' →
  (∀ r ∈ rows', r.length = n) ∧ rows'.length = rows.length ∧ ∀ r ∈ rows', ∀ l ∈ r, (∃ r0 ∈ rows, l ∈ r0) ∨ ∃ p ∈ us, l ∈ Z1 p.2
 | [], rows, rows', hl, _, h => by cases h; exact ⟨hl, rfl, fun r hr l h => .inl ⟨r, hr, h⟩⟩
 | (i, u) :: us, rows, rows', hl, hz, h => by
  unfold Y4d at h
  split at h
  ·rename_i hb
   have key : ∀ (us : List (Nat × U Value)) (rows rows' : List (List (L Value))), (∀ r ∈ rows, r.length = n) → Y4d n us rows = some rows' →
     (∀ r ∈ rows', r.length = n) ∧ rows'.length = rows.length ∧ ∀ r ∈ rows', ∀ l ∈ r, (∃ r0 ∈ rows, l ∈ r0) ∨ ∃ p ∈ us, l ∈ Z1 p.2 := by
    intro us
    induction us with
    | nil => intro rows rows' hl h; cases h; exact ⟨hl, rfl, fun r hr l h => .inl ⟨r, hr, h⟩⟩
    | cons p us ih =>
     intro rows rows' hl h
     obtain ⟨i, u⟩ := p
     unfold Y4d at h
     split at h
     ·rename_i hb
      obtain ⟨h1, h2, h3⟩ := ih _ _ (fun r hr => by
       rcases Z6t hr with hr | rfl
       ·exact hl r hr
       ·exact hb.1) h
      refine ⟨h1, by simpa using h2, fun r hr l hlr => ?_⟩
      rcases h3 r hr l hlr with ⟨r0, hr0, h4⟩ | ⟨p, hp, h4⟩
      ·rcases Z6t hr0 with hr0 | rfl
       ·exact .inl ⟨r0, hr0, h4⟩
       ·exact .inr ⟨(i, u), by simp, h4⟩
      ·exact .inr ⟨p, List.mem_cons_of_mem _ hp, h4⟩
     ·cases h
   exact key ((i, u) :: us) rows rows' hl (by unfold Y4d; rw [if_pos hb]; exact h)
  ·cases h
theorem X2e {n : Nat} : ∀ {us : List (Nat × U Value)} {ps : List (Nat × Value)} {rows rows' : List (List (L Value))}, (∀ r ∈ rows, r.length = n) → All2 (fun p q => q.1 = p.1 ∧ UR p.2 q.2) us ps →
  (∀ p ∈ us, ∀ l ∈ Z1 p.2, wfL false l) → Y4d n us rows = some rows' → Instr.fill (fun i => some (i * n, n)) (valR rows).toArray ps = some (valR rows').toArray
 | [], [], rows, rows', _, _, _, h => by cases h; rfl
 | (i, u) :: us, (i', x) :: ps, rows, rows', hl, hf, hw, h => by
  cases hf with
  | cons hp hf =>
   obtain ⟨rfl, hx⟩ := hp
   unfold Y4d at h
   split at h
   ·rename_i hb
    have hc := X4c hx (hw _ (by simp))
    simp only at hb hf hx hc ⊢
    have hlen := Z2f hl
    have hle : (i' + 1) * n ≤ rows.length * n := Nat.mul_le_mul_right _ hb.2
    rw [Nat.add_mul, Nat.one_mul] at hle
    simp only [Instr.fill, hc, List.size_toArray, List.length_map, hb.1, hlen]
    rw [if_neg (by simp; omega)]
    have := X3u ((Z1 u).map val) 0 (i' * n) (valR rows).toArray (by simp [hlen, hb.1]; omega)
    simp only [Nat.add_zero] at this
    have e : (((Z1 u).map val).toArray.zipIdx.foldl (fun cs x => match x with | (c, j) => cs.setIfInBounds (i' * n + j) c) (valR rows).toArray) = (valR (rows.set i' (Z1 u))).toArray := by
     rw [X7t hl (List.getElem?_eq_getElem hb.2) hb.1]
     have h3 : putC (valR rows) (i' * n) ((Z1 u).map val) = (valR rows).take (i' * n) ++ (Z1 u).map val ++ (valR rows).drop (i' * n + n) := by
      unfold putC
      rw [List.length_map, hb.1]
     rw [← h3, ← this]
     simp
    rw [e]
    exact X2e (fun r hr => by
     rcases Z6t hr with hr | rfl
     ·exact hl r hr
     ·exact hb.1) hf (fun p hp => hw p (List.mem_cons_of_mem _ hp)) h
   ·cases h
def bsF (P : Program) (t : TypeId) (len : Nat) (ps : Array (Nat × Operand)) (ρ : Env) (nid : Nat) : Option Eff :=
 (tiOf P t).bind fun i => match i.kd with
  | .slice => (tiOf P i.elem).bind fun ie => if ie.zero.length = ie.size ∧ 0 < ie.size ∧ len * ie.size ≤ 16777216 then
    (Z5s ρ ps.toList).bind fun us => (Y4d ie.size us (List.replicate len (ie.zero.map zL))).bind fun rows => some { v := one1 (.ref () nid 0 len), news := [⟨(), ie.size, rows⟩] } else none
  | _ => none
theorem bs_ok {P : Program} {B : Bd} {o : Oper} {a : Act} {W : World} {d : S Value} {nid : Nat} {e : Eff} (hi : Inv B W d) (hs : SlR d a) (hf : Fresh B d nid e.news.length) {t : TypeId} {len : Nat} {ps : Array (Nat × Operand)}
  (ho : o.op = .buildSlice t len ps) (he : bsF P t len ps (evA (erS d)) nid = some e) : Done P B o a W d nid e := by
 unfold bsF at he
 obtain ⟨i, ht, he⟩ := bind_some he
 obtain ⟨info, td, _, hinf, hu, _, _, hkd, _, _, _, _, hel, _⟩ := U6 ht
 split at he
 ·rename_i hk
  have hd := Z7h (hkd.symm.trans hk)
  obtain ⟨ie, hie, he⟩ := bind_some he
  obtain ⟨info2, _, z, hinf2, _, hz, hzs, _, _, hsz2, hby2, _⟩ := U6 hie
  rw [hel] at hinf2
  rw [hd] at hu
  split at he
  ·rename_i hb
   obtain ⟨us, hus, he⟩ := bind_some he
   obtain ⟨rows, hrows, he⟩ := bind_some he
   cases he
   obtain ⟨us', h1, h2, h3⟩ := X3e hi.good hs hus
   subst h1
   have hzc : z.cells.size = ie.size := by
    have := congrArg List.length hzs
    simp only [List.length_map, Array.length_toList] at this
    omega
   have e0 : Z7t (List.replicate len (ie.zero.map (zL (δ := Value)))) = List.replicate len (ie.zero.map zL) := by
    rw [Z7t, List.map_replicate, X9g]
   rw [← e0, X9d, Option.map_eq_some_iff] at hrows
   obtain ⟨rows', hr', rfl⟩ := hrows
   have hl0 : ∀ r ∈ List.replicate len (ie.zero.map (zL (δ := Value))), r.length = ie.size := fun r hr => by rw [List.eq_of_mem_replicate hr, List.length_map]; exact hb.1
   have hz0 : ∀ r ∈ List.replicate len (ie.zero.map (zL (δ := Value))), ∀ l ∈ r, ∃ z, l = zL z := fun r hr l hl => by
    rw [List.eq_of_mem_replicate hr] at hl
    obtain ⟨z, _, rfl⟩ := List.mem_map.1 hl
    exact ⟨z, rfl⟩
   obtain ⟨k1, k2, k3⟩ := W6e hl0 hz0 hr'
   have hfill := X2e hl0 h2 (fun p hp l hl => (h3 p hp l hl).1.1) hr'
   have hmade : (valR (List.replicate len (ie.zero.map (zL (δ := Value))))).toArray = (Array.range (len * ie.size)).map (z.cells[· % z.cells.size]!) := by
    show _ = madeCells z.cells (len * ie.size)
    apply Array.ext_getElem?
    intro j
    by_cases hj : j < len * ie.size
    ·rw [X8j (by omega) hj, hzc, List.getElem?_toArray]
     have hlt : j < (List.replicate len (ie.zero.map (zL (δ := Value)))).flatten.length := by
      have := Z2f hl0
      simp only [valR, List.length_map, List.length_replicate] at this
      omega
     obtain ⟨_, h5⟩ := X3v (by rw [List.length_map]; exact hb.1) hb.2.1 len j _ (List.getElem?_eq_getElem hlt)
     simp only [valR, List.getElem?_map, List.getElem?_eq_getElem hlt, Option.map_some]
     rw [List.getElem?_map, Option.map_eq_some_iff] at h5
     obtain ⟨q, hq, hq2⟩ := h5
     rw [← hq2, X7s]
     have := congrArg (fun l : List Value => l[j % ie.size]?) hzs
     simp only [List.getElem?_map, hq, Option.map_some, Array.getElem?_toList] at this
     exact this
    ·rw [Array.getElem?_eq_none (by simp [Z2f hl0]; omega), Array.getElem?_eq_none (by rw [size_madeCells]; omega)]
   have hps : (ps.map fun x => match x with | (i, x) => (i, a.eval x)).toList = ps.toList.map fun p => (p.1, a.eval p.2) := by simp
   have hrun : (Instr.buildSlice t len (ps.map fun x => match x with | (i, x) => (i, a.eval x))).run P W = .ok (.slice (some ⟨W.heap.size, 0, none⟩) len len) (W.alloc (.cells (valR rows').toArray (Y6z td))) := by
    rw [hmade] at hfill
    rw [← hps] at hfill
    by_cases h0 : len * info2.size = 0
    ·have hl : len = 0 := by
      rcases Nat.mul_eq_zero.1 h0 with h | h
      ·exact h
      ·omega
     subst hl
     simp only [Nat.zero_mul] at hfill
     have e : Instr.fill (fun i => some (i * info2.size, info2.size)) #[] (ps.toList.map fun p => (p.1, a.eval p.2)) = some (valR rows').toArray := by
      rw [← hsz2]
      rw [hps] at hfill
      simpa [Array.range_zero'] using hfill
     simp [Instr.buildSlice, run_underlying hu, sizeOf, typeInfo, zeroValue, hinf2, hz, newRow, Array.range_zero', e]
    ·exact run_buildSlice W t (Y6z td) len _ _ info2 z hu hinf2 hz (by rw [← hsz2]; omega) h0 (by rw [← hsz2]; exact hfill)
   have hlen : rows'.length = len := by rw [k2, List.length_replicate]
   have hnew := Y4w (W' := W.alloc (.cells (valR rows').toArray (Y6z td))) hi hf [] (cells := (valR rows').toArray) (ty := Y6z td) rfl ⟨rfl, rfl, rfl⟩ (n := ie.size) (c := len) (rows := rows') k1
    (fun r hr l hl => by
     rcases k3 r hr l hl with ⟨r0, hr0, h⟩ | ⟨p, hp, h⟩
     ·obtain ⟨z, rfl⟩ := hz0 r0 hr0 l h
      exact X8t z
     ·exact h3 p hp l h) (by omega) (by
      have : len * 1 ≤ len * ie.size := Nat.mul_le_mul_left _ hb.2.1
      simp only [LIM]; omega) (by simp [Z2f k1, hlen]) (fun j v hj => by simpa using hj)
   have := Y1t (P := P) (o := o) (a := a) (rd := []) (hyp := True) hs hf hnew (l := .ref (.slice (some ⟨W.heap.size, 0, none⟩) rows'.length len) nid 0 rows'.length) rfl ⟨rfl, _, _, _, rfl⟩ (X8d hf) rfl rfl (by
    simp only [execOp, ho]
    rw [Sem.run_bind, hrun, hlen]
    rfl) trivial
   simpa [mapL, hlen] using this
  ·cases he
 ·cases he
def X0w {δ : Type} (ρ : Operand → Option (V δ)) : List Operand → Option (List (L δ))
 | [] => some []
 | x :: xs => (lO (ρ x)).bind fun l => if noOs l then (X0w ρ xs).map fun ls => l :: ls else none
theorem W4h {W : World} {d : S Value} {a : Act} (h : Good W d) (hs : SlR d a) : ∀ {xs : List Operand} {ls : List (L Unit)}, X0w (evA (erS d)) xs = some ls →
  ∃ ls' : List (L Value), ls'.map erL = ls ∧ xs.map a.eval = ls'.map val ∧ ∀ l ∈ ls', Has d l ∧ noOs l = true
 | [], ls, he => by cases he; exact ⟨[], rfl, rfl, by simp⟩
 | x :: xs, ls, he => by
  unfold X0w at he
  obtain ⟨l, hl, he⟩ := bind_some he
  split at he
  ·rename_i hno
   rw [Option.map_eq_some_iff] at he
   obtain ⟨ls1, hls1, rfl⟩ := he
   obtain ⟨l', h1, h2, h3⟩ := V8 h hs hl
   obtain ⟨ls', g1, g2, g3⟩ := W4h h hs hls1
   subst h1
   rw [Z9p] at hno
   refine ⟨l' :: ls', by simp [g1], by simp [h2, g2], fun q hq => ?_⟩
   rcases List.mem_cons.1 hq with rfl | hq
   ·exact ⟨h3, hno⟩
   ·exact g3 q hq
  ·cases he
def mfF (f : Fn) (first caps : Array Operand) (ρ : Env) : Option Eff := match f with
 | .func g => if first.size = 0 then (X0w ρ caps.toList).map fun ls => { v := one1 (.fn () g ls) } else none
 | _ => none
theorem mf_ok {P : Program} {B : Bd} {o : Oper} {a : Act} {W : World} {d : S Value} {nid : Nat} {e : Eff} (hi : Inv B W d) (hs : SlR d a) {f : Fn} {first caps : Array Operand} (ho : o.op = .makeFunc f first caps)
  (he : mfF f first caps (evA (erS d)) = some e) : Done P B o a W d nid e := by
 unfold mfF at he
 split at he
 ·rename_i g
  split at he
  ·rename_i h0
   rw [Option.map_eq_some_iff] at he
   obtain ⟨ls, hls, rfl⟩ := he
   obtain ⟨ls', h1, h2, h3⟩ := W4h hi.good hs hls
   subst h1
   have hfirst : first = #[] := Array.eq_empty_of_size_eq_zero h0
   have := J4 (P := P) (B := B) (o := o) (a := a) (W := W) (nid := nid) (rd := []) (hyp := True) (l := .fn (.func (.func g) #[] (ls'.map val).toArray) g ls') hi hs (by
    simp only [execOp, ho, Instr.makeFunc, hfirst, val]
    have : caps.map a.eval = (ls'.map val).toArray := by
     rw [← h2, ← Array.toList_map, Array.toArray_toList]
    rw [this]
    simp) rfl ⟨⟨rfl, rfl, (Z8n _ _).2 fun l hl => (h3 l hl).1.1⟩, (Z9h _ _).2 fun l hl => (h3 l hl).1.2.1, fun p hp => by
     simp only [immL, Z7z] at hp
     obtain ⟨l, hl, hp⟩ := List.mem_flatMap.1 hp
     exact (h3 l hl).1.2.2.1 p hp, fun i hi => by
     simp only [idsL, Y2w] at hi
     obtain ⟨l, hl, hi⟩ := List.mem_flatMap.1 hi
     exact (h3 l hl).1.2.2.2 i hi⟩
   simpa [mapL, Z7f] using this
  ·cases he
 ·cases he
end
section
theorem X6i {P : Program} {W : World} {t t2 ty e e2 : TypeId} {i : TypeInfo} {z : Value} (ht : P.underlying t = some (.slice e)) (ht2 : P.underlying t2 = some (.slice e2)) (hi : P.info? e = some i) (hz : i.zero = some z)
    {n cap m : Nat} {base : Option Addr} {x : Value} {olds news : List Value} (hb : base = none → n = 0 ∧ cap = 0) (hba : ∀ a, base = some a → a.spot = none ∧ ∃ arr ty, W.heap[a.block]? = some (.cells arr ty (0, 0)) ∧ a.off + cap * i.size ≤ arr.size)
    (hlen : ∀ w : World, (Builtin.lenOf x).run P w = .ok m w) (hnew : ∀ w : World, w.heap = W.heap → (Builtin.firstCells i.size m x).run P w = .ok news.toArray w)
    (hold : ∀ w : World, w.heap = W.heap → (Builtin.firstCells i.size n (.slice base n cap)).run P w = .ok olds.toArray w) (ho : olds.length = n * i.size) (hl : news.length = m * i.size)
    (h1 : ∀ v ∈ news, v.oneCell' = true) (hbytes : (n + m) * i.bytes ≤ 140737488355328) (h63 : n + m ≤ 140737488355328) :
    ∃ v' W', (Builtin.append_ #[t, t2] ty #[.slice base n cap, x]).run P W = .ok v' W' ∧
      ((base = none ∧ n + m = 0 ∧ v' = .slice none 0 0 ∧ W' = W) ∨
       (∃ g o arr ty, base = some ⟨g, o, none⟩ ∧ W.heap[g]? = some (.cells arr ty (0, 0)) ∧ n + m ≤ cap ∧ v' = .slice (some ⟨g, o, none⟩) (n + m) cap ∧ W' = W.setRow g (putC arr.toList (o + n * i.size) news).toArray) ∨
       ∃ c' cells, n + m ≤ c' ∧ v' = .slice (some ⟨W.heap.size, 0, none⟩) (n + m) c' ∧ W'.heap = W.heap.push (.cells cells e) ∧ Same W W' ∧ (z.cells.size = i.size → c' * i.size ≤ cells.size) ∧ ∀ (j : Nat) v, (olds ++ news)[j]? = some v → cells[j]? = some v) := by
  by_cases hroom : n + m ≤ cap
  · cases hbase : base with
    | none =>
      obtain ⟨rfl, rfl⟩ := hb hbase
      have hm : m = 0 := by omega
      subst hm
      refine ⟨.slice none 0 0, W, ?_, .inl ⟨rfl, rfl, rfl, rfl⟩⟩
      simp [Builtin.append_, run_underlying ht, run_underlying ht2, sizeOf, typeInfo, hi, hlen, hnew W rfl]
    | some a =>
      obtain ⟨hsp, arr, ty', hg, hsz⟩ := hba a hbase
      obtain ⟨g, o, s⟩ := a
      simp only at hsp
      subst hsp
      simp only at hg hsz
      have hfit : o + n * i.size + news.length ≤ arr.size := by
        have : (n + m) * i.size ≤ cap * i.size := Nat.mul_le_mul_right _ hroom
        rw [Nat.add_mul] at this
        omega
      have hst := run_storeCells_at P g (o + n * i.size) ty' news 0 arr W hg (by simpa using hfit) h1
      simp only [Nat.add_zero] at hst
      refine ⟨_, _, ?_, .inr (.inl ⟨g, o, arr, ty', rfl, hg, hroom, rfl, rfl⟩)⟩
      simp [Builtin.append_, run_underlying ht, run_underlying ht2, sizeOf, typeInfo, hi, hlen, hroom, hnew W rfl, Z8d, hst, putC]
  · have h63' : ¬ (9223372036854775807 < ((n : Int) + (m : Int))) := by omega
    have hfits := growslice_fits (need := n + m) (old := cap) (bytes := i.bytes) (by omega) hbytes
    have h48' : ¬ (281474976710656 < Builtin.nextslicecap (n + m) cap * i.bytes) := by omega
    have hge := grownCap_ge W (n + m) cap e
    refine ⟨.slice (some ⟨W.heap.size, 0, none⟩) (n + m) (grownCap W (n + m) cap e),
      W.drew.alloc (.cells (olds.toArray ++ news.toArray ++ Builtin.zeroCells z.cells (grownCap W (n + m) cap e - (n + m))) e), ?_, .inr (.inr ⟨_, _, hge, rfl, rfl, ⟨rfl, rfl, rfl⟩, fun hzs => ?_, fun j v hj => ?_⟩)⟩
    · have hf := hnew W.drew rfl
      have hfo := hold W.drew rfl
      simp [Builtin.append_, run_underlying ht, run_underlying ht2, sizeOf, typeInfo, zeroValue, hi, hz, hlen, hroom, h63', h48', Question.forced, hf, hfo, newRow, grownCap]
      congr 2
      apply Array.ext'
      simp [List.append_assoc]
    · simp only [Array.size_append, List.size_toArray, size_zeroCells, hzs, ho, hl]
      rw [← Nat.add_mul, ← Nat.add_mul]
      exact Nat.mul_le_mul_right _ (by omega)
    · rw [Array.getElem?_append_left (by
        have := (List.getElem?_eq_some_iff.1 hj).1
        simpa using this)]
      have : (olds.toArray ++ news.toArray) = (olds ++ news).toArray := by simp
      rw [this, List.getElem?_toArray]
      exact hj

def nosR {δ : Type} (rows : List (List (L δ))) : Bool := rows.all (fun r => r.all noOs)
theorem X8h {δ : Type} {rows : List (List (L δ))} : nosR rows = true ↔ ∀ r ∈ rows, ∀ l ∈ r, noOs l = true := by simp [nosR, List.all_eq_true]
theorem W2v (rows : List (List (L Value))) : nosR (Z7t rows) = nosR rows := by
 simp [nosR, Z7t, List.all_map, Function.comp_def, Z9p]
def argR {δ : Type} (lk : Nat → Option (Ob δ)) (n : Nat) : Option (L δ) → Option (List (List (L δ)) × List Nat)
 | some .nl => some ([], [])
 | some (.bs _ m rows) => if m = n then some (rows, []) else none
 | some (.ref _ id off len) => (lk id).bind fun o => if o.n = n then some ((o.rows.drop off).take len, [id]) else none
 | _ => none
theorem Z6d {n : Nat} {rows : List (List (L Value))} (hl : ∀ r ∈ rows, r.length = n) (off len j : Nat) {v : Value} (h : (valR ((rows.drop off).take len))[j]? = some v) : (valR rows)[off * n + j]? = some v := by
 have h1 : valR rows = valR (rows.take off) ++ (valR ((rows.drop off).take len) ++ valR ((rows.drop off).drop len)) := by
  simp only [valR, ← List.map_append, ← List.flatten_append, List.take_append_drop]
 have h2 : (valR (rows.take off)).length = (rows.take off).length * n := Z2f fun r hr => hl r (List.mem_of_mem_take hr)
 have hlt := (List.getElem?_eq_some_iff.1 h).1
 by_cases hoff : off ≤ rows.length
 ·rw [List.length_take, Nat.min_eq_left hoff] at h2
  rw [h1, List.getElem?_append_right (by omega), h2, List.getElem?_append_left (by omega)]
  rw [← h]
  congr 1
  omega
 ·rw [List.drop_eq_nil_of_le (by omega)] at hlt
  simp [valR] at hlt
theorem W4p {P : Program} {W : World} {d : S Value} (hg : Good W d) {l : L Value} (hh : Has d l) {n : Nat} {p : List (List (L Unit)) × List Nat} (h : argR (look (erS d).ob) n (some (erL l)) = some p) :
  ∃ rows, Z7t rows = p.1 ∧ (∀ r ∈ rows, r.length = n) ∧ (∀ r ∈ rows, ∀ l ∈ r, Has d l) ∧ (rows.length ≤ LIM ∧ ∀ v id off len, l = .ref v id off len → ∃ o, look d.ob id = some o ∧ rows = (o.rows.drop off).take len) ∧ ∃ a c, val l = .slice a rows.length c ∧ (∀ b y, a = some ⟨b, y, none⟩ → ∀ (j : Nat) v, (valR rows)[j]? = some v → W.cell? ⟨b, y + j, none⟩ = some v) ∧ (∀ w : World, (Builtin.lenOf (val l)).run P w = .ok rows.length w) ∧
   ∀ w : World, w.heap = W.heap → (Builtin.firstCells n rows.length (val l)).run P w = .ok (valR rows).toArray w := by
 have load : ∀ (b o : Nat) (rows : List (List (L Value))), (∀ r ∈ rows, r.length = n) → (∀ (j : Nat) v, (valR rows)[j]? = some v → W.cell? ⟨b, o + j, none⟩ = some v) → ∀ w : World, w.heap = W.heap →
   (loadCells ⟨b, o, none⟩ (rows.length * n)).run P w = .ok (valR rows).toArray w := by
  intro b o rows hl hc w hw
  have := run_loadCells_list (P := P) w ⟨b, o, none⟩ (valR rows) (fun j v hj => by
   rw [Z8d]
   have := hc j v hj
   simp only [World.cell?] at this ⊢
   rw [hw]
   exact this)
  rwa [Z2f hl] at this
 cases l with
 | nl =>
  simp only [mapL, argR, Option.some.injEq] at h
  subst h
  exact ⟨[], rfl, by simp, by simp, ⟨by simp [LIM], fun _ _ _ _ h => by cases h⟩, none, 0, rfl, fun b y h => (by cases h), fun w => rfl, fun w _ => rfl⟩
 | bs v m rows =>
  simp only [mapL, argR] at h
  split at h
  ·rename_i hm
   cases h
   subst hm
   obtain ⟨⟨a, c, hv, hlen, hlim, ha⟩, hl, hw⟩ := hh.1
   have hleaf : ∀ r ∈ rows, ∀ l ∈ r, Has d l := fun r hr l hlr => by
    rw [Z5h] at hw
    refine X2d (hw r hr l hlr) fun p hp => hh.2.2.1 p ?_
    simp only [immL, List.mem_append]
    exact .inr (X3j hr hlr hp)
   have hcell : ∀ b o, a = some ⟨b, o, none⟩ → ∀ (j : Nat) v, (valR rows)[j]? = some v → W.cell? ⟨b, o + j, none⟩ = some v := fun b o hbo j u hj => by
    rcases hh.2.2.1 (⟨b, o, none⟩, valR rows) (by simp [immL, hv, hbo, Z2w]) with h0 | ⟨q, hq, hs⟩
    ·simp only at h0
     rw [h0] at hj
     simp at hj
    ·have hne' : valR rows ≠ [] := by rintro h0; rw [h0] at hj; simp at hj
     exact (hs.fact (hg.imm q hq (hs.ne hne')).1) j u hj
   refine ⟨rows, by simp [Z7t, Z1m], hl, hleaf, ⟨hlim, fun _ _ _ _ h => by cases h⟩, a, c, hv, hcell, fun w => by rw [val, hv]; rfl, fun w hw' => ?_⟩
   by_cases hne : rows = []
   ·subst hne
    rw [val, hv]
    cases a with
    | none => rfl
    | some a => simp [Builtin.firstCells, loadCells, loadCellsFrom, valR]
   ·obtain ⟨b, o, rfl⟩ := ha hne
    rw [val, hv]
    simp only [Builtin.firstCells]
    exact load b o rows hl (hcell b o rfl) w hw'
  ·cases h
 | ref v id off len =>
  simp only [mapL, argR] at h
  obtain ⟨ob, hob, h⟩ := bind_some h
  split at h
  ·rename_i hn
   cases h
   obtain ⟨ob', ho', rfl⟩ := U7 hob
   have hn' : ob'.n = n := hn
   subst hn'
   obtain ⟨hlen, hv⟩ := hh.2.1 ob' ho'
   have hobs : _ ∧ ∀ r ∈ ob'.rows, r.length = ob'.n := hg.obs _ (find?_key ho')
   have hsub : ∀ r ∈ (ob'.rows.drop off).take len, r ∈ ob'.rows := fun r hr => List.mem_of_mem_drop (List.mem_of_mem_take hr)
   have hlr : ((ob'.rows.drop off).take len).length = len := by rw [List.length_take, List.length_drop]; omega
   have hlim : len ≤ LIM := by
    rcases hobs.1 with ⟨_, h0⟩ | ⟨_, _, _, _, _, h0⟩
    ·simp only at h0; rw [h0] at hlen; simp at hlen; omega
    ·simp only at h0; omega
   refine ⟨(ob'.rows.drop off).take len, by simp [Z7t, erOb, Z3e, List.map_take, List.map_drop], fun r hr => hobs.2 r (hsub r hr), fun r hr l hl => Z6v hg ho' (hsub r hr) hl, ⟨by omega, fun _ _ _ _ h => by cases h; exact ⟨ob', ho', rfl⟩⟩, ?_⟩
   rw [hlr]
   rcases hv with ⟨h0, hv⟩ | ⟨b, x, c0, h0, hv⟩
   ·have hr0 : ob'.rows = [] := by
     rcases hobs.1 with ⟨_, h1⟩ | ⟨_, _, _, h1, _⟩
     ·exact h1
     ·simp only at h1; rw [h0] at h1; cases h1
    rw [hr0] at hlen
    simp at hlen
    obtain ⟨rfl, rfl⟩ := hlen
    exact ⟨none, 0, by rw [val, hv], fun b y h => (by cases h), fun w => by rw [val, hv]; rfl, fun w _ => by rw [val, hv]; simp [Builtin.firstCells, valR]⟩
   ·rcases hv with hv | ⟨y, hv, rfl, _⟩
    ·have hcell : ∀ (j : Nat) v, (valR ((ob'.rows.drop off).take len))[j]? = some v → W.cell? ⟨b, x + off * ob'.n + j, none⟩ = some v := fun j v hj => by
      have h2 := Z6d hobs.2 off len j hj
      have hm : (b, x, c0 * ob'.n, valR ob'.rows) ∈ ownS d := by
       simp only [ownS, List.mem_append]
       left
       exact List.mem_flatMap.2 ⟨(id, ob'), find?_key ho', by simp [Y7, h0]⟩
      obtain ⟨arr, ty, h5, _, _, h8⟩ := hg.own _ hm
      have := h8 _ _ h2
      simp only [World.cell?, h5]
      simpa [Nat.add_assoc] using this
     refine ⟨_, _, by rw [val, hv], fun b' y' hby j v hj => by cases hby; exact hcell j v hj, fun w => by rw [val, hv]; rfl, fun w hw' => ?_⟩
     rw [val, hv]
     simp only [Builtin.firstCells]
     have := load b (x + off * ob'.n) ((ob'.rows.drop off).take len) (fun r hr => hobs.2 r (hsub r hr)) hcell w hw'
     rwa [hlr] at this
    ·exact ⟨_, _, by rw [val, hv], fun b' y' hby j v hj => by simp [valR] at hj, fun w => by rw [val, hv]; rfl, fun w _ => by rw [val, hv]; simp [Builtin.firstCells, loadCells, loadCellsFrom, valR]⟩
  ·cases h
 | _ => simp [mapL, argR] at h
def apF (P : Program) (ts : Array TypeId) (lk : Lk) (s x : Option (L Unit)) (nid : Nat) : Option Eff := match ts[0]?, ts[1]? with
  | some t, some t2 => (tiOf P t).bind fun i => (tiOf P t2).bind fun i2 => match i.kd, i2.kd with
    | .slice, .slice => (tiOf P i.elem).bind fun ie => if ie.zero.length = ie.size then
        (match s with
         | some .nl => (argR lk ie.size x).bind fun q => if nosR q.1 then if q.1.length * ie.bytes ≤ 140737488355328 ∧ q.1.length ≤ LIM then
             some { v := one1 (.ref () nid 0 q.1.length), rd := q.2, news := [⟨(), ie.size, q.1⟩] } else none else none
         | some (.ref v id off len) => (argR lk ie.size (some (.ref v id off len))).bind fun p => (argR lk ie.size x).bind fun q => if nosR q.1 then
             if (p.1.length + q.1.length) * ie.bytes ≤ 140737488355328 ∧ p.1.length + q.1.length ≤ LIM then
             some { v := one1 (.ref () nid 0 (p.1.length + q.1.length)), rd := id :: q.2, news := [⟨(), ie.size, p.1 ++ q.1⟩], del := [id] } else none else none
         | _ => none) else none
    | _, _ => none
  | _, _ => none
theorem X4w (a b : List (List (L Value))) : Z7t (a ++ b) = Z7t a ++ Z7t b := by simp [Z7t]
theorem Z9m (a : List (List (L Value))) : (Z7t a).length = a.length := by simp [Z7t]
theorem Y3w (a b : List (List (L Value))) : valR (a ++ b) = valR a ++ valR b := by simp [valR]
theorem X6c {δ : Type} {lk : Nat → Option (Ob δ)} {n : Nat} {x : Option (L δ)} {q} (h : argR lk n x = some q) : ∃ l, x = some l := by
 cases x with
 | none => cases h
 | some l => exact ⟨l, rfl⟩
theorem ap_new {P : Program} {B : Bd} {o : Oper} {a : Act} {W : World} {d : S Value} {nid : Nat} (hi : Inv B W d) (hs : SlR d a) (hf : Fresh B d nid 1) {s x : Operand} {t t2 : TypeId} {ts : Array TypeId}
  (ho : o.op = .call { callee := .builtin .append, args := #[s, x], argTypes := ts }) (hts : ts[0]? = some t) (hts2 : ts[1]? = some t2)
  {i i2 ie : TI} (ht : tiOf P t = some i) (ht2 : tiOf P t2 = some i2) (hk : i.kd = .slice) (hk2 : i2.kd = .slice) (hie : tiOf P i.elem = some ie) (hz : ie.zero.length = ie.size)
  {dl : List Nat} {n cap : Nat} {base : Option Addr} (hv : a.eval s = .slice base n cap) (hbase : (base = none ∧ n = 0 ∧ cap = 0) ∨
   ∃ b y, base = some ⟨b, y, none⟩ ∧ (∃ arr ty, W.heap[b]? = some (.cells arr ty (0, 0)) ∧ y + cap * ie.size ≤ arr.size) ∧ n ≤ cap ∧ ∃ p ∈ d.ob, (!dl.contains p.1) = false ∧ ∃ q ∈ Y7 p.2.h p.2.n p.2.rows, q.1 = b)
  {R1 R2 : List (List (L Value))} (hn : R1.length = n) (hl1 : ∀ r ∈ R1, r.length = ie.size) (hl2 : ∀ r ∈ R2, r.length = ie.size) (hh1 : ∀ r ∈ R1, ∀ l ∈ r, Has d l) (hor1 : ownR R1 = [] ∨ ∃ p ∈ d.ob, (!dl.contains p.1) = false ∧ (ownR R1).Sublist (ownR p.2.rows)) (hh2 : ∀ r ∈ R2, ∀ l ∈ r, Has d l ∧ noOs l = true)
  (hold : ∀ w : World, w.heap = W.heap → (Builtin.firstCells ie.size n (.slice base n cap)).run P w = .ok (valR R1).toArray w)
  (hlen : ∀ w : World, (Builtin.lenOf (a.eval x)).run P w = .ok R2.length w) (hnew : ∀ w : World, w.heap = W.heap → (Builtin.firstCells ie.size R2.length (a.eval x)).run P w = .ok (valR R2).toArray w)
  (hcells : ∀ b y, base = some ⟨b, y, none⟩ → ∀ (j : Nat) v, (valR R1)[j]? = some v → W.cell? ⟨b, y + j, none⟩ = some v)
  (hb : (R1.length + R2.length) * ie.bytes ≤ 140737488355328 ∧ R1.length + R2.length ≤ LIM) {rd : List Nat} :
  Done P B o a W d nid { v := one1 (.ref () nid 0 (R1.length + R2.length)), rd := rd, news := [⟨(), ie.size, Z7t (R1 ++ R2)⟩], del := dl } := by
 obtain ⟨info, td, _, hinf, hu, _, _, hkd, _, _, _, _, hel, _⟩ := U6 ht
 have hd := Z7h (hkd.symm.trans hk)
 obtain ⟨_, td2, _, _, hu2, _, _, hkd2, _⟩ := U6 ht2
 have hd2 := Z7h (hkd2.symm.trans hk2)
 obtain ⟨info2, _, z, hinf2, _, hz2, hzs, _, _, hsz2, hby2, _⟩ := U6 hie
 rw [hel] at hinf2
 rw [hd] at hu
 rw [hd2] at hu2
 have hzc : z.cells.size = info2.size := by
  have := congrArg List.length hzs
  simp only [List.length_map, Array.length_toList] at this
  omega
 subst hn
 rw [hsz2] at hold hnew
 have hlv1 := Z2f hl1
 have hlv2 := Z2f hl2
 obtain ⟨v', W', hrun, hres⟩ := X6i (P := P) (W := W) (ty := o.type) (base := base) (cap := cap) (x := a.eval x) hu hu2 hinf2 hz2 (fun h => by
   rcases hbase with ⟨_, h1, h2⟩ | ⟨b, y, h1, _⟩
   ·exact ⟨h1, h2⟩
   ·rw [h] at h1; cases h1) (fun ad had => by
   rcases hbase with ⟨h1, _⟩ | ⟨b, y, h1, ⟨arr, ty, h2, h3⟩, _⟩
   ·rw [h1] at had; cases had
   ·rw [h1] at had; cases had
    exact ⟨rfl, arr, ty, h2, by rw [← hsz2]; exact h3⟩) hlen hnew hold (by rw [hlv1, hsz2]) (by rw [hlv2, hsz2])
  (fun v hv => by
   simp only [valR, List.mem_map] at hv
   obtain ⟨l, hl, rfl⟩ := hv
   obtain ⟨r, hr, hl⟩ := List.mem_flatten.1 hl
   exact (X6q (hh2 r hr l hl).1.1).1) (by rw [← hby2]; exact hb.1) hb.2
 have hexec : (execOp a.eval o).run P W = .ok (.value v') W' := by
  simp only [execOp, ho, resolve, invoke, builtin]
  have hts' : Builtin.append_ ts o.type #[a.eval s, a.eval x] = Builtin.append_ #[t, t2] o.type #[a.eval s, a.eval x] := by
   simp [Builtin.append_, hts, hts2]
  rw [hv] at hts'
  simp only [List.map_toArray, List.map_cons, List.map_nil, hv, pure_bind]
  rw [hts']
  simp [hrun]
 have hrow : ∀ r ∈ R1 ++ R2, r.length = ie.size := fun r hr => (List.mem_append.1 hr).elim (hl1 r) (hl2 r)
 have hh : ∀ r ∈ R1 ++ R2, ∀ l ∈ r, Has d l := fun r hr => (List.mem_append.1 hr).elim (hh1 r) fun h l hl => (hh2 r h l hl).1
 have hor : ownR (R1 ++ R2) = [] ∨ ∃ p ∈ d.ob, (!dl.contains p.1) = false ∧ (ownR (R1 ++ R2)).Sublist (ownR p.2.rows) := by
  have e : ownR (R1 ++ R2) = ownR R1 := by
   rw [Z0t, Z0t, List.flatten_append, List.flatMap_append, ← Z0t R2, X5h (fun r hr l hl => (hh2 r hr l hl).2), List.append_nil]
  rw [e]
  exact hor1
 rcases hres with ⟨rfl, h0, rfl, rfl⟩ | ⟨g, y, arr, ty, rfl, hg, hroom, rfl, rfl⟩ | ⟨c', cells, hc', rfl, hW', hst', hsz, hcell⟩
 ·have hr1 : R1 = [] := List.eq_nil_of_length_eq_zero (by omega)
  have hr2 : R2 = [] := List.eq_nil_of_length_eq_zero (by omega)
  subst hr1 hr2
  have hnew := hi.new (W' := W') (fun i => !dl.contains i) hf.ne hf.2 (hd := .slice none 0 0) (n := ie.size) (rows := []) (by simp) (by simp) (Nat.le_refl _) (Same.refl _) (fun b _ _ => rfl) (.inl ⟨rfl, rfl⟩)
  have := Y1t (P := P) (o := o) (rd := rd) (hyp := True) (ob := ⟨.slice none 0 0, ie.size, []⟩) hs hf hnew (l := .ref (.slice none 0 0) nid 0 0) rfl ⟨rfl, _, _, _, rfl⟩ (by
   intro o2 ho2
   rw [X6u hf] at ho2
   cases ho2
   exact ⟨by simp, .inl ⟨rfl, rfl⟩⟩) rfl rfl hexec trivial
  simpa [mapL, Z7t] using this
 ·rcases hbase with ⟨h1, _⟩ | ⟨b, y', h1, ⟨arr', ty', h2, hcap⟩, hncap, hdel⟩
  ·cases h1
  ·cases h1
   rw [hg] at h2
   cases h2
   rw [← hsz2] at hexec
   have hle : (R1.length + R2.length) * ie.size ≤ cap * ie.size := Nat.mul_le_mul_right _ hroom
   rw [Nat.add_mul] at hle
   have hfit : y + R1.length * ie.size + (valR R2).length ≤ arr.toList.length := by
    have : arr.toList.length = arr.size := Array.length_toList
    omega
   have hnew := hi.newR (W' := W.setRow g (putC arr.toList (y + R1.length * ie.size) (valR R2)).toArray) (fun i => !dl.contains i) hf.ne hf.2 (hd := .slice (some ⟨g, y, none⟩) 0 cap) (n := ie.size) (rows := R1 ++ R2) hrow hh hor
    (by simp) ⟨rfl, rfl, rfl⟩ (fun b' hb' hno => Y7a b' fun he => by
     obtain ⟨p, hp, hpf, q, hq, hqe⟩ := hdel
     exact hno p hp hpf q hq (hqe.trans he.symm)) (.inr ⟨g, y, cap, rfl, by simpa using hroom, by simpa using hb.2, ⟨_, ty, setRow_heap W g arr _ ty (0, 0) hg, ?_, ?_, fun j v hj => ?_⟩, .inr hdel⟩)
   ·have := Y1t (P := P) (o := o) (rd := rd) (hyp := True) (ob := ⟨.slice (some ⟨g, y, none⟩) 0 cap, ie.size, R1 ++ R2⟩) hs hf hnew (l := .ref (.slice (some ⟨g, y, none⟩) (R1 ++ R2).length cap) nid 0 (R1 ++ R2).length) rfl ⟨rfl, _, _, _, rfl⟩ (X8d hf) rfl rfl (by
     rw [List.length_append]
     exact hexec) trivial
    simpa [mapL] using this
   ·rw [List.size_toArray, Y1e hfit, Array.length_toList]
    exact hcap
   ·simp only [Y3w, List.length_append]
    omega
   ·show (putC arr.toList (y + R1.length * ie.size) (valR R2)).toArray[y + j]? = some v
    rw [List.getElem?_toArray, Y3f hfit]
    simp only [Y3w] at hj
    by_cases hin : j < (valR R1).length
    ·rw [List.getElem?_append_left hin] at hj
     rw [if_neg (by omega), Array.getElem?_toList]
     have := hcells g y rfl j v hj
     simpa [World.cell?, hg] using this
    ·rw [List.getElem?_append_right (by omega)] at hj
     have := (List.getElem?_eq_some_iff.1 hj).1
     rw [if_pos (by omega)]
     rw [← hj]
     congr 1
     omega
 ·have hnew := W0i (W' := W') hi hf dl (cells := cells) (ty := Y6z td) hW' hst' (n := ie.size) (c := c') (rows := R1 ++ R2) hrow hh hor (by simpa using hc') (by simpa using hb.2) (by rw [hsz2]; exact hsz hzc)
   (fun j v hj => hcell j v (by rwa [Y3w] at hj))
  have := Y1t (P := P) (o := o) (rd := rd) (hyp := True) hs hf hnew (l := .ref (.slice (some ⟨W.heap.size, 0, none⟩) (R1 ++ R2).length c') nid 0 (R1 ++ R2).length) rfl ⟨rfl, _, _, _, rfl⟩ (X8d hf) rfl rfl (by
   rw [List.length_append]
   exact hexec) trivial
  simpa [mapL] using this
theorem ap_ok {P : Program} {B : Bd} {o : Oper} {a : Act} {W : World} {d : S Value} {nid : Nat} {e : Eff} (hi : Inv B W d) (hs : SlR d a) (hf : Fresh B d nid e.news.length) {s x : Operand} {ts : Array TypeId}
  (ho : o.op = .call { callee := .builtin .append, args := #[s, x], argTypes := ts }) (he : apF P ts (look (erS d).ob) (lO (evA (erS d) s)) (lO (evA (erS d) x)) nid = some e) : Done P B o a W d nid e := by
 unfold apF at he
 split at he
 ·rename_i t t2 hts hts2
  obtain ⟨i, ht, he⟩ := bind_some he
  obtain ⟨i2, ht2, he⟩ := bind_some he
  split at he
  ·rename_i hk hk2
   obtain ⟨ie, hie, he⟩ := bind_some he
   split at he
   ·rename_i hz
    split at he
    ·rename_i hsx
     obtain ⟨q, hq, he⟩ := bind_some he
     split at he
     ·rename_i hno
      split at he
      ·rename_i hb
       cases he
       obtain ⟨l, hl⟩ := X6c hq
       rw [hl] at hq
       obtain ⟨x', g1, g2, g3⟩ := V8 hi.good hs hl
       subst g1
       obtain ⟨l', h1, h2, h3⟩ := V8 hi.good hs hsx
       obtain rfl := W6g h1
       obtain ⟨R2, k1, k2, k3, k4, _, _, k5, _, k6, k7⟩ := W4p (P := P) hi.good g3 hq
       rw [← k1, W2v, X8h] at hno
       rw [← k1, Z9m] at hb
       have := ap_new (P := P) (B := B) (o := o) (a := a) (rd := q.2) (dl := []) hi hs hf ho hts hts2 ht ht2 hk hk2 hie hz (base := none) (n := 0) (cap := 0) h2 (.inl ⟨rfl, rfl, rfl⟩) (R1 := []) (R2 := R2) rfl (by simp) k2 (by simp) (.inl (by simp [Z0t]))
        (fun r hr l hl => ⟨k3 r hr l hl, hno r hr l hl⟩) (fun w _ => by simp [Builtin.firstCells, valR]) (fun w => by rw [g2]; exact k6 w) (fun w hw => by rw [g2]; exact k7 w hw) (by simp) (by simpa using hb)
       rw [← k1, Z9m]
       simpa using this
      ·cases he
     ·cases he
    ·rename_i v id off len hsx
     obtain ⟨p, hp, he⟩ := bind_some he
     obtain ⟨q, hq, he⟩ := bind_some he
     split at he
     ·rename_i hno
      split at he
      ·rename_i hb
       cases he
       obtain ⟨l, hl⟩ := X6c hq
       rw [hl] at hq
       obtain ⟨x', g1, g2, g3⟩ := V8 hi.good hs hl
       subst g1
       obtain ⟨l', h1, h2, h3⟩ := V8 hi.good hs hsx
       rw [← h1] at hp
       obtain ⟨v', rfl⟩ := Y5m h1
       obtain ⟨R2, k1, k2, k3, k4, _, _, k5, _, k6, k7⟩ := W4p (P := P) hi.good g3 hq
       obtain ⟨R1, j1, j2, j3, j4, a0, c0', j5, hcells, j6, j7⟩ := W4p (P := P) hi.good h3 hp
       rw [← k1, W2v, X8h] at hno
       rw [← k1, ← j1, Z9m, Z9m] at hb
       simp only [mapL, argR] at hp
       obtain ⟨ob, hob, hp⟩ := bind_some hp
       obtain ⟨ob', ho', rfl⟩ := U7 hob
       obtain ⟨hlen, hv⟩ := h3.2.1 ob' ho'
       have hobs : _ ∧ ∀ r ∈ ob'.rows, r.length = ob'.n := hi.good.obs _ (find?_key ho')
       have hn : ob'.n = ie.size := by
        split at hp
        ·rename_i hn; exact hn
        ·cases hp
       have hlr : R1.length = len := by
        rw [if_pos (show (erOb ob').n = ie.size from hn)] at hp
        cases hp
        have := congrArg List.length j1
        rw [Z9m] at this
        simp only [List.length_take, List.length_drop, erOb, Z3e, List.length_map] at this
        omega
       have hsubo : ∃ p ∈ d.ob, (![id].contains p.1) = false ∧ (ownR R1).Sublist (ownR p.2.rows) := by
        obtain ⟨o2, g5, g6⟩ := j4.2 _ _ _ _ rfl
        rw [ho'] at g5
        cases g5
        refine ⟨(id, ob'), find?_key ho', by simp, ?_⟩
        rw [g6, Z0t, Z0t]
        refine Z1c ?_ ownL
        have hs2 : ((ob'.rows.drop off).take len).Sublist ob'.rows := (List.take_sublist _ _).trans (List.drop_sublist _ _)
        have : ∀ {a b : List (List (L Value))}, a.Sublist b → a.flatten.Sublist b.flatten := fun h => by
         rw [← List.flatMap_id, ← List.flatMap_id]; exact Z1c h _root_.id
        exact this hs2
       have hbase : (a0 = none ∧ R1.length = 0 ∧ c0' = 0) ∨ ∃ b y, a0 = some ⟨b, y, none⟩ ∧ (∃ arr ty, W.heap[b]? = some (.cells arr ty (0, 0)) ∧ y + c0' * ie.size ≤ arr.size) ∧ R1.length ≤ c0' ∧
         ∃ p ∈ d.ob, (![id].contains p.1) = false ∧ ∃ q ∈ Y7 p.2.h p.2.n p.2.rows, q.1 = b := by
        simp only [val] at j5
        rcases hv with ⟨h0, hv⟩ | ⟨b, x, c0, h0, hv⟩
        ·rw [hv] at j5
         simp only [Value.slice.injEq] at j5
         exact .inl ⟨j5.1.symm, j5.2.1.symm, j5.2.2.symm⟩
        ·have hown : (b, x, c0 * ob'.n, valR ob'.rows) ∈ ownS d := by
          simp only [ownS, List.mem_append]
          left
          exact List.mem_flatMap.2 ⟨(id, ob'), find?_key ho', by simp [Y7, h0]⟩
         obtain ⟨arr, ty, h5, h6, _⟩ := hi.good.own _ hown
         simp only at h5 h6
         have hle0 : ob'.rows.length ≤ c0 := by
          rcases hobs.1 with ⟨h7, _⟩ | ⟨_, _, _, h7, h8, _⟩
          ·simp only at h7; rw [h0] at h7; cases h7
          ·simp only at h7 h8
           rw [h0] at h7
           cases h7
           exact h8
         have hdel : ∃ p ∈ d.ob, (![id].contains p.1) = false ∧ ∃ q ∈ Y7 p.2.h p.2.n p.2.rows, q.1 = b := ⟨(id, ob'), find?_key ho', by simp, _, by rw [show (id, ob').2.h = ob'.h from rfl, h0]; exact List.mem_singleton.2 rfl, rfl⟩
         rcases hv with hv | ⟨y, hv, hl0, hoff, hy⟩
         ·rw [hv] at j5
          cases j5
          right
          refine ⟨b, _, rfl, ⟨arr, ty, h5, ?_⟩, by omega, hdel⟩
          rw [hn] at h6 ⊢
          have : (off + (c0 - off)) * ie.size = c0 * ie.size := by congr 1; omega
          rw [Nat.add_mul] at this
          omega
         ·rw [hv] at j5
          simp only [Value.slice.injEq] at j5
          obtain ⟨rfl, j52, rfl⟩ := j5
          right
          exact ⟨b, y, rfl, ⟨arr, ty, h5, by omega⟩, by omega, hdel⟩
       have := ap_new (P := P) (B := B) (o := o) (a := a) (rd := id :: q.2) (dl := [id]) hi hs hf ho hts hts2 ht ht2 hk hk2 hie hz (base := a0) (n := R1.length) (cap := c0') (by rw [h2, j5]) hbase (R1 := R1) (R2 := R2) rfl j2 k2
        j3 (.inr hsubo) (fun r hr l hl => ⟨k3 r hr l hl, hno r hr l hl⟩) (fun w hw => by rw [← j5]; exact j7 w hw) (fun w => by rw [g2]; exact k6 w) (fun w hw => by rw [g2]; exact k7 w hw) hcells hb
       rw [← j1, ← k1, Z9m, Z9m, ← X4w]
       exact this
      ·cases he
     ·cases he
    ·cases he
   ·cases he
  ·cases he
 ·cases he
end
section
def bdE (ρ : Env) (x : Option Operand) (dflt : Nat) : Option Nat := match x with
 | none => some dflt
 | some x => match lO (ρ x) with
  | some (.int _ n) => if 0 ≤ n then some n.toNat else none
  | _ => none
def slF (P : Program) (t : TypeId) (lk : Lk) (ρ : Env) (x : Operand) (lo hi : Option Operand) : Option Eff :=
 (tiOf P t).bind fun i => match i.kd with
  | .str => (match lO (ρ x) with
   | some (.str s) => (bdE ρ lo 0).bind fun l => (bdE ρ hi s.size).bind fun h => if l ≤ h ∧ h ≤ s.size then some { v := one1 (.str (s.extract l h)) } else none
   | _ => none)
  | .slice => (tiOf P i.elem).bind fun ie => (match lO (ρ x) with
   | some (.bs v n rows) => (bdE ρ lo 0).bind fun l => (bdE ρ hi rows.length).bind fun h => if n = ie.size then if l ≤ h ∧ h ≤ rows.length then some { v := one1 (.bs v n ((rows.drop l).take (h - l))) } else none else none
   | some (.ref v id off len) => (lk id).bind fun o => (bdE ρ lo 0).bind fun l => (bdE ρ hi len).bind fun h => if o.n = ie.size then if l ≤ h ∧ h ≤ len then some { v := one1 (.ref v id (off + l) (h - l)), rd := [id] } else none else none
   | _ => none)
  | _ => none
def BdR (x : Option Value) (n dflt : Nat) : Prop := (x = none ∧ n = dflt) ∨ ∃ k m, x = some (.int k m) ∧ 0 ≤ m ∧ n = m.toNat
theorem X1k {W : World} {d : S Value} {a : Act} (h : Good W d) (hs : SlR d a) {x : Option Operand} {n dflt : Nat} (he : bdE (evA (erS d)) x dflt = some n) : BdR (x.map a.eval) n dflt := by
 cases x with
 | none => cases he; exact .inl ⟨rfl, rfl⟩
 | some x =>
  simp only [bdE] at he
  split at he
  ·rename_i k m hx
   split at he
   ·rename_i hm
    cases he
    obtain ⟨l', h1, h2, _⟩ := V8 h hs hx
    obtain rfl := Y3t h1
    exact .inr ⟨k, m, by simp [h2, val], hm, rfl⟩
   ·cases he
  ·cases he
theorem X1n {P : Program} {W : World} {b : Bool} {len cap l h : Nat} {lo hi : Option Value} (h1 : BdR lo l 0) (h2 : BdR hi h len) (hlh : l ≤ h) (hc : h ≤ cap) (_hl : len ≤ cap) :
  (Instr.sliceBounds b len cap lo hi none).run P W = .ok (l, h, cap) W := by
 rcases h1 with ⟨rfl, rfl⟩ | ⟨k, m, rfl, hm, rfl⟩ <;> rcases h2 with ⟨rfl, rfl⟩ | ⟨k', m', rfl, hm', rfl⟩
 ·simp [Instr.sliceBounds]
 ·simp [Instr.sliceBounds, run_sliceBound W k' m' cap _ hm' (by omega)]
 ·simp [Instr.sliceBounds, run_sliceBound W k m h _ hm (by omega)]
 ·simp [Instr.sliceBounds, run_sliceBound W k' m' cap _ hm' (by omega), run_sliceBound W k m m'.toNat _ hm (by omega)]
theorem X1v {A : Option Addr} {n c : Nat} {cells : List Value} {p : Addr × List Value} (h : p ∈ Z2w (.slice A n c) cells) : p.2 = cells := by
 cases A with
 | none => simp [Z2w] at h
 | some a => simp only [Z2w, List.mem_singleton] at h; rw [h]
theorem sl_ok {P : Program} {B : Bd} {o : Oper} {a : Act} {W : World} {d : S Value} {nid : Nat} {e : Eff} (hi : Inv B W d) (hs : SlR d a) {t : TypeId} {x : Operand} {lo hg : Option Operand} (ho : o.op = .slice t x lo hg none)
  (he : slF P t (look (erS d).ob) (evA (erS d)) x lo hg = some e) : Done P B o a W d nid e := by
 unfold slF at he
 obtain ⟨i, ht, he⟩ := bind_some he
 obtain ⟨info, td, z, hinf, hu, _, _, hkd, _, _, _, _, hel, _⟩ := U6 ht
 split at he
 ·rename_i hk
  obtain rfl := X3n (hkd.symm.trans hk)
  split at he
  ·rename_i s hx
   obtain ⟨l, hl, he⟩ := bind_some he
   obtain ⟨h, hh, he⟩ := bind_some he
   split at he
   ·rename_i hb
    cases he
    obtain ⟨l', h1, h2, h3⟩ := V8 hi.good hs hx
    obtain rfl := X9h h1
    have hbd := X1n (P := P) (W := W) (b := false) (cap := s.size) (X1k hi.good hs hl) (X1k hi.good hs hh) hb.1 hb.2 (Nat.le_refl _)
    refine J4 (l := .str _) hi hs ?_ rfl (W3m _)
    simp only [execOp, ho, h2, val]
    simp [Instr.sliceAt, run_underlying hu, Instr.slice, hbd]
   ·cases he
  ·cases he
 ·rename_i hk
  have hd := Z7h (hkd.symm.trans hk)
  obtain ⟨ie, hie, he⟩ := bind_some he
  obtain ⟨info2, _, _, hinf2, _, _, _, _, _, hsz2, _⟩ := U6 hie
  rw [hel] at hinf2
  have hsz : ∀ w : World, (sizeOf (Y6z td)).run P w = .ok ie.size w := fun w => by simp [sizeOf, typeInfo, hinf2, hsz2]
  rw [hd] at hu
  have hrun : ∀ (ad : Option Addr) (len cap l h : Nat), BdR (lo.map a.eval) l 0 → BdR (hg.map a.eval) h len → l ≤ h → h ≤ cap → len ≤ cap →
    (Instr.sliceAt t (.slice ad len cap) (lo.map a.eval) (hg.map a.eval) none).run P W = .ok (.slice (if cap = l then ad else ad.map (·.add (l * ie.size))) (h - l) (cap - l)) W := fun ad len cap l h b1 b2 b3 b4 b5 => by
   have hbd := X1n (P := P) (W := W) (b := true) b1 b2 b3 b4 b5
   simp [Instr.sliceAt, run_underlying hu, Instr.slice, hbd, hsz]
  split at he
  ·rename_i v n rows hx
   obtain ⟨l, hl, he⟩ := bind_some he
   obtain ⟨h, hh, he⟩ := bind_some he
   split at he
   ·rename_i hn
    split at he
    ·rename_i hb
     cases he
     obtain ⟨l', h1, h2, h3⟩ := V8 hi.good hs hx
     obtain ⟨v', rows', rfl, rfl⟩ := W6h h1
     have hlr : (mapR (fun _ => ()) rows').length = rows'.length := by rw [Z1m, List.length_map]
     rw [hlr] at hb hh
     obtain ⟨⟨ad, c, hv, hlen, hlim, ha⟩, hl1, hw⟩ := h3.1
     have hr := hrun ad rows'.length c l h (X1k hi.good hs hl) (X1k hi.good hs hh) hb.1 (by omega) hlen
     have hlen' : ((rows'.drop l).take (h - l)).length = h - l := by rw [List.length_take, List.length_drop]; omega
     have hsub : ∀ r ∈ (rows'.drop l).take (h - l), r ∈ rows' := fun r hr => List.mem_of_mem_drop (List.mem_of_mem_take hr)
     have := J4 (P := P) (B := B) (o := o) (a := a) (W := W) (nid := nid) (rd := []) (hyp := True) (l := .bs (.slice (if c = l then ad else ad.map (·.add (l * ie.size))) (h - l) (c - l)) n ((rows'.drop l).take (h - l))) hi hs (by
       simp only [execOp, ho, h2, val, hv, Option.map_none]
       rw [Sem.run_bind, hr]
       rfl) rfl ⟨⟨⟨_, _, by rw [hlen'], by omega, by omega, fun hne => ?_⟩, fun r hr => hl1 r (hsub r hr), ?_⟩, by simp [W7], fun p hp => ?_, by simp [idsL]⟩
     ·have e : mapR (fun _ => ()) ((rows'.drop l).take (h - l)) = ((mapR (fun _ => ()) rows').drop l).take (h - l) := by simp [Z1m, List.map_take, List.map_drop]
      simpa [mapL, e] using this
     ·have hlt : l < h := by
       rcases Nat.lt_or_ge l h with h' | h'
       ·exact h'
       ·have : h - l = 0 := by omega
        rw [this] at hne
        simp at hne
      rw [if_neg (by omega)]
      obtain ⟨b, o', rfl⟩ := ha (by rintro rfl; simp at hb; omega)
      exact ⟨b, _, by rw [Option.map_some, Z8d]⟩
     ·rw [Z5h] at hw ⊢
      exact fun r hr => hw r (hsub r hr)
     ·simp only [immL, List.mem_append] at hp
      rcases hp with hp | hp
      ·by_cases hlt : l < h
       ·obtain ⟨b, o', rfl⟩ := ha (by rintro rfl; simp at hb; omega)
        rw [if_neg (by omega), Option.map_some, Z8d] at hp
        simp only [Z2w, List.mem_singleton] at hp
        subst hp
        have hs' : Sub ((⟨b, o' + l * ie.size, none⟩ : Addr), valR ((rows'.drop l).take (h - l))) ((⟨b, o', none⟩ : Addr), valR rows') := ⟨rfl, l * ie.size, rfl, fun j u hj => Z6d (fun r hr => by rw [hl1 r hr, hn]) l (h - l) j hj⟩
        rcases h3.2.2.1 (⟨b, o', none⟩, valR rows') (by simp [immL, hv, Z2w]) with h0 | ⟨q, hq, hs2⟩
        ·left
         rcases hcs : valR ((rows'.drop l).take (h - l)) with _ | ⟨u, us⟩
         ·rfl
         ·exact absurd h0 (hs'.ne (by simp [hcs]))
        ·exact .inr ⟨q, hq, hs'.trans hs2⟩
       ·have h0 : h - l = 0 := by omega
        left
        rw [h0] at hp
        simp only [List.take_zero] at hp
        exact X1v hp
      ·rw [Z4r] at hp
       obtain ⟨l2, hl2, hp⟩ := List.mem_flatMap.1 hp
       obtain ⟨r, hr, hl2⟩ := List.mem_flatten.1 hl2
       exact h3.2.2.1 p (by simp only [immL, List.mem_append]; exact .inr (X3j (hsub r hr) hl2 hp))
    ·cases he
   ·cases he
  ·rename_i v id off len hx
   obtain ⟨ob, hob, he⟩ := bind_some he
   obtain ⟨l, hl, he⟩ := bind_some he
   obtain ⟨h, hh, he⟩ := bind_some he
   split at he
   ·rename_i hn
    split at he
    ·rename_i hb
     cases he
     obtain ⟨l', h1, h2, h3⟩ := V8 hi.good hs hx
     obtain ⟨v', rfl⟩ := Y5m h1
     obtain ⟨ob', ho', rfl⟩ := U7 hob
     obtain ⟨hlen, hv⟩ := h3.2.1 ob' ho'
     have hobs : _ ∧ ∀ r ∈ ob'.rows, r.length = ob'.n := hi.good.obs _ (find?_key ho')
     have hn' : ob'.n = ie.size := hn
     have fin : ∀ v2, (execOp a.eval o).run P W = .ok (.value v2) W → (∃ a m c, v2 = .slice a m c) →
       ((ob'.h = .slice none 0 0 ∧ v2 = .slice none 0 0) ∨ ∃ b x c0, ob'.h = .slice (some ⟨b, x, none⟩) 0 c0 ∧ (v2 = .slice (some ⟨b, x + (off + l) * ob'.n, none⟩) (h - l) (c0 - (off + l)) ∨ ∃ y, v2 = .slice (some ⟨b, y, none⟩) 0 0 ∧ h - l = 0 ∧ 0 < off + l ∧ y ≤ x + c0 * ob'.n)) →
       Done P B o a W d nid { v := one1 (.ref v id (off + l) (h - l)), rd := [id] } := fun v2 h5 h6 h7 =>
      J4 (l := .ref v2 id (off + l) (h - l)) hi hs h5 rfl ⟨⟨rfl, h6⟩, fun o2 ho2 => by
       rw [ho'] at ho2
       cases ho2
       exact ⟨by omega, h7⟩, by simp [immL], h3.2.2.2⟩
     rcases hv with ⟨h0, hv⟩ | ⟨b, x, c0, h0, hv⟩
     ·have hr0 : ob'.rows = [] := by
       rcases hobs.1 with ⟨_, h1⟩ | ⟨_, _, _, h1, _⟩
       ·exact h1
       ·simp only at h1; rw [h0] at h1; cases h1
      rw [hr0] at hlen
      simp at hlen
      obtain ⟨rfl, rfl⟩ := hlen
      have hr := hrun none 0 0 l h (X1k hi.good hs hl) (X1k hi.good hs hh) hb.1 hb.2 (Nat.le_refl _)
      have hl0 : l = 0 := by omega
      have hh0 : h = 0 := by omega
      subst hl0 hh0
      refine fin (.slice none 0 0) ?_ ⟨_, _, _, rfl⟩ (.inl ⟨h0, rfl⟩)
      simp only [execOp, ho, h2, val, hv, Option.map_none]
      rw [Sem.run_bind, hr]
      rfl
     ·have hc0 : ob'.rows.length ≤ c0 := by
       rcases hobs.1 with ⟨h7, _⟩ | ⟨_, _, _, h7, h8, _⟩
       ·simp only at h7; rw [h0] at h7; cases h7
       ·simp only at h7 h8; rw [h0] at h7; cases h7; exact h8
      rcases hv with hv | ⟨y, hv, rfl, hoff, hy⟩
      ·have hr := hrun (some ⟨b, x + off * ob'.n, none⟩) len (c0 - off) l h (X1k hi.good hs hl) (X1k hi.good hs hh) hb.1 (by omega) (by omega)
       by_cases hcl : c0 - off = l
       ·rw [if_pos hcl] at hr
        have hh0 : h - l = 0 := by omega
        have hc2 : c0 - off - l = 0 := by omega
        rw [hh0, hc2] at hr
        refine fin (.slice (some ⟨b, x + off * ob'.n, none⟩) 0 0) ?_ ⟨_, _, _, rfl⟩ (.inr ⟨b, x, c0, h0, ?_⟩)
        ·simp only [execOp, ho, h2, val, hv, Option.map_none]
         rw [Sem.run_bind, hr]
         rfl
        ·by_cases hz : off + l = 0
         ·left
          have : off = 0 := by omega
          have : l = 0 := by omega
          subst_vars
          simp
         ·right
          refine ⟨_, rfl, hh0, by omega, ?_⟩
          have : off * ob'.n ≤ c0 * ob'.n := Nat.mul_le_mul_right _ (by omega)
          omega
       ·rw [if_neg hcl, Option.map_some, Z8d] at hr
        refine fin _ ?_ ⟨_, _, _, rfl⟩ (.inr ⟨b, x, c0, h0, .inl rfl⟩)
        simp only [execOp, ho, h2, val, hv, Option.map_none]
        rw [Sem.run_bind, hr, ← hn', Nat.add_mul, Nat.add_assoc, Nat.sub_sub]
        rfl
      ·have hr := hrun (some ⟨b, y, none⟩) 0 0 l h (X1k hi.good hs hl) (X1k hi.good hs hh) hb.1 hb.2 (Nat.le_refl _)
       have hl0 : l = 0 := by omega
       have hh0 : h = 0 := by omega
       subst hl0 hh0
       refine fin (.slice (some ⟨b, y, none⟩) 0 0) ?_ ⟨_, _, _, rfl⟩ (.inr ⟨b, x, c0, h0, .inr ⟨y, rfl, rfl, by omega, hy⟩⟩)
       simp only [execOp, ho, h2, val, hv, Option.map_none]
       rw [Sem.run_bind, hr]
       rfl
    ·cases he
   ·cases he
  ·cases he
 ·cases he
def opF (P : Program) (o : Op) (ρ : Env) (lk : Lk) (nid : Nat) : Option Eff := match o with
 | .move x | .assign x => mvF (ρ x)
 | .pick c x y => W0g ρ c x y
 | .nilCheck x => (match lO (ρ x) with | some (.ptr v id e j) => (lk id).bind fun _ => some { v := one1 (.ptr v id e j), rd := [id] } | some (.ip v c) => some { v := one1 (.ip v c) } | _ => none)
 | .unOp op _ x => unE ρ op x
 | .binOp op t x y _ => biE P ρ op t x y
 | .convert s t x => cvE P ρ s t x
 | .load t x => ldF P t lk (lO (ρ x))
 | .store t x y => stF P t lk (lO (ρ x)) (uO (ρ y))
 | .fieldAddr s x f => faF P s f lk (lO (ρ x))
 | .field s x f => fdF P s f (uO (ρ x))
 | .indexAddr t x y => ixF P t lk (lO (ρ x)) (lO (ρ y))
 | .index t x y => siF P t (lO (ρ x)) (lO (ρ y))
 | .extract x n => exF (ρ x) n
 | .alloc t => alF P t nid
 | .box _ x => bxF (uO (ρ x)) nid
 | .makeSlice t x y => mkF P t (lO (ρ x)) (lO (ρ y)) nid
 | .build t ps => buF P t ps ρ
 | .buildSlice t len ps => bsF P t len ps ρ nid
 | .makeFunc f first caps => mfF f first caps ρ
 | .slice t x lo hi none => slF P t lk ρ x lo hi
 | .call c => (match c.callee with
  | .builtin .len => (match c.args.toList with | [x] => lenF P c.argTypes lk (lO (ρ x)) | _ => none)
  | .builtin .max => (match c.args.toList with | [x, y] => mmF true (lO (ρ x)) (lO (ρ y)) | _ => none)
  | .builtin .min => (match c.args.toList with | [x, y] => mmF false (lO (ρ x)) (lO (ρ y)) | _ => none)
  | .builtin .append => (match c.args.toList with | [x, y] => apF P c.argTypes lk (lO (ρ x)) (lO (ρ y)) nid | _ => none)
  | _ => none)
 | _ => none
theorem op_ok {P : Program} {B : Bd} {o : Oper} {a : Act} {W : World} {d : S Value} {nid : Nat} {e : Eff} (hi : Inv B W d) (hs : SlR d a) (hf : Fresh B d nid e.news.length)
  (he : opF P o.op (evA (erS d)) (look (erS d).ob) nid = some e) : Done P B o a W d nid e := by
 unfold opF at he
 split at he
 ·rename_i x h; exact W5u hi hs (x := x) (by simp [execOp, h]) he
 ·rename_i x h; exact W5u hi hs (x := x) (by simp [execOp, h]) he
 ·rename_i h; exact pick_ok hi hs h he
 ·rename_i x h
  split at he
  ·rename_i v id e' j hx
   obtain ⟨ob, hob, he⟩ := bind_some he
   cases he
   obtain ⟨l', h1, h2, h3⟩ := V8 hi.good hs hx
   obtain ⟨v', rfl⟩ := X2g h1
   obtain ⟨o', ho', _⟩ := U7 hob
   obtain ⟨b, _, c0, _, hv⟩ := h3.2.1 o' ho'
   exact J4 (l := .ptr v' id e' j) hi hs (by simp [execOp, h, h2, val, hv]) rfl h3
  ·rename_i v c hx
   cases he
   exact nc_ok hi hs h (fun v id e' j hx' => by rw [hx] at hx'; cases hx') (by unfold ncF; rw [hx])
  ·cases he
 ·rename_i h; exact un_ok hi hs h he
 ·rename_i h; exact bi_ok hi hs h he
 ·rename_i h; exact cv_ok hi hs h he
 ·rename_i h; exact ld_ok hi hs h he
 ·rename_i h; exact st_ok hi hs h he
 ·rename_i h; exact fa_ok hi hs h he
 ·rename_i h; exact fd_ok hi hs h he
 ·rename_i h; exact ix_ok hi hs h he
 ·rename_i h; exact si_ok hi hs h he
 ·rename_i h; exact ex_ok hi hs h he
 ·rename_i h; exact al_ok hi hs hf h he
 ·rename_i h; exact bx_ok hi hs hf h he
 ·rename_i h; exact mk_ok hi hs hf h he
 ·rename_i h; exact bu_ok hi hs h he
 ·rename_i h; exact bs_ok hi hs hf h he
 ·rename_i h; exact mf_ok hi hs h he
 ·rename_i h; exact sl_ok hi hs h he
 ·rename_i c h
  obtain ⟨callee, args, ats⟩ := c
  simp only at he
  have hargs : ∀ l, args.toList = l → args = l.toArray := fun l hl => by rw [← hl, Array.toArray_toList]
  split at he
  ·split at he
   ·rename_i hx
    rw [hargs _ hx] at h
    exact len_ok hi hs h he
   ·cases he
  ·split at he
   ·rename_i hx
    rw [hargs _ hx] at h
    exact mm_ok (mx := true) hi hs h he
   ·cases he
  ·split at he
   ·rename_i hx
    rw [hargs _ hx] at h
    exact mm_ok (mx := false) hi hs h he
   ·cases he
  ·split at he
   ·rename_i hx
    rw [hargs _ hx] at h
    exact ap_ok hi hs hf h he
   ·cases he
  ·cases he
 ·cases he
end
section
def X1b (P : Program) (o : Oper) (s : S Unit) (nid : Nat) (e : Eff) : Prop := ∀ B d a W, erS d = s → Inv B W d → SlR d a → Fresh B d nid e.news.length → a.defers = [] →
 e.hyp ∧ o.wp P a W (fun a' W' => ∃ d', erS d' = appE s o.dst nid e ∧ Inv B W' d' ∧ SlR d' a' ∧ a'.defers = [] ∧ ∀ i, Z3h d' i → Z3h d i ∨ (nid ≤ i ∧ i < nid + e.news.length)) (fun _ _ _ => False)
theorem X4q {P : Program} {o : Oper} {s : S Unit} {nid : Nat} {e : Eff} (h : opF P o.op (evA s) (look s.ob) nid = some e) : X1b P o s nid e := by
 intro B d a W hd hi hs hf hdef
 subst hd
 obtain ⟨hp, r, x, W', d', hr, hx, he, hi', hs', hk⟩ := op_ok hi hs hf h
 refine ⟨hp, ?_⟩
 unfold Oper.wp
 rw [hr]
 rcases hx with rfl | ⟨rfl, rfl⟩
 ·exact ⟨d', he, hi', hs', by rw [Z6n]; exact hdef, hk⟩
 ·exact ⟨d', he, hi', hs', by rw [Z6n]; exact hdef, hk⟩
structure Sys (P : Program) where
 E : Oper → S Unit → Nat → Eff → Prop
 ok : ∀ {o s nid e}, E o s nid e → X1b P o s nid e
section
variable {P : Program} (Y : Sys P)
def aop (o : Oper) (s : S Unit) (K : Eff → Prop) : Prop := ∃ e, Y.E o s s.nx e ∧ (e.hyp → K e)
def stB (s : S Unit) (t : Nat) (b : Bool) : S Unit := U1 s (some t) (one1 (.bool b))
def J8 (ops : List Oper) : List Oper → S Unit → (S Unit → Prop) → Prop
 | [], s, K => K s
 | o :: rest, s, K => match o.guard with
  | none => aop Y o s (fun e => J8 ops rest (appE s o.dst s.nx e) K)
  | some (j, want) => match (ops[j]?).bind (·.dst) with
   | none => False
   | some t => match s.sl[t]? with
    | some (.u (.one (.bool b))) => (b = want → aop Y ⟨o.dst, o.op, o.type, o.pos, o.after, none⟩ (stB s t want) (fun e => J8 ops rest (appE (stB s t want) o.dst s.nx e) K)) ∧ (b = !want → J8 ops rest (U1 (stB s t (!want)) o.dst .ud) K)
    | some .ud => J8 ops rest (U1 s o.dst .ud) K
    | _ => False
variable {Y}
theorem Y5n {d : S Value} {t : Nat} {v : V Unit} (h : (erS d).sl[t]? = some v) : ∃ v', d.sl[t]? = some v' ∧ erV v' = v := by
 simp only [erS, mapS, List.getElem?_map, Option.map_eq_some_iff] at h
 exact h
theorem Z2g {s : S Unit} {t : Nat} {b : Bool} (h : s.sl[t]? = some (.u (.one (.bool b)))) : stB s t b = s := by
 unfold stB U1 one1
 have : s.sl.set t (.u (.one (.bool b))) = s.sl := by
  apply List.ext_getElem?
  intro j
  rw [List.getElem?_set]
  split
  ·rename_i hj
   subst hj
   rw [if_pos (List.getElem?_eq_some_iff.1 h).1, h]
  ·rfl
 simp only [this]
theorem Y2n {d : S Value} {a : Act} (hs : SlR d a) {t : Nat} {b : Bool} (h : (erS d).sl[t]? = some (.u (.one (.bool b)))) : a.tmps[t]? = some (.bool b) := by
 obtain ⟨v', h1, h2⟩ := Y5n h
 have h3 := hs.2 t v' h1
 cases v' with
 | u x => cases x with
  | one l =>
   simp only [erV, mapV, mapU, V.u.injEq, U.one.injEq] at h2
   obtain rfl := X7h h2
   have hlt : t < a.tmps.size := by rw [hs.1]; exact (List.getElem?_eq_some_iff.1 h1).1
   simp only [VR, UR, val] at h3
   rw [Array.getD_eq_getD_getElem?, Array.getElem?_eq_getElem hlt] at h3
   rw [Array.getElem?_eq_getElem hlt]
   simpa using h3
  | agg ls => cases h2
 | tup xs => cases h2
 | un => cases h2
 | ud => cases h2
theorem X6f {d : S Value} {a : Act} (hs : SlR d a) {t : Nat} (h : (erS d).sl[t]? = some .ud) : a.tmps[t]? = some undef := by
 obtain ⟨v', h1, h2⟩ := Y5n h
 have h3 := hs.2 t v' h1
 cases v' with
 | ud =>
  have hlt : t < a.tmps.size := by rw [hs.1]; exact (List.getElem?_eq_some_iff.1 h1).1
  simp only [VR] at h3
  rw [Array.getD_eq_getD_getElem?, Array.getElem?_eq_getElem hlt] at h3
  rw [Array.getElem?_eq_getElem hlt]
  simpa using h3
 | u x => cases h2
 | tup xs => cases h2
 | un => cases h2
theorem Y3v {ops : Array Oper} {o : Oper} {a : Act} {j : Nat} {want b : Bool} {t : Nat} (hg : o.guard = some (j, want)) (hj : (ops[j]?).bind (·.dst) = some t) (ht : a.tmps[t]? = some (.bool b)) :
  Region.wanted o (yielded ops a.tmps) = (b == want) := by
 simp only [Region.wanted, hg, yielded, hj, Option.bind_some, ht]
 cases b <;> cases want <;> rfl
theorem Y8y {ops : Array Oper} {o : Oper} {a : Act} {j : Nat} {want : Bool} {t : Nat} (hg : o.guard = some (j, want)) (hj : (ops[j]?).bind (·.dst) = some t) (ht : a.tmps[t]? = some undef) :
  Region.wanted o (yielded ops a.tmps) = false := by
 simp only [Region.wanted, hg, yielded, hj, Option.bind_some, ht, undef]
 cases want <;> rfl
theorem Y1a {o : Oper} {f : Nat → Option Bool} (hg : o.guard = none) : Region.wanted o f = true := by simp [Region.wanted, hg]
theorem Rel.skip {B : Bd} {s : S Unit} {a : Act} {W : World} (h : Rel B s a W) (dst : Option Nat) : Rel B (U1 s dst .ud) (a.put dst undef) W := by
 obtain ⟨d, rfl, hi, hs, hdef, hk, hn⟩ := h
 refine ⟨U1 d dst .ud, by rw [Y0x]; rfl, hi.put (Keeps.refl W) dst rfl (by simp [Z3]) (by simp [Z3]), hs.put dst rfl, by rw [Z6n]; exact hdef, fun i hi => ?_, by rw [Y3c]; exact hn⟩
 rw [Y3c]
 exact hk i (X0c (by simp [Z3]) hi)
theorem Rel.step {B : Bd} {s : S Unit} {a : Act} {W : World} (h : Rel B s a W) {o : Oper} {e : Eff} (he : X1b P o s s.nx e) : e.hyp ∧ o.wp P a W (fun a' W' => Rel B (appE s o.dst s.nx e) a' W') (fun _ _ _ => False) := by
 obtain ⟨d, rfl, hi, hs, hdef, hk, hn0⟩ := h
 have hnx : (erS d).nx = d.nx := rfl
 obtain ⟨h1, h2⟩ := he B d a W rfl hi hs ⟨fun i hi => .inl (by rw [hnx]; exact hk i hi), by rw [hnx]; exact hn0⟩ hdef
 refine ⟨h1, Oper.wp_mono (fun a' W' h => ?_) h2⟩
 obtain ⟨d', e1, e2, e3, e4, e5⟩ := h
 have hn : d'.nx = (erS d).nx + e.news.length := by
  have : (erS d').nx = (appE (erS d) o.dst (erS d).nx e).nx := by rw [e1]
  rw [appE, app, Y3c] at this
  exact this
 refine ⟨d', e1, e2, e3, e4, fun i hi => ?_, by omega⟩
 rcases e5 i hi with h | ⟨_, h⟩
 ·have := hk i h
  omega
 ·omega
theorem Z9i {o : Oper} {a : Act} {W : World} {K : Act → World → Prop} {Q : Exit → Act → World → Prop} (h : o.wp P a W K (fun _ _ _ => False)) : o.wp P a W K Q := by
 unfold Oper.wp at *
 generalize (execOp a.eval o).run P W = r at *
 cases r with
 | ok n w' =>
  cases n <;> simp only [Oper.upon] at h ⊢ <;> first | exact h | skip
  refine Calls.mono h fun e w'' he => ?_
  cases e with
  | returned v => exact he
  | panicked c => exact he.elim
  | outgrown => obtain ⟨_, _, h⟩ := he; exact h.elim
 | halt x w' => cases x <;> simp only [Oper.upon] at h
theorem Z8k {ops : Array Oper} {B : Bd} {Q : Exit → Act → World → Prop} {K : S Unit → Prop} (hK : ∀ s a W, K s → Rel B s a W → Q .normal a W) :
  ∀ (rest : List Oper) (s : S Unit) (a : Act) (W : World), J8 Y ops.toList rest s K → Rel B s a W → wpList P ops Q rest a W
 | [], s, a, W, h, hr => hK s a W h hr
 | o :: rest, s, a, W, h, hr => by
  have run : ∀ s a W, aop Y o s (fun e => J8 Y ops.toList rest (appE s o.dst s.nx e) K) → Rel B s a W → o.wp P a W (wpList P ops Q rest) Q := by
   intro s a W h hr
   obtain ⟨e, he, h⟩ := h
   obtain ⟨h1, h2⟩ := hr.step (Y.ok he)
   exact Z9i (Oper.wp_mono (fun a' W' hr' => Z8k hK rest _ a' W' (h h1) hr') h2)
  have run2 : ∀ s a W, aop Y ⟨o.dst, o.op, o.type, o.pos, o.after, none⟩ s (fun e => J8 Y ops.toList rest (appE s o.dst s.nx e) K) → Rel B s a W → o.wp P a W (wpList P ops Q rest) Q := by
   intro s a W h hr
   obtain ⟨e, he, h⟩ := h
   obtain ⟨h1, h2⟩ := hr.step (Y.ok he)
   have h3 : o.wp P a W (fun a' W' => Rel B (appE s o.dst s.nx e) a' W') (fun _ _ _ => False) := h2
   exact Z9i (Oper.wp_mono (fun a' W' hr' => Z8k hK rest _ a' W' (h h1) hr') h3)
  simp only [J8] at h
  simp only [wpList]
  split at h
  ·rename_i hg
   rw [Y1a hg, if_pos rfl]
   exact .inl (run s a W h hr)
  ·rename_i j want hg
   split at h
   ·cases h
   ·rename_i t hj
    rw [Array.getElem?_toList] at hj
    split at h
    ·rename_i b hb
     obtain ⟨d, rfl, hi, hs, hdef, hk⟩ := hr
     have hw := Y3v hg hj (Y2n hs hb)
     rw [hw]
     by_cases hbw : b = want
     ·subst hbw
      simp only [beq_self_eq_true, if_true]
      have h1 := h.1 rfl
      rw [Z2g hb] at h1
      exact .inl (run2 _ a W h1 ⟨d, rfl, hi, hs, hdef, hk⟩)
     ·have hbn : b = !want := by cases b <;> cases want <;> simp_all
      have : (b == want) = false := by simpa using hbw
      rw [this, if_neg (by simp)]
      subst hbn
      have h2 := h.2 rfl
      rw [Z2g hb] at h2
      exact Z8k hK rest _ _ _ h2 (Rel.skip ⟨d, rfl, hi, hs, hdef, hk⟩ o.dst)
    ·rename_i hb
     obtain ⟨d, rfl, hi, hs, hdef, hk⟩ := hr
     have hw := Y8y hg hj (X6f hs hb)
     rw [hw, if_neg (by simp)]
     exact Z8k hK rest _ _ _ h (Rel.skip ⟨d, rfl, hi, hs, hdef, hk⟩ o.dst)
    ·cases h
def Wp (B : Bd) (c : Code) (Q : Exit → S Unit → Prop) (s : S Unit) : Prop := ∀ a W, Rel B s a W → c.wp P (fun e a' W' => ∃ s', Rel B s' a' W' ∧ Q e s') a W
def Gh (s s' : S Unit) : Prop := ∀ B a W, Rel B s a W → Rel B s' a W
theorem Wp.mono {B : Bd} {c : Code} {Q Q' : Exit → S Unit → Prop} {s : S Unit} (h : Wp (P := P) B c Q s) (hq : ∀ e s, Q e s → Q' e s) : Wp (P := P) B c Q' s :=
 fun a W hr => wp_mono (h a W hr) fun e a W ⟨s', h1, h2⟩ => ⟨s', h1, hq e s' h2⟩
def sq (K : S Unit → Prop) (Q : Exit → S Unit → Prop) : Exit → S Unit → Prop
 | .normal, s => K s
 | e, s => Q e s
def bk (id : Nat) (Q : Exit → S Unit → Prop) : Exit → S Unit → Prop
 | .exit i, s => if i = id then Q .normal s else Q (.exit i) s
 | e, s => Q e s
theorem Wp.seq {B : Bd} {x y : Code} {Q : Exit → S Unit → Prop} {s : S Unit} (h : Wp (P := P) B x (sq (Wp (P := P) B y Q) Q) s) : Wp (P := P) B (.seq x y) Q s := fun a W hr =>
 wp_seq (wp_mono (h a W hr) fun e a' W' ⟨s', h1, h2⟩ => by
  cases e with
  | normal => exact h2 a' W' h1
  | _ => exact ⟨s', h1, h2⟩)
theorem Wp.block {B : Bd} {id : Nat} {c : Code} {Q : Exit → S Unit → Prop} {s : S Unit} (h : Wp (P := P) B c (bk id Q) s) : Wp (P := P) B (.block id c) Q s := fun a W hr =>
 wp_block (wp_mono (h a W hr) fun e a' W' ⟨s', h1, h2⟩ => by
  cases e with
  | exit i =>
   simp only [bk] at h2
   simp only [Exit.inBlock]
   split
   ·rename_i hi
    rw [if_pos hi] at h2
    exact ⟨s', h1, h2⟩
   ·rename_i hi
    rw [if_neg hi] at h2
    exact ⟨s', h1, h2⟩
  | _ => exact ⟨s', h1, h2⟩)
variable (Y)
def awp (B : Bd) : Code → (Exit → S Unit → Prop) → S Unit → Prop
 | .skip, Q, s => Q .normal s
 | .label _, Q, s => Q .normal s
 | .exit id, Q, s => Q (.exit id) s
 | .ret, Q, s => Q .ret s
 | .region id ops false, Q, s => J8 Y ops.toList ops.toList s (Q .normal)
 | .seq x y, Q, s => awp B x (sq (awp B y Q) Q) s
 | .block id c, Q, s => awp B c (bk id Q) s
 | .cond c x y, Q, s => match c with
  | .tmp t => (match s.sl[t]? with
   | some (.u (.one (.bool b))) => (b = true → awp B x Q (stB s t true)) ∧ (b = false → awp B y Q (stB s t false))
   | _ => False)
  | .const (.bool b) => if b then awp B x Q s else awp B y Q s
  | _ => False
 | c, Q, s => Wp (P := P) B c Q s
variable {Y}
theorem W4n {B : Bd} : ∀ (c : Code) {Q : Exit → S Unit → Prop} {s : S Unit}, awp Y B c Q s → Wp (P := P) B c Q s := by
 intro c
 induction c with
 | skip => exact fun h a W hr => wp_skip ⟨_, hr, h⟩
 | label l => exact fun h a W hr => wp_label ⟨_, hr, h⟩
 | exit id => exact fun h a W hr => wp_exit ⟨_, hr, h⟩
 | ret => exact fun h a W hr => wp_ret ⟨_, hr, h⟩
 | region id ops draw =>
  intro Q s h
  cases draw with
  | true => exact h
  | false =>
   intro a W hr
   exact wp_region_list (Z8k (Y := Y) (K := Q .normal) (fun s a W h hr => ⟨s, hr, h⟩) ops.toList s a W h hr)
 | seq x y ihx ihy =>
  intro Q s h
  refine Wp.seq (Wp.mono (ihx h) fun e s h => ?_)
  cases e with
  | normal => exact ihy h
  | _ => exact h
 | block id c ih => exact fun h => Wp.block (ih h)
 | cond c x y ihx ihy =>
  intro Q s h
  simp only [awp] at h
  split at h
  ·rename_i t
   split at h
   ·rename_i b hb
    intro a W hr
    obtain ⟨d, rfl, hi, hs, hdef, hk⟩ := hr
    have hv := Y2n hs hb
    have he : a.eval (.tmp t) = .bool b := by simp [Act.eval, hv]
    refine wp_cond_split he (fun hb' => ?_) (fun hb' => ?_)
    ·subst hb'
     have h1 := h.1 rfl
     rw [Z2g hb] at h1
     exact ihx h1 a W ⟨d, rfl, hi, hs, hdef, hk⟩
    ·subst hb'
     have h1 := h.2 rfl
     rw [Z2g hb] at h1
     exact ihy h1 a W ⟨d, rfl, hi, hs, hdef, hk⟩
   ·cases h
  ·rename_i b
   intro a W hr
   refine wp_cond_split (t := b) rfl (fun hb' => ?_) (fun hb' => ?_)
   ·subst hb'; exact ihx (by simpa using h) a W hr
   ·subst hb'; exact ihy (by simpa using h) a W hr
  ·cases h
 | loop c => exact fun h => h
 | rangeFunc f p x y => exact fun h => h
 | scope c => exact fun h => h
 | goto l => exact fun h => h
 | refuse w => exact fun h => h
end
end
section
structure EndOk (W : World) (d : S Value) (W' : World) (d' : S Value) : Prop where
 good : Good W' d'
 fr : Fr W W' (fun b => ∃ p ∈ ownS d, p.1 = b)
 mine : ∀ p ∈ ownS d', (∃ q ∈ ownS d, q.1 = p.1) ∨ W.heap.size ≤ p.1
 seen : ∀ p ∈ immS d', p.2 ≠ [] → (∃ q ∈ immS d, q.2 ≠ [] ∧ q.1.block = p.1.block) ∨ (∃ q ∈ ownS d, q.1 = p.1.block) ∨ W.heap.size ≤ p.1.block
 hdr : (d'.ob.take d.ob.length).map (fun p => (p.1, p.2.h, p.2.n, p.2.rows.length)) = d.ob.map (fun p => (p.1, p.2.h, p.2.n, p.2.rows.length))
 known : ∀ l ∈ tops d', ∀ i ∈ idsL l, i < d'.ob.length
def Sim (P : Program) (f : FuncId) (args : List (U Unit)) (obs : List (Ob Unit)) (r : V Unit) (obs' : List (Ob Unit)) : Prop :=
 ∀ W (d : S Value) (us : List (U Value)) (vals : List Value), d.sl = us.map .u → us.map erU = args → All2 UR us vals → (erS d).ob = obs.zipIdx.map (fun q => (q.2, q.1)) → Good W d →
  (∀ l ∈ tops d, ∀ i ∈ idsL l, i < obs.length) →
  Calls P f vals.toArray W fun e W' => ∃ x d' rv, e = .returned x ∧ d'.sl = [rv] ∧ erV rv = r ∧ (erS d').ob = obs'.zipIdx.map (fun q => (q.2, q.1)) ∧ VR rv x ∧ EndOk W d W' d'
theorem X0x {B : Bd} {W W' : World} {d dc d' d1 : S Value} (h : Inv B W d) {rest : List OwnE} (hperm : (ownS d).Perm (ownS dc ++ rest))
  (himm : (∀ q ∈ immS dc, q.2 ≠ [] → ∃ q' ∈ immS d, q'.2 ≠ [] ∧ q'.1.block = q.1.block) ∨ immS d' = []) (he : EndOk W dc W' d')
  (hperm1 : (ownS d1).Perm (ownS d' ++ rest)) (himm1 : ∀ p ∈ immS d1, SubIn p (immS d) ∨ p ∈ immS d')
  (hwf : ∀ l ∈ tops d1, wfL false l ∧ W7 d1.ob l)
  (hobs : ∀ p ∈ d1.ob, ((p.2.h = .slice none 0 0 ∧ p.2.rows = []) ∨ ∃ b x c, p.2.h = .slice (some ⟨b, x, none⟩) 0 c ∧ p.2.rows.length ≤ c ∧ p.2.rows.length ≤ LIM) ∧ ∀ r ∈ p.2.rows, r.length = p.2.n)
  (hids : (d1.ob.map (·.1)).Nodup) (hhdr : ∀ p ∈ d1.ob, p.1 < B.n0 → p.2.h = B.H0 p.1) : Inv B W' d1 := by
 have hnd := (hperm.map (·.1)).nodup_iff.1 h.good.nodup
 rw [List.map_append, List.nodup_append] at hnd
 have hdc : ∀ p ∈ ownS dc, p ∈ ownS d := fun p hp => hperm.mem_iff.2 (List.mem_append_left _ hp)
 have hrd : ∀ p ∈ rest, p ∈ ownS d := fun p hp => hperm.mem_iff.2 (List.mem_append_right _ hp)
 have happ : ∀ p ∈ rest, ∀ q ∈ ownS dc, q.1 ≠ p.1 := fun p hp q hq => hnd.2.2 q.1 (List.mem_map.2 ⟨q, hq, rfl⟩) p.1 (List.mem_map.2 ⟨p, hp, rfl⟩)
 have hrest : ∀ p ∈ rest, OwnFact W' p := fun p hp => by
  have hf := h.good.own p (hrd p hp)
  refine hf.same (he.fr.2 _ hf.lt ?_)
  rintro ⟨q, hq, e⟩
  exact happ p hp q hq e
 have hd'rest : ∀ p ∈ rest, ∀ q ∈ ownS d', q.1 ≠ p.1 := fun p hp q hq e => by
  rcases he.mine q hq with ⟨r, hr, e2⟩ | hge
  ·exact happ p hp r hr (e2.trans e)
  ·have := (h.good.own p (hrd p hp)).lt
   omega
 have hold : ∀ q ∈ immS d, q.2 ≠ [] → ImmFact W' q ∧ ∀ r ∈ ownS d1, r.1 ≠ q.1.block := fun q hq hne => by
  obtain ⟨h1, h2⟩ := h.good.imm q hq hne
  have hlt := h1.lt hne
  refine ⟨h1.same (he.fr.2 _ hlt ?_), fun r hr e => ?_⟩
  ·rintro ⟨p, hp, e⟩
   exact h2 p (hdc p hp) e
  ·rcases List.mem_append.1 (hperm1.mem_iff.1 hr) with hr | hr
   ·rcases he.mine r hr with ⟨p, hp, e2⟩ | hge
    ·exact h2 p (hdc p hp) (e2.trans e)
    ·omega
   ·exact h2 r (hrd r hr) e
 have hnew : ∀ p ∈ immS d', p.2 ≠ [] → (∃ q ∈ immS d, q.2 ≠ [] ∧ q.1.block = p.1.block) ∨ (∃ q ∈ ownS dc, q.1 = p.1.block) ∨ W.heap.size ≤ p.1.block := fun p hp hne => by
  rcases he.seen p hp hne with ⟨q, hq, hq2, hq3⟩ | h1 | h1
  ·rcases himm with himm | himm
   ·obtain ⟨q', h1, h2, h3⟩ := himm q hq hq2
    exact .inl ⟨q', h1, h2, h3.trans hq3⟩
   ·rw [himm] at hp; cases hp
  ·exact .inr (.inl h1)
  ·exact .inr (.inr h1)
 constructor
 ·refine ⟨hwf, hobs, hids, fun p hp => ?_, ?_, fun p hp hne => ?_⟩
  ·rcases List.mem_append.1 (hperm1.mem_iff.1 hp) with hp | hp
   ·exact he.good.own p hp
   ·exact hrest p hp
  ·rw [(hperm1.map (·.1)).nodup_iff, List.map_append, List.nodup_append]
   refine ⟨he.good.nodup, hnd.2.1, fun i hi j hj e => ?_⟩
   obtain ⟨q, hq, rfl⟩ := List.mem_map.1 hi
   obtain ⟨p, hp, rfl⟩ := List.mem_map.1 hj
   exact hd'rest p hp q hq e
  ·rcases himm1 p hp with hs | hp'
   ·rcases hs with h0 | ⟨q, hq, hs⟩
    ·exact absurd h0 hne
    ·obtain ⟨h1, h2⟩ := hold q hq (hs.ne hne)
     exact ⟨hs.fact h1, fun r hr => by rw [hs.1]; exact h2 r hr⟩
   ·obtain ⟨h1, h2⟩ := he.good.imm p hp' hne
    refine ⟨h1, fun r hr => ?_⟩
    rcases List.mem_append.1 (hperm1.mem_iff.1 hr) with hr | hr
    ·exact h2 r hr
    ·intro e
     rcases hnew p hp' hne with ⟨q, hq, hq2, hq3⟩ | ⟨q, hq, hq2⟩ | hge
     ·exact (h.good.imm q hq hq2).2 r (hrd r hr) (e.trans hq3.symm)
     ·exact happ r hr q hq (hq2.trans e.symm)
     ·have := (h.good.own r (hrd r hr)).lt
      omega
 ·refine ⟨Nat.le_trans h.fr.1 he.fr.1, fun b hb hm => ?_, h.fr.3.trans he.fr.3⟩
  refine (he.fr.2 b (Nat.lt_of_lt_of_le hb h.fr.1) ?_).trans (h.fr.2 b hb hm)
  rintro ⟨p, hp, rfl⟩
  rcases h.mine p (hdc p hp) with h1 | h1
  ·exact hm h1
  ·omega
 ·intro p hp
  rcases List.mem_append.1 (hperm1.mem_iff.1 hp) with hp | hp
  ·rcases he.mine p hp with ⟨q, hq, e⟩ | hge
   ·rw [← e]; exact h.mine q (hdc q hq)
   ·exact .inr (Nat.le_trans h.fr.1 hge)
  ·exact h.mine p (hrd p hp)
 ·intro p hp hne
  rcases himm1 p hp with hs | hp'
  ·rcases hs with h0 | ⟨q, hq, hs⟩
   ·exact absurd h0 hne
   ·rw [hs.1]; exact h.seen q hq (hs.ne hne)
  ·rcases hnew p hp' hne with ⟨q, hq, hq2, hq3⟩ | ⟨q, hq, hq2⟩ | hge
   ·rw [← hq3]; exact h.seen q hq hq2
   ·rw [← hq2]
    rcases h.mine q (hdc q hq) with h1 | h1
    ·exact .inr (.inl h1)
    ·exact .inr (.inr h1)
   ·exact .inr (.inr (Nat.le_trans h.fr.1 hge))
 ·exact hhdr
end
section
def K9 {δ : Type} (obs : List (Ob δ)) : List (Nat × Ob δ) := obs.zipIdx.map (fun q => (q.2, q.1))
mutual
theorem Z9u : ∀ l : L Value, idsL (erL l) = idsL l
 | .int _ _ | .bool _ | .str _ | .nl | .nilp => by simp [mapL, idsL]
 | .bs _ _ _ | .os _ _ _ | .ip _ _ => by simp [mapL, idsL]
 | .ref _ _ _ _ | .ptr _ _ _ _ => by simp [mapL, idsL]
 | .fn _ _ caps => by simp [mapL, idsL, W3j caps]
theorem W3j : ∀ ls : List (L Value), idsC (mapC (fun _ => ()) ls) = idsC ls
 | [] => rfl
 | l :: ls => by simp only [mapC, idsC, W3j ls]; rw [← Z9u l]
end
def Z8g {δ : Type} (o : Ob δ) : Nat × Nat := (o.n, o.rows.length)
def resU (P : Program) (sl : List (V Unit)) (lk : Lk) : ResultVar → Option (U Unit)
 | .tmp t => uO sl[t]?
 | .cell a t => (tiOf P t).bind fun i => match lO sl[a]? with
  | some (.ptr _ id e j) => (lk id).bind fun o => (o.rows[e]?).bind fun r => pk i r j
  | _ => none
def Z9a (P : Program) (sl : List (V Unit)) (lk : Lk) : List ResultVar → Option (List (U Unit))
 | [] => some []
 | r :: rs => (resU P sl lk r).bind fun u => if Z5i u then (Z9a P sl lk rs).map fun us => u :: us else none
def resR : List (U Unit) → V Unit
 | [u] => .u u
 | us => .tup us
def X5s (n : Nat) (v : V Unit) : Bool := (Z3 v).all fun l => (idsL l).all fun i => Nat.blt i n
def Z0p (n : Nat) (rows : List (List (L Unit))) : Bool := rows.all fun r => r.all fun l => (idsL l).all fun i => Nat.blt i n
def GhB (B : Bd) (s s' : S Unit) : Prop := ∀ a W, Rel B s a W → Rel B s' a W
theorem GhB.refl (B : Bd) (s : S Unit) : GhB B s s := fun _ _ h => h
theorem GhB.trans {B : Bd} {s s' s'' : S Unit} (h : GhB B s s') (h' : GhB B s' s'') : GhB B s s'' := fun a W hr => h' a W (h a W hr)
theorem Gh.b {B : Bd} {s s' : S Unit} (h : Gh s s') : GhB B s s' := fun a W hr => h B a W hr
def RetQ (P : Program) (B : Bd) (rs : List ResultVar) (obs : List (Ob Unit)) (r : V Unit) (obs' : List (Ob Unit)) (e : Exit) (s : S Unit) : Prop :=
 (e = .normal ∨ e = .ret) ∧ ∃ us, Z9a P s.sl (look s.ob) rs = some us ∧ ∃ us' nx, GhB B ⟨us.map .u, s.ob, s.nx⟩ ⟨us'.map .u, K9 obs', nx⟩ ∧ resR us' = r ∧ (obs'.take obs.length).map Z8g = obs.map Z8g ∧ obs.length ≤ obs'.length ∧
  us'.all (fun u => (Z1 u).all fun l => (idsL l).all fun i => Nat.blt i obs'.length) = true ∧ obs'.all (fun o => Z0p obs'.length o.rows) = true
theorem Z6u {δ : Type} (obs : List (Ob δ)) : (K9 obs).map (·.1) = List.range obs.length := by
 rw [K9, List.map_map, List.range_eq_range']
 exact List.zipIdx_map_snd 0 obs
theorem Z3g {α β : Type} {R : α → β → Prop} : ∀ {xs : List α} {ys : List β}, All2 R xs ys → xs.length = ys.length
 | _, _, .nil => rfl
 | _, _, .cons _ h => by simp [Z3g h]
theorem Z1i {α β : Type} {R : α → β → Prop} : ∀ {xs : List α} {ys : List β}, All2 R xs ys → ∀ (i : Nat) x y, xs[i]? = some x → ys[i]? = some y → R x y
 | _, _, .cons h _, 0, x, y, hx, hy => by simp at hx hy; subst hx hy; exact h
 | _, _, .cons _ h, i + 1, x, y, hx, hy => by simp at hx hy; exact Z1i h i x y hx hy
def RdG (a : Act) (g : ResultVar → Sem Value) : Prop := (∀ t, g (.tmp t) = pure (a.tmps.getD t undef)) ∧ ∀ x t, g (.cell x t) = (do loadVar t (← asAddr (a.tmps.getD x undef)))
theorem res_one {P : Program} {W : World} {d : S Value} {a : Act} (hg : Good W d) (hs : SlR d a) {r : ResultVar} {u : U Unit} (h : resU P (erS d).sl (look (erS d).ob) r = some u) :
  ∃ u' x, (∀ g, RdG a g → (g r).run P W = .ok x W) ∧ erU u' = u ∧ UR u' x ∧ ∀ l ∈ Z1 u', l ∈ tops d := by
 cases r with
 | tmp t =>
  simp only [resU] at h
  unfold uO at h
  split at h
  ·rename_i y hy
   cases h
   obtain ⟨v', h1, h2⟩ := Y5n hy
   cases v' with
   | u y' =>
    simp only [erV, mapV, V.u.injEq] at h2
    refine ⟨y', _, fun g hg => by rw [hg.1]; rfl, h2, hs.2 t _ h1, fun l hl => mem_tops.2 (.inl ⟨_, List.mem_of_getElem? h1, hl⟩)⟩
   | tup xs => cases h2
   | un => cases h2
   | ud => cases h2
  ·cases h
 | cell x t =>
  simp only [resU] at h
  obtain ⟨i, ht, h⟩ := bind_some h
  split at h
  ·rename_i v id e j hx
   obtain ⟨ob, hob, h⟩ := bind_some h
   obtain ⟨r, hr, hu⟩ := bind_some h
   have hx' : lO (evA (erS d) (.tmp x)) = some (.ptr v id e j) := hx
   obtain ⟨l', h1, h2, h3⟩ := V8 hg hs hx'
   obtain ⟨v', rfl⟩ := X2g h1
   obtain ⟨ob', ho', rfl⟩ := U7 hob
   obtain ⟨b, y, c0, hh, hv⟩ := h3.2.1 ob' ho'
   obtain ⟨r', hr', rfl⟩ := Y1c hr
   rw [← W5q, Option.map_eq_some_iff] at hu
   obtain ⟨u', hu', rfl⟩ := hu
   obtain ⟨x', hx2, hur⟩ := W1x (W := W) ht (b := b) (o := y + e * ob'.n) hu' (fun k l hk => by rw [Nat.add_assoc]; exact X6r hg ho' hh hr' hk)
   refine ⟨u', x', fun g hg' => ?_, rfl, hur, fun l hl => mem_tops.2 (.inr (mem_obLeaves.2 ⟨_, find?_key ho', r', List.mem_of_getElem? hr', X8e hu' l hl⟩))⟩
   have e1 : a.tmps.getD x undef = .pointer (some ⟨b, y + e * ob'.n + j, none⟩) := by
    have : a.eval (.tmp x) = a.tmps.getD x undef := by simp [Act.eval]
    rw [← this, h2]
    simp only [val, hv]
    rw [Nat.add_assoc]
   rw [hg'.2, e1]
   have : asAddr (.pointer (some ⟨b, y + e * ob'.n + j, none⟩)) = pure ⟨b, y + e * ob'.n + j, none⟩ := rfl
   rw [this, pure_bind]
   simp only [Instr.loadAt, Instr.sureAddr] at hx2
   rw [pure_bind] at hx2
   exact hx2
  ·cases h
theorem X8c {P : Program} {W : World} {d : S Value} {a : Act} (hg : Good W d) (hs : SlR d a) : ∀ (rs : List ResultVar) (us : List (U Unit)), Z9a P (erS d).sl (look (erS d).ob) rs = some us →
  ∃ us' vals, (∀ g, RdG a g → (rs.mapM g).run P W = .ok vals W) ∧ us'.map erU = us ∧ All2 UR us' vals ∧ ∀ u ∈ us', ∀ l ∈ Z1 u, l ∈ tops d ∧ noOs l = true
 | [], us, h => by cases h; exact ⟨[], [], fun _ _ => rfl, rfl, .nil, by simp⟩
 | r :: rs, us, h => by
  simp only [Z9a] at h
  obtain ⟨u, hu, h⟩ := bind_some h
  split at h
  ·rename_i hno
   rw [Option.map_eq_some_iff] at h
   obtain ⟨us1, h1, rfl⟩ := h
   obtain ⟨u', x, h2, rfl, h3, h4⟩ := res_one hg hs hu
   obtain ⟨us', vals, h5, h6, h7, h8⟩ := X8c hg hs rs us1 h1
   refine ⟨u' :: us', x :: vals, ?_, by simp [h6], .cons h3 h7, fun w hw => ?_⟩
   ·intro g hg
    rw [List.mapM_cons, Sem.run_bind, h2 g hg]
    simp only [Result.andThen_ok]
    rw [Sem.run_bind, h5 g hg]
    rfl
   ·rcases List.mem_cons.1 hw with rfl | hw
    ·rw [Y8m] at hno
     simp only [Z5i, List.all_eq_true] at hno
     exact fun l hl => ⟨h4 l hl, hno l hl⟩
    ·exact h8 w hw
  ·cases h
theorem X1a {α β : Type} {R : α → β → Prop} : ∀ {xs : List α} {ys : List β}, xs.length = ys.length → (∀ (i : Nat) x y, xs[i]? = some x → ys[i]? = some y → R x y) → All2 R xs ys
 | [], [], _, _ => .nil
 | [], y :: ys, h, _ => by simp at h
 | x :: xs, [], h, _ => by simp at h
 | x :: xs, y :: ys, h, hg => .cons (hg 0 x y rfl rfl) (X1a (by simpa using h) fun i a b ha hb => hg (i + 1) a b (by simpa using ha) (by simpa using hb))
def tupV : List Value → Value
 | [v] => v
 | vs => .tuple vs.toArray
theorem X6h {P : Program} {W : World} {d : S Value} {a : Act} (hg : Good W d) (hs : SlR d a) {fn : Func} {us : List (U Unit)} (h : Z9a P (erS d).sl (look (erS d).ob) fn.results.toList = some us) :
  ∃ us' vals, (results fn a.tmps).run P W = .ok (tupV vals) W ∧ us'.map erU = us ∧ All2 UR us' vals ∧ ∀ u ∈ us', ∀ l ∈ Z1 u, l ∈ tops d ∧ noOs l = true := by
 obtain ⟨us', vals, h1, h2, h3, h4⟩ := X8c hg hs _ _ h
 refine ⟨us', vals, ?_, h2, h3, h4⟩
 unfold results
 rw [Sem.run_bind, Array.mapM_eq_mapM_toList, Sem.run_map, h1 _ ⟨fun _ => rfl, fun _ _ => rfl⟩]
 simp only [Result.andThen_ok, Sem.run_pure]
 congr 1
 match vals with
 | [] => rfl
 | [v] => rfl
 | v :: u :: vs => rfl
def X2v : List (U Value) → V Value
 | [u] => .u u
 | us => .tup us
theorem Y7c (us : List (U Value)) : Z3 (X2v us) = us.flatMap Z1 := by
 match us with
 | [] => rfl
 | [u] => simp [X2v, Z3]
 | u :: v :: us => rfl
theorem W5j (us : List (U Value)) : erV (X2v us) = resR (us.map erU) := by
 match us with
 | [] => rfl
 | [u] => rfl
 | u :: v :: us => rfl
theorem W5k {us : List (U Value)} {vals : List Value} (h : All2 UR us vals) : VR (X2v us) (tupV vals) := by
 match us, vals, h with
 | [], [], .nil => exact ⟨[], rfl, rfl, by simp⟩
 | [u], [v], .cons hu .nil => exact hu
 | u :: u2 :: us, v :: v2 :: vs, h => exact ⟨_, rfl, (Z3g h).symm, fun i a b ha hb => Z1i h i a b ha hb⟩
theorem W1w {P : Program} {f : FuncId} {fn : Func} {c : Code} (hf : P.funcs[f]? = some fn) (hb : fn.body = some c) {args : List (U Unit)} {obs obs' : List (Ob Unit)} {r : V Unit} (hn : args.length ≤ fn.ntmps)
  {rs : List ResultVar} (hrs : fn.results.toList = rs) {k : Nat} (hk : fn.ntmps - args.length = k) (hw : ∀ B, B.n0 = obs.length → Wp (P := P) B c (RetQ P B rs obs r obs') ⟨args.map .u ++ List.replicate k .ud, K9 obs, obs.length⟩) : Sim P f args obs r obs' := by
 subst hrs hk
 intro W d us vals hsl hus hall hob hg hids
 have hlen : us.length = args.length := by rw [← hus, List.length_map]
 have hlen2 : us.length = vals.length := Z3g hall
 have hkeys : d.ob.map (·.1) = List.range obs.length := by
  have h1 : (erS d).ob.map (·.1) = d.ob.map (·.1) := by simp [erS, mapS]
  rw [← h1, hob]
  exact Z6u obs
 let B : Bd := ⟨W, fun b => ∃ p ∈ ownS d, p.1 = b, fun b => ∃ q ∈ immS d, q.2 ≠ [] ∧ q.1.block = b, obs.length, fun i => match look d.ob i with | some o => o.h | none => undef⟩
 let d0 : S Value := ⟨d.sl ++ List.replicate (fn.ntmps - args.length) .ud, d.ob, obs.length⟩
 have hrep : ∀ {β : Type} (g : V Value → List β), g .ud = [] → (List.replicate (fn.ntmps - args.length) (V.ud : V Value)).flatMap g = [] := fun g hg => by
  rw [List.flatMap_eq_nil_iff]
  intro x hx
  rw [List.eq_of_mem_replicate hx, hg]
 have htops : tops d0 = tops d := by
  simp only [tops, d0, List.flatMap_append, hrep Z3 rfl, List.append_nil]
 have hown : ownS d0 = ownS d := by simp only [ownS, htops, d0]
 have himm : immS d0 = immS d := by simp only [immS, htops]
 have hknow : ∀ i, Z3h d0 i → i < obs.length := by
  rintro i (⟨l, hl, hi⟩ | hi)
  ·rw [htops] at hl; exact hids l hl i hi
  ·have : i ∈ d.ob.map (·.1) := hi
   rw [hkeys] at this
   simpa using this
 have hinv : Inv B W d0 := {
  good := hg.part rfl (fun l hl => by rw [htops] at hl; exact hg.wf l hl) (by rw [hown]; exact List.Sublist.refl _) (fun p hp => .of_mem (by rwa [himm] at hp))
  fr := ⟨Nat.le_refl _, fun _ _ _ => rfl, Same.refl W⟩
  mine := fun p hp => .inl ⟨p, by rwa [hown] at hp, rfl⟩
  seen := fun p hp hne => .inl ⟨p, by rwa [himm] at hp, hne, rfl⟩
  hdr := fun p hp _ => by
   show p.2.h = match look d.ob p.1 with | some o => o.h | none => undef
   rw [J2 hg.ids (show (p.1, p.2) ∈ d.ob from hp)] }
 have hslr : SlR d0 { tmps := vals.toArray ++ Array.replicate (fn.ntmps - vals.toArray.size) undef, defers := [] } := by
  refine ⟨by simp [d0, hsl]; omega, fun i v hv => ?_⟩
  simp only [d0, hsl] at hv
  by_cases hi : i < us.length
  ·rw [List.getElem?_append_left (by simpa using hi), List.getElem?_map, Option.map_eq_some_iff] at hv
   obtain ⟨u, hu, rfl⟩ := hv
   have hi2 : i < vals.length := by omega
   have := Z1i hall i u _ hu (List.getElem?_eq_getElem hi2)
   rw [Array.getD_eq_getD_getElem?, Array.getElem?_append_left (by simpa using hi2)]
   simp [hi2]
   exact this
  ·rw [List.getElem?_append_right (by simpa using hi)] at hv
   have := List.eq_of_mem_replicate (List.mem_of_getElem? hv)
   subst this
   show _ = undef
   rw [Array.getD_eq_getD_getElem?, Array.getElem?_append_right (by simp; omega)]
   simp only [List.size_toArray]
   by_cases h2 : i - vals.length < fn.ntmps - vals.length
   ·simp [Array.getElem?_replicate, h2]
   ·simp [Array.getElem?_replicate, h2]
 have hrel : Rel B ⟨args.map .u ++ List.replicate (fn.ntmps - args.length) .ud, K9 obs, obs.length⟩ { tmps := vals.toArray ++ Array.replicate (fn.ntmps - vals.toArray.size) undef, defers := [] } W := by
  refine ⟨d0, ?_, hinv, hslr, rfl, hknow, Nat.le_refl _⟩
  have h1 : (erS d0).ob = K9 obs := hob
  have h2 : (erS d0).sl = args.map .u ++ List.replicate (fn.ntmps - args.length) .ud := by
   simp [erS, mapS, d0, hsl, ← hus, erV, mapV]
  have : erS d0 = ⟨(erS d0).sl, (erS d0).ob, (erS d0).nx⟩ := rfl
  rw [this, h1, h2]
  rfl
 refine calls_of_wp hf hb (wp_mono (hw B rfl _ W hrel) fun e a' W' hpost => ?_)
 obtain ⟨s1, hr1, he, us2, hres, us3, nx2, hgh, hrr, hshape, hlen3, hkn, hkn2⟩ := hpost
 obtain ⟨d1, rfl, hi1, hs1, hdef1, hk1, hn1⟩ := hr1
 obtain ⟨us0, vals0, hrun, hus0, hall0, hleaf0⟩ := X6h (P := P) (W := W') hi1.good hs1 hres
 have hrel1 : Rel B ⟨us2.map .u, (erS d1).ob, (erS d1).nx⟩ { tmps := vals0.toArray, defers := [] } W' := by
  let d1' : S Value := ⟨us0.map .u, d1.ob, d1.nx⟩
  have htop1 : ∀ l ∈ tops d1', l ∈ tops d1 := fun l hl => by
   rcases mem_tops.1 hl with ⟨v, hv, hl2⟩ | hl2
   ·obtain ⟨u, hu, rfl⟩ := List.mem_map.1 hv
    exact (hleaf0 u hu l hl2).1
   ·exact mem_tops.2 (.inr hl2)
  have hno : ((us0.map V.u).flatMap Z3).flatMap ownL = [] := List.flatMap_eq_nil_iff.2 fun l hl => by
   obtain ⟨v, hv, hl⟩ := List.mem_flatMap.1 hl
   obtain ⟨u, hu, rfl⟩ := List.mem_map.1 hv
   exact Z0m (hleaf0 u hu l hl).2
  have hown1 : (ownS d1').Sublist (ownS d1) := by
   simp only [ownS, tops, d1', List.flatMap_append, hno, List.nil_append]
   exact (List.Sublist.refl _).append (List.sublist_append_right _ _)
  refine ⟨d1', by simp [erS, mapS, d1', ← hus0, erV, mapV], ?_, ⟨by simp [d1', Z3g hall0], fun i v hv => ?_⟩, rfl, fun i hi => hk1 i ?_, hn1⟩
  ·exact hi1.step (Nat.le_refl _) (Same.refl _) (fun _ _ _ => rfl) (fun l hl => hi1.good.wf l (htop1 l hl)) hi1.good.obs hi1.good.ids (fun p hp => ⟨hi1.good.own p (hown1.subset hp), .inl ⟨p, hown1.subset hp, rfl⟩⟩) (hi1.good.nodup.sublist (hown1.map _))
    (fun p hp => by
     obtain ⟨l, hl, hp⟩ := List.mem_flatMap.1 hp
     exact .of_mem (List.mem_flatMap.2 ⟨l, htop1 l hl, hp⟩)) hi1.hdr
  ·simp only [d1', List.getElem?_map, Option.map_eq_some_iff] at hv
   obtain ⟨u, hu, rfl⟩ := hv
   have hlt : i < vals0.length := by rw [← Z3g hall0]; exact (List.getElem?_eq_some_iff.1 hu).1
   have := Z1i hall0 i u _ hu (List.getElem?_eq_getElem hlt)
   simp only [Array.getD_eq_getD_getElem?, List.getElem?_toArray, List.getElem?_eq_getElem hlt, Option.getD_some]
   exact this
  ·rcases hi with ⟨l, hl, h⟩ | h
   ·exact .inl ⟨l, htop1 l hl, h⟩
   ·exact .inr h
 obtain ⟨d3, he2, hi3, hs3, hdef2, hk2, hn2⟩ := hgh _ W' hrel1
 obtain ⟨us4, hus4, hus5⟩ : ∃ us4 : List (U Value), d3.sl = us4.map .u ∧ us4.map erU = us3 := by
  have h1 : d3.sl.map erV = us3.map .u := congrArg S.sl he2
  generalize d3.sl = sl at h1
  clear he2 hgh hkn hrr
  induction sl generalizing us3 with
  | nil => cases us3 with
   | nil => exact ⟨[], rfl, rfl⟩
   | cons u us => simp at h1
  | cons v sl ih => cases us3 with
   | nil => simp at h1
   | cons u us =>
    simp only [List.map_cons, List.cons.injEq] at h1
    obtain ⟨us4, h2, h3⟩ := ih us h1.2
    cases v with
    | u x =>
     have hx : erU x = u := by simpa [erV, mapV] using h1.1
     exact ⟨x :: us4, by simp [h2], by simp [h3, hx]⟩
    | _ => exact absurd h1.1 (by simp [mapV])
 have hall4 : All2 UR us4 vals0 := by
  have hlen : us4.length = vals0.length := by
   have h1 := hs3.1
   rw [hus4] at h1
   simpa using h1.symm
  have hget : ∀ i u v, us4[i]? = some u → vals0[i]? = some v → UR u v := fun i u v hu hv => by
   have h1 : UR u (vals0.toArray.getD i undef) := hs3.2 i (.u u) (by rw [hus4, List.getElem?_map, hu]; rfl)
   rw [Array.getD_eq_getD_getElem?, List.getElem?_toArray, hv] at h1
   exact h1
  exact X1a hlen hget
 let d2 : S Value := ⟨[X2v us4], d3.ob, d3.nx⟩
 have htop2 : tops d2 = tops d3 := by
  simp only [tops, d2, hus4, List.flatMap_cons, List.flatMap_nil, List.append_nil, Y7c, List.flatMap_map]
  rfl
 have hown2 : ownS d2 = ownS d3 := by simp only [ownS, htop2]; rfl
 have himm2 : immS d2 = immS d3 := by simp only [immS, htop2]
 have hi2 : Inv B W' d2 := {
  good := hi3.good.part rfl (fun l hl => by rw [htop2] at hl; exact hi3.good.wf l hl) (by rw [hown2]; exact List.Sublist.refl _) (fun p hp => .of_mem (by rwa [himm2] at hp))
  fr := hi3.fr
  mine := fun p hp => hi3.mine p (by rwa [hown2] at hp)
  seen := fun p hp hne => hi3.seen p (by rwa [himm2] at hp) hne
  hdr := hi3.hdr }
 obtain ⟨rv, hsl2, hrv⟩ : ∃ rv, d2.sl = [rv] ∧ erV rv = r := ⟨X2v us4, rfl, by rw [W5j, hus5, hrr]⟩
 have hvr : VR rv (tupV vals0) := by
  have : rv = X2v us4 := by
   have h1 : d2.sl = [X2v us4] := rfl
   rw [hsl2] at h1
   exact (List.cons.inj h1).1
  rw [this]
  exact W5k hall4
 have hob2 : (erS d2).ob = K9 obs' := (show (erS d3).ob = _ from congrArg S.ob he2)
 have hlen2 : d2.ob.length = obs'.length := by
  have := congrArg List.length hob2
  simpa [erS, mapS, K9] using this
 have hlend : d.ob.length = obs.length := by
  have := congrArg List.length hkeys
  simpa using this
 have hfin : EndOk W d W' d2 := by
  refine ⟨hi2.good, hi2.fr, hi2.mine, hi2.seen, ?_, ?_⟩
  ·have hk3 : d2.ob.map (·.1) = List.range obs'.length := by
    have h1 : (erS d2).ob.map (·.1) = d2.ob.map (·.1) := by simp [erS, mapS]
    rw [← h1, hob2, Z6u]
   have e : ∀ dd : S Value, dd.ob.map (fun p => Z8g p.2) = (erS dd).ob.map (fun p => Z8g p.2) := fun dd => by simp [erS, mapS, Z8g, Z3e]
   have e2 : ∀ os : List (Ob Unit), (K9 os).map (fun p => Z8g p.2) = os.map Z8g := fun os => by
    rw [K9, List.map_map]
    conv => rhs; rw [← List.zipIdx_map_fst 0 os, List.map_map]
    rfl
   have hsh2 : d2.ob.map (fun p => Z8g p.2) = obs'.map Z8g := by rw [e, hob2, e2]
   have hsh : d.ob.map (fun p => Z8g p.2) = obs.map Z8g := by rw [e, hob]; exact e2 obs
   apply List.ext_getElem?
   intro i
   simp only [List.getElem?_map, List.getElem?_take]
   by_cases hi : i < d.ob.length
   ·rw [if_pos hi]
    obtain ⟨q, hq⟩ : ∃ q, d.ob[i]? = some q := ⟨_, List.getElem?_eq_getElem hi⟩
    obtain ⟨p, hp⟩ : ∃ p, d2.ob[i]? = some p := ⟨_, List.getElem?_eq_getElem (by omega)⟩
    have k1 : p.1 = i := by
     have := congrArg (fun l : List Nat => l[i]?) hk3
     simp only [List.getElem?_map, hp, Option.map_some] at this
     rw [List.getElem?_range (by omega)] at this
     exact Option.some.inj this
    have k2 : q.1 = i := by
     have := congrArg (fun l : List Nat => l[i]?) hkeys
     simp only [List.getElem?_map, hq, Option.map_some] at this
     rw [List.getElem?_range (by omega)] at this
     exact Option.some.inj this
    have k3 : Z8g p.2 = Z8g q.2 := by
     have h1 := congrArg (fun l : List (Nat × Nat) => l[i]?) hsh2
     have h2 := congrArg (fun l : List (Nat × Nat) => l[i]?) hsh
     have h3 := congrArg (fun l : List (Nat × Nat) => l[i]?) hshape
     simp only [List.getElem?_map, List.getElem?_take, hp, hq, Option.map_some] at h1 h2 h3
     rw [if_pos (by omega)] at h3
     rw [← h1, ← h2] at h3
     exact Option.some.inj h3
    rw [hp, hq]
    have hh := hi2.hdr p (List.mem_of_getElem? hp) (show p.1 < obs.length by omega)
    have hh2 : B.H0 p.1 = q.2.h := by
     show (match look d.ob p.1 with | some o => o.h | none => undef) = q.2.h
     rw [k1, ← k2, J2 hg.ids (show (q.1, q.2) ∈ d.ob from List.mem_of_getElem? hq)]
    simp only [Z8g, Prod.mk.injEq] at k3
    simp only [Option.map_some, Option.some.injEq, Prod.mk.injEq]
    exact ⟨k1.trans k2.symm, hh.trans hh2, k3.1, k3.2⟩
   ·rw [if_neg hi, List.getElem?_eq_none (by omega)]
  ·intro l hl i hi
   rw [hlen2]
   rcases mem_tops.1 hl with ⟨v, hv, hl2⟩ | hl
   ·rw [hsl2] at hv
    simp only [List.mem_singleton] at hv
    subst hv
    have h1 : d2.sl = [X2v us4] := rfl
    rw [hsl2] at h1
    rw [(List.cons.inj h1).1, Y7c] at hl2
    obtain ⟨u, hu, hl2⟩ := List.mem_flatMap.1 hl2
    rw [← hus5] at hkn
    simp only [List.all_map, List.all_eq_true, Function.comp_def, Q2] at hkn
    have := hkn u hu l hl2 i (by rw [Z9u]; exact hi)
    simpa [Nat.blt, Nat.lt_iff_add_one_le] using this
   ·obtain ⟨p, hp, r', hr', hlr⟩ := mem_obLeaves.1 hl
    have hp2 : (p.1, erOb p.2) ∈ (erS d2).ob := by
     simp only [erS, mapS]
     exact List.mem_map.2 ⟨p, hp, rfl⟩
    rw [hob2] at hp2
    simp only [K9, List.mem_map] at hp2
    obtain ⟨q, hq, hq2⟩ := hp2
    simp only [Prod.mk.injEq] at hq2
    have hmem : q.1 ∈ obs' := (List.mem_zipIdx_iff_getElem?.1 (show (q.1, q.2) ∈ obs'.zipIdx from hq)) |> List.mem_of_getElem?
    rw [List.all_eq_true] at hkn2
    have := hkn2 q.1 hmem
    rw [hq2.2] at this
    simp only [Z0p, erOb, Z3e, List.all_map, List.all_eq_true, Function.comp_def] at this
    have := this r' hr' l hlr i (by rw [Z9u]; exact hi)
    simpa [Nat.blt, Nat.lt_iff_add_one_le] using this
 rcases he with rfl | rfl
 ·exact ⟨hdef1, _, hrun, _, d2, rv, rfl, hsl2, hrv, hob2, hvr, hfin⟩
 ·exact ⟨hdef1, _, hrun, _, d2, rv, rfl, hsl2, hrv, hob2, hvr, hfin⟩
end
section
def br (b : Bool) (X Y : Unit → Prop) : Prop := (b = true → X ()) ∧ (b = false → Y ())
def gdv (v : Option (V Unit)) (t : Nat) (s : S Unit) (want : Bool) (A N : S Unit → Prop) : Prop := match v with
 | some (.u (.one (.bool b))) => br b (fun _ => if want then A (stB s t true) else N (stB s t true)) (fun _ => if want then N (stB s t false) else A (stB s t false))
 | some .ud => N s
 | _ => False
theorem gdv_t (b : Bool) (t : Nat) (s : S Unit) (A N : S Unit → Prop) : gdv (some (.u (.one (.bool b)))) t s true A N = br b (fun _ => A (stB s t true)) (fun _ => N (stB s t false)) := rfl
theorem gdv_f (b : Bool) (t : Nat) (s : S Unit) (A N : S Unit → Prop) : gdv (some (.u (.one (.bool b)))) t s false A N = br b (fun _ => N (stB s t true)) (fun _ => A (stB s t false)) := rfl
theorem gdv_u (t : Nat) (s : S Unit) (want : Bool) (A N : S Unit → Prop) : gdv (some .ud) t s want A N = N s := rfl
def Z9c (ops : List Oper) (j : Nat) : Option Nat := (ops[j]?).bind (·.dst)
section
variable {P : Program} (Y : Sys P)
structure Plain : Prop where
 h : ∀ {o : Oper} {s : S Unit} {nid : Nat} {e : Eff}, opF P o.op (evA s) (look s.ob) nid = some e → Y.E o s nid e
variable {Y} (hY : Plain Y)
include hY
end
section
variable {P : Program} {Y : Sys P}
theorem W0w {B : Bd} {id : Nat} {ops : List Oper} {Q : Exit → S Unit → Prop} {s : S Unit} : awp Y B (.region id ops.toArray false) Q s = J8 Y ops ops s (Q .normal) := by
 simp [awp]
end
theorem appE_p (sl : List (V Unit)) (ob : List (Nat × Ob Unit)) (nx nid : Nat) (t : Nat) (v : V Unit) (rd : List Nat) (hyp : Prop) : appE ⟨sl, ob, nx⟩ (some t) nid ⟨v, rd, [], [], [], hyp⟩ = ⟨sl.set t v, ob, nx⟩ := by
 simp only [appE, X9w, U1]
theorem appE_n (sl : List (V Unit)) (ob : List (Nat × Ob Unit)) (nx nid : Nat) (t : Nat) (v : V Unit) (rd : List Nat) (o : Ob Unit) (hyp : Prop) : appE ⟨sl, ob, nx⟩ (some t) nid ⟨v, rd, [o], [], [], hyp⟩ = ⟨sl.set t v, ob ++ [(nid, o)], nx + 1⟩ := by
 simp only [appE, app_new, U1]
theorem appE_u (sl : List (V Unit)) (ob : List (Nat × Ob Unit)) (nx nid : Nat) (v : V Unit) (rd : List Nat) (id : Nat) (rows : List (List (L Unit))) (hyp : Prop) : appE ⟨sl, ob, nx⟩ none nid ⟨v, rd, [], [(id, rows)], [], hyp⟩ = ⟨sl, K0 ob id rows, nx⟩ := by
 simp only [appE, W4q, U1]
end
section
def Z0k {δ : Type} : L δ → Bool
 | .int _ _ | .bool _ | .str _ | .nl | .nilp | .bs _ _ _ => true
 | _ => false
theorem X3b (l : L Value) : Z0k (erL l) = Z0k l := by cases l <;> rfl
theorem X3a {l : L Value} (h : Z0k l = true) (hw : wfL false l) : wfL true l := by
 cases l <;> simp_all [Z0k, wfL]
theorem Y0u {δ : Type} {l : L δ} (h : Z0k l = true) : noOs l = true := by cases l <;> simp_all [Z0k, noOs]
def Z7e {δ : Type} : L δ → Bool
 | .os _ _ _ => true
 | l => Z0k l
theorem Y6h (l : L Value) : Z7e (erL l) = Z7e l := by cases l <;> rfl
theorem Y6g {l : L Value} (h : Z7e l = true) (hw : wfL false l) : wfL true l := by
 cases l <;> simp_all [Z7e, Z0k, wfL]
section
variable {δ : Type}
mutual
def Z2x : L δ → L δ
 | .os v n rows => .bs v n (Z8b rows)
 | .int k n => .int k n
 | .bool b => .bool b
 | .str s => .str s
 | .nl => .nl
 | .nilp => .nilp
 | .bs v n rows => .bs v n rows
 | .ref v i off len => .ref v i off len
 | .ptr v i e j => .ptr v i e j
 | .ip v cells => .ip v cells
 | .fn v f caps => .fn v f caps
def X0t : List (L δ) → List (L δ)
 | [] => []
 | l :: ls => Z2x l :: X0t ls
def Z8b : List (List (L δ)) → List (List (L δ))
 | [] => []
 | r :: rs => X0t r :: Z8b rs
end
theorem X4b : ∀ ls : List (L δ), X0t ls = ls.map Z2x
 | [] => rfl
 | l :: ls => by simp [X0t, X4b ls]
theorem Z9d : ∀ rs : List (List (L δ)), Z8b rs = rs.map (fun r => r.map Z2x)
 | [] => rfl
 | r :: rs => by simp [Z8b, X4b, Z9d rs]
theorem Y2y (rs : List (List (L δ))) : (Z8b rs).length = rs.length := by rw [Z9d, List.length_map]
end
mutual
theorem X9j : ∀ l : L Value, erL (Z2x l) = Z2x (erL l)
 | .os v n rows => by simp only [Z2x, mapL, Y8s rows]
 | .int _ _ | .bool _ | .str _ | .nl | .nilp | .bs _ _ _ | .ref _ _ _ _ | .ptr _ _ _ _ | .ip _ _ | .fn _ _ _ => by simp [Z2x, mapL]
theorem X9m : ∀ ls : List (L Value), mapC (fun _ => ()) (X0t ls) = X0t (mapC (fun _ => ()) ls)
 | [] => rfl
 | l :: ls => by simp only [X0t, mapC, X9m ls, X9j l]
theorem Y8s : ∀ rs : List (List (L Value)), mapR (fun _ => ()) (Z8b rs) = Z8b (mapR (fun _ => ()) rs)
 | [] => rfl
 | r :: rs => by simp only [Z8b, mapR, X9m r, Y8s rs]
end
theorem X5w (l : L Value) : val (Z2x l) = val l := by cases l <;> simp [Z2x, val]
theorem Y3j : ∀ rows : List (List (L Value)), valR (Z8b rows) = valR rows
 | [] => rfl
 | r :: rs => by
  have := Y3j rs
  simp only [valR, Z8b, List.flatten_cons, List.map_append] at this ⊢
  rw [this, X4b, List.map_map]
  congr 1
  exact List.map_congr_left fun l _ => X5w l
theorem X2i (l : L Value) : noOs (Z2x l) = true := by cases l <;> simp [Z2x, noOs]
theorem X5x (l : L Value) : idsL (Z2x l) = idsL l := by cases l <;> simp [Z2x, idsL]
mutual
theorem X4a : ∀ l : L Value, wfL true l → wfL true (Z2x l)
 | .os v n rows, h => by
  simp only [wfL] at h
  obtain ⟨h1, h2, h3⟩ := h
  simp only [Z2x, wfL]
  refine ⟨?_, fun r hr => ?_, X3z rows h3⟩
  ·rcases h1 with ⟨rfl, rfl⟩ | ⟨b, o, c, rfl, k1, k2⟩
   ·exact ⟨none, 0, rfl, Nat.le_refl _, by simp [Z8b, LIM], fun h => absurd rfl h⟩
   ·exact ⟨_, c, by rw [Y2y], by rw [Y2y]; exact k1, by rw [Y2y]; exact k2, fun _ => ⟨_, _, rfl⟩⟩
  ·rw [Z9d] at hr
   obtain ⟨r0, hr0, rfl⟩ := List.mem_map.1 hr
   simpa using h2 r0 hr0
 | .int _ _, h | .bool _, h | .str _, h | .nl, h | .nilp, h | .bs _ _ _, h | .ref _ _ _ _, h | .ptr _ _ _ _, h | .ip _ _, h | .fn _ _ _, h => by simpa [Z2x] using h
theorem X9k : ∀ ls : List (L Value), wfC true ls → wfC true (X0t ls)
 | [], h => h
 | l :: ls, h => by simp only [wfC, X0t] at h ⊢; exact ⟨X4a l h.1, X9k ls h.2⟩
theorem X3z : ∀ rs : List (List (L Value)), wfR true rs → wfR true (Z8b rs)
 | [], h => h
 | r :: rs, h => by simp only [wfR, Z8b] at h ⊢; exact ⟨X9k r h.1, X3z rs h.2⟩
end
def X1c (p : Addr × List Value) (q : OwnE) : Prop := p.1 = ⟨q.1, q.2.1, none⟩ ∧ p.2 = q.2.2.2
mutual
theorem X0s : ∀ l : L Value, wfL true l → ∀ p ∈ immL (Z2x l), p ∈ immL l ∨ ∃ q ∈ ownL l, X1c p q
 | .os v n rows, h, p, hp => by
  simp only [wfL] at h
  obtain ⟨h1, h2, h3⟩ := h
  simp only [Z2x, immL, List.mem_append, Y3j] at hp
  rcases hp with hp | hp
  ·right
   rcases h1 with ⟨rfl, rfl⟩ | ⟨b, o, c, rfl, k1, k2⟩
   ·simp [Z2w] at hp
   ·simp only [Z2w, List.mem_singleton] at hp
    subst hp
    refine ⟨(b, o, c * n, valR rows), by simp [ownL, Y7], rfl, rfl⟩
  ·rcases X0r rows h3 p hp with h | ⟨q, hq, h⟩
   ·exact .inl h
   ·exact .inr ⟨q, by simp only [ownL, List.mem_append]; exact .inr hq, h⟩
 | .int _ _, _, _, hp | .bool _, _, _, hp | .str _, _, _, hp | .nl, _, _, hp | .nilp, _, _, hp | .bs _ _ _, _, _, hp | .ref _ _ _ _, _, _, hp | .ptr _ _ _ _, _, _, hp | .ip _ _, _, _, hp | .fn _ _ _, _, _, hp => by
  left; simpa [Z2x] using hp
theorem X5y : ∀ ls : List (L Value), wfC true ls → ∀ p ∈ immC (X0t ls), p ∈ immC ls ∨ ∃ q ∈ ownC ls, X1c p q
 | [], _, p, hp => .inl hp
 | l :: ls, h, p, hp => by
  simp only [wfC] at h
  simp only [X0t, immC, ownC, List.mem_append] at hp ⊢
  rcases hp with hp | hp
  ·rcases X0s l h.1 p hp with h | ⟨q, hq, h⟩
   ·exact .inl (.inl h)
   ·exact .inr ⟨q, .inl hq, h⟩
  ·rcases X5y ls h.2 p hp with h | ⟨q, hq, h⟩
   ·exact .inl (.inr h)
   ·exact .inr ⟨q, .inr hq, h⟩
theorem X0r : ∀ rs : List (List (L Value)), wfR true rs → ∀ p ∈ immR (Z8b rs), p ∈ immR rs ∨ ∃ q ∈ ownR rs, X1c p q
 | [], _, p, hp => .inl hp
 | r :: rs, h, p, hp => by
  simp only [wfR] at h
  simp only [Z8b, immR, ownR, List.mem_append] at hp ⊢
  rcases hp with hp | hp
  ·rcases X5y r h.1 p hp with h | ⟨q, hq, h⟩
   ·exact .inl (.inl h)
   ·exact .inr ⟨q, .inl hq, h⟩
  ·rcases X0r rs h.2 p hp with h | ⟨q, hq, h⟩
   ·exact .inl (.inr h)
   ·exact .inr ⟨q, .inr hq, h⟩
end
def mapO {α β : Type} (f : α → Option (β × List Nat)) : List α → Option (List β × List Nat)
 | [] => some ([], [])
 | x :: xs => (f x).bind fun y => (mapO f xs).bind fun ys => some (y.1 :: ys.1, y.2 ++ ys.2)
def borL (lk : Lk) : Nat → L Unit → Option (L Unit × List Nat)
 | 0, _ => none
 | k + 1, l => match l with
  | .ref v id off len => (lk id).bind fun o => if ((o.rows.drop off).take len).all (fun r => r.all Z7e) then some (.bs v o.n (Z8b ((o.rows.drop off).take len)), [id]) else none
  | .ptr v id e j => (lk id).bind fun o => (o.rows[e]?).bind fun r => (mapO (borL lk k) (r.drop j)).bind fun p => if p.1.all Z0k then some (.ip v p.1, id :: p.2) else none
  | .fn v f caps => (mapO (borL lk k) caps).bind fun p => some (.fn v f p.1, p.2)
  | .os _ _ _ => none
  | l => some (l, [])
def W6z (W : World) (d : S Value) (p : Addr × List Value) : Prop := p.2 = [] ∨ SubIn p (immS d) ∨ (ImmFact W p ∧ ∃ q ∈ ownS d, q.1 = p.1.block)
structure Bor (W : World) (d : S Value) (l l' : L Value) : Prop where
 val : val l' = val l
 no : noOs l' = true
 free : idsL l' = []
 wf : wfL false l'
 imm : ∀ p ∈ immL l', W6z W d p
theorem Y9z {R : L Value → L Value → Prop} {f : L Unit → Option (L Unit × List Nat)} : ∀ {ls : List (L Value)} {p : List (L Unit) × List Nat}, mapO f (ls.map erL) = some p → (∀ l ∈ ls, ∀ y, f (erL l) = some y → ∃ l', erL l' = y.1 ∧ R l l') →
  ∃ ls', ls'.map erL = p.1 ∧ All2 R ls ls'
 | [], p, h, _ => by cases h; exact ⟨[], rfl, .nil⟩
 | l :: ls, p, h, hr => by
  simp only [List.map_cons, mapO] at h
  obtain ⟨y, hy, h⟩ := bind_some h
  obtain ⟨ys, hys, h⟩ := bind_some h
  cases h
  obtain ⟨l', h1, h2⟩ := hr l (by simp) y hy
  obtain ⟨ls', h3, h4⟩ := Y9z hys (fun l hl => hr l (List.mem_cons_of_mem _ hl))
  exact ⟨l' :: ls', by simp [h1, h3], .cons h2 h4⟩
theorem Y0h {α β : Type} {R : α → β → Prop} : ∀ {xs : List α} {ys : List β}, All2 R xs ys → ∀ y ∈ ys, ∃ x ∈ xs, R x y
 | _, _, .nil, y, hy => by cases hy
 | _, _, .cons h t, y, hy => by
  rcases List.mem_cons.1 hy with rfl | hy
  ·exact ⟨_, by simp, h⟩
  ·obtain ⟨x, hx, hr⟩ := Y0h t y hy
   exact ⟨x, List.mem_cons_of_mem _ hx, hr⟩
theorem Y5u {W : World} {d : S Value} : ∀ {xs ys : List (L Value)}, All2 (Bor W d) xs ys → ys.map val = xs.map val
 | _, _, .nil => rfl
 | _, _, .cons h t => by simp [h.val, Y5u t]
theorem X6a {W : World} {d : S Value} (hg : Good W d) : ∀ (k : Nat) {l : L Value} {p : L Unit × List Nat}, Has d l → borL (look (erS d).ob) k (erL l) = some p → ∃ l', erL l' = p.1 ∧ Bor W d l l'
 | 0, l, p, _, h => by cases h
 | k + 1, l, p, hh, h => by
  have self : noOs l = true → idsL l = [] → ∃ l', erL l' = erL l ∧ Bor W d l l' := fun h1 h2 => ⟨l, rfl, rfl, h1, h2, hh.1, fun p hp => .inr (.inl (hh.2.2.1 p hp))⟩
  cases l with
  | int k n => simp only [mapL, borL, Option.some.injEq] at h; subst h; exact self rfl rfl
  | bool b => simp only [mapL, borL, Option.some.injEq] at h; subst h; exact self rfl rfl
  | str s => simp only [mapL, borL, Option.some.injEq] at h; subst h; exact self rfl rfl
  | nl => simp only [mapL, borL, Option.some.injEq] at h; subst h; exact self rfl rfl
  | nilp => simp only [mapL, borL, Option.some.injEq] at h; subst h; exact self rfl rfl
  | bs v n rows => simp only [mapL, borL, Option.some.injEq] at h; subst h; exact self rfl rfl
  | ip v cells => simp only [mapL, borL, Option.some.injEq] at h; subst h; exact self rfl rfl
  | os v n rows => simp [mapL, borL] at h
  | ref v id off len =>
   simp only [mapL, borL] at h
   obtain ⟨o, ho, h⟩ := bind_some h
   obtain ⟨o', ho', rfl⟩ := U7 ho
   split at h
   ·rename_i hpl
    cases h
    obtain ⟨hlen, hv⟩ := hh.2.1 o' ho'
    have hobs : _ ∧ ∀ r ∈ o'.rows, r.length = o'.n := hg.obs _ (find?_key ho')
    have hsub : ∀ r ∈ (o'.rows.drop off).take len, r ∈ o'.rows := fun r hr => List.mem_of_mem_drop (List.mem_of_mem_take hr)
    have hlr : ((o'.rows.drop off).take len).length = len := by rw [List.length_take, List.length_drop]; omega
    have eR : (((erOb o').rows.drop off).take len) = ((o'.rows.drop off).take len).map (fun r => r.map erL) := by simp [erOb, Z3e, List.map_take, List.map_drop]
    have hplain : ∀ r ∈ (o'.rows.drop off).take len, ∀ l ∈ r, Z7e l = true := by
     rw [eR] at hpl
     simp only [List.all_map, List.all_eq_true, Function.comp_def, Y6h] at hpl
     exact fun r hr l hl => hpl r hr l hl
    have hlim : len ≤ LIM := by
     rcases hobs.1 with ⟨_, h0⟩ | ⟨_, _, _, _, _, h0⟩
     ·simp only at h0; rw [h0] at hlen; simp at hlen; omega
     ·simp only at h0; omega
    have hwfr : wfR true ((o'.rows.drop off).take len) := by
     rw [Z5h]
     exact fun r hr l hl => Y6g (hplain r hr l hl) (Z6v hg ho' (hsub r hr) hl).1
    have himmr : ∀ p ∈ immR (Z8b ((o'.rows.drop off).take len)), W6z W d p := fun p hp => by
     rcases X0r _ hwfr p hp with hp | ⟨q, hq, hfo⟩
     ·rw [Z4r] at hp
      obtain ⟨l, hl, hp⟩ := List.mem_flatMap.1 hp
      obtain ⟨r, hr, hl⟩ := List.mem_flatten.1 hl
      exact .inr (.inl ((Z6v hg ho' (hsub r hr) hl).2.2.1 p hp))
     ·rw [Z0t] at hq
      obtain ⟨l, hl, hq⟩ := List.mem_flatMap.1 hq
      obtain ⟨r, hr, hl⟩ := List.mem_flatten.1 hl
      have hm : q ∈ ownS d := by
       simp only [ownS, List.mem_append]
       exact .inr (List.mem_flatMap.2 ⟨l, mem_tops.2 (.inr (mem_obLeaves.2 ⟨(id, o'), find?_key ho', r, hsub r hr, hl⟩)), hq⟩)
      refine .inr (.inr ⟨fun j u hj => ?_, q, hm, by rw [hfo.1]⟩)
      obtain ⟨arr, ty, h5, _, _, h8⟩ := hg.own _ hm
      rw [hfo.2] at hj
      have := h8 _ _ hj
      rw [hfo.1]
      simp only [World.cell?, h5]
      simpa using this
    refine ⟨.bs v o'.n (Z8b ((o'.rows.drop off).take len)), by rw [eR, ← Z1m, ← Y8s]; rfl, rfl, rfl, rfl, ⟨?_, fun r hr => ?_, X3z _ hwfr⟩, fun p hp => ?_⟩
    rotate_left
    ·rw [Z9d] at hr
     obtain ⟨r0, hr0, rfl⟩ := List.mem_map.1 hr
     rw [List.length_map]
     exact hobs.2 r0 (hsub r0 hr0)
    rotate_left
    ·unfold isSl
     rw [Y2y, hlr]
     rcases hv with ⟨h0, hv⟩ | ⟨b, x, c0, h0, hv⟩
     ·have hr0 : o'.rows = [] := by
       rcases hobs.1 with ⟨_, h1⟩ | ⟨_, _, _, h1, _⟩
       ·exact h1
       ·simp only at h1; rw [h0] at h1; cases h1
      rw [hr0] at hlen
      simp at hlen
      obtain ⟨rfl, rfl⟩ := hlen
      exact ⟨none, 0, hv, Nat.le_refl _, hlim, fun hne => absurd (by simp [Z8b]) hne⟩
     ·have hle0 : o'.rows.length ≤ c0 := by
       rcases hobs.1 with ⟨h7, _⟩ | ⟨_, _, _, h7, h8, _⟩
       ·simp only at h7; rw [h0] at h7; cases h7
       ·simp only at h7 h8; rw [h0] at h7; cases h7; exact h8
      rcases hv with hv | ⟨y, hv, rfl, _⟩
      ·exact ⟨_, _, hv, by omega, hlim, fun _ => ⟨_, _, rfl⟩⟩
      ·exact ⟨_, _, hv, Nat.le_refl _, hlim, fun hne => absurd (by simp [Z8b]) hne⟩
    ·simp only [immL, List.mem_append] at hp
     rcases hp with hp | hp
     ·rcases hv with ⟨h0, hv⟩ | ⟨b, x, c0, h0, hv⟩
      ·rw [hv] at hp; simp [Z2w] at hp
      ·rcases hv with hv | ⟨y, hv, rfl, _⟩
       ·rw [hv] at hp
        simp only [Z2w, List.mem_singleton] at hp
        subst hp
        have hm : (b, x, c0 * o'.n, valR o'.rows) ∈ ownS d := by
         simp only [ownS, List.mem_append]
         left
         exact List.mem_flatMap.2 ⟨(id, o'), find?_key ho', by simp [Y7, h0]⟩
        refine .inr (.inr ⟨fun j u hj => ?_, _, hm, rfl⟩)
        simp only [Y3j] at hj
        have h2 := Z6d hobs.2 off len j hj
        obtain ⟨arr, ty, h5, _, _, h8⟩ := hg.own _ hm
        have := h8 _ _ h2
        simp only [World.cell?, h5]
        simpa [Nat.add_assoc] using this
       ·left
        rw [hv] at hp
        have := X1v hp
        rw [this]
        simp [valR, Z8b]
     ·exact himmr p hp
   ·cases h
  | ptr v id e j =>
   simp only [mapL, borL] at h
   obtain ⟨o, ho, h⟩ := bind_some h
   obtain ⟨o', ho', rfl⟩ := U7 ho
   obtain ⟨r, hr, h⟩ := bind_some h
   obtain ⟨r', hr', rfl⟩ := Y1c hr
   obtain ⟨q, hq, h⟩ := bind_some h
   rw [← List.map_drop] at hq
   have hrm := List.mem_of_getElem? hr'
   obtain ⟨ls', h1, h2⟩ := Y9z (R := Bor W d) hq (fun l hl y hy => X6a hg k (Z6v hg ho' hrm (List.mem_of_mem_drop hl)) hy)
   split at h
   ·rename_i hpl
    cases h
    obtain ⟨b, x, c0, hh0, hv⟩ := hh.2.1 o' ho'
    refine ⟨.ip v ls', by simp [mapL, Z7f, h1], rfl, rfl, rfl, ⟨rfl, ⟨b, _, hv⟩, (Z8n _ _).2 fun l hl => ?_⟩, fun p hp => ?_⟩
    ·obtain ⟨l0, _, hb⟩ := Y0h h2 l hl
     refine X3a ?_ hb.wf
     rw [← h1] at hpl
     simp only [List.all_map, List.all_eq_true, Function.comp_def, X3b] at hpl
     exact hpl l hl
    ·simp only [immL, List.mem_append] at hp
     rcases hp with hp | hp
     ·rw [hv] at hp
      simp only [Z2w, List.mem_singleton] at hp
      subst hp
      have hm : (b, x, c0 * o'.n, valR o'.rows) ∈ ownS d := by
       simp only [ownS, List.mem_append]
       left
       exact List.mem_flatMap.2 ⟨(id, o'), find?_key ho', by simp [Y7, hh0]⟩
      refine .inr (.inr ⟨fun i u hi => ?_, _, hm, rfl⟩)
      simp only [Y5u h2, List.getElem?_map, List.getElem?_drop, Option.map_eq_some_iff] at hi
      obtain ⟨l, hl, rfl⟩ := hi
      have := X6r hg ho' hh0 hr' hl
      simpa [Nat.add_assoc] using this
     ·rw [Z7z] at hp
      obtain ⟨l, hl, hp⟩ := List.mem_flatMap.1 hp
      obtain ⟨l0, _, hb⟩ := Y0h h2 l hl
      exact hb.imm p hp
   ·cases h
  | fn v f caps =>
   simp only [mapL, borL, Z7f] at h
   obtain ⟨q, hq, h⟩ := bind_some h
   cases h
   have hcap : ∀ l ∈ caps, Has d l := fun l hl => by
    obtain ⟨_, hv, hw⟩ := hh.1
    refine ⟨(Z8n _ _).1 hw l hl, (Z9h _ _).1 hh.2.1 l hl, fun p hp => hh.2.2.1 p ?_, fun i hi => hh.2.2.2 i ?_⟩
    ·simp only [immL, Z7z]
     exact List.mem_flatMap.2 ⟨l, hl, hp⟩
    ·simp only [idsL, Y2w]
     exact List.mem_flatMap.2 ⟨l, hl, hi⟩
   obtain ⟨ls', h1, h2⟩ := Y9z (R := Bor W d) hq (fun l hl y hy => X6a hg k (hcap l hl) hy)
   obtain ⟨_, hv, hw⟩ := hh.1
   refine ⟨.fn v f ls', by simp [mapL, Z7f, h1], rfl, rfl, ?_, ⟨rfl, by rw [hv, Y5u h2], (Z8n _ _).2 fun l hl => ?_⟩, fun p hp => ?_⟩
   ·simp only [idsL, Y2w, List.flatMap_eq_nil_iff]
    intro l hl
    obtain ⟨l0, _, hb⟩ := Y0h h2 l hl
    exact hb.free
   ·obtain ⟨l0, _, hb⟩ := Y0h h2 l hl
    exact hb.wf
   ·simp only [immL, Z7z] at hp
    obtain ⟨l, hl, hp⟩ := List.mem_flatMap.1 hp
    obtain ⟨l0, _, hb⟩ := Y0h h2 l hl
    exact hb.imm p hp
mutual
def Z4d {δ : Type} : L δ → Bool
 | .int _ _ | .bool _ | .str _ | .nl | .nilp | .ref _ _ _ _ | .ptr _ _ _ _ => true
 | .os _ _ rows => Z7m rows
 | _ => false
def Y0e {δ : Type} : List (L δ) → Bool
 | [] => true
 | l :: ls => Z4d l && Y0e ls
def Z7m {δ : Type} : List (List (L δ)) → Bool
 | [] => true
 | r :: rs => Y0e r && Z7m rs
end
def W1 {δ : Type} (hd : δ → δ) : Nat → List (L δ) → List (L δ) × List (Nat × Ob δ)
 | _, [] => ([], [])
 | n, .os v m rows :: ls => (.ref v n 0 rows.length :: (W1 hd (n + 1) ls).1, (n, ⟨hd v, m, rows⟩) :: (W1 hd (n + 1) ls).2)
 | n, l :: ls => (l :: (W1 hd n ls).1, (W1 hd n ls).2)
def Y0m {δ : Type} (hd : δ → δ) (n : Nat) : U δ → U δ × List (Nat × Ob δ)
 | .one l => match W1 hd n [l] with
  | (l' :: _, os) => (.one l', os)
  | ([], os) => (.one l, os)
 | .agg ls => (.agg (W1 hd n ls).1, (W1 hd n ls).2)
def Z5e {δ : Type} (hd : δ → δ) : Nat → List (U δ) → List (U δ) × List (Nat × Ob δ)
 | _, [] => ([], [])
 | n, u :: us => ((Y0m hd n u).1 :: (Z5e hd (n + (Y0m hd n u).2.length) us).1, (Y0m hd n u).2 ++ (Z5e hd (n + (Y0m hd n u).2.length) us).2)
def Z4a {δ : Type} (hd : δ → δ) (n : Nat) : V δ → V δ × List (Nat × Ob δ)
 | .u x => (.u (Y0m hd n x).1, (Y0m hd n x).2)
 | .tup xs => (.tup (Z5e hd n xs).1, (Z5e hd n xs).2)
 | .un => (.un, [])
 | .ud => (.ud, [])
end
section
mutual
theorem Z9g {ob : List (Nat × Ob Value)} : ∀ {l : L Value}, idsL l = [] → W7 ob l
 | .int _ _, _ => by simp [W7]
 | .bool _, _ => by simp [W7]
 | .str _, _ => by simp [W7]
 | .nl, _ => by simp [W7]
 | .nilp, _ => by simp [W7]
 | .bs _ _ _, _ => by simp [W7]
 | .os _ _ _, _ => by simp [W7]
 | .ip _ _, _ => by simp [W7]
 | .ref _ _ _ _, h => by simp [idsL] at h
 | .ptr _ _ _ _, h => by simp [idsL] at h
 | .fn _ _ caps, h => by
  simp only [W7]
  exact Y9q (by simpa [idsL] using h)
theorem Y9q {ob : List (Nat × Ob Value)} : ∀ {ls : List (L Value)}, idsC ls = [] → Z3j ob ls
 | [], _ => by simp [Z3j]
 | l :: ls, h => by
  simp only [idsC, List.append_eq_nil_iff] at h
  simp only [Z3j]
  exact ⟨Z9g h.1, Y9q h.2⟩
end
def hdV : Value → Value
 | .slice a _ c => .slice a 0 c
 | v => v
theorem Y1d {δ : Type} (hd : δ → δ) : ∀ (n : Nat) (a b : List (L δ)), W1 hd n (a ++ b) = ((W1 hd n a).1 ++ (W1 hd (n + (W1 hd n a).2.length) b).1, (W1 hd n a).2 ++ (W1 hd (n + (W1 hd n a).2.length) b).2)
 | n, [], b => by simp [W1]
 | n, l :: a, b => by
  have step : ∀ (h : ∀ v m rows, l ≠ .os v m rows), W1 hd n (l :: a ++ b) = ((W1 hd n (l :: a)).1 ++ (W1 hd (n + (W1 hd n (l :: a)).2.length) b).1, (W1 hd n (l :: a)).2 ++ (W1 hd (n + (W1 hd n (l :: a)).2.length) b).2) := by
   intro h
   have e : ∀ ls, W1 hd n (l :: ls) = (l :: (W1 hd n ls).1, (W1 hd n ls).2) := fun ls => by cases l <;> first | rfl | exact absurd rfl (h _ _ _)
   rw [List.cons_append, e, e, Y1d hd n a b]
   simp
  cases l with
  | os v m rows =>
   rw [List.cons_append]
   simp only [W1]
   rw [Y1d hd (n + 1) a b]
   simp [Nat.add_assoc, Nat.add_comm 1]
  | _ => exact step (by intro v m rows h; cases h)
theorem Y7b {δ : Type} (hd : δ → δ) (n : Nat) (u : U δ) : Z1 (Y0m hd n u).1 = (W1 hd n (Z1 u)).1 ∧ (Y0m hd n u).2 = (W1 hd n (Z1 u)).2 := by
 cases u with
 | one l => cases l <;> exact ⟨rfl, rfl⟩
 | agg ls => exact ⟨rfl, rfl⟩
theorem Y4m {δ : Type} (hd : δ → δ) : ∀ (n : Nat) (us : List (U δ)), (Z5e hd n us).1.flatMap Z1 = (W1 hd n (us.flatMap Z1)).1 ∧ (Z5e hd n us).2 = (W1 hd n (us.flatMap Z1)).2
 | n, [] => ⟨rfl, rfl⟩
 | n, u :: us => by
  obtain ⟨h1, h2⟩ := Y7b hd n u
  obtain ⟨h3, h4⟩ := Y4m hd (n + (Y0m hd n u).2.length) us
  simp only [Z5e, List.flatMap_cons, Y1d, h1, h2]
  rw [h2] at h3 h4
  exact ⟨by rw [h3], by rw [h4]⟩
theorem Z8h {δ : Type} (hd : δ → δ) (n : Nat) (v : V δ) : Z3 (Z4a hd n v).1 = (W1 hd n (Z3 v)).1 ∧ (Z4a hd n v).2 = (W1 hd n (Z3 v)).2 := by
 cases v with
 | u x => exact Y7b hd n x
 | tup xs => exact Y4m hd n xs
 | un => exact ⟨rfl, rfl⟩
 | ud => exact ⟨rfl, rfl⟩
theorem Y4n : ∀ (n : Nat) (ls : List (L Value)), W1 (fun _ => ()) n (ls.map erL) = ((W1 hdV n ls).1.map erL, (W1 hdV n ls).2.map (fun p => (p.1, erOb p.2)))
 | n, [] => rfl
 | n, l :: ls => by
  cases l with
  | os v m rows =>
   simp only [List.map_cons, mapL, W1, Y4n (n + 1) ls, Z1m, List.length_map]
   simp [Z3e]
  | _ => simp only [List.map_cons, mapL, W1, Y4n n ls]
theorem X8a (n : Nat) (u : U Value) : Y0m (fun _ => ()) n (erU u) = (erU (Y0m hdV n u).1, (Y0m hdV n u).2.map (fun p => (p.1, erOb p.2))) := by
 cases u with
 | one l =>
  have := Y4n n [l]
  cases l <;> simp only [mapU, mapL, Y0m, W1] <;> simp [Z3e, Z1m]
 | agg ls =>
  simp only [mapU, Y0m]
  rw [Y4n]
theorem X4x : ∀ (n : Nat) (us : List (U Value)), Z5e (fun _ => ()) n (us.map erU) = ((Z5e hdV n us).1.map erU, (Z5e hdV n us).2.map (fun p => (p.1, erOb p.2)))
 | n, [] => rfl
 | n, u :: us => by
  simp only [List.map_cons, Z5e, X8a, List.length_map]
  rw [X4x]
  simp
theorem X2s (n : Nat) (v : V Value) : Z4a (fun _ => ()) n (erV v) = (erV (Z4a hdV n v).1, (Z4a hdV n v).2.map (fun p => (p.1, erOb p.2))) := by
 cases v with
 | u x => simp only [mapV, Z4a, X8a]
 | tup xs => simp only [mapV, Z4a, X4x]
 | un => rfl
 | ud => rfl
theorem Y6b : ∀ (n : Nat) (ls : List (L Value)), (W1 hdV n ls).1.map val = ls.map val
 | n, [] => rfl
 | n, l :: ls => by
  cases l with
  | os v m rows => simp only [W1, List.map_cons, Y6b (n + 1) ls]; rfl
  | _ => simp only [W1, List.map_cons, Y6b n ls]
theorem X8b {n : Nat} {u : U Value} {x : Value} (h : UR u x) : UR (Y0m hdV n u).1 x := by
 cases u with
 | one l => cases l <;> exact h
 | agg ls =>
  simp only [UR, Y0m] at h ⊢
  rw [Y6b]
  exact h
theorem X1q : ∀ (n : Nat) (us : List (U Value)), (Z5e hdV n us).1.length = us.length ∧ ∀ (i : Nat) u', (Z5e hdV n us).1[i]? = some u' → ∃ u k, us[i]? = some u ∧ u' = (Y0m hdV k u).1
 | n, [] => ⟨rfl, fun i u' h => by simp [Z5e] at h⟩
 | n, u :: us => by
  obtain ⟨h1, h2⟩ := X1q (n + (Y0m hdV n u).2.length) us
  refine ⟨by simp [Z5e, h1], fun i u' h => ?_⟩
  cases i with
  | zero =>
   simp only [Z5e, List.getElem?_cons_zero, Option.some.injEq] at h
   exact ⟨u, n, rfl, h.symm⟩
  | succ i =>
   simp only [Z5e, List.getElem?_cons_succ] at h
   simpa using h2 i u' h
theorem X2t {n : Nat} {v : V Value} {x : Value} (h : VR v x) : VR (Z4a hdV n v).1 x := by
 cases v with
 | u y => exact X8b h
 | tup xs =>
  obtain ⟨vs, h1, h2, h3⟩ := h
  obtain ⟨g1, g2⟩ := X1q n xs
  refine ⟨vs, h1, by simp only [g1]; exact h2, fun i u' y hu hy => ?_⟩
  obtain ⟨u, k, hu2, rfl⟩ := g2 i u' hu
  exact X8b (h3 i u y hu2 hy)
 | un => exact h
 | ud => exact h
theorem hdr_hdV (v : Value) (m : Nat) (rows : List (List (L Value))) : Y7 (hdV v) m rows = Y7 v m rows := by
 cases v with
 | slice a n c => cases a <;> rfl
 | _ => rfl
theorem Y0s : ∀ (n : Nat) (ls : List (L Value)), ((W1 hdV n ls).1.flatMap ownL = []) ∧
  ((W1 hdV n ls).2.flatMap (fun p => Y7 p.2.h p.2.n p.2.rows) ++ (X6 (W1 hdV n ls).2).flatMap ownL).Perm (ls.flatMap ownL)
 | n, [] => ⟨rfl, .nil⟩
 | n, l :: ls => by
  have plain : (∀ v m rows, l ≠ .os v m rows) → ((W1 hdV n (l :: ls)).1.flatMap ownL = []) ∧
    ((W1 hdV n (l :: ls)).2.flatMap (fun p => Y7 p.2.h p.2.n p.2.rows) ++ (X6 (W1 hdV n (l :: ls)).2).flatMap ownL).Perm ((l :: ls).flatMap ownL) := by
   intro h
   obtain ⟨h1, h2⟩ := Y0s n ls
   have hl : ownL l = [] := by cases l <;> first | rfl | exact absurd rfl (h _ _ _)
   have e : W1 hdV n (l :: ls) = (l :: (W1 hdV n ls).1, (W1 hdV n ls).2) := by cases l <;> first | rfl | exact absurd rfl (h _ _ _)
   rw [e]
   simp only [List.flatMap_cons, hl, List.nil_append]
   exact ⟨h1, h2⟩
  cases l with
  | os v m rows =>
   obtain ⟨h1, h2⟩ := Y0s (n + 1) ls
   refine ⟨by simp only [W1, List.flatMap_cons]; rw [h1]; rfl, ?_⟩
   classical
   refine List.perm_iff_count.2 fun a => ?_
   have h3 := List.perm_iff_count.1 h2 a
   have e1 : X6 ((n, (⟨hdV v, m, rows⟩ : Ob Value)) :: (W1 hdV (n + 1) ls).2) = rows.flatten ++ X6 (W1 hdV (n + 1) ls).2 := by simp [X6]
   simp only [W1, List.flatMap_cons, e1, List.flatMap_append, List.count_append, hdr_hdV, ownL, Z0t] at h3 ⊢
   omega
  | _ => exact plain (by intro v m rows h; cases h)
theorem Z6m {δ : Type} (hd : δ → δ) : ∀ (n : Nat) (ls : List (L δ)), (W1 hd n ls).2.map (·.1) = List.range' n (W1 hd n ls).2.length
 | n, [] => rfl
 | n, l :: ls => by
  cases l with
  | os v m rows => simp only [W1, List.map_cons, List.length_cons, List.range'_succ, Z6m hd (n + 1) ls]
  | _ => simp only [W1]; exact Z6m hd n ls
theorem Y0t : ∀ (n : Nat) (ls : List (L Value)), (∀ l ∈ (W1 hdV n ls).1, (l ∈ ls ∧ noOs l = true) ∨ ∃ i v m rows, l = .ref v i 0 rows.length ∧ .os v m rows ∈ ls ∧ (i, (⟨hdV v, m, rows⟩ : Ob Value)) ∈ (W1 hdV n ls).2) ∧
  ∀ p ∈ (W1 hdV n ls).2, ∃ v m rows, .os v m rows ∈ ls ∧ p.2 = ⟨hdV v, m, rows⟩
 | n, [] => ⟨by simp [W1], by simp [W1]⟩
 | n, l :: ls => by
  have plain : (∀ v m rows, l ≠ .os v m rows) → _ := fun h => by
   obtain ⟨h1, h2⟩ := Y0t n ls
   have e : W1 hdV n (l :: ls) = (l :: (W1 hdV n ls).1, (W1 hdV n ls).2) := by cases l <;> first | rfl | exact absurd rfl (h _ _ _)
   have hl : noOs l = true := by cases l <;> first | rfl | exact absurd rfl (h _ _ _)
   show (∀ l' ∈ (W1 hdV n (l :: ls)).1, (l' ∈ l :: ls ∧ noOs l' = true) ∨ ∃ i v m rows, l' = .ref v i 0 rows.length ∧ .os v m rows ∈ l :: ls ∧ (i, (⟨hdV v, m, rows⟩ : Ob Value)) ∈ (W1 hdV n (l :: ls)).2) ∧
    ∀ p ∈ (W1 hdV n (l :: ls)).2, ∃ v m rows, .os v m rows ∈ l :: ls ∧ p.2 = ⟨hdV v, m, rows⟩
   rw [e]
   refine ⟨fun l' hl' => ?_, fun p hp => ?_⟩
   ·rcases List.mem_cons.1 hl' with rfl | hl'
    ·exact .inl ⟨by simp, hl⟩
    ·rcases h1 l' hl' with ⟨g1, g2⟩ | ⟨i, v, m, rows, g1, g2, g3⟩
     ·exact .inl ⟨by simp [g1], g2⟩
     ·exact .inr ⟨i, v, m, rows, g1, by simp [g2], g3⟩
   ·obtain ⟨v, m, rows, g1, g2⟩ := h2 p hp
    exact ⟨v, m, rows, by simp [g1], g2⟩
  cases l with
  | os v m rows =>
   obtain ⟨h1, h2⟩ := Y0t (n + 1) ls
   refine ⟨fun l' hl' => ?_, fun p hp => ?_⟩
   ·simp only [W1] at hl'
    rcases List.mem_cons.1 hl' with rfl | hl'
    ·exact .inr ⟨n, v, m, rows, rfl, by simp, by simp [W1]⟩
    ·rcases h1 l' hl' with ⟨g1, g2⟩ | ⟨i, v', m', rows', g1, g2, g3⟩
     ·exact .inl ⟨by simp [g1], g2⟩
     ·exact .inr ⟨i, v', m', rows', g1, by simp [g2], by simp [W1, g3]⟩
   ·simp only [W1] at hp
    rcases List.mem_cons.1 hp with rfl | hp
    ·exact ⟨v, m, rows, by simp, rfl⟩
    ·obtain ⟨v', m', rows', g1, g2⟩ := h2 p hp
     exact ⟨v', m', rows', by simp [g1], g2⟩
  | _ => exact plain (by intro v m rows h; cases h)
end
end Go.Proofs.YtaocimmckbhhbaaGreat.AM
