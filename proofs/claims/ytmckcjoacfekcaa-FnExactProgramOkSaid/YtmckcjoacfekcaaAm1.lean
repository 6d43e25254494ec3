import Derived.Orders
import Derived.WalkKit
/-! A calculus of values: what a piece of code makes, told of values alone. Slices that are only read stand as the lists that they hold ('bs'), slices of the code's own as objects with numbers, or inline ('os').
Definitions: leaves, values, states; what of the world a state tells. -/
namespace Go.Proofs.Ytmckcjoacfekcaa.AM
open Go

/-- A cell's value. 'δ': what is known of it at the machine ('Value'), or nothing ('Unit'). -/
inductive L (δ : Type) : Type where
  | int (k : IntKind) (n : Int)
  | bool (b : Bool)
  | str (s : ByteArray)
  | nl
  | nilp
  | bs (v : δ) (n : Nat) (rows : List (List (L δ)))
  | os (v : δ) (n : Nat) (rows : List (List (L δ)))
  | ref (v : δ) (id off len : Nat)
  | ptr (v : δ) (id e j : Nat)
  | ip (v : δ) (cells : List (L δ))
  | fn (v : δ) (f : FuncId) (caps : List (L δ))

inductive U (δ : Type) : Type where
  | one (l : L δ)
  | agg (ls : List (L δ))

inductive V (δ : Type) : Type where
  | u (x : U δ)
  | tup (xs : List (U δ))
  | un
  | ud

/-- An object of the code's own: a row of elements of n cells each. -/
structure Ob (δ : Type) where
  h : δ
  n : Nat
  rows : List (List (L δ))

structure S (δ : Type) where
  sl : List (V δ)
  ob : List (Nat × Ob δ)
  nx : Nat

section maps
variable {δ ε : Type}
mutual
def mapL (g : δ → ε) : L δ → L ε
  | .int k n => .int k n
  | .bool b => .bool b
  | .str s => .str s
  | .nl => .nl
  | .nilp => .nilp
  | .bs v n rows => .bs (g v) n (mapR g rows)
  | .os v n rows => .os (g v) n (mapR g rows)
  | .ref v id off len => .ref (g v) id off len
  | .ptr v id e j => .ptr (g v) id e j
  | .ip v cells => .ip (g v) (mapC g cells)
  | .fn v f caps => .fn (g v) f (mapC g caps)
def mapC (g : δ → ε) : List (L δ) → List (L ε)
  | [] => []
  | l :: ls => mapL g l :: mapC g ls
def mapR (g : δ → ε) : List (List (L δ)) → List (List (L ε))
  | [] => []
  | r :: rs => mapC g r :: mapR g rs
end
theorem mapC_eq (g : δ → ε) : ∀ ls : List (L δ), mapC g ls = ls.map (mapL g)
  | [] => rfl
  | l :: ls => by simp [mapC, mapC_eq g ls]
theorem mapR_eq (g : δ → ε) : ∀ rs : List (List (L δ)), mapR g rs = rs.map (fun r => r.map (mapL g))
  | [] => rfl
  | r :: rs => by simp [mapR, mapC_eq, mapR_eq g rs]
def mapU (g : δ → ε) : U δ → U ε
  | .one l => .one (mapL g l)
  | .agg ls => .agg (ls.map (mapL g))
def mapV (g : δ → ε) : V δ → V ε
  | .u x => .u (mapU g x)
  | .tup xs => .tup (xs.map (mapU g))
  | .un => .un
  | .ud => .ud
def mapOb (g : δ → ε) (o : Ob δ) : Ob ε := ⟨g o.h, o.n, o.rows.map (fun r => r.map (mapL g))⟩
def mapS (g : δ → ε) (s : S δ) : S ε := ⟨s.sl.map (mapV g), s.ob.map (fun p => (p.1, mapOb g p.2)), s.nx⟩
end maps

/-- What stands at the machine is forgotten. -/
abbrev erL : L Value → L Unit := mapL (fun _ => ())
abbrev erU : U Value → U Unit := mapU (fun _ => ())
abbrev erV : V Value → V Unit := mapV (fun _ => ())
abbrev erOb : Ob Value → Ob Unit := mapOb (fun _ => ())
abbrev erS : S Value → S Unit := mapS (fun _ => ())

/-- The machine's value of a leaf. -/
def val : L Value → Value
  | .int k n => .int k n
  | .bool b => .bool b
  | .str s => .string s
  | .nl => .slice none 0 0
  | .nilp => .pointer none
  | .bs v _ _ => v
  | .os v _ _ => v
  | .ref v _ _ _ => v
  | .ptr v _ _ _ => v
  | .ip v _ => v
  | .fn v _ _ => v

def valR (rows : List (List (L Value))) : List Value := rows.flatten.map val

/-- The blocks that the code owns, with their sizes and their first cells. -/
abbrev OwnE := Nat × Nat × Nat × List Value
def hdrOwn (v : Value) (n : Nat) (rows : List (List (L Value))) : List OwnE :=
  match v with
  | .slice (some a) _ c => [(a.block, a.off, c * n, valR rows)]
  | _ => []
mutual
def ownL : L Value → List OwnE
  | .os v n rows => hdrOwn v n rows ++ ownR rows
  | _ => []
def ownC : List (L Value) → List OwnE
  | [] => []
  | l :: ls => ownL l ++ ownC ls
def ownR : List (List (L Value)) → List OwnE
  | [] => []
  | r :: rs => ownC r ++ ownR rs
end
theorem ownC_eq : ∀ ls, ownC ls = ls.flatMap ownL
  | [] => rfl
  | l :: ls => by simp [ownC, ownC_eq ls]
theorem ownR_eq : ∀ rs, ownR rs = rs.flatten.flatMap ownL
  | [] => rfl
  | r :: rs => by simp [ownR, ownR_eq rs, ownC_eq, List.flatMap_append]

/-- What lies in memory and is never written: addresses and cells. -/
def hdrImm (v : Value) (cells : List Value) : List (Addr × List Value) :=
  match v with
  | .slice (some a) _ _ => [(a, cells)]
  | .pointer (some a) => [(a, cells)]
  | _ => []
mutual
def immL : L Value → List (Addr × List Value)
  | .bs v _ rows => hdrImm v (valR rows) ++ immR rows
  | .os _ _ rows => immR rows
  | .ip v cells => hdrImm v (cells.map val) ++ immC cells
  | .fn _ _ caps => immC caps
  | _ => []
def immC : List (L Value) → List (Addr × List Value)
  | [] => []
  | l :: ls => immL l ++ immC ls
def immR : List (List (L Value)) → List (Addr × List Value)
  | [] => []
  | r :: rs => immC r ++ immR rs
end
theorem immC_eq : ∀ ls, immC ls = ls.flatMap immL
  | [] => rfl
  | l :: ls => by simp [immC, immC_eq ls]
theorem immR_eq : ∀ rs, immR rs = rs.flatten.flatMap immL
  | [] => rfl
  | r :: rs => by simp [immR, immR_eq rs, immC_eq, List.flatMap_append]

/-- No row is longer. -/
def LIM : Nat := 140737488355328
/-- A leaf stands at the machine as it says. 'nest': inside a row that is read, or inline: no numbers of objects there. -/
def isSl (v : Value) (rows : List (List (L Value))) : Prop :=
  ∃ a c, v = .slice a rows.length c ∧ rows.length ≤ c ∧ rows.length ≤ LIM ∧ (rows ≠ [] → ∃ b o, a = some ⟨b, o, none⟩)
def isOwn (v : Value) (rows : List (List (L Value))) : Prop :=
  (v = .slice none 0 0 ∧ rows = []) ∨ ∃ b o c, v = .slice (some ⟨b, o, none⟩) rows.length c ∧ rows.length ≤ c ∧ rows.length ≤ LIM
mutual
def wfL (nest : Bool) : L Value → Prop
  | .bs v n rows => isSl v rows ∧ (∀ r ∈ rows, r.length = n) ∧ wfR true rows
  | .os v n rows => isOwn v rows ∧ (∀ r ∈ rows, r.length = n) ∧ wfR true rows
  | .ref v _ _ _ => nest = false ∧ ∃ a m c, v = .slice a m c
  | .ptr v _ _ _ => nest = false ∧ ∃ a, v = .pointer a
  | .ip v cells => nest = false ∧ (∃ b o, v = .pointer (some ⟨b, o, none⟩)) ∧ wfC true cells
  | .fn v f caps => nest = false ∧ v = .func (.func f) #[] (caps.map val).toArray ∧ wfC false caps
  | _ => True
def wfC (nest : Bool) : List (L Value) → Prop
  | [] => True
  | l :: ls => wfL nest l ∧ wfC nest ls
def wfR (nest : Bool) : List (List (L Value)) → Prop
  | [] => True
  | r :: rs => wfC nest r ∧ wfR nest rs
end
theorem wfC_iff (nest : Bool) : ∀ ls, wfC nest ls ↔ ∀ l ∈ ls, wfL nest l
  | [] => by simp [wfC]
  | l :: ls => by simp [wfC, wfC_iff nest ls]
theorem wfR_iff (nest : Bool) : ∀ rs, wfR nest rs ↔ ∀ r ∈ rs, ∀ l ∈ r, wfL nest l
  | [] => by simp [wfR]
  | r :: rs => by simp [wfR, wfR_iff nest rs, wfC_iff]

/-- A number of an object leads where it says, if there is such an object. -/
def look {δ : Type} (ob : List (Nat × Ob δ)) (id : Nat) : Option (Ob δ) := (ob.find? (fun p => p.1 == id)).map (·.2)
mutual
def refOk (ob : List (Nat × Ob Value)) : L Value → Prop
  | .ref v id off len => ∀ o, look ob id = some o → off + len ≤ o.rows.length ∧ ((o.h = .slice none 0 0 ∧ v = .slice none 0 0) ∨
      ∃ b x c0, o.h = .slice (some ⟨b, x, none⟩) 0 c0 ∧ (v = .slice (some ⟨b, x + off * o.n, none⟩) len (c0 - off) ∨ ∃ y, v = .slice (some ⟨b, y, none⟩) 0 0 ∧ len = 0 ∧ 0 < off ∧ y ≤ x + c0 * o.n))
  | .ptr v id e j => ∀ o, look ob id = some o → ∃ b x c0, o.h = .slice (some ⟨b, x, none⟩) 0 c0 ∧ v = .pointer (some ⟨b, x + (e * o.n + j), none⟩)
  | .fn _ _ caps => refOkC ob caps
  | _ => True
def refOkC (ob : List (Nat × Ob Value)) : List (L Value) → Prop
  | [] => True
  | l :: ls => refOk ob l ∧ refOkC ob ls
end
theorem refOkC_iff (ob) : ∀ ls, refOkC ob ls ↔ ∀ l ∈ ls, refOk ob l
  | [] => by simp [refOkC]
  | l :: ls => by simp [refOkC, refOkC_iff ob ls]

def leavesU {δ : Type} : U δ → List (L δ)
  | .one l => [l]
  | .agg ls => ls
def leavesV {δ : Type} : V δ → List (L δ)
  | .u x => leavesU x
  | .tup xs => xs.flatMap leavesU
  | .un => []
  | .ud => []
def obLeaves {δ : Type} (ob : List (Nat × Ob δ)) : List (L δ) := ob.flatMap (fun p => p.2.rows.flatten)
def tops {δ : Type} (s : S δ) : List (L δ) := s.sl.flatMap leavesV ++ obLeaves s.ob

def ownS (d : S Value) : List OwnE := d.ob.flatMap (fun p => hdrOwn p.2.h p.2.n p.2.rows) ++ (tops d).flatMap ownL
def immS (d : S Value) : List (Addr × List Value) := (tops d).flatMap immL

def OwnFact (W : World) (p : OwnE) : Prop :=
  ∃ arr ty, W.heap[p.1]? = some (.cells arr ty (0, 0)) ∧ p.2.1 + p.2.2.1 ≤ arr.size ∧ p.2.2.2.length ≤ p.2.2.1 ∧ ∀ (j : Nat) v, p.2.2.2[j]? = some v → arr[p.2.1 + j]? = some v
def ImmFact (W : World) (p : Addr × List Value) : Prop :=
  ∀ (j : Nat) v, p.2[j]? = some v → W.cell? ⟨p.1.block, p.1.off + j, none⟩ = some v

mutual
/-- The numbers of objects that a leaf names. -/
def idsL {δ : Type} : L δ → List Nat
  | .ref _ id _ _ => [id]
  | .ptr _ id _ _ => [id]
  | .fn _ _ caps => idsC caps
  | _ => []
def idsC {δ : Type} : List (L δ) → List Nat
  | [] => []
  | l :: ls => idsL l ++ idsC ls
end
theorem idsC_eq {δ : Type} : ∀ ls : List (L δ), idsC ls = ls.flatMap idsL
  | [] => rfl
  | l :: ls => by simp [idsC, idsC_eq ls]
/-- A number that a state names. -/
def Knows {δ : Type} (d : S δ) (i : Nat) : Prop := (∃ l ∈ tops d, i ∈ idsL l) ∨ i ∈ d.ob.map (·.1)
/-- What a state tells of the world. -/
structure Good (W : World) (d : S Value) : Prop where
  wf : ∀ l ∈ tops d, wfL false l ∧ refOk d.ob l
  obs : ∀ p ∈ d.ob, ((p.2.h = .slice none 0 0 ∧ p.2.rows = []) ∨ ∃ b x c, p.2.h = .slice (some ⟨b, x, none⟩) 0 c ∧ p.2.rows.length ≤ c ∧ p.2.rows.length ≤ LIM) ∧ ∀ r ∈ p.2.rows, r.length = p.2.n
  ids : (d.ob.map (·.1)).Nodup
  own : ∀ p ∈ ownS d, OwnFact W p
  nodup : ((ownS d).map (·.1)).Nodup
  imm : ∀ p ∈ immS d, p.2 ≠ [] → ImmFact W p ∧ ∀ q ∈ ownS d, q.1 ≠ p.1.block

/-- A value at the machine. -/
def UR : U Value → Value → Prop
  | .one l, x => x = val l
  | .agg ls, x => x = .agg (ls.map val).toArray
def VR : V Value → Value → Prop
  | .u x, v => UR x v
  | .tup xs, v => ∃ vs : List Value, v = .tuple vs.toArray ∧ vs.length = xs.length ∧ ∀ (i : Nat) x y, xs[i]? = some x → vs[i]? = some y → UR x y
  | .un, _ => True
  | .ud, v => v = undef

end Go.Proofs.Ytmckcjoacfekcaa.AM
