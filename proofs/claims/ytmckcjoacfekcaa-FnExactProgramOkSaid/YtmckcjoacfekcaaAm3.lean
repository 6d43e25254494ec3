import Derived.Test.YtmckcjoacfekcaaAm2
import Derived.Laws.CopyRow
/-! The calculus, third part: types, operands, and what an operation makes, as a function. -/
namespace Go.Proofs.Ytmckcjoacfekcaa.AM
open Go

/-- What a variable holds at first. -/
inductive Z where
  | int (k : IntKind) (n : Int)
  | bool (b : Bool)
  | str (s : ByteArray)
  | nl
  | nilp
def zL {δ : Type} : Z → L δ
  | .int k n => .int k n
  | .bool b => .bool b
  | .str s => .str s
  | .nl => .nl
  | .nilp => .nilp
def zV : Z → Value
  | .int k n => .int k n
  | .bool b => .bool b
  | .str s => .string s
  | .nl => .slice none 0 0
  | .nilp => .pointer none
def zOf : Value → Option Z
  | .int k n => some (.int k n)
  | .bool b => some (.bool b)
  | .string s => some (.str s)
  | .slice none 0 0 => some .nl
  | .pointer none => some .nilp
  | _ => none
def zsOf : List Value → Option (List Z)
  | [] => some []
  | v :: vs => match zOf v, zsOf vs with
    | some z, some zs => some (z :: zs)
    | _, _ => none
theorem zOf_eq {v : Value} {z : Z} (h : zOf v = some z) : zV z = v := by
  unfold zOf at h
  split at h <;> first | (cases h; rfl) | cases h
theorem zsOf_eq : ∀ {vs : List Value} {zs : List Z}, zsOf vs = some zs → zs.map zV = vs
  | [], zs, h => by cases h; rfl
  | v :: vs, zs, h => by
    unfold zsOf at h
    cases hz : zOf v with
    | none => rw [hz] at h; cases h
    | some z =>
      cases hzs : zsOf vs with
      | none => rw [hz, hzs] at h; cases h
      | some zs' =>
        rw [hz, hzs] at h
        cases h
        simp [zOf_eq hz, zsOf_eq hzs]
theorem val_zL (z : Z) : val (zL z) = zV z := by cases z <;> rfl
theorem er_zL (z : Z) : erL (zL z) = zL z := by cases z <;> rfl
theorem own_zL (z : Z) : ownL (zL z) = [] := by cases z <;> rfl
theorem imm_zL (z : Z) : immL (zL z) = [] := by cases z <;> rfl
theorem wf_zL (z : Z) (ns : Bool) : wfL ns (zL z) := by cases z <;> simp [zL, wfL]
theorem refOk_zL (z : Z) (ob) : refOk ob (zL z) := by cases z <;> simp [zL, refOk]
theorem noOs_zL {δ : Type} (z : Z) : noOs (zL z : L δ) = true := by cases z <;> rfl

inductive TK where
  | bool | int (k : IntKind) | str | slice | struct | ptr | other
structure TI where
  kd : TK
  agg : Bool
  size : Nat
  bytes : Nat
  zero : List Z
  fields : List (Nat × TypeId)
  elem : TypeId
  places : List (Nat × Nat)
def kdD : TypeDesc → TK
  | .bool => .bool
  | .int k => .int k
  | .string => .str
  | .slice _ => .slice
  | .struct _ => .struct
  | .pointer _ => .ptr
  | _ => .other
def isAggD : TypeDesc → Bool
  | .struct _ | .array _ _ => true
  | _ => false
def fieldsD : TypeDesc → List (Nat × TypeId)
  | .struct fs => fs.toList.map fun f => (f.offset, f.type)
  | _ => []
def elemD : TypeDesc → TypeId
  | .slice e => e
  | _ => 0
def placesL (P : Program) : List Field → Option (List (Nat × Nat))
  | [] => some []
  | f :: fs => match P.info? f.type, placesL P fs with
    | some i, some ps => some ((f.offset, i.size) :: ps)
    | _, _ => none
def placesD (P : Program) : TypeDesc → Option (List (Nat × Nat))
  | .struct fs => placesL P fs.toList
  | _ => some []
/-- What is asked of a type. -/
def tiOf (P : Program) (t : TypeId) : Option TI :=
  match P.info? t, P.underlying t with
  | some i, some d => match i.zero with
    | some z => match zsOf z.cells.toList with
      | some zs => match placesD P d with
        | some ps => some { kd := kdD d, agg := isAggD d, size := i.size, bytes := i.bytes, zero := zs, fields := fieldsD d, elem := elemD d, places := ps }
        | none => none
      | none => none
    | none => none
  | _, _ => none
theorem tiOf_spec {P : Program} {t : TypeId} {i : TI} (h : tiOf P t = some i) : ∃ info d z, P.info? t = some info ∧ P.underlying t = some d ∧ info.zero = some z ∧ i.zero.map zV = z.cells.toList ∧
    i.kd = kdD d ∧ i.agg = isAggD d ∧ i.size = info.size ∧ i.bytes = info.bytes ∧ i.fields = fieldsD d ∧ i.elem = elemD d ∧ placesD P d = some i.places := by
  unfold tiOf at h
  split at h
  · rename_i info d hi hu
    split at h
    · rename_i z hz
      split at h
      · rename_i zs hzs
        split at h
        · rename_i ps hps
          cases h
          exact ⟨info, d, z, hi, hu, hz, zsOf_eq hzs, rfl, rfl, rfl, rfl, rfl, rfl, hps⟩
        · cases h
      · cases h
    · cases h
  · cases h

/-- An effect: the slot's value, the objects that are asked, new ones, those whose rows turn, those that go. -/
structure Eff where
  v : V Unit
  rd : List Nat := []
  news : List (Ob Unit) := []
  upd : List (Nat × List (List (L Unit))) := []
  del : List Nat := []
  hyp : Prop := True
def updP {δ : Type} (upd : List (Nat × List (List (L δ)))) (p : Nat × Ob δ) : Nat × Ob δ := match upd.lookup p.1 with | some rows => (p.1, ⟨p.2.h, p.2.n, rows⟩) | none => p
theorem updP_nil {δ : Type} : (updP [] : Nat × Ob δ → _) = id := rfl
def app {δ : Type} (s : S δ) (dst : Option Nat) (nid : Nat) (v : V δ) (news : List (Ob δ)) (upd : List (Nat × List (List (L δ)))) (del : List Nat) : S δ :=
  setSl { s with ob := ((s.ob.filter (fun p => !del.contains p.1)).map (updP upd)) ++
    (news.zipIdx nid).map (fun q => (q.2, q.1)), nx := s.nx + news.length } dst v
def appE (s : S Unit) (dst : Option Nat) (nid : Nat) (e : Eff) : S Unit := app s dst nid e.v e.news e.upd e.del

abbrev Env := Operand → Option (V Unit)
abbrev Lk := Nat → Option (Ob Unit)
def cstL {δ : Type} : Value → Option (L δ)
  | .int k n => some (.int k n)
  | .bool b => some (.bool b)
  | .string s => some (.str s)
  | .slice none 0 0 => some .nl
  | .pointer none => some .nilp
  | _ => none
def cstC {δ : Type} : List Value → Option (List (L δ))
  | [] => some []
  | v :: vs => match cstL v, cstC vs with
    | some l, some ls => some (l :: ls)
    | _, _ => none
def cst {δ : Type} : Value → Option (U δ)
  | .agg cs => (cstC cs.toList).map .agg
  | v => (cstL v).map .one
/-- An operand's value. -/
def evV {δ : Type} (fv : FuncId → δ) (sl : List (V δ)) : Operand → Option (V δ)
  | .tmp t => sl[t]?
  | .const v => (cst v).map .u
  | .func f => some (.u (.one (.fn (fv f) f [])))
  | .global _ => none
def fvD (f : FuncId) : Value := .func (.func f) #[] #[]
abbrev evA (s : S Unit) : Env := evV (fun _ => ()) s.sl
abbrev evD (d : S Value) : Operand → Option (V Value) := evV fvD d.sl

theorem cstL_er {v : Value} : (cstL v : Option (L Value)).map erL = cstL v := by
  unfold cstL
  split <;> rfl
theorem cstC_er : ∀ {vs : List Value}, (cstC vs : Option (List (L Value))).map (List.map erL) = cstC vs
  | [] => rfl
  | v :: vs => by
    unfold cstC
    rw [← cstL_er (v := v), ← cstC_er (vs := vs)]
    cases (cstL v : Option (L Value)) <;> cases (cstC vs : Option (List (L Value))) <;> rfl
theorem cst_er (v : Value) : (cst v : Option (U Value)).map erU = cst v := by
  unfold cst
  split
  · rw [← cstC_er]
    cases (cstC _ : Option (List (L Value))) <;> rfl
  · rw [← cstL_er]
    cases (cstL _ : Option (L Value)) <;> rfl
theorem evA_er (d : S Value) (x : Operand) : evA (erS d) x = (evD d x).map erV := by
  cases x with
  | tmp t => simp [evV, erS, mapS, List.getElem?_map]
  | const v =>
    simp only [evV]
    rw [← cst_er]
    cases (cst v : Option (U Value)) <;> rfl
  | func f => rfl
  | global g => rfl
theorem cstL_val {v : Value} {l : L Value} (h : cstL v = some l) : val l = v ∧ ownL l = [] ∧ immL l = [] ∧ (∀ ns, wfL ns l) ∧ (∀ ob, refOk ob l) ∧ idsL l = [] := by
  unfold cstL at h
  split at h <;> first | (cases h; exact ⟨rfl, rfl, rfl, fun _ => by simp [wfL], fun _ => by simp [refOk], rfl⟩) | cases h
theorem cstC_val : ∀ {vs : List Value} {ls : List (L Value)}, cstC vs = some ls → ls.map val = vs ∧ ∀ l ∈ ls, ownL l = [] ∧ immL l = [] ∧ (∀ ns, wfL ns l) ∧ (∀ ob, refOk ob l) ∧ idsL l = []
  | [], ls, h => by cases h; simp
  | v :: vs, ls, h => by
    unfold cstC at h
    cases h1 : (cstL v : Option (L Value)) with
    | none => rw [h1] at h; cases h
    | some l =>
      cases h2 : (cstC vs : Option (List (L Value))) with
      | none => rw [h1, h2] at h; cases h
      | some ls' =>
        rw [h1, h2] at h
        cases h
        have a := cstL_val h1
        have b := cstC_val h2
        refine ⟨by simp [a.1, b.1], fun l hl => ?_⟩
        rcases List.mem_cons.1 hl with rfl | hl
        · exact a.2
        · exact b.2 l hl
/-- A leaf that a state has, or that needs nothing. -/
def Has (d : S Value) (l : L Value) : Prop := wfL false l ∧ refOk d.ob l ∧ (∀ p ∈ immL l, SubIn p (immS d)) ∧ ∀ i ∈ idsL l, Knows d i
theorem has_top {W : World} {d : S Value} (h : Good W d) {l : L Value} (hl : l ∈ tops d) : Has d l :=
  ⟨(h.wf l hl).1, (h.wf l hl).2, fun p hp => .of_mem (List.mem_flatMap.2 ⟨l, hl, hp⟩), fun i hi => .inl ⟨l, hl, hi⟩⟩
theorem evD_ok {W : World} {d : S Value} {a : Act} (h : Good W d) (hs : SlR d a) {x : Operand} {v : V Value} (hv : evD d x = some v) : VR v (a.eval x) ∧ ∀ l ∈ leavesV v, Has d l := by
  cases x with
  | tmp t =>
    simp only [evV] at hv
    refine ⟨hs.2 t v hv, fun l hl => has_top h (mem_tops.2 (.inl ⟨v, List.mem_of_getElem? hv, hl⟩))⟩
  | const c =>
    simp only [evV, Option.map_eq_some_iff] at hv
    obtain ⟨u, hu, rfl⟩ := hv
    unfold cst at hu
    split at hu
    · rw [Option.map_eq_some_iff] at hu
      obtain ⟨ls, hls, rfl⟩ := hu
      have a := cstC_val hls
      refine ⟨?_, fun l hl => ?_⟩
      · simp [VR, UR, Act.eval, a.1]
      · have b := a.2 l hl
        exact ⟨b.2.2.1 _, b.2.2.2.1 _, fun p hp => (by rw [b.2.1] at hp; cases hp), fun i hi => (by rw [b.2.2.2.2] at hi; cases hi)⟩
    · rw [Option.map_eq_some_iff] at hu
      obtain ⟨l, hl, rfl⟩ := hu
      have a := cstL_val hl
      refine ⟨by simp [VR, UR, Act.eval, a.1], fun l' hl' => ?_⟩
      simp only [leavesV, leavesU, List.mem_singleton] at hl'
      subst hl'
      exact ⟨a.2.2.2.1 _, a.2.2.2.2.1 _, fun p hp => (by rw [a.2.2.1] at hp; cases hp), fun i hi => (by rw [a.2.2.2.2.2] at hi; cases hi)⟩
  | func f =>
    simp only [evV, Option.some.injEq] at hv
    subst hv
    refine ⟨rfl, fun l hl => ?_⟩
    simp only [leavesV, leavesU, List.mem_singleton] at hl
    subst hl
    exact ⟨by simp [wfL, wfC, fvD], by simp [refOk, refOkC], fun p hp => (by simp [immL, immC] at hp), fun i hi => (by simp [idsL, idsC] at hi)⟩
  | global g => simp [evV] at hv

def uO {δ : Type} : Option (V δ) → Option (U δ)
  | some (.u x) => some x
  | _ => none
def lO {δ : Type} : Option (V δ) → Option (L δ)
  | some (.u (.one l)) => some l
  | _ => none
end Go.Proofs.Ytmckcjoacfekcaa.AM
