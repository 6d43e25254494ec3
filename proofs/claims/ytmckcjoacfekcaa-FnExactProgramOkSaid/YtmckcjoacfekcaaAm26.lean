import Derived.Test.YtmckcjoacfekcaaAm25
import Derived.IntWalk
/-! The calculus, twenty-sixth part: one rule for each operation, on states as they are written down. -/
namespace Go.Proofs.Ytmckcjoacfekcaa.AM
open Go

section
variable {P : Program}
class PlainY (Y : Sys P) : Prop where
  h : ∀ {o : Oper} {s : S Unit} {nid : Nat} {e : Eff}, opF P o.op (evA s) (look s.ob) nid = some e → Y.E o s nid e
instance : PlainY (sysC P) := ⟨fun h => .inl h⟩
/-- What is asked: pr = 1: nothing. -/
structure Rd (pr : Nat) (s : S Unit) (rd : List Nat) : Prop where
  no : pr = 1 → rd = []
  is : ∀ id ∈ rd, look s.ob id ≠ none
theorem rd0 {pr : Nat} {s : S Unit} : Rd pr s [] := ⟨fun _ => rfl, fun _ h => by cases h⟩
theorem rd1 {pr id : Nat} {s : S Unit} {o : Ob Unit} (hp : Nat.beq pr 1 = false) (h : look s.ob id = some o) : Rd pr s [id] where
  no := by rintro rfl; cases hp
  is := fun i hi => by simp only [List.mem_singleton] at hi; rw [hi, h]; simp
/-- An operation's step. pr = 0: any; 1: only a slot is set, no object is asked; 2: only a slot is set. -/
def aopK (Y : Sys P) (pr : Nat) (o : Oper) (s : S Unit) (K : S Unit → Prop) : Prop :=
  ∃ e, (pr ≠ 0 → opF P o.op (evA s) (look s.ob) s.nx = some e ∧ e.news = [] ∧ e.upd = [] ∧ e.del = [] ∧ Rd pr s e.rd) ∧ Y.E o s s.nx e ∧ ((pr = 0 → e.hyp) → K (appE s o.dst s.nx e))
variable {Y : Sys P} [PlainY Y]
omit [PlainY Y] in
theorem n_ {ops rest : List Oper} {dst : Option Nat} {op : Op} {ty : TypeId} {pos : String} {aft : Array Edge} {s : S Unit} {K : S Unit → Prop}
    (h : aopK Y 0 ⟨dst, op, ty, pos, aft, none⟩ s (fun s' => awpOps Y ops rest s' K)) : awpOps Y ops (⟨dst, op, ty, pos, aft, none⟩ :: rest) s K := by
  obtain ⟨e, _, h1, h2⟩ := h
  exact ⟨e, h1, fun h => h2 fun _ => h⟩
theorem aopK_r {pr : Nat} {o : Oper} {s : S Unit} {K : S Unit → Prop} {v : V Unit} {rd : List Nat} {hyp : Prop} (h : opF P o.op (evA s) (look s.ob) s.nx = some ⟨v, rd, [], [], [], hyp⟩) (hrd : Rd pr s rd)
    (hK : (pr = 0 → hyp) → K (appE s o.dst s.nx ⟨v, rd, [], [], [], hyp⟩)) : aopK Y pr o s K :=
  ⟨_, fun _ => ⟨h, rfl, rfl, rfl, hrd⟩, PlainY.h h, hK⟩
theorem aopK_0 {o : Oper} {s : S Unit} {K : S Unit → Prop} {e : Eff} (h : opF P o.op (evA s) (look s.ob) s.nx = some e) (hK : e.hyp → K (appE s o.dst s.nx e)) : aopK Y 0 o s K :=
  ⟨e, fun h => absurd rfl h, PlainY.h h, fun h => hK (h rfl)⟩
variable {pr N nx t : Nat} {asg : Asg} {oa : OAsg} {ty : TypeId} {pos : String} {aft : Array Edge} {K : S Unit → Prop}
theorem lO_ev {x : Operand} {l : L Unit} (h : ev N asg x = some (.u (.one l))) : lO (evA (St N asg oa nx) x) = some l := by rw [ev_ok h]; rfl
theorem uO_ev {x : Operand} {u : U Unit} (h : ev N asg x = some (.u u)) : uO (evA (St N asg oa nx) x) = some u := by rw [ev_ok h]; rfl

theorem x_mv {x : Operand} {v : V Unit} (hv : ev N asg x = some v) (hn : noOsV v = true) (hK : K (St N ((t, v) :: asg) oa nx)) : aopK Y pr ⟨some t, .move x, ty, pos, aft, none⟩ (St N asg oa nx) K :=
  aopK_r (v := v) (rd := []) (hyp := True) (by simp only [opF, mvF, ev_ok hv, hn, if_true]) rd0 (fun _ => by rw [St_pure]; exact hK)
theorem x_as {x : Operand} {v : V Unit} (hv : ev N asg x = some v) (hn : noOsV v = true) (hK : K (St N ((t, v) :: asg) oa nx)) : aopK Y pr ⟨some t, .assign x, ty, pos, aft, none⟩ (St N asg oa nx) K :=
  aopK_r (v := v) (rd := []) (hyp := True) (by simp only [opF, mvF, ev_ok hv, hn, if_true]) rd0 (fun _ => by rw [St_pure]; exact hK)
theorem x_pk {c x y : Operand} {b : Bool} {v : V Unit} (hc : ev N asg c = some (.u (.one (.bool b)))) (hv : (match b with | true => ev N asg x | false => ev N asg y) = some v) (hn : noOsV v = true)
    (hK : K (St N ((t, v) :: asg) oa nx)) : aopK Y pr ⟨some t, .pick c x y, ty, pos, aft, none⟩ (St N asg oa nx) K :=
  aopK_r (v := v) (rd := []) (hyp := True) (by
    simp only [opF, pickF, lO_ev hc]
    cases b
    · simp only [mvF, Bool.false_eq_true, if_false, ev_ok hv, hn, if_true]
    · simp only [mvF, if_true, ev_ok hv, hn]) rd0 (fun _ => by rw [St_pure]; exact hK)
theorem x_bin {op : BinOp} {tt t2 : TypeId} {x y : Operand} {i : TI} {l m z : L Unit} (ht : tiOf P tt = some i) (h1 : ev N asg x = some (.u (.one l))) (h2 : ev N asg y = some (.u (.one m))) (hb : binF op i l m = some z)
    (hK : K (St N ((t, .u (.one z)) :: asg) oa nx)) : aopK Y pr ⟨some t, .binOp op tt x y t2, ty, pos, aft, none⟩ (St N asg oa nx) K :=
  aopK_r (v := one1 z) (rd := []) (hyp := True) (by simp only [opF, biE, ht, lO_ev h1, lO_ev h2, hb, Option.map_some]) rd0 (fun _ => by rw [St_pure]; exact hK)
theorem x_un {op : UnOp} {tt : TypeId} {x : Operand} {l z : L Unit} (h1 : ev N asg x = some (.u (.one l))) (hb : unF op l = some z)
    (hK : K (St N ((t, .u (.one z)) :: asg) oa nx)) : aopK Y pr ⟨some t, .unOp op tt x, ty, pos, aft, none⟩ (St N asg oa nx) K :=
  aopK_r (v := one1 z) (rd := []) (hyp := True) (by simp only [opF, unE, lO_ev h1, hb, Option.map_some]) rd0 (fun _ => by rw [St_pure]; exact hK)
theorem x_cvi {ts td : TypeId} {x : Operand} {i j : TI} {k k' : IntKind} {n : Int} (ht : tiOf P ts = some i) (ht2 : tiOf P td = some j) (hk : j.kd = .int k) (h1 : ev N asg x = some (.u (.one (.int k' n))))
    (hK : K (St N ((t, .u (.one (.int k (k.wrap n)))) :: asg) oa nx)) : aopK Y pr ⟨some t, .convert ts td x, ty, pos, aft, none⟩ (St N asg oa nx) K :=
  aopK_r (v := one1 (.int k (k.wrap n))) (rd := []) (hyp := True) (by simp only [opF, cvE, ht, ht2, lO_ev h1, hk]) rd0 (fun _ => by rw [St_pure]; exact hK)
theorem x_cvs {ts td : TypeId} {x : Operand} {i j : TI} {s : ByteArray} (ht : tiOf P ts = some i) (ht2 : tiOf P td = some j) (hk : j.kd = .str) (h1 : ev N asg x = some (.u (.one (.str s))))
    (hK : K (St N ((t, .u (.one (.str s))) :: asg) oa nx)) : aopK Y pr ⟨some t, .convert ts td x, ty, pos, aft, none⟩ (St N asg oa nx) K :=
  aopK_r (v := one1 (.str s)) (rd := []) (hyp := True) (by simp only [opF, cvE, ht, ht2, lO_ev h1, hk]) rd0 (fun _ => by rw [St_pure]; exact hK)
theorem x_ncp {x : Operand} {id e j : Nat} {o : Ob Unit} (hp : Nat.beq pr 1 = false) (h1 : ev N asg x = some (.u (.one (.ptr () id e j)))) (ho : lko oa nx id = some o)
    (hK : K (St N ((t, .u (.one (.ptr () id e j))) :: asg) oa nx)) : aopK Y pr ⟨some t, .nilCheck x, ty, pos, aft, none⟩ (St N asg oa nx) K :=
  aopK_r (v := one1 (.ptr () id e j)) (rd := [id]) (hyp := True) (by simp only [opF, lO_ev h1, lko_ok ho, Option.bind_some]) (rd1 hp (lko_ok ho)) (fun _ => by rw [St_pure]; exact hK)
theorem x_nci {x : Operand} {cs : List (L Unit)} (h1 : ev N asg x = some (.u (.one (.ip () cs))))
    (hK : K (St N ((t, .u (.one (.ip () cs))) :: asg) oa nx)) : aopK Y pr ⟨some t, .nilCheck x, ty, pos, aft, none⟩ (St N asg oa nx) K :=
  aopK_r (v := one1 (.ip () cs)) (rd := []) (hyp := True) (by simp only [opF, lO_ev h1]) rd0 (fun _ => by rw [St_pure]; exact hK)
-- fields
def fldF (P : Program) (s : TypeId) (f : Nat) : Option (Nat × TI) := (tiOf P s).bind fun i => match i.kd with
  | .struct => (i.fields[f]?).bind fun p => (tiOf P p.2).bind fun k => if k.size = 0 then none else some (p.1, k)
  | _ => none
theorem fldF_spec {s : TypeId} {f : Nat} {off : Nat} {k : TI} (h : fldF P s f = some (off, k)) : ∃ i p, tiOf P s = some i ∧ i.kd = .struct ∧ i.fields[f]? = some p ∧ tiOf P p.2 = some k ∧ k.size ≠ 0 ∧ p.1 = off := by
  unfold fldF at h
  obtain ⟨i, hi, h⟩ := bind_some h
  split at h
  · rename_i hk
    obtain ⟨p, hp, h⟩ := bind_some h
    obtain ⟨k', hk', h⟩ := bind_some h
    split at h
    · cases h
    · rename_i hs
      cases h
      exact ⟨i, p, hi, hk, hp, hk', hs, rfl⟩
  · cases h
theorem x_fap {ts : TypeId} {x : Operand} {f id e j off : Nat} {k : TI} {o : Ob Unit} (hp : Nat.beq pr 1 = false) (hf : fldF P ts f = some (off, k)) (h1 : ev N asg x = some (.u (.one (.ptr () id e j)))) (ho : lko oa nx id = some o)
    (hK : K (St N ((t, .u (.one (.ptr () id e (j + off)))) :: asg) oa nx)) : aopK Y pr ⟨some t, .fieldAddr ts x f, ty, pos, aft, none⟩ (St N asg oa nx) K := by
  obtain ⟨i, p, a1, a2, a3, a4, a5, rfl⟩ := fldF_spec hf
  exact aopK_r (v := one1 (.ptr () id e (j + p.1))) (rd := [id]) (hyp := True) (by simp only [opF, faF, a1, a2, a3, a4, Option.bind_some, if_neg a5, lO_ev h1, lko_ok ho]) (rd1 hp (lko_ok ho)) (fun _ => by rw [St_pure]; exact hK)
theorem x_fai {ts : TypeId} {x : Operand} {f off : Nat} {k : TI} {cs : List (L Unit)} (hf : fldF P ts f = some (off, k)) (h1 : ev N asg x = some (.u (.one (.ip () cs))))
    (hK : K (St N ((t, .u (.one (.ip () (cs.drop off)))) :: asg) oa nx)) : aopK Y pr ⟨some t, .fieldAddr ts x f, ty, pos, aft, none⟩ (St N asg oa nx) K := by
  obtain ⟨i, p, a1, a2, a3, a4, a5, rfl⟩ := fldF_spec hf
  exact aopK_r (v := one1 (.ip () (cs.drop p.1))) (rd := []) (hyp := True) (by simp only [opF, faF, a1, a2, a3, a4, Option.bind_some, if_neg a5, lO_ev h1]) rd0 (fun _ => by rw [St_pure]; exact hK)
theorem x_fd {ts : TypeId} {x : Operand} {f off : Nat} {k : TI} {ls : List (L Unit)} {u : U Unit} (hf : fldF P ts f = some (off, k)) (h1 : ev N asg x = some (.u (.agg ls))) (hu : pk k ls off = some u) (hn : noOsU u = true)
    (hK : K (St N ((t, .u u) :: asg) oa nx)) : aopK Y pr ⟨some t, .field ts x f, ty, pos, aft, none⟩ (St N asg oa nx) K := by
  obtain ⟨i, p, a1, a2, a3, a4, a5, rfl⟩ := fldF_spec hf
  exact aopK_r (v := .u u) (rd := []) (hyp := True) (by simp only [opF, fdF, a1, a2, a3, a4, Option.bind_some, uO_ev h1, hu, hn, if_true]) rd0 (fun _ => by rw [St_pure]; exact hK)
-- loads
theorem pk_all {δ : Type} {i : TI} {r : List (L δ)} (h : i.agg = true) (hl : r.length = i.size) : pk i r 0 = some (.agg r) := by
  simp only [pk, h, if_true, Nat.zero_add, List.drop_zero]
  rw [if_pos (by omega), List.take_of_length_le (by omega)]
theorem x_ldp {tt : TypeId} {x : Operand} {id e j : Nat} {i : TI} {o : Ob Unit} {r : List (L Unit)} {u : U Unit} (hp : Nat.beq pr 1 = false) (ht : tiOf P tt = some i) (h1 : ev N asg x = some (.u (.one (.ptr () id e j)))) (ho : lko oa nx id = some o)
    (hr : o.rows[e]? = some r) (hu : pk i r j = some u) (hn : noOsU u = true) (hK : K (St N ((t, .u u) :: asg) oa nx)) : aopK Y pr ⟨some t, .load tt x, ty, pos, aft, none⟩ (St N asg oa nx) K :=
  aopK_r (v := .u u) (rd := [id]) (hyp := True) (by simp only [opF, ldF, ht, Option.bind_some, lO_ev h1, lko_ok ho, hr, hu, hn, if_true]) (rd1 hp (lko_ok ho)) (fun _ => by rw [St_pure]; exact hK)
theorem x_ldi {tt : TypeId} {x : Operand} {i : TI} {cs : List (L Unit)} {u : U Unit} (ht : tiOf P tt = some i) (h1 : ev N asg x = some (.u (.one (.ip () cs))))
    (hu : pk i cs 0 = some u) (hn : noOsU u = true) (hK : K (St N ((t, .u u) :: asg) oa nx)) : aopK Y pr ⟨some t, .load tt x, ty, pos, aft, none⟩ (St N asg oa nx) K :=
  aopK_r (v := .u u) (rd := []) (hyp := True) (by simp only [opF, ldF, ht, Option.bind_some, lO_ev h1, hu, hn, if_true]) rd0 (fun _ => by rw [St_pure]; exact hK)
-- elements
def at_ {α : Type} [Inhabited α] (xs : List α) (n : Int) : α := xs.getD n.toNat default
theorem at_get {α : Type} [Inhabited α] {xs : List α} {n : Int} (h : 0 ≤ n ∧ n < (xs.length : Int)) : xs[n.toNat]? = some (at_ xs n) := by
  have : n.toNat < xs.length := by omega
  simp [at_, this]
theorem map_at {α : Type} [Inhabited α] {xs : List α} {n : Int} (enc : α → List (L Unit)) (h : 0 ≤ n ∧ n < (xs.length : Int)) : (xs.map enc)[n.toNat]? = some (enc (at_ xs n)) := by
  rw [List.getElem?_map, at_get h]; rfl
def elS (P : Program) (t : TypeId) : Option Nat := (tiOf P t).bind fun i => match i.kd with
  | .slice => (tiOf P i.elem).map fun ie => ie.size
  | _ => none
theorem elS_spec {tt : TypeId} {m : Nat} (h : elS P tt = some m) : ∃ i ie, tiOf P tt = some i ∧ i.kd = .slice ∧ tiOf P i.elem = some ie ∧ ie.size = m := by
  unfold elS at h
  obtain ⟨i, hi, h⟩ := bind_some h
  split at h
  · rename_i hk
    rw [Option.map_eq_some_iff] at h
    obtain ⟨ie, h1, h2⟩ := h
    exact ⟨i, ie, hi, hk, h1, h2⟩
  · cases h
theorem x_ixb {α : Type} [Inhabited α] {tt : TypeId} {x y : Operand} {m : Nat} {xs : List α} {enc : α → List (L Unit)} {k : IntKind} {n : Int} (he : elS P tt = some m) (h1 : ev N asg x = some (.u (.one (.bs () m (xs.map enc)))))
    (h2 : ev N asg y = some (.u (.one (.int k n)))) (hb : 0 ≤ n ∧ n < (xs.length : Int)) (hK : K (St N ((t, .u (.one (.ip () (enc (at_ xs n))))) :: asg) oa nx)) : aopK Y pr ⟨some t, .indexAddr tt x y, ty, pos, aft, none⟩ (St N asg oa nx) K := by
  obtain ⟨i, ie, a1, a2, a3, rfl⟩ := elS_spec he
  exact aopK_r (v := one1 (.ip () (enc (at_ xs n)))) (rd := []) (hyp := True) (by simp only [opF, ixF, a1, a2, a3, Option.bind_some, lO_ev h1, lO_ev h2, if_true, List.length_map, if_pos hb, map_at enc hb]) rd0 (fun _ => by rw [St_pure]; exact hK)
theorem x_ixr {tt : TypeId} {x y : Operand} {m id off len : Nat} {k : IntKind} {n : Int} {rows : List (List (L Unit))} (hp : Nat.beq pr 1 = false) (he : elS P tt = some m) (h1 : ev N asg x = some (.u (.one (.ref () id off len)))) (ho : lko oa nx id = some ⟨(), m, rows⟩)
    (h2 : ev N asg y = some (.u (.one (.int k n)))) (hb : 0 ≤ n ∧ n < (len : Int)) (hK : K (St N ((t, .u (.one (.ptr () id (off + n.toNat) 0))) :: asg) oa nx)) : aopK Y pr ⟨some t, .indexAddr tt x y, ty, pos, aft, none⟩ (St N asg oa nx) K := by
  obtain ⟨i, ie, a1, a2, a3, rfl⟩ := elS_spec he
  exact aopK_r (v := one1 (.ptr () id (off + n.toNat) 0)) (rd := [id]) (hyp := True) (by simp only [opF, ixF, a1, a2, a3, Option.bind_some, lO_ev h1, lO_ev h2, lko_ok ho, if_true, if_pos hb]) (rd1 hp (lko_ok ho)) (fun _ => by rw [St_pure]; exact hK)
/-- A load of an element's cells, of a list's row. -/
theorem x_lde {α : Type} [Inhabited α] {tt : TypeId} {x : Operand} {id e j m : Nat} {i : TI} {xs : List α} {enc : α → List (L Unit)} {u : U Unit} (hp : Nat.beq pr 1 = false) (ht : tiOf P tt = some i) (h1 : ev N asg x = some (.u (.one (.ptr () id e j))))
    (ho : lko oa nx id = some ⟨(), m, xs.map enc⟩) (he : e < xs.length) (hu : pk i (enc (xs.getD e default)) j = some u) (hn : noOsU u = true) (hK : K (St N ((t, .u u) :: asg) oa nx)) : aopK Y pr ⟨some t, .load tt x, ty, pos, aft, none⟩ (St N asg oa nx) K :=
  x_ldp hp ht h1 ho (r := enc (xs.getD e default)) (by simp [he]) hu hn hK
-- stores
theorem x_st {tt : TypeId} {x y : Operand} {id e j : Nat} {i : TI} {o : Ob Unit} {r : List (L Unit)} {u : U Unit} {rows : List (List (L Unit))} (ht : tiOf P tt = some i) (h1 : ev N asg x = some (.u (.one (.ptr () id e j)))) (h2 : ev N asg y = some (.u u))
    (ho : lko oa nx id = some o) (hr : o.rows[e]? = some r) (hn : noOsU u = true) (hl : Nat.beq (leavesU u).length i.size = true) (hj : Nat.ble (j + i.size) r.length = true) (hrows : o.rows.set e (putC r j (leavesU u)) = rows)
    (hK : K (St N asg ((id, some ⟨(), o.n, rows⟩) :: oa) nx)) : aopK Y 0 ⟨none, .store tt x y, ty, pos, aft, none⟩ (St N asg oa nx) K :=
  aopK_0 (e := { v := .ud, rd := [id], upd := [(id, o.rows.set e (putC r j (leavesU u)))] }) (by
    simp only [opF, stF, ht, Option.bind_some, lO_ev h1, uO_ev h2, lko_ok ho, hr, hn, if_true, if_pos (Nat.eq_of_beq_eq_true hl), if_pos (Nat.le_of_ble_eq_true hj)]) (fun _ => by rw [hrows, St_upd ho]; exact hK)
theorem x_ste {α : Type} {tt : TypeId} {x y : Operand} {id e j m : Nat} {i : TI} {xs : List α} {enc : α → List (L Unit)} {a v : α} {u : U Unit} (ht : tiOf P tt = some i) (h1 : ev N asg x = some (.u (.one (.ptr () id e j)))) (h2 : ev N asg y = some (.u u))
    (ho : lko oa nx id = some ⟨(), m, xs.map enc⟩) (hr : xs[e]? = some a) (hn : noOsU u = true) (hl : Nat.beq (leavesU u).length i.size = true) (hj : Nat.ble (j + i.size) (enc a).length = true) (hv : putC (enc a) j (leavesU u) = enc v)
    (hK : K (St N asg ((id, some ⟨(), m, (xs.set e v).map enc⟩) :: oa) nx)) : aopK Y 0 ⟨none, .store tt x y, ty, pos, aft, none⟩ (St N asg oa nx) K :=
  x_st ht h1 h2 ho (r := enc a) (by simp [hr]) hn hl hj (by rw [hv, List.map_set]) hK
/-- An element of an own slice, whole: its place. -/
theorem x_ix0 {tt : TypeId} {x y : Operand} {m id len : Nat} {k : IntKind} {n : Int} {rows : List (List (L Unit))} (hp : Nat.beq pr 1 = false) (he : elS P tt = some m) (h1 : ev N asg x = some (.u (.one (.ref () id 0 len)))) (ho : lko oa nx id = some ⟨(), m, rows⟩)
    (h2 : ev N asg y = some (.u (.one (.int k n)))) (hb : 0 ≤ n ∧ n < (len : Int)) (hK : K (St N ((t, .u (.one (.ptr () id n.toNat 0))) :: asg) oa nx)) : aopK Y pr ⟨some t, .indexAddr tt x y, ty, pos, aft, none⟩ (St N asg oa nx) K :=
  x_ixr hp he h1 ho h2 hb (by rw [Nat.zero_add]; exact hK)
theorem x_ldn {α : Type} [Inhabited α] {tt : TypeId} {x : Operand} {id j m : Nat} {n : Int} {i : TI} {xs : List α} {enc : α → List (L Unit)} {u : U Unit} (hp : Nat.beq pr 1 = false) (ht : tiOf P tt = some i) (h1 : ev N asg x = some (.u (.one (.ptr () id n.toNat j))))
    (ho : lko oa nx id = some ⟨(), m, xs.map enc⟩) (he : 0 ≤ n ∧ n < (xs.length : Int)) (hu : pk i (enc (at_ xs n)) j = some u) (hn : noOsU u = true) (hK : K (St N ((t, .u u) :: asg) oa nx)) : aopK Y pr ⟨some t, .load tt x, ty, pos, aft, none⟩ (St N asg oa nx) K :=
  x_ldp hp ht h1 ho (r := enc (at_ xs n)) (map_at enc he) hu hn hK
theorem x_stn {α : Type} [Inhabited α] {tt : TypeId} {x y : Operand} {id j m : Nat} {n : Int} {i : TI} {xs : List α} {enc : α → List (L Unit)} (v : α) {u : U Unit} (ht : tiOf P tt = some i) (h1 : ev N asg x = some (.u (.one (.ptr () id n.toNat j)))) (h2 : ev N asg y = some (.u u))
    (ho : lko oa nx id = some ⟨(), m, xs.map enc⟩) (he : 0 ≤ n ∧ n < (xs.length : Int)) (hn : noOsU u = true) (hl : Nat.beq (leavesU u).length i.size = true) (hj : Nat.ble (j + i.size) (enc (at_ xs n)).length = true) (hv : putC (enc (at_ xs n)) j (leavesU u) = enc v)
    (hK : K (St N asg ((id, some ⟨(), m, (xs.set n.toNat v).map enc⟩) :: oa) nx)) : aopK Y 0 ⟨none, .store tt x y, ty, pos, aft, none⟩ (St N asg oa nx) K :=
  x_ste ht h1 h2 ho (at_get he) hn hl hj hv hK
-- lengths
def lnF (P : Program) (t : TypeId) : Option TK := (tiOf P t).map (·.kd)
theorem lnF_spec {tt : TypeId} {k : TK} (h : lnF P tt = some k) : ∃ i, tiOf P tt = some i ∧ i.kd = k := by
  unfold lnF at h; rw [Option.map_eq_some_iff] at h; exact h
theorem x_lnb {tt : TypeId} {x : Operand} {m : Nat} {α : Type} {enc : α → List (L Unit)} {xs : List α} (ht : lnF P tt = some .slice) (h1 : ev N asg x = some (.u (.one (.bs () m (xs.map enc)))))
    (hK : (pr = 0 → xs.length ≤ 140737488355328) → K (St N ((t, .u (.one (.int .i64 (xs.length : Int)))) :: asg) oa nx)) : aopK Y pr ⟨some t, .call ⟨.builtin .len, #[x], #[tt]⟩, ty, pos, aft, none⟩ (St N asg oa nx) K := by
  obtain ⟨i, a1, a2⟩ := lnF_spec ht
  exact aopK_r (v := one1 (.int .i64 (xs.length : Int))) (rd := []) (hyp := xs.length ≤ LIM) (by simp [opF, lenF, a1, a2, lO_ev h1]) rd0 (fun h => by rw [St_pure]; exact hK h)
theorem x_lnr {tt : TypeId} {x : Operand} {id off len : Nat} {o : Ob Unit} (hp : Nat.beq pr 1 = false) (ht : lnF P tt = some .slice) (h1 : ev N asg x = some (.u (.one (.ref () id off len)))) (ho : lko oa nx id = some o)
    (hK : (pr = 0 → len ≤ 140737488355328) → K (St N ((t, .u (.one (.int .i64 (len : Int)))) :: asg) oa nx)) : aopK Y pr ⟨some t, .call ⟨.builtin .len, #[x], #[tt]⟩, ty, pos, aft, none⟩ (St N asg oa nx) K := by
  obtain ⟨i, a1, a2⟩ := lnF_spec ht
  exact aopK_r (v := one1 (.int .i64 (len : Int))) (rd := [id]) (hyp := len ≤ LIM) (by simp [opF, lenF, a1, a2, lO_ev h1, lko_ok ho]) (rd1 hp (lko_ok ho)) (fun h => by rw [St_pure]; exact hK h)
theorem x_lnn {tt : TypeId} {x : Operand} (ht : lnF P tt = some .slice) (h1 : ev N asg x = some (.u (.one .nl)))
    (hK : K (St N ((t, .u (.one (.int .i64 0))) :: asg) oa nx)) : aopK Y pr ⟨some t, .call ⟨.builtin .len, #[x], #[tt]⟩, ty, pos, aft, none⟩ (St N asg oa nx) K := by
  obtain ⟨i, a1, a2⟩ := lnF_spec ht
  exact aopK_r (v := one1 (.int .i64 0)) (rd := []) (hyp := True) (by simp [opF, lenF, a1, a2, lO_ev h1]) rd0 (fun _ => by rw [St_pure]; exact hK)
/-- A text's bytes. -/
def bts (l : List UInt8) : ByteArray := ⟨l.toArray⟩
theorem bts_size (l : List UInt8) : (bts l).size = l.length := by simp [bts, ByteArray.size]
theorem bts_append (a b : List UInt8) : bts a ++ bts b = bts (a ++ b) := by
  apply ByteArray.ext; simp [bts]
theorem bts_toList (l : List UInt8) : (bts l).toList = l := by
  rw [ByteArray.toList_eq]
  simp [bts]
theorem x_lns {tt : TypeId} {x : Operand} {s : List UInt8} (ht : lnF P tt = some .str) (h1 : ev N asg x = some (.u (.one (.str (bts s)))))
    (hK : K (St N ((t, .u (.one (.int .i64 (s.length : Int)))) :: asg) oa nx)) : aopK Y pr ⟨some t, .call ⟨.builtin .len, #[x], #[tt]⟩, ty, pos, aft, none⟩ (St N asg oa nx) K := by
  obtain ⟨i, a1, a2⟩ := lnF_spec ht
  exact aopK_r (v := one1 (.int .i64 (s.length : Int))) (rd := []) (hyp := True) (by simp [opF, lenF, a1, a2, lO_ev h1, bts_size]) rd0 (fun _ => by rw [St_pure]; exact hK)
theorem x_mx {x y : Operand} {tys : Array TypeId} {k k' : IntKind} {a b : Int} (h1 : ev N asg x = some (.u (.one (.int k a)))) (h2 : ev N asg y = some (.u (.one (.int k' b))))
    (hK : K (St N ((t, .u (.one (.int k (max a b)))) :: asg) oa nx)) : aopK Y pr ⟨some t, .call ⟨.builtin .max, #[x, y], tys⟩, ty, pos, aft, none⟩ (St N asg oa nx) K :=
  aopK_r (v := one1 (.int k (max a b))) (rd := []) (hyp := True) (by
    simp only [opF, mmF, lO_ev h1, lO_ev h2, if_true, Option.some.injEq, Eff.mk.injEq, and_true, one1]
    have : (if b > a then b else a) = max a b := by by_cases h : b > a <;> simp [h] <;> omega
    rw [this]) rd0 (fun _ => by rw [St_pure]; exact hK)
theorem x_mn {x y : Operand} {tys : Array TypeId} {k k' : IntKind} {a b : Int} (h1 : ev N asg x = some (.u (.one (.int k a)))) (h2 : ev N asg y = some (.u (.one (.int k' b))))
    (hK : K (St N ((t, .u (.one (.int k (min a b)))) :: asg) oa nx)) : aopK Y pr ⟨some t, .call ⟨.builtin .min, #[x, y], tys⟩, ty, pos, aft, none⟩ (St N asg oa nx) K :=
  aopK_r (v := one1 (.int k (min a b))) (rd := []) (hyp := True) (by
    simp only [opF, mmF, lO_ev h1, lO_ev h2, Bool.false_eq_true, if_false, Option.some.injEq, Eff.mk.injEq, and_true, one1]
    have : (if b < a then b else a) = min a b := by by_cases h : b < a <;> simp [h] <;> omega
    rw [this]) rd0 (fun _ => by rw [St_pure]; exact hK)
-- numbers
theorem x_addn {tt t2 : TypeId} {x y : Operand} {i : TI} {a b : Int} (ht : tiOf P tt = some i) (h1 : ev N asg x = some (.u (.one (.int .i64 a)))) (h2 : ev N asg y = some (.u (.one (.int .i64 b)))) (hb : -9223372036854775808 ≤ a + b ∧ a + b ≤ 9223372036854775807)
    (hK : K (St N ((t, .u (.one (.int .i64 (a + b)))) :: asg) oa nx)) : aopK Y pr ⟨some t, .binOp .add tt x y t2, ty, pos, aft, none⟩ (St N asg oa nx) K := by
  refine x_bin ht h1 h2 (z := .int .i64 (a + b)) ?_ hK
  have : IntKind.i64.wrap (a + b) = a + b := IntWalk.i64_in _ (by omega)
  show some (L.int .i64 (IntKind.i64.wrap (a + b))) = _
  rw [this]
/-- In the range of int64. -/
def inI (n : Int) : Prop := -9223372036854775808 ≤ n ∧ n ≤ 9223372036854775807
instance (n : Int) : Decidable (inI n) := inferInstanceAs (Decidable (_ ∧ _))
theorem x_addc {tt t2 : TypeId} {x y : Operand} {i : TI} {a b : Int} (ht : tiOf P tt = some i) (h1 : ev N asg x = some (.u (.one (.int .i64 a)))) (h2 : ev N asg y = some (.u (.one (.int .i64 b)))) (hb : inI (a + b))
    (hK : K (St N ((t, .u (.one (.int .i64 (a + b)))) :: asg) oa nx)) : aopK Y pr ⟨some t, .binOp .add tt x y t2, ty, pos, aft, none⟩ (St N asg oa nx) K := x_addn ht h1 h2 hb hK
theorem x_subc {tt t2 : TypeId} {x y : Operand} {i : TI} {a b : Int} (ht : tiOf P tt = some i) (h1 : ev N asg x = some (.u (.one (.int .i64 a)))) (h2 : ev N asg y = some (.u (.one (.int .i64 b)))) (hb : inI (a - b))
    (hK : K (St N ((t, .u (.one (.int .i64 (a - b)))) :: asg) oa nx)) : aopK Y pr ⟨some t, .binOp .sub tt x y t2, ty, pos, aft, none⟩ (St N asg oa nx) K := by
  refine x_bin ht h1 h2 (z := .int .i64 (a - b)) ?_ hK
  show some (L.int .i64 (IntKind.i64.wrap (a - b))) = _
  rw [IntWalk.i64_in _ hb]
theorem x_quo {tt t2 : TypeId} {x y : Operand} {i : TI} {k : IntKind} {a b : Int} (ht : tiOf P tt = some i) (h1 : ev N asg x = some (.u (.one (.int k a)))) (h2 : ev N asg y = some (.u (.one (.int k b)))) (hb : b ≠ 0)
    (hK : K (St N ((t, .u (.one (.int k (k.wrap (a.tdiv b))))) :: asg) oa nx)) : aopK Y pr ⟨some t, .binOp .quo tt x y t2, ty, pos, aft, none⟩ (St N asg oa nx) K :=
  x_bin ht h1 h2 (z := .int k (k.wrap (a.tdiv b))) (by simp [binF, hb]) hK
theorem x_rem {tt t2 : TypeId} {x y : Operand} {i : TI} {k : IntKind} {a b : Int} (ht : tiOf P tt = some i) (h1 : ev N asg x = some (.u (.one (.int k a)))) (h2 : ev N asg y = some (.u (.one (.int k b)))) (hb : b ≠ 0)
    (hK : K (St N ((t, .u (.one (.int k (a.tmod b)))) :: asg) oa nx)) : aopK Y pr ⟨some t, .binOp .rem tt x y t2, ty, pos, aft, none⟩ (St N asg oa nx) K :=
  x_bin ht h1 h2 (z := .int k (a.tmod b)) (by simp [binF, hb]) hK
theorem x_shl {tt t2 : TypeId} {x y : Operand} {i : TI} {k k' : IntKind} {a b : Int} (ht : tiOf P tt = some i) (h1 : ev N asg x = some (.u (.one (.int k a)))) (h2 : ev N asg y = some (.u (.one (.int k' b)))) (hb : 0 ≤ b)
    (hK : K (St N ((t, .u (.one (.int k (k.wrap (a * 2 ^ min b.toNat k.bits))))) :: asg) oa nx)) : aopK Y pr ⟨some t, .binOp .shl tt x y t2, ty, pos, aft, none⟩ (St N asg oa nx) K :=
  x_bin ht h1 h2 (z := .int k (k.wrap (a * 2 ^ min b.toNat k.bits))) (by have : ¬ b < 0 := by omega
                                                                         simp [binF, this]) hK
theorem x_shr {tt t2 : TypeId} {x y : Operand} {i : TI} {k k' : IntKind} {a b : Int} (ht : tiOf P tt = some i) (h1 : ev N asg x = some (.u (.one (.int k a)))) (h2 : ev N asg y = some (.u (.one (.int k' b)))) (hb : 0 ≤ b)
    (hK : K (St N ((t, .u (.one (.int k (a / 2 ^ min b.toNat k.bits)))) :: asg) oa nx)) : aopK Y pr ⟨some t, .binOp .shr tt x y t2, ty, pos, aft, none⟩ (St N asg oa nx) K :=
  x_bin ht h1 h2 (z := .int k (a / 2 ^ min b.toNat k.bits)) (by have : ¬ b < 0 := by omega
                                                                simp [binF, this]) hK
theorem x_sadd {tt t2 : TypeId} {x y : Operand} {i : TI} {a b : List UInt8} (ht : tiOf P tt = some i) (h1 : ev N asg x = some (.u (.one (.str (bts a))))) (h2 : ev N asg y = some (.u (.one (.str (bts b))))) (hb : ((a.length + b.length : Nat) : Int) ≤ 9223372036854775807)
    (hK : K (St N ((t, .u (.one (.str (bts (a ++ b))))) :: asg) oa nx)) : aopK Y pr ⟨some t, .binOp .add tt x y t2, ty, pos, aft, none⟩ (St N asg oa nx) K :=
  x_bin ht h1 h2 (z := .str (bts (a ++ b))) (by simp only [binF, bts_size, if_pos hb, bts_append]) hK
theorem x_seq {tt t2 : TypeId} {x y : Operand} {i : TI} {a b : List UInt8} (ht : tiOf P tt = some i) (h1 : ev N asg x = some (.u (.one (.str (bts a))))) (h2 : ev N asg y = some (.u (.one (.str (bts b)))))
    (hK : K (St N ((t, .u (.one (.bool (a == b)))) :: asg) oa nx)) : aopK Y pr ⟨some t, .binOp .eql tt x y t2, ty, pos, aft, none⟩ (St N asg oa nx) K :=
  x_bin ht h1 h2 (z := .bool (a == b)) (by simp only [binF, bts_toList]) hK
theorem x_sne {tt t2 : TypeId} {x y : Operand} {i : TI} {a b : List UInt8} (ht : tiOf P tt = some i) (h1 : ev N asg x = some (.u (.one (.str (bts a))))) (h2 : ev N asg y = some (.u (.one (.str (bts b)))))
    (hK : K (St N ((t, .u (.one (.bool (!(a == b))))) :: asg) oa nx)) : aopK Y pr ⟨some t, .binOp .neq tt x y t2, ty, pos, aft, none⟩ (St N asg oa nx) K :=
  x_bin ht h1 h2 (z := .bool (!(a == b))) (by simp only [binF, bts_toList]) hK
def sat (s : List UInt8) (n : Int) : Int := ((s.getD n.toNat 0).toNat : Int)
theorem x_sx {tt : TypeId} {x y : Operand} {s : List UInt8} {k : IntKind} {n : Int} (ht : lnF P tt = some .str) (h1 : ev N asg x = some (.u (.one (.str (bts s))))) (h2 : ev N asg y = some (.u (.one (.int k n)))) (hb : 0 ≤ n ∧ n < (s.length : Int))
    (hK : K (St N ((t, .u (.one (.int .u8 (sat s n)))) :: asg) oa nx)) : aopK Y pr ⟨some t, .index tt x y, ty, pos, aft, none⟩ (St N asg oa nx) K := by
  obtain ⟨i, a1, a2⟩ := lnF_spec ht
  have hlt : n.toNat < s.length := by omega
  have hg : (bts s)[n.toNat]? = some (s.getD n.toNat 0) := by
    have : n.toNat < (bts s).size := by rw [bts_size]; exact hlt
    rw [getElem?_pos (bts s) n.toNat this]
    simp [bts, hlt, ByteArray.getElem_eq_getElem_data]
  exact aopK_r (v := one1 (.int .u8 (sat s n))) (rd := []) (hyp := True) (by simp only [opF, siF, a1, a2, Option.bind_some, lO_ev h1, lO_ev h2, if_pos hb.1, hg, sat]) rd0 (fun _ => by rw [St_pure]; exact hK)
-- what is made
theorem x_bx {tt : TypeId} {x : Operand} {u : U Unit} {n : Nat} {r : List (L Unit)} (h1 : ev N asg x = some (.u u)) (hn : noOsU u = true) (hr : leavesU u = r) (hl : r.length = n)
    (hK : K (St N ((t, .u (.one (.ptr () nx 0 0))) :: asg) ((nx, some ⟨(), n, [r]⟩) :: oa) (nx + 1))) : aopK Y 0 ⟨some t, .box tt x, ty, pos, aft, none⟩ (St N asg oa nx) K := by
  subst hr hl
  refine aopK_0 (e := { v := one1 (.ptr () nx 0 0), news := [⟨(), (leavesU u).length, [leavesU u]⟩] }) (by simp only [opF, bxF, uO_ev h1, hn, if_true]; rfl) (fun _ => ?_)
  show K (appE (St N asg oa nx) (some t) nx _)
  rw [St_new]; exact hK
theorem x_al {tt : TypeId} {i : TI} {n : Nat} {r : List (L Unit)} (ht : tiOf P tt = some i) (hr : i.zero.map zL = r) (hl : i.zero.length = n)
    (hK : K (St N ((t, .u (.one (.ptr () nx 0 0))) :: asg) ((nx, some ⟨(), n, [r]⟩) :: oa) (nx + 1))) : aopK Y 0 ⟨some t, .alloc tt, ty, pos, aft, none⟩ (St N asg oa nx) K := by
  subst hr hl
  refine aopK_0 (e := { v := one1 (.ptr () nx 0 0), news := [⟨(), i.zero.length, [i.zero.map zL]⟩] }) (by simp only [opF, alF, ht, Option.bind_some]; rfl) (fun _ => ?_)
  show K (appE (St N asg oa nx) (some t) nx _)
  rw [St_new]; exact hK
/-- A slice type's elements: size, bytes, what they are at first. -/
def elF (P : Program) (t : TypeId) : Option (Nat × Nat × List Z) := (tiOf P t).bind fun i => match i.kd with
  | .slice => (tiOf P i.elem).bind fun ie => if ie.zero.length = ie.size ∧ 0 < ie.size then some (ie.size, ie.bytes, ie.zero) else none
  | _ => none
theorem elF_spec {tt : TypeId} {m b : Nat} {z : List Z} (h : elF P tt = some (m, b, z)) : ∃ i ie, tiOf P tt = some i ∧ i.kd = .slice ∧ tiOf P i.elem = some ie ∧ ie.size = m ∧ ie.bytes = b ∧ ie.zero = z ∧ ie.zero.length = ie.size ∧ 0 < ie.size := by
  unfold elF at h
  obtain ⟨i, hi, h⟩ := bind_some h
  split at h
  · rename_i hk
    obtain ⟨ie, h1, h⟩ := bind_some h
    split at h
    · rename_i hc; cases h; exact ⟨i, ie, hi, hk, h1, rfl, rfl, rfl, hc.1, hc.2⟩
    · cases h
  · cases h
theorem x_mk {α : Type} {enc : α → List (L Unit)} {d : α} {tt : TypeId} {x y : Operand} {m b : Nat} {z : List Z} {k k' : IntKind} {n c : Int} (he : elF P tt = some (m, b, z)) (hz : z.map zL = enc d) (h1 : ev N asg x = some (.u (.one (.int k n)))) (h2 : ev N asg y = some (.u (.one (.int k' c))))
    (hb : 0 ≤ n ∧ n ≤ c ∧ c * (b : Int) ≤ 140737488355328 ∧ c ≤ 140737488355328)
    (hK : K (St N ((t, .u (.one (.ref () nx 0 (List.replicate n.toNat d).length))) :: asg) ((nx, some ⟨(), m, (List.replicate n.toNat d).map enc⟩) :: oa) (nx + 1))) : aopK Y 0 ⟨some t, .makeSlice tt x y, ty, pos, aft, none⟩ (St N asg oa nx) K := by
  obtain ⟨i, ie, a1, a2, a3, a4, a5, a6, a7, a8⟩ := elF_spec he
  subst a4 a5 a6
  refine aopK_0 (e := { v := one1 (.ref () nx 0 n.toNat), news := [⟨(), ie.size, List.replicate n.toNat (ie.zero.map zL)⟩] }) (by
    simp only [opF, mkF, a1, a2, a3, Option.bind_some, lO_ev h1, lO_ev h2, if_pos (And.intro a7 a8), if_pos hb]; rfl) (fun _ => ?_)
  show K (appE (St N asg oa nx) (some t) nx _)
  rw [St_new]
  simp only [List.length_replicate, List.map_replicate, ← hz] at hK
  exact hK
theorem x_bu {tt : TypeId} {ps : Array (Nat × Operand)} {i : TI} {us : List (Nat × U Unit)} {cells : List (L Unit)} (ht : tiOf P tt = some i) (hk : i.kd = .struct) (hp : partsE (ev N asg) ps.toList = some us) (hf : fillP (i.places[·]?) us (i.zero.map zL) = some cells)
    (hK : K (St N ((t, .u (.agg cells)) :: asg) oa nx)) : aopK Y pr ⟨some t, .build tt ps, ty, pos, aft, none⟩ (St N asg oa nx) K := by
  have hp' : ∀ {ps us}, partsE (ev N asg) ps = some us → partsE (evA (St N asg oa nx)) ps = some us := by
    intro ps
    induction ps with
    | nil => intro us h; exact h
    | cons p ps ih =>
      intro us h
      obtain ⟨j, x⟩ := p
      simp only [partsE] at h ⊢
      obtain ⟨u, hu, h⟩ := bind_some h
      have : uO (evA (St N asg oa nx) x) = some u := by
        unfold uO at hu
        split at hu
        · rename_i hx; cases hu; exact uO_ev hx
        · cases hu
      rw [this]
      simp only [Option.bind_some]
      split at h
      · rename_i hn
        rw [Option.map_eq_some_iff] at h
        obtain ⟨us', h1, h2⟩ := h
        rw [if_pos hn, ih h1, ← h2]; rfl
      · cases h
  exact aopK_r (v := .u (.agg cells)) (rd := []) (hyp := True) (by simp only [opF, buF, ht, Option.bind_some, hk, hp' hp, hf]) rd0 (fun _ => by rw [St_pure]; exact hK)
theorem partsE_ev {ps : List (Nat × Operand)} {us : List (Nat × U Unit)} : partsE (ev N asg) ps = some us → partsE (evA (St N asg oa nx)) ps = some us := by
  induction ps generalizing us with
  | nil => intro h; exact h
  | cons p ps ih =>
    intro h
    obtain ⟨j, x⟩ := p
    simp only [partsE] at h ⊢
    obtain ⟨u, hu, h⟩ := bind_some h
    have : uO (evA (St N asg oa nx) x) = some u := by
      unfold uO at hu
      split at hu
      · rename_i hx; cases hu; exact uO_ev hx
      · cases hu
    rw [this]
    simp only [Option.bind_some]
    split at h
    · rename_i hn
      rw [Option.map_eq_some_iff] at h
      obtain ⟨us', h1, h2⟩ := h
      rw [if_pos hn, ih h1, ← h2]; rfl
    · cases h
theorem x_bs {tt : TypeId} {len : Nat} {ps : Array (Nat × Operand)} {m b : Nat} {z : List Z} {us : List (Nat × U Unit)} {rows : List (List (L Unit))} (he : elF P tt = some (m, b, z)) (hl : Nat.ble (len * m) 16777216 = true) (hp : partsE (ev N asg) ps.toList = some us)
    (hf : fillR m us (List.replicate len (z.map zL)) = some rows)
    (hK : K (St N ((t, .u (.one (.ref () nx 0 len))) :: asg) ((nx, some ⟨(), m, rows⟩) :: oa) (nx + 1))) : aopK Y 0 ⟨some t, .buildSlice tt len ps, ty, pos, aft, none⟩ (St N asg oa nx) K := by
  obtain ⟨i, ie, a1, a2, a3, a4, a5, a6, a7, a8⟩ := elF_spec he
  subst a4 a5 a6
  refine aopK_0 (e := { v := one1 (.ref () nx 0 len), news := [⟨(), ie.size, rows⟩] }) (by
    simp only [opF, bsF, a1, a2, a3, Option.bind_some, if_pos (And.intro a7 (And.intro a8 (Nat.le_of_ble_eq_true hl))), partsE_ev hp, hf]; rfl) (fun _ => ?_)
  show K (appE (St N asg oa nx) (some t) nx _)
  rw [St_new]; exact hK
theorem x_bsm {α : Type} {enc : α → List (L Unit)} (xs : List α) {tt : TypeId} {len : Nat} {ps : Array (Nat × Operand)} {m b : Nat} {z : List Z} {us : List (Nat × U Unit)} (he : elF P tt = some (m, b, z)) (hl : Nat.ble (len * m) 16777216 = true) (hp : partsE (ev N asg) ps.toList = some us)
    (hf : fillR m us (List.replicate len (z.map zL)) = some (xs.map enc)) (hn : len = xs.length)
    (hK : K (St N ((t, .u (.one (.ref () nx 0 xs.length))) :: asg) ((nx, some ⟨(), m, xs.map enc⟩) :: oa) (nx + 1))) : aopK Y 0 ⟨some t, .buildSlice tt len ps, ty, pos, aft, none⟩ (St N asg oa nx) K := by
  subst hn
  exact x_bs he hl hp hf hK
theorem x_cvn {ts td : TypeId} {x : Operand} {i j : TI} {k' : IntKind} {n : Int} (ht : tiOf P ts = some i) (ht2 : tiOf P td = some j) (hk : j.kd = .int .i64) (h1 : ev N asg x = some (.u (.one (.int k' n)))) (hb : -9223372036854775808 ≤ n ∧ n ≤ 9223372036854775807)
    (hK : K (St N ((t, .u (.one (.int .i64 n))) :: asg) oa nx)) : aopK Y pr ⟨some t, .convert ts td x, ty, pos, aft, none⟩ (St N asg oa nx) K :=
  x_cvi ht ht2 hk h1 (by rw [IntWalk.i64_in _ hb]; exact hK)
theorem capsE_ev {xs : List Operand} {ls : List (L Unit)} : capsE (ev N asg) xs = some ls → capsE (evA (St N asg oa nx)) xs = some ls := by
  induction xs generalizing ls with
  | nil => intro h; exact h
  | cons x xs ih =>
    intro h
    simp only [capsE] at h ⊢
    obtain ⟨l, hl, h⟩ := bind_some h
    have : lO (evA (St N asg oa nx) x) = some l := by
      unfold lO at hl
      split at hl
      · rename_i hx; cases hl; exact lO_ev hx
      · cases hl
    rw [this]
    simp only [Option.bind_some]
    split at h
    · rename_i hn
      rw [Option.map_eq_some_iff] at h
      obtain ⟨ls', h1, h2⟩ := h
      rw [if_pos hn, ih h1, ← h2]; rfl
    · cases h
theorem x_mf {g : FuncId} {caps : Array Operand} {ls : List (L Unit)} (hc : capsE (ev N asg) caps.toList = some ls)
    (hK : K (St N ((t, .u (.one (.fn () g ls))) :: asg) oa nx)) : aopK Y pr ⟨some t, .makeFunc (.func g) #[] caps, ty, pos, aft, none⟩ (St N asg oa nx) K :=
  aopK_r (v := one1 (.fn () g ls)) (rd := []) (hyp := True) (by simp [opF, mfF, capsE_ev hc]) rd0 (fun _ => by rw [St_pure]; exact hK)
theorem x_ex {x : Operand} {n : Nat} {xs : List (U Unit)} {u : U Unit} (h1 : ev N asg x = some (.tup xs)) (hu : xs[n]? = some u) (hn : noOsU u = true)
    (hK : K (St N ((t, .u u) :: asg) oa nx)) : aopK Y pr ⟨some t, .extract x n, ty, pos, aft, none⟩ (St N asg oa nx) K :=
  aopK_r (v := .u u) (rd := []) (hyp := True) (by simp only [opF, exF, ev_ok h1, hu, Option.bind_some, hn, if_true]) rd0 (fun _ => by rw [St_pure]; exact hK)
-- append
theorem argR_ev {l : L Unit} {n : Nat} {q : List (List (L Unit)) × List Nat} (h : argR (lko oa nx) n (some l) = some q) : argR (look (St N asg oa nx).ob) n (some l) = some q := by
  unfold argR at h ⊢
  split at h
  · exact h
  · rename_i h1; cases h1; exact h
  · rename_i h1
    cases h1
    obtain ⟨o, ho, h⟩ := bind_some h
    simp only [lko_ok ho, Option.bind_some]
    exact h
  · cases h
theorem argR_b {α : Type} {enc : α → List (L Unit)} {xs : List α} {n : Nat} (lk : Lk) : argR lk n (some (.bs () n (xs.map enc))) = some (xs.map enc, []) := by simp [argR]
theorem argR_r {α : Type} {enc : α → List (L Unit)} {xs : List α} {n id : Nat} (ho : lko oa nx id = some ⟨(), n, xs.map enc⟩) : argR (lko oa nx) n (some (.ref () id 0 xs.length)) = some (xs.map enc, [id]) := by
  simp only [argR, ho, Option.bind_some, if_true, List.drop_zero]
  rw [List.take_of_length_le (by simp)]
def encN {α : Type} (enc : α → List (L Unit)) : Prop := ∀ x, (enc x).all noOs = true
theorem nosR_map {α : Type} {enc : α → List (L Unit)} (h : encN enc) (xs : List α) : nosR (xs.map enc) = true := by
  simp only [nosR, List.all_map, List.all_eq_true]
  exact fun x _ => by have := h x; simp only [List.all_eq_true] at this; simpa using this
theorem elF_ap {tt : TypeId} {m b : Nat} {z : List Z} (h : elF P tt = some (m, b, z)) : ∃ i ie, tiOf P tt = some i ∧ i.kd = .slice ∧ tiOf P i.elem = some ie ∧ ie.size = m ∧ ie.bytes = b ∧ ie.zero.length = ie.size := by
  obtain ⟨i, ie, a1, a2, a3, a4, a5, a6, a7, a8⟩ := elF_spec h
  exact ⟨i, ie, a1, a2, a3, a4, a5, a7⟩
theorem x_apr {α : Type} {enc : α → List (L Unit)} {xs ys : List α} {tt t2 : TypeId} {x y : Operand} {m b id : Nat} {z : List Z} {rd : List Nat} {l : L Unit} (he : elF P tt = some (m, b, z)) (ht2 : lnF P t2 = some .slice) (hN : encN enc)
    (h1 : ev N asg x = some (.u (.one (.ref () id 0 xs.length)))) (ho : lko oa nx id = some ⟨(), m, xs.map enc⟩) (h2 : ev N asg y = some (.u (.one l))) (hq : argR (lko oa nx) m (some l) = some (ys.map enc, rd))
    (hb : (xs.length + ys.length) * b ≤ 140737488355328 ∧ xs.length + ys.length ≤ LIM)
    (hK : K (St N ((t, .u (.one (.ref () nx 0 (xs ++ ys).length))) :: asg) ((nx, some ⟨(), m, (xs ++ ys).map enc⟩) :: (id, none) :: oa) (nx + 1))) :
    aopK Y 0 ⟨some t, .call ⟨.builtin .append, #[x, y], #[tt, t2]⟩, ty, pos, aft, none⟩ (St N asg oa nx) K := by
  obtain ⟨i, ie, a1, a2, a3, a4, a5, a6⟩ := elF_ap he
  obtain ⟨i2, c1, c2⟩ := lnF_spec ht2
  subst a4 a5
  refine aopK_0 (e := { v := one1 (.ref () nx 0 (xs.length + ys.length)), rd := id :: rd, news := [⟨(), ie.size, xs.map enc ++ ys.map enc⟩], del := [id] }) (by
    have e1 := argR_ev (N := N) (asg := asg) hq
    have e2 := argR_ev (N := N) (asg := asg) (argR_r ho)
    simp only [opF, lO_ev h1, lO_ev h2]
    simp [apF, a1, a2, a3, a6, c1, c2, e1, e2, nosR_map hN, hb]; rfl) (fun _ => ?_)
  show K (appE (St N asg oa nx) (some t) nx _)
  rw [St_del]
  simp only [List.length_append, List.map_append] at hK
  exact hK
theorem x_apn {α : Type} {enc : α → List (L Unit)} {ys : List α} {tt t2 : TypeId} {x y : Operand} {m b : Nat} {z : List Z} {rd : List Nat} {l : L Unit} (he : elF P tt = some (m, b, z)) (ht2 : lnF P t2 = some .slice) (hN : encN enc)
    (h1 : ev N asg x = some (.u (.one .nl))) (h2 : ev N asg y = some (.u (.one l))) (hq : argR (lko oa nx) m (some l) = some (ys.map enc, rd)) (hb : ys.length * b ≤ 140737488355328 ∧ ys.length ≤ LIM)
    (hK : K (St N ((t, .u (.one (.ref () nx 0 ys.length))) :: asg) ((nx, some ⟨(), m, ys.map enc⟩) :: oa) (nx + 1))) :
    aopK Y 0 ⟨some t, .call ⟨.builtin .append, #[x, y], #[tt, t2]⟩, ty, pos, aft, none⟩ (St N asg oa nx) K := by
  obtain ⟨i, ie, a1, a2, a3, a4, a5, a6⟩ := elF_ap he
  obtain ⟨i2, c1, c2⟩ := lnF_spec ht2
  subst a4 a5
  refine aopK_0 (e := { v := one1 (.ref () nx 0 ys.length), rd := rd, news := [⟨(), ie.size, ys.map enc⟩] }) (by
    have e1 := argR_ev (N := N) (asg := asg) hq
    simp only [opF, lO_ev h1, lO_ev h2]
    simp [apF, a1, a2, a3, a6, c1, c2, e1, nosR_map hN, hb]; rfl) (fun _ => ?_)
  show K (appE (St N asg oa nx) (some t) nx _)
  rw [St_new]; exact hK
end
end Go.Proofs.Ytmckcjoacfekcaa.AM
