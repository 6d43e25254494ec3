import Derived.Test.YtmckcjoacfekcaaAm16
/-! The calculus, seventeenth part: how code is reckoned, step by step, nothing looked at ahead of its turn. -/
namespace Go.Proofs.Ytmckcjoacfekcaa.AM
open Go

/-- A branch: looked at only when the bit is known, or told apart. -/
def br (b : Bool) (X Y : Unit → Prop) : Prop := (b = true → X ()) ∧ (b = false → Y ())
theorem br_true (X Y : Unit → Prop) : br true X Y = X () := by simp [br]
theorem br_false (X Y : Unit → Prop) : br false X Y = Y () := by simp [br]
@[congr] theorem br_congr {b b' : Bool} {X Y : Unit → Prop} (h : b = b') : br b X Y = br b' X Y := by rw [h]
@[congr] theorem owp_congr {x y : Option Eff} {K : Eff → Prop} (h : x = y) : owp x K = owp y K := by rw [h]
def gdv (v : Option (V Unit)) (t : Nat) (s : S Unit) (want : Bool) (A N : S Unit → Prop) : Prop := match v with
  | some (.u (.one (.bool b))) => br b (fun _ => if want then A (stB s t true) else N (stB s t true)) (fun _ => if want then N (stB s t false) else A (stB s t false))
  | some .ud => N s
  | _ => False
@[congr] theorem gdv_congr {v v' : Option (V Unit)} {t : Nat} {s : S Unit} {want : Bool} {A N : S Unit → Prop} (h : v = v') : gdv v t s want A N = gdv v' t s want A N := by rw [h]
theorem gdv_t (b : Bool) (t : Nat) (s : S Unit) (A N : S Unit → Prop) : gdv (some (.u (.one (.bool b)))) t s true A N = br b (fun _ => A (stB s t true)) (fun _ => N (stB s t false)) := rfl
theorem gdv_f (b : Bool) (t : Nat) (s : S Unit) (A N : S Unit → Prop) : gdv (some (.u (.one (.bool b)))) t s false A N = br b (fun _ => N (stB s t true)) (fun _ => A (stB s t false)) := rfl
theorem gdv_u (t : Nat) (s : S Unit) (want : Bool) (A N : S Unit → Prop) : gdv (some .ud) t s want A N = N s := rfl
def cdv (v : Option (V Unit)) (t : Nat) (s : S Unit) (A N : S Unit → Prop) : Prop := match v with
  | some (.u (.one (.bool b))) => br b (fun _ => A (stB s t true)) (fun _ => N (stB s t false))
  | _ => False
@[congr] theorem cdv_congr {v v' : Option (V Unit)} {t : Nat} {s : S Unit} {A N : S Unit → Prop} (h : v = v') : cdv v t s A N = cdv v' t s A N := by rw [h]
theorem cdv_b (b : Bool) (t : Nat) (s : S Unit) (A N : S Unit → Prop) : cdv (some (.u (.one (.bool b)))) t s A N = br b (fun _ => A (stB s t true)) (fun _ => N (stB s t false)) := rfl
/-- Where an operation's slot is, of a region's operations. -/
def dstOf (ops : List Oper) (j : Nat) : Option Nat := (ops[j]?).bind (·.dst)

section
variable {P : Program} (Y : Sys P)
/-- An operation's effect is one of the list's, or a call's. -/
structure Plain : Prop where
  h : ∀ {o : Oper} {s : S Unit} {nid : Nat} {e : Eff}, opF P o.op (evA s) (look s.ob) nid = some e → Y.E o s nid e
variable {Y} (hY : Plain Y)
include hY
theorem ops_n {ops rest : List Oper} {dst : Option Nat} {op : Op} {ty : TypeId} {pos : String} {aft : Array Edge} {s : S Unit} {K : S Unit → Prop}
    (h : owp (opF P op (evA s) (look s.ob) s.nx) (fun e => e.hyp → awpOps Y ops rest (appE s dst s.nx e) K)) : awpOps Y ops (⟨dst, op, ty, pos, aft, none⟩ :: rest) s K := by
  obtain ⟨e, h1, h2⟩ := h
  exact ⟨e, hY.h h1, h2⟩
theorem ops_g {ops rest : List Oper} {dst : Option Nat} {op : Op} {ty : TypeId} {pos : String} {aft : Array Edge} {j : Nat} {want : Bool} {s : S Unit} {K : S Unit → Prop} {t : Nat} (ht : dstOf ops j = some t)
    (h : gdv (s.sl[t]?) t s want (fun s => owp (opF P op (evA s) (look s.ob) s.nx) (fun e => e.hyp → awpOps Y ops rest (appE s dst s.nx e) K)) (fun s => awpOps Y ops rest (setSl s dst .ud) K)) :
    awpOps Y ops (⟨dst, op, ty, pos, aft, some (j, want)⟩ :: rest) s K := by
  have ht' : (ops[j]?).bind (·.dst) = some t := ht
  simp only [awpOps, ht']
  unfold gdv at h
  split at h
  · rename_i b hb
    try rw [hb]
    cases want with
    | true =>
      refine ⟨fun hbt => ?_, fun hbf => h.2 (by simpa using hbf)⟩
      obtain ⟨e, h1, h2⟩ := h.1 hbt
      exact ⟨e, hY.h h1, h2⟩
    | false =>
      refine ⟨fun hbt => ?_, fun hbf => h.1 (by simpa using hbf)⟩
      obtain ⟨e, h1, h2⟩ := h.2 hbt
      exact ⟨e, hY.h h1, h2⟩
  · rename_i hb
    try rw [hb]
    exact h
  · exact h.elim
end
section
variable {P : Program} {Y : Sys P}
@[congr] theorem awpOps_congr {ops rest : List Oper} {s s' : S Unit} {K : S Unit → Prop} (h : s = s') : awpOps Y ops rest s K = awpOps Y ops rest s' K := by rw [h]
@[congr] theorem awp_congr {B : Bd} {c : Code} {Q : Exit → S Unit → Prop} {s s' : S Unit} (h : s = s') : awp Y B c Q s = awp Y B c Q s' := by rw [h]
@[congr] theorem Wp_congr {B : Bd} {c : Code} {Q : Exit → S Unit → Prop} {s s' : S Unit} (h : s = s') : Wp (P := P) B c Q s = Wp (P := P) B c Q s' := by rw [h]
@[congr] theorem sq_congr {K : S Unit → Prop} {Q : Exit → S Unit → Prop} {e : Exit} {s s' : S Unit} (h : s = s') : sq K Q e s = sq K Q e s' := by rw [h]
@[congr] theorem bk_congr {id : Nat} {Q : Exit → S Unit → Prop} {e : Exit} {s s' : S Unit} (h : s = s') : bk id Q e s = bk id Q e s' := by rw [h]
theorem ops_nil {ops : List Oper} {s : S Unit} {K : S Unit → Prop} : awpOps Y ops [] s K = K s := rfl
theorem awp_seq {B : Bd} {x y : Code} {Q : Exit → S Unit → Prop} {s : S Unit} : awp Y B (.seq x y) Q s = awp Y B x (sq (awp Y B y Q) Q) s := rfl
theorem awp_skip {B : Bd} {Q : Exit → S Unit → Prop} {s : S Unit} : awp Y B .skip Q s = Q .normal s := rfl
theorem awp_ret {B : Bd} {Q : Exit → S Unit → Prop} {s : S Unit} : awp Y B .ret Q s = Q .ret s := rfl
theorem awp_exit {B : Bd} {id : Nat} {Q : Exit → S Unit → Prop} {s : S Unit} : awp Y B (.exit id) Q s = Q (.exit id) s := rfl
theorem awp_block {B : Bd} {id : Nat} {c : Code} {Q : Exit → S Unit → Prop} {s : S Unit} : awp Y B (.block id c) Q s = awp Y B c (bk id Q) s := rfl
theorem awp_region {B : Bd} {id : Nat} {ops : List Oper} {Q : Exit → S Unit → Prop} {s : S Unit} : awp Y B (.region id ops.toArray false) Q s = awpOps Y ops ops s (Q .normal) := by
  simp [awp]
theorem awp_cond {B : Bd} {t : Nat} {x y : Code} {Q : Exit → S Unit → Prop} {s : S Unit} (h : cdv (s.sl[t]?) t s (awp Y B x Q) (awp Y B y Q)) : awp Y B (.cond (.tmp t) x y) Q s := by
  simp only [awp]
  unfold cdv at h
  split at h
  · rename_i b hb
    try rw [hb]
    exact h
  · exact h.elim
theorem sq_normal {K : S Unit → Prop} {Q : Exit → S Unit → Prop} {s : S Unit} : sq K Q .normal s = K s := rfl
theorem sq_ret {K : S Unit → Prop} {Q : Exit → S Unit → Prop} {s : S Unit} : sq K Q .ret s = Q .ret s := rfl
theorem sq_exit {K : S Unit → Prop} {Q : Exit → S Unit → Prop} {s : S Unit} {i : Nat} : sq K Q (.exit i) s = Q (.exit i) s := rfl
theorem bk_normal {id : Nat} {Q : Exit → S Unit → Prop} {s : S Unit} : bk id Q .normal s = Q .normal s := rfl
theorem bk_ret {id : Nat} {Q : Exit → S Unit → Prop} {s : S Unit} : bk id Q .ret s = Q .ret s := rfl
theorem bk_exit {id i : Nat} {Q : Exit → S Unit → Prop} {s : S Unit} : bk id Q (.exit i) s = if i = id then Q .normal s else Q (.exit i) s := rfl
end
theorem appE_p (sl : List (V Unit)) (ob : List (Nat × Ob Unit)) (nx nid : Nat) (t : Nat) (v : V Unit) (rd : List Nat) (hyp : Prop) : appE ⟨sl, ob, nx⟩ (some t) nid ⟨v, rd, [], [], [], hyp⟩ = ⟨sl.set t v, ob, nx⟩ := by
  simp only [appE, app_pure, setSl]
theorem appE_p0 (sl : List (V Unit)) (ob : List (Nat × Ob Unit)) (nx nid : Nat) (v : V Unit) (rd : List Nat) (hyp : Prop) : appE ⟨sl, ob, nx⟩ none nid ⟨v, rd, [], [], [], hyp⟩ = ⟨sl, ob, nx⟩ := by
  simp only [appE, app_pure, setSl]
theorem appE_n (sl : List (V Unit)) (ob : List (Nat × Ob Unit)) (nx nid : Nat) (t : Nat) (v : V Unit) (rd : List Nat) (o : Ob Unit) (hyp : Prop) : appE ⟨sl, ob, nx⟩ (some t) nid ⟨v, rd, [o], [], [], hyp⟩ = ⟨sl.set t v, ob ++ [(nid, o)], nx + 1⟩ := by
  simp only [appE, app_new, setSl]
theorem appE_u (sl : List (V Unit)) (ob : List (Nat × Ob Unit)) (nx nid : Nat) (v : V Unit) (rd : List Nat) (id : Nat) (rows : List (List (L Unit))) (hyp : Prop) : appE ⟨sl, ob, nx⟩ none nid ⟨v, rd, [], [(id, rows)], [], hyp⟩ = ⟨sl, updOb ob id rows, nx⟩ := by
  simp only [appE, app_upd, setSl]
theorem setSl_s (sl : List (V Unit)) (ob : List (Nat × Ob Unit)) (nx t : Nat) (v : V Unit) : setSl ⟨sl, ob, nx⟩ (some t) v = ⟨sl.set t v, ob, nx⟩ := rfl
theorem stB_s (sl : List (V Unit)) (ob : List (Nat × Ob Unit)) (nx t : Nat) (b : Bool) : stB ⟨sl, ob, nx⟩ t b = ⟨sl.set t (.u (.one (.bool b))), ob, nx⟩ := rfl
theorem br_intro {b : Bool} {X Y : Unit → Prop} (h1 : b = true → X ()) (h2 : b = false → Y ()) : br b X Y := ⟨h1, h2⟩
end Go.Proofs.Ytmckcjoacfekcaa.AM
