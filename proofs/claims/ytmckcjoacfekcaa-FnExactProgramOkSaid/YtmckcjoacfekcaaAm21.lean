import Derived.Test.YtmckcjoacfekcaaAm20
/-! The calculus, twenty-first part: the system with calls; calls in code. -/
namespace Go.Proofs.Ytmckcjoacfekcaa.AM
open Go

def sysC (P : Program) : Sys P := { E := fun o s nid e => opF P o.op (evA s) (look s.ob) nid = some e ∨ CallB P o s nid e, ok := fun h => h.elim stepOk_op stepOk_callB }
theorem sysC_plain (P : Program) : Plain (sysC P) := ⟨fun h => .inl h⟩
section
variable {P : Program} {Y : Sys P}
/-- A guard is looked at, and then gone. -/
theorem ops_w {ops rest : List Oper} {dst : Option Nat} {op : Op} {ty : TypeId} {pos : String} {aft : Array Edge} {j : Nat} {want : Bool} {s : S Unit} {K : S Unit → Prop} {t : Nat} (ht : dstOf ops j = some t)
    (h : gdv (s.sl[t]?) t s want (fun s => awpOps Y ops (⟨dst, op, ty, pos, aft, none⟩ :: rest) s K) (fun s => awpOps Y ops rest (setSl s dst .ud) K)) :
    awpOps Y ops (⟨dst, op, ty, pos, aft, some (j, want)⟩ :: rest) s K := by
  have ht' : (ops[j]?).bind (·.dst) = some t := ht
  simp only [awpOps, ht']
  unfold gdv at h
  split at h
  · rename_i b hb
    try rw [hb]
    cases want with
    | true =>
      refine ⟨fun hbt => ?_, fun hbf => h.2 (by simpa using hbf)⟩
      exact h.1 hbt
    | false =>
      refine ⟨fun hbt => ?_, fun hbf => h.1 (by simpa using hbf)⟩
      exact h.2 hbt
  · rename_i hb
    try rw [hb]
    exact h
  · exact h.elim
end
/-- A call by name, of which a summary is known. -/
theorem ops_c {P : Program} {ops rest : List Oper} {dst : Option Nat} {callee : Callee} {args : Array Operand} {ats : Array TypeId} {ty : TypeId} {pos : String} {aft : Array Edge} {s : S Unit} {K : S Unit → Prop}
    {f : FuncId} {caps cs : List (L Unit)} {us : List (U Unit)} {rd rd2 : List Nat} {r : V Unit} (h1 : calE (evA s) callee = some (f, caps)) (h2 : argsE (look s.ob) (evA s) args.toList = some (us, rd))
    (h3 : mapO (borL (look s.ob) 4) caps = some (cs, rd2)) (hent : Ent P f) (hsim : Sim P f (us ++ cs.map .one) [] r []) (himf : immFreeV r = true)
    (hK : awpOps (sysC P) ops rest (appE s dst s.nx ⟨(rootV (fun _ => ()) s.nx r).1, rd ++ rd2, (rootV (fun _ => ()) s.nx r).2.map (·.2), [], [], True⟩) K) :
    awpOps (sysC P) ops (⟨dst, .call ⟨callee, args, ats⟩, ty, pos, aft, none⟩ :: rest) s K :=
  ⟨_, .inr ⟨⟨callee, args, ats⟩, f, caps, us, rd, cs, rd2, r, rfl, h1, h2, h3, hent, hsim, himf, rfl⟩, fun _ => hK⟩
end Go.Proofs.Ytmckcjoacfekcaa.AM
