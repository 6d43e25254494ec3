/- For every program (registers, parameters, widths, code) that Go can hold in memory, laws.FnExactProgramOk returns true, and its argument reads afterwards as it read before: impl.ProgramOk answers what the reference's answers. -/
import Derived.Test.YtmckcjoacfekcaaRows
import Derived.Test.YtmckcjoacfekcaaLawPok2
import Derived.Test.YtmckcjoacfekcaaAm36
import Derived.WalkKit
import Derived.ProofKit
import Derived.OpenShut
import Derived.ShutString
import Derived.ChangeOld
import Derived.Below
import Derived.SizedLaws
namespace Go.Proofs.Ytmckcjoacfekcaa.fnExactProgramOk
open Go.ChangeShapes Go.WideShapes Go.ChangeAt Go.RowKit Go.Proofs.Ytmckcjoacfekcaa.AM
set_option linter.unusedVariables false
theorem own : ownKnob Try.prog.godebug = none := by kernel_rfl
theorem laidOut : laidOutB Try.prog = true := by kernel_rfl
def tyMIns : Ty := .st [.int .i64, .int .i64, .int .i64, .int .i64, .int .i64, .int .i64, .int .i64]
def tyProgram : Ty := .st [.int .i64, .sl 1 8 (.int .i64), .sl 1 8 (.int .i64), .sl 7 56 tyMIns]
def okMIns (x : GMIns) : Prop := inI x.op_ ∧ inI x.w ∧ inI x.d ∧ inI x.a ∧ inI x.b ∧ inI x.c ∧ inI x.imm
theorem dMIns : ∀ ls, Fits tyMIns ls → ∃ x, ls = eMIns x ∧ okMIns x := by
  intro ls h
  unfold tyMIns at h
  obtain ⟨l0, ls, rfl, h0, h⟩ := dc_cons h
  obtain ⟨l1, ls, rfl, h1, h⟩ := dc_cons h
  obtain ⟨l2, ls, rfl, h2, h⟩ := dc_cons h
  obtain ⟨l3, ls, rfl, h3, h⟩ := dc_cons h
  obtain ⟨l4, ls, rfl, h4, h⟩ := dc_cons h
  obtain ⟨l5, ls, rfl, h5, h⟩ := dc_cons h
  obtain ⟨l6, ls, rfl, h6, h⟩ := dc_cons h
  obtain rfl := dc_nil h
  obtain ⟨x0, rfl, k0⟩ := dc_i64 h0
  obtain ⟨x1, rfl, k1⟩ := dc_i64 h1
  obtain ⟨x2, rfl, k2⟩ := dc_i64 h2
  obtain ⟨x3, rfl, k3⟩ := dc_i64 h3
  obtain ⟨x4, rfl, k4⟩ := dc_i64 h4
  obtain ⟨x5, rfl, k5⟩ := dc_i64 h5
  obtain ⟨x6, rfl, k6⟩ := dc_i64 h6
  exact ⟨⟨x0, x1, x2, x3, x4, x5, x6⟩, rfl, k0, k1, k2, k3, k4, k5, k6⟩
def okProgram (x : GProgram) : Prop := inI x.regs ∧ (x.params.length * 8 ≤ reachBytes ∧ ∀ y ∈ x.params, inI y) ∧ (x.widths.length * 8 ≤ reachBytes ∧ ∀ y ∈ x.widths, inI y) ∧ (x.code.length * 56 ≤ reachBytes ∧ ∀ y ∈ x.code, okMIns y)
theorem dProgram : ∀ ls, Fits tyProgram ls → ∃ x, ls = eProgram false x ∧ okProgram x := by
  intro ls h
  unfold tyProgram at h
  obtain ⟨l0, ls, rfl, h0, h⟩ := dc_cons h
  obtain ⟨l1, ls, rfl, h1, h⟩ := dc_cons h
  obtain ⟨l2, ls, rfl, h2, h⟩ := dc_cons h
  obtain ⟨l3, ls, rfl, h3, h⟩ := dc_cons h
  obtain rfl := dc_nil h
  obtain ⟨x0, rfl, k0⟩ := dc_i64 h0
  obtain ⟨x1, rfl, k1⟩ := dc_list (fun _ h => dc_i64 h) h1
  obtain ⟨x2, rfl, k2⟩ := dc_list (fun _ h => dc_i64 h) h2
  obtain ⟨x3, rfl, k3⟩ := dc_list dMIns h3
  exact ⟨⟨x0, x1, x2, x3⟩, rfl, k0, k1, k2, k3⟩
theorem law (p : GProgram) (h : okProgram p) : laws_FnExactProgramOk_m p = some true := law_pok p ⟨h.2.1.1, h.2.2.1.1, h.2.2.2.1⟩
set_option maxRecDepth 100000 in
theorem lifted (os : Os) (started : os.Started) (H : Type) (enc : TypeId × Value → H) :
    ReturnsInHanded {} Try.checked os 4 .any (Rows.fnExactProgramOkSpec.pre6 enc Try.prog Try.f4 Rows.fnExactProgramOkRow.domain false) (Rows.fnExactProgramOkSpec.post enc Try.prog Try.f4 false true false false) := by
  refine returnsInHanded_of_change_sized (C := Try.checked) own started (by kernel_rfl) Try.func4
    (ChangeSpec.witness6 (enc := enc) (C := Try.checked) false ⟨#[], #[.agg #[.int .i64 0, .slice none 0 0, .slice none 0 0, .slice none 0 0]], []⟩ 8 (by kernel_rfl) (by kernel_rfl) (by kernel_rfl) (by kernel_rfl)) ?_
  intro W base args ds gs before hval0 hW hcnd hsz0 _
  have hsz : (DataW.weightsEach Try.prog (Try.f4.params.toList ++ Rows.fnExactProgramOkSpec.plain.varTypes Try.prog) (ds ++ gs)).all (· ≤ reachBytes) = true := hsz0
  have hval : ∀ (j : Nat) t v, Try.f4.params[j]? = some t → args[j]? = some v → Value.okWide Try.prog W .any base t v := hval0
  have hW' := hW
  obtain ⟨p, q, hA0, hV, rfl, hfz, hnd⟩ := hW
  have hA : DataW.TrodAll enc Try.prog W 0 (fun _ => true) true Try.f4.params.toList args.toList ds p := hA0
  rw [Try.params4] at hA hval hsz
  obtain ⟨v0, vs0, d0, ds0, p0, q0, hargs, rfl, rfl, h0, r0⟩ := trodAll_cons hA
  obtain ⟨rfl, rfl, rfl⟩ := trodAll_nil r0
  obtain rfl : args = #[v0] := by cases args; simp_all
  obtain ⟨rfl, rfl⟩ := trodVars_none hV
  have k0 := h0
  have lt0 : ∀ x ∈ p0, x.block < W.heap.size := by obtain ⟨m, hm⟩ := k0; exact DataW.trod_lt m _ _ _ hm
  have w0 : ∀ n ∈ d0.weights Try.prog 36, n ≤ reachBytes := fun n hn => of_decide_eq_true (List.all_eq_true.1 hsz n (DataW.weights_mem_each (j := 0) rfl rfl n hn))
  obtain ⟨ls0, u0, f0, g0⟩ := read_st (tyB_sound (f := 9) (ty := tyProgram) (by kernel_rfl)) (hval 0 36 v0 rfl rfl) h0 w0
  obtain ⟨x0, e0, o0⟩ := dProgram _ f0
  refine (enter_sim (us := [.agg ls0]) (vals := [v0]) (laws_FnExactProgramOk_sim x0 (law x0 o0)) (by simp only [List.map_cons, List.map_nil, mapU, e0]) (.cons u0 .nil) (by simpa [leavesU] using g0)).mono fun e W' ⟨x, rv, he, hrv, hvr, bel⟩ => ?_
  obtain rfl := res_bool hrv hvr
  subst he
  exact ⟨_, rfl, _, _, _, [], _, [], hW', trodAll_mk1 (shut_bool Try.underlying4 _), (trodAll_cons_mk (Below.trod laidOut (by kernel_rfl) (of_decide_eq_true (by kernel_rfl)) k0 bel lt0) trodAll_mk0), rfl, bel.frame _, fun h => by cases h⟩
theorem over : Rows.fnExactProgramOkRow.holds Try.pinned (OpenSpec.ofChange Rows.fnExactProgramOkSpec) :=
  OpenClaim.holds_of_wide 4 Try.f4 rfl rfl rfl rfl rfl rfl rfl ⟨rfl, rfl, rfl, rfl, rfl⟩ rfl rfl rfl rfl rfl (by kernel_rfl) Try.func4 (by kernel_rfl)
    (of_decide_eq_true (by kernel_rfl)) (by unfold Func.isWrapper; first | (rw [if_pos (by decide +kernel)]; kernel_rfl) | (rw [if_neg (by decide +kernel)]; exact ⟨rfl, rfl⟩))
    (fun os started H enc _ => lifted os started H enc)
theorem proved : Rows.FnExactProgramOkSaid := over
end Go.Proofs.Ytmckcjoacfekcaa.fnExactProgramOk
namespace Go.Proofs.Ytmckcjoacfekcaa
/-- The row, under a short name, for the claim. -/
theorem fnExactProgramOk_holds : Rows.FnExactProgramOkSaid := fnExactProgramOk.proved
#print axioms fnExactProgramOk_holds
end Go.Proofs.Ytmckcjoacfekcaa
