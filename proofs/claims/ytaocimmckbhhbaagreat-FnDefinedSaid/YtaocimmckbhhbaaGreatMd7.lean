/- For every list of bytes that Go can hold in memory, laws.FnDefined returns true, and its argument reads afterwards as it read before: each operand of what is reached stands ahead of it, in a block that dominates its own, or is a parameter. -/
import Derived.Test.YtaocimmckbhhbaaGreatMd6
import Derived.Test.YtaocimmckbhhbaaGreatRows
import Derived.WalkKit
import Derived.ProofKit
import Derived.OpenShut
import Derived.ShutString
import Derived.ChangeOld
import Derived.Below
import Derived.SizedLaws
namespace Go.Proofs.YtaocimmckbhhbaaGreat.fnDefined
open Go.ChangeShapes Go.WideShapes Go.ChangeAt Go.RowKit Go.Proofs.YtaocimmckbhhbaaGreat.AM
set_option linter.unusedVariables false
theorem own : ownKnob Tryz.prog.godebug = none := by kernel_rfl
theorem laidOut : laidOutB Tryz.prog = true := by kernel_rfl
set_option maxRecDepth 100000 in
theorem lifted (os : Os) (started : os.Started) (H : Type) (enc : TypeId × Value → H) :
  ReturnsInHanded {} Tryz.checked os 3 .any (Rows.fnDefinedSpec.pre6 enc Tryz.prog Tryz.f3 Rows.fnDefinedRow.domain false) (Rows.fnDefinedSpec.post enc Tryz.prog Tryz.f3 false true false false) := by
 refine returnsInHanded_of_change_sized (C := Tryz.checked) own started (by kernel_rfl) Tryz.func3
  (ChangeSpec.witness6 (enc := enc) (C := Tryz.checked) false ⟨#[], #[.slice none 0 0], []⟩ 8 (by kernel_rfl) (by kernel_rfl) (by kernel_rfl) (by kernel_rfl)) ?_
 intro W base args ds gs before hval0 hW hcnd hsz0 _
 have hsz : (DataW.weightsEach Tryz.prog (Tryz.f3.params.toList ++ Rows.fnDefinedSpec.plain.varTypes Tryz.prog) (ds ++ gs)).all (· ≤ reachBytes) = true := hsz0
 have hval : ∀ (j : Nat) t v, Tryz.f3.params[j]? = some t → args[j]? = some v → Value.okWide Tryz.prog W .any base t v := hval0
 have hW' := hW
 obtain ⟨p, q, hA0, hV, rfl, hfz, hnd⟩ := hW
 have hA : DataW.TrodAll enc Tryz.prog W 0 (fun _ => true) true Tryz.f3.params.toList args.toList ds p := hA0
 rw [Tryz.params3] at hA hval hsz
 obtain ⟨v0, vs0, d0, ds0, p0, q0, hargs, rfl, rfl, h0, r0⟩ := trodAll_cons hA
 obtain ⟨rfl, rfl, rfl⟩ := trodAll_nil r0
 obtain rfl : args = #[v0] := by cases args; simp_all
 obtain ⟨rfl, rfl⟩ := trodVars_none hV
 have k0 := h0
 have lt0 : ∀ x ∈ p0, x.block < W.heap.size := by obtain ⟨m, hm⟩ := k0; exact DataW.trod_lt m _ _ _ hm
 have w0 : ∀ n ∈ d0.weights Tryz.prog 22, n ≤ reachBytes := fun n hn => of_decide_eq_true (List.all_eq_true.1 hsz n (DataW.weights_mem_each (j := 0) rfl rfl n hn))
 obtain ⟨a0, len0, cap0, e1⟩ := okWide_slice (by kernel_rfl : Tryz.prog.underlying 22 = some (.slice 5)) (hval 0 22 v0 rfl rfl)
 obtain ⟨l0, u0, f0, g0⟩ := W5n (Y9a (f := 9) (ty := .sl 1 1 (.int .u8)) (by kernel_rfl)) (by subst e1; rfl) h0 w0
 obtain ⟨x0, e0, o1, o2⟩ := dc_list (fun _ h => dc_u8 h) f0
 have hr : reachBytes = 140737488351232 := rfl
 have e2 : erL l0 = .bs () 1 (List.map (iK .u8) x0) := by
  have := e0
  simp only [lL, sl, List.cons.injEq, and_true] at this
  simpa using this
 refine (W3z (us := [.one l0]) (vals := [v0]) (Y4y (X3k x0 (by omega) o2)) (by simp only [List.map_cons, List.map_nil, mapU, e2]) (.cons u0 .nil) (by simpa [Z1] using g0)).mono fun e W' ⟨x, rv, he, hrv, hvr, bel⟩ => ?_
 obtain rfl := W5i hrv hvr
 subst he
 exact ⟨_, rfl, _, _, _, [], _, [], hW', trodAll_mk1 (shut_bool Tryz.underlying4 _), (trodAll_cons_mk (Below.trod laidOut (by kernel_rfl) (of_decide_eq_true (by kernel_rfl)) k0 bel lt0) trodAll_mk0), rfl, bel.frame _, fun h => by cases h⟩
theorem over : Rows.fnDefinedRow.holds Tryz.pinned (OpenSpec.ofChange Rows.fnDefinedSpec) :=
 OpenClaim.holds_of_wide 3 Tryz.f3 rfl rfl rfl rfl rfl rfl rfl ⟨rfl, rfl, rfl, rfl, rfl⟩ rfl rfl rfl rfl rfl (by kernel_rfl) Tryz.func3 (by kernel_rfl)
  (of_decide_eq_true (by kernel_rfl)) (by unfold Func.isWrapper; first | (rw [if_pos (by decide +kernel)]; kernel_rfl) | (rw [if_neg (by decide +kernel)]; exact ⟨rfl, rfl⟩))
  (fun os started H enc _ => lifted os started H enc)
theorem proved : Rows.FnDefinedSaid := over
end Go.Proofs.YtaocimmckbhhbaaGreat.fnDefined
namespace Go.Proofs.YtaocimmckbhhbaaGreat
theorem fnDefined_holds : Rows.FnDefinedSaid := fnDefined.proved
#print axioms fnDefined_holds
end Go.Proofs.YtaocimmckbhhbaaGreat
