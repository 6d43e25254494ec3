/- For every list of bytes that Go can hold in memory, laws.FnChecked returns true, and its argument reads afterwards as it read before: what is checked is in its form, each operand is of the width that is wanted, and both programs tell it alike. -/
import Derived.Test.YtghdhjgoicnbcaaGreatMc6
import Derived.Test.YtghdhjgoicnbcaaGreatRows
import Derived.WalkKit
import Derived.ProofKit
import Derived.OpenShut
import Derived.ShutString
import Derived.ChangeOld
import Derived.Below
import Derived.SizedLaws
namespace Go.Proofs.YtghdhjgoicnbcaaGreat.fnChecked
open Go.ChangeShapes Go.WideShapes Go.ChangeAt Go.RowKit Go.Proofs.YtghdhjgoicnbcaaGreat.AM
set_option linter.unusedVariables false
theorem own : ownKnob Tryz.prog.godebug = none := by kernel_rfl
theorem laidOut : laidOutB Tryz.prog = true := by kernel_rfl
set_option maxRecDepth 100000 in
theorem lifted (os : Os) (started : os.Started) (H : Type) (enc : TypeId × Value → H) :
  ReturnsInHanded {} Tryz.checked os 4 .any (Rows.fnCheckedSpec.pre6 enc Tryz.prog Tryz.f4 Rows.fnCheckedRow.domain false) (Rows.fnCheckedSpec.post enc Tryz.prog Tryz.f4 false true false false) := by
 refine returnsInHanded_of_change_sized (C := Tryz.checked) own started (by kernel_rfl) Tryz.func4
  (ChangeSpec.witness6 (enc := enc) (C := Tryz.checked) false ⟨#[], #[.slice none 0 0], []⟩ 8 (by kernel_rfl) (by kernel_rfl) (by kernel_rfl) (by kernel_rfl)) ?_
 intro W base args ds gs before hval0 hW hcnd hsz0 _
 have hsz : (DataW.weightsEach Tryz.prog (Tryz.f4.params.toList ++ Rows.fnCheckedSpec.plain.varTypes Tryz.prog) (ds ++ gs)).all (· ≤ reachBytes) = true := hsz0
 have hval : ∀ (j : Nat) t v, Tryz.f4.params[j]? = some t → args[j]? = some v → Value.okWide Tryz.prog W .any base t v := hval0
 have hW' := hW
 obtain ⟨p, q, hA0, hV, rfl, hfz, hnd⟩ := hW
 have hA : DataW.TrodAll enc Tryz.prog W 0 (fun _ => true) true Tryz.f4.params.toList args.toList ds p := hA0
 rw [Tryz.params4] at hA hval hsz
 obtain ⟨v0, vs0, d0, ds0, p0, q0, hargs, rfl, rfl, h0, r0⟩ := trodAll_cons hA
 obtain ⟨rfl, rfl, rfl⟩ := trodAll_nil r0
 obtain rfl : args = #[v0] := by cases args; simp_all
 obtain ⟨rfl, rfl⟩ := trodVars_none hV
 have k0 := h0
 have lt0 : ∀ x ∈ p0, x.block < W.heap.size := by obtain ⟨m, hm⟩ := k0; exact DataW.trod_lt m _ _ _ hm
 have w0 : ∀ n ∈ d0.weights Tryz.prog 22, n ≤ reachBytes := fun n hn => of_decide_eq_true (List.all_eq_true.1 hsz n (DataW.weights_mem_each (j := 0) rfl rfl n hn))
 obtain ⟨a0, len0, cap0, e1⟩ := okWide_slice (by kernel_rfl : Tryz.prog.underlying 22 = some (.slice 5)) (hval 0 22 v0 rfl rfl)
 obtain ⟨l0, u0, f0, g0⟩ := W5s (Y9d (f := 9) (ty := .sl 1 1 (.int .u8)) (by kernel_rfl)) (by subst e1; rfl) h0 w0
 obtain ⟨x0, e0, o1, o2⟩ := dc_list (fun _ h => dc_u8 h) f0
 have hr : reachBytes = 140737488351232 := rfl
 have e2 : erL l0 = .bs () 1 (List.map (iK .u8) x0) := by
  have := e0
  simp only [lL, sl, List.cons.injEq, and_true] at this
  simpa using this
 refine (W4e (us := [.one l0]) (vals := [v0]) (Y5f (X3r x0 (by omega) o2)) (by simp only [List.map_cons, List.map_nil, mapU, e2]) (.cons u0 .nil) (by simpa [Z1] using g0)).mono fun e W' ⟨x, rv, he, hrv, hvr, bel⟩ => ?_
 obtain rfl := W5n hrv hvr
 subst he
 exact ⟨_, rfl, _, _, _, [], _, [], hW', trodAll_mk1 (shut_bool Tryz.underlying4 _), (trodAll_cons_mk (Below.trod laidOut (by kernel_rfl) (of_decide_eq_true (by kernel_rfl)) k0 bel lt0) trodAll_mk0), rfl, bel.frame _, fun h => by cases h⟩
theorem over : Rows.fnCheckedRow.holds Tryz.pinned (OpenSpec.ofChange Rows.fnCheckedSpec) :=
 OpenClaim.holds_of_wide 4 Tryz.f4 rfl rfl rfl rfl rfl rfl rfl ⟨rfl, rfl, rfl, rfl, rfl⟩ rfl rfl rfl rfl rfl (by kernel_rfl) Tryz.func4 (by kernel_rfl)
  (of_decide_eq_true (by kernel_rfl)) (by unfold Func.isWrapper; first | (rw [if_pos (by decide +kernel)]; kernel_rfl) | (rw [if_neg (by decide +kernel)]; exact ⟨rfl, rfl⟩))
  (fun os started H enc _ => lifted os started H enc)
theorem proved : Rows.FnCheckedSaid := over
end Go.Proofs.YtghdhjgoicnbcaaGreat.fnChecked
namespace Go.Proofs.YtghdhjgoicnbcaaGreat
theorem fnChecked_holds : Rows.FnCheckedSaid := fnChecked.proved
#print axioms fnChecked_holds
end Go.Proofs.YtghdhjgoicnbcaaGreat
