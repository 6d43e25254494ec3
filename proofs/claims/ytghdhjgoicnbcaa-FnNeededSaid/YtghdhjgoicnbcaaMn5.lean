import Derived.Test.YtghdhjgoicnbcaaMn4
import Derived.SizedLaws
import Derived.WideShapes
import Derived.ChangeSlices
import Derived.OpenShut
import Derived.Below
set_option linter.unusedVariables false
set_option linter.unusedSimpArgs false
namespace Go.Proofs.Ytghdhjgoicnbcaa.AM
open Go
set_option linter.unusedSimpArgs false
set_option linter.unusedVariables false
set_option maxHeartbeats 8000000
set_option maxRecDepth 100000
attribute [local irreducible] aopK awpOps Wp St WpO
/-- impl.isFormed -/
noncomputable def impl_isFormed_m (f : GFunc) : Option Bool :=
 (Option.bind (impl_isFunc_m f 3) fun x1 =>
 (some x1))
theorem impl_isFormed_sim {f : GFunc} {r : Bool} (hm : impl_isFormed_m f = some r) : Sim Try.prog 21 [.agg (eFunc false f)] [] (.u (.one (.bool r))) [] := by
 refine fN 5 0 Try.func21 [.tmp 2] fun B hB0 => ?_
 unfold impl_isFormed_m at hm
 refine yG ?_
 intro _ hm
 refine nO (kW ?_)
 obtain ⟨x1, h2, hm⟩ := of_bind hm
 refine nO (aopK_A (cB (impl_isFunc_sim h2) ?_))
 refine yG ?_
 intro _ hm
 cases hm
 exact rZ1
/-- impl.isId -/
noncomputable def impl_isId_m (f : GFunc) (id : Int) : Option Bool :=
 (Option.bind (impl_CountOf_m f) fun x1 =>
 (if inI (x1 - 1) then
 (some ((impl_within_m id 0 (x1 - 1))))
 else none))
theorem impl_isId_sim {f : GFunc} {id : Int} {r : Bool} (hm : impl_isId_m f id = some r) : Sim Try.prog 25 [.agg (eFunc false f), .one (.int .i64 id)] [] (.u (.one (.bool r))) [] := by
 refine fN 10 0 Try.func25 [.tmp 4] fun B hB0 => ?_
 unfold impl_isId_m at hm
 refine yG ?_
 intro _ hm
 refine nO (kW ?_)
 obtain ⟨x1, h2, hm⟩ := of_bind hm
 refine nO (aopK_A (cB (impl_CountOf_sim h2) ?_))
 refine yG ?_
 intro k1 hm
 refine nO (aopK_A (cB (impl_within_sim id 0 (x1 - 1)) ?_))
 refine yG ?_
 intro _ hm
 cases hm
 exact rZ1
/-- impl.PlaceOf -/
noncomputable def impl_PlaceOf_m (f : GFunc) (id : Int) : Option (Int × Int) :=
 (Option.bind (impl_isId_m f id) fun x1 =>
 (if (!x1) = true then
 (some (((-2), 0)))
 else
 (if decide (id < ((List.length f.params : Int))) = true then
 (some (((-1), id)))
 else
 (Option.bind (loopO (fun (st7 : Int × Int) =>
 ((if decide (st7.1 < ((List.length f.blocks : Int))) = true then
 (if 0 ≤ st7.1 ∧ st7.1 < (List.length f.blocks : Int) then
 (if inI (st7.2 + (((List.length ((at_ f.blocks st7.1).phis) : Int)) + ((List.length ((at_ f.blocks st7.1).insts) : Int)))) then
 (if decide (id < (st7.2 + (((List.length ((at_ f.blocks st7.1).phis) : Int)) + ((List.length ((at_ f.blocks st7.1).insts) : Int))))) = true then
 (some (Sum.inr ((Sum.inl ((st7.1, IntKind.i64.wrap (id - st7.2)))))))
 else
 (if inI (st7.2 + (((List.length ((at_ f.blocks st7.1).phis) : Int)) + ((List.length ((at_ f.blocks st7.1).insts) : Int)))) then
 (if inI (st7.1 + 1) then
 (some (Sum.inl ((st7.1 + 1, st7.2 + (((List.length ((at_ f.blocks st7.1).phis) : Int)) + ((List.length ((at_ f.blocks st7.1).insts) : Int)))))))
 else none)
 else none))
 else none)
 else none)
 else
 (some (Sum.inr ((Sum.inr (())))))) : Option ((Int × Int) ⊕ ((Int × Int) ⊕ Unit)))) (0, (List.length f.params : Int))) fun (y18 : (Int × Int) ⊕ Unit) => match y18 with
 | (Sum.inl j8) =>
 (some ((j8.1, j8.2)))
 | (Sum.inr j9) =>
 (some (((-2), 0)))))))
theorem impl_PlaceOf_sim {f : GFunc} {id : Int} {r : Int × Int} (hm : impl_PlaceOf_m f id = some r) : Sim Try.prog 12 [.agg (eFunc false f), .one (.int .i64 id)] [] (.tup [.one (.int .i64 r.1), .one (.int .i64 r.2)]) [] := by
 refine fN 49 0 Try.func12 [.tmp 4, .tmp 5] fun B hB0 => ?_
 have fW := trivial
 unfold impl_PlaceOf_m at hm
 refine yG ?_
 intro _ hm
 refine nO (kW ?_)
 refine yG ?_
 intro _ hm
 obtain ⟨x1, h2, hm⟩ := of_bind hm
 refine nO (aopK_A (cB (impl_isId_sim h2) ?_))
 refine yG ?_
 intro _ hm
 refine bS hm (fun hb3 hm => ?_) fun hb3 hm => ?_
 refine yG ?_
 intro _ hm
 cases hm
 exact rZt
 refine yG ?_
 intro k1 hm
 refine bS hm (fun hb5 hm => ?_) fun hb5 hm => ?_
 refine yG ?_
 intro _ hm
 cases hm
 exact rZt
 refine yG ?_
 intro k2 hm
 obtain ⟨y18, hl19, hm⟩ := of_bind hm
 refine c_loop hl19 (fun (st7 : Int × Int) => St 49 [(1, vI id), (6, vI st7.2), (22, .u (.one (.bs () 6 (List.map (eBlock false) f.blocks)))), (23, vI ((List.length f.blocks : Int))), (24, vI st7.1)] [] 0) (fun (y : (Int × Int) ⊕ Unit) => match y with | (Sum.inl j8) => (.ret, St 49 [(4, vI j8.1), (5, vI j8.2)] [] 0) | (Sum.inr j9) => (.exit 0, St 49 [] [] 0)) (vW []) ?_ (by rintro (_ | _) <;> simp) ?_
 intro st7 x hm
 refine yG ?_
 intro _ hm
 refine bS hm (fun hb10 hm => ?_) fun hb10 hm => ?_
 refine yG ?_
 intro k3 hm
 refine nO (x_ldi T40 rfl (pk_all rfl rfl) rfl ?_)
 refine yG ?_
 intro k4 hm
 refine nO (x_addc T3 rfl rfl (by unfold inI; omega) ?_)
 refine yG ?_
 intro k5 hm
 refine bS hm (fun hb15 hm => ?_) fun hb15 hm => ?_
 refine yG ?_
 intro _ hm
 refine nO (x_binw T2 rfl rfl rfl ?_)
 refine yG ?_
 intro _ hm
 cases hm
 exact ⟨rfl, vW []⟩
 refine yG ?_
 intro k6 hm
 cases hm
 exact ⟨rfl, vW []⟩
 refine c_exit ?_
 cases hm
 exact ⟨rfl, vW []⟩
 rcases y18 with j8 | j9 <;> simp only at hm
 cases hm
 exact rZt
 refine yG ?_
 intro _ hm
 cases hm
 exact rZt
/-- impl.instOf -/
noncomputable def impl_instOf_m (f : GFunc) (id : Int) : Option (GInst × Bool) :=
 (Option.bind (impl_PlaceOf_m f id) fun x1 =>
 (Option.bind ((if decide (x1.1 < 0) = true then
 (some true)
 else
 (if 0 ≤ x1.1 ∧ x1.1 < (List.length f.blocks : Int) then
 (some (decide (x1.2 < ((List.length ((at_ f.blocks x1.1).phis) : Int)))))
 else none))) fun (j3 : Bool) =>
 (if j3 = true then
 (some ((({ op_ := 0, w := 0, a := 0, b := 0, c := 0, imm := 0, args := [] } : GInst), false)))
 else
 (if 0 ≤ x1.1 ∧ x1.1 < (List.length f.blocks : Int) then
 (if 0 ≤ x1.1 ∧ x1.1 < (List.length f.blocks : Int) then
 (if 0 ≤ (IntKind.i64.wrap (x1.2 - ((List.length ((at_ f.blocks x1.1).phis) : Int)))) ∧ (IntKind.i64.wrap (x1.2 - ((List.length ((at_ f.blocks x1.1).phis) : Int)))) < (List.length ((at_ f.blocks x1.1).insts) : Int) then
 (some ((({ op_ := (at_ ((at_ f.blocks x1.1).insts) (IntKind.i64.wrap (x1.2 - ((List.length ((at_ f.blocks x1.1).phis) : Int))))).op_, w := (at_ ((at_ f.blocks x1.1).insts) (IntKind.i64.wrap (x1.2 - ((List.length ((at_ f.blocks x1.1).phis) : Int))))).w, a := (at_ ((at_ f.blocks x1.1).insts) (IntKind.i64.wrap (x1.2 - ((List.length ((at_ f.blocks x1.1).phis) : Int))))).a, b := (at_ ((at_ f.blocks x1.1).insts) (IntKind.i64.wrap (x1.2 - ((List.length ((at_ f.blocks x1.1).phis) : Int))))).b, c := (at_ ((at_ f.blocks x1.1).insts) (IntKind.i64.wrap (x1.2 - ((List.length ((at_ f.blocks x1.1).phis) : Int))))).c, imm := (at_ ((at_ f.blocks x1.1).insts) (IntKind.i64.wrap (x1.2 - ((List.length ((at_ f.blocks x1.1).phis) : Int))))).imm, args := (at_ ((at_ f.blocks x1.1).insts) (IntKind.i64.wrap (x1.2 - ((List.length ((at_ f.blocks x1.1).phis) : Int))))).args } : GInst), true)))
 else none)
 else none)
 else none))))
theorem impl_instOf_sim {f : GFunc} {id : Int} {r : GInst × Bool} (hm : impl_instOf_m f id = some r) : Sim Try.prog 42 [.agg (eFunc false f), .one (.int .i64 id)] [] (.tup [.agg (eInst false r.1), .one (.bool r.2)]) [] := by
 refine fN 45 0 Try.func42 [.cell 4 45, .tmp 5] fun B hB0 => ?_
 have fW := trivial
 unfold impl_instOf_m at hm
 refine yG ?_
 intro _ hm
 refine nO (kW ?_)
 refine yG ?_
 intro _ hm
 obtain ⟨x1, h2, hm⟩ := of_bind hm
 refine nO (aopK_A (cB (impl_PlaceOf_sim h2) ?_))
 refine yR ?_
 intro _ hm
 refine o_end ?_
 refine Wp.seq ?_
 refine Wp.seq ?_
 obtain ⟨j3, hj7, hm⟩ := of_bind hm
 refine c_cut (St 45 [(2, vP 0), (4, vP 1), (6, vI x1.1), (7, vI x1.2), (26, vB j3)] [(0, oL 3 (eFunc false f)), (1, oL 7 [.int .i64 0, .int .i64 0, .int .i64 0, .int .i64 0, .int .i64 0, .int .i64 0, .nl])] 2) ?_ ?_
 replace hm := hj7
 refine yG ?_
 intro _ hm
 refine bG0 hm (fun hb4 hm => ?_) fun hb4 hm => ?_
 refine yG ?_
 intro k1 hm
 cases hm
 exact vW [0, 1]
 refine yG ?_
 intro _ hm
 cases hm
 exact vW [0, 1]
 refine bS hm (fun hb8 hm => ?_) fun hb8 hm => ?_
 refine yG ?_
 intro _ hm
 cases hm
 exact rZth (hg := f_nl 0 6 1 false rfl rfl rfl)
 refine c_skip ?_
 refine Wp.seq ?_
 refine c_drw (Y := sysC _) mixed ?_
 refine tK 0 1 rfl (kF ?_)
 refine tK 1 1 rfl (kD ?_)
 refine tK 2 0 rfl (kV ?_)
 obtain ⟨h9, hm⟩ := of_ite hm
 refine tK 3 0 rfl (x_ixb E25 rfl rfl h9 ?_)
 refine tK 4 0 rfl (x_fai F40_1 rfl ?_)
 refine tK 5 0 rfl (x_ldi T36 rfl rfl rfl ?_)
 refine tK 6 0 rfl (kV ?_)
 refine tK 7 1 rfl (kF ?_)
 refine tK 8 1 rfl (kD ?_)
 refine tK 9 0 rfl (kV ?_)
 obtain ⟨h10, hm⟩ := of_ite hm
 refine tK 10 0 rfl (x_ixb E25 rfl rfl h10 ?_)
 refine tK 11 0 rfl (x_fai F40_0 rfl ?_)
 refine tK 12 0 rfl (x_ldi T35 rfl rfl rfl ?_)
 refine tK 13 0 rfl (x_lnb N35 rfl fun hL11 => ?_)
 refine tK 14 0 rfl (x_binw T2 rfl rfl rfl ?_)
 obtain ⟨h12, hm⟩ := of_ite hm
 refine tK 15 0 rfl (x_ixb E36 rfl rfl h12 ?_)
 refine tK 16 0 rfl (x_ldi T45 rfl (pk_all rfl rfl) rfl ?_)
 refine oK 17 rfl (kS ?_)
 refine tK 18 0 rfl (x_as rfl rfl ?_)
 refine aN ?_
 refine c_ret ?_
 cases hm
 exact rZt
/-- impl.isDivision -/
noncomputable def impl_isDivision_m (op_ : Int) : Bool :=
 ((impl_within_m op_ 4 7))
theorem impl_isDivision_sim (op_ : Int) : Sim Try.prog 76 [.one (.int .i64 op_)] [] (.u (.one (.bool ((impl_isDivision_m op_))))) [] := by
 generalize hm : impl_isDivision_m op_ = r
 refine fN 5 0 Try.func76 [.tmp 2] fun B hB0 => ?_
 unfold impl_isDivision_m at hm
 refine yG ?_
 intro _ hm
 refine nO (aopK_A (cB (impl_within_sim op_ 4 7) ?_))
 refine yG ?_
 intro _ hm
 cases hm
 exact rZ1
/-- impl.ConstOf -/
noncomputable def impl_ConstOf_m (f : GFunc) (id : Int) : Option (Int × Bool) :=
 (Option.bind (impl_instOf_m f id) fun x1 =>
 (if ((!x1.2) || (x1.1.op_ != 21)) = true then
 (some ((0, false)))
 else
 (some ((x1.1.imm, true)))))
theorem impl_ConstOf_sim {f : GFunc} {id : Int} {r : Int × Bool} (hm : impl_ConstOf_m f id = some r) : Sim Try.prog 77 [.agg (eFunc false f), .one (.int .i64 id)] [] (.tup [.one (.int .i64 r.1), .one (.bool r.2)]) [] := by
 refine fN 23 0 Try.func77 [.tmp 4, .tmp 5] fun B hB0 => ?_
 unfold impl_ConstOf_m at hm
 refine yG ?_
 intro _ hm
 refine nO (kW ?_)
 refine yG ?_
 intro _ hm
 obtain ⟨x1, h2, hm⟩ := of_bind hm
 refine nO (cG [] (impl_instOf_sim h2) ?_)
 refine yR ?_
 intro _ hm
 refine o_end ?_
 refine Wp.seq ?_
 refine Wp.seq ?_
 refine c_cut (St 23 [(6, vP 0), (20, vB (((!x1.2) || (x1.1.op_ != 21))))] [(0, oL 7 (eInst false x1.1))] 1) ?_ ?_
 refine yG ?_
 intro _ hm
 refine gO_s rfl rfl rfl (fun hb4 => ?_) (fun hb4 => ?_)
 refine yG ?_
 intro _ hm
 exact w_ [1] (.cons rfl rfl (.cons (by simp only [hb4, BO]; rfl) rfl .nil)) (.lit rfl rfl .nil) (by decide) (hB_0 hB0)
 refine yG ?_
 intro _ hm
 exact w_ [1] (.cons rfl rfl (.cons (by simp only [hb4, BO]; rfl) rfl .nil)) (.lit rfl rfl .nil) (by decide) (hB_0 hB0)
 refine bS hm (fun hb5 hm => ?_) fun hb5 hm => ?_
 refine yG ?_
 intro _ hm
 cases hm
 exact rZt
 refine yG ?_
 intro _ hm
 cases hm
 exact rZt
/-- impl.isRoot -/
noncomputable def impl_isRoot_m (f : GFunc) (i : GInst) : Option Bool :=
 (if (impl_isDivision_m i.op_) = true then
 (Option.bind (impl_ConstOf_m f i.b) fun x2 =>
 (some (((!x2.2) || (x2.1 == 0)))))
 else
 (some ((impl_within_m i.op_ 23 26))))
theorem impl_isRoot_sim {f : GFunc} {i : GInst} {r : Bool} (hm : impl_isRoot_m f i = some r) : Sim Try.prog 43 [.agg (eFunc false f), .agg (eInst false i)] [] (.u (.one (.bool r))) [] := by
 refine fN 26 0 Try.func43 [.tmp 4] fun B hB0 => ?_
 unfold impl_isRoot_m at hm
 refine yG ?_
 intro _ hm
 refine nO (aopK_A (cB (impl_isDivision_sim i.op_) ?_))
 refine o_end ?_
 refine bS hm (fun hb1 hm => ?_) fun hb1 hm => ?_
 refine Wp.seq ?_
 refine c_regS ?_
 refine nO (kW ?_)
 refine yG ?_
 intro _ hm
 obtain ⟨x2, h3, hm⟩ := of_bind hm
 refine nO (aopK_A (cB (impl_ConstOf_sim h3) ?_))
 refine yR ?_
 intro _ hm
 refine o_end ?_
 refine Wp.seq ?_
 refine c_cut (St 26 [(4, vB (((!x2.2) || (x2.1 == 0))))] [] 0) ?_ ?_
 refine yG ?_
 intro _ hm
 refine gO_s rfl rfl rfl (fun hb5 => ?_) (fun hb5 => ?_)
 refine yG ?_
 intro _ hm
 exact w_ [] (.cons (by simp only [hb5, BO]; rfl) rfl .nil) .nil (by decide) (hB_0 hB0)
 refine yG ?_
 intro _ hm
 exact w_ [] (.cons (by simp only [hb5, BO]; rfl) rfl .nil) .nil (by decide) (hB_0 hB0)
 refine c_ret ?_
 cases hm
 exact rZ1
 refine yG ?_
 intro _ hm
 refine nO (aopK_A (cB (impl_within_sim i.op_ 23 26) ?_))
 refine yG ?_
 intro _ hm
 cases hm
 exact rZ1
/-- impl.endNames -/
noncomputable def impl_endNames_m (t : GTerm) : List Int :=
 (if ((t.kind == 1) || (t.kind == 3)) = true then
 ([t.a])
 else
 ([]))
theorem impl_endNames_sim (t : GTerm) : Sim Try.prog 44 [.agg (eTerm t)] [] (.u (.one (.os () 1 (List.map iL ((impl_endNames_m t)))))) [] := by
 generalize hm : impl_endNames_m t = r
 refine fN 14 0 Try.func44 [.tmp 2] fun B hB0 => ?_
 unfold impl_endNames_m at hm
 refine Wp.seq ?_
 refine c_regS ?_
 refine yR ?_
 intro _ hm
 refine o_end ?_
 refine Wp.seq ?_
 refine Wp.seq ?_
 refine c_cut (St 14 [(1, vP 0), (10, vB (((t.kind == 1) || (t.kind == 3))))] [(0, oL 4 (eTerm t))] 1) ?_ ?_
 refine yG ?_
 intro _ hm
 refine gO_s rfl rfl rfl (fun hb2 => ?_) (fun hb2 => ?_)
 refine yG ?_
 intro _ hm
 exact w_ [0] (.cons rfl rfl (.cons (by simp only [hb2, BO]; rfl) rfl .nil)) (.lit rfl rfl .nil) (by decide) (hB_0 hB0)
 refine yG ?_
 intro _ hm
 exact w_ [0] (.cons rfl rfl (.cons (by simp only [hb2, BO]; rfl) rfl .nil)) (.lit rfl rfl .nil) (by decide) (hB_0 hB0)
 refine bS hm (fun hb3 hm => ?_) fun hb3 hm => ?_
 refine yG ?_
 intro _ hm
 refine nO (kM (iL) ([t.a]) ?_)
 refine yG ?_
 intro _ hm
 cases hm
 exact rZ1h (hg := f_fold 0 0 rfl rfl rfl rfl)
 refine yG ?_
 intro _ hm
 cases hm
 exact rZ1h (hg := f_nl 0 0 1 true rfl rfl rfl)
/-- impl.namesOf -/
noncomputable def impl_namesOf_m (f : GFunc) (id : Int) : Option (List Int) :=
 (Option.bind (impl_PlaceOf_m f id) fun x1 =>
 (if decide (x1.1 < 0) = true then
 (some ([]))
 else
 (if 0 ≤ x1.1 ∧ x1.1 < (List.length f.blocks : Int) then
 (if decide (x1.2 < ((List.length ((at_ f.blocks x1.1).phis) : Int))) = true then
 (if 0 ≤ x1.1 ∧ x1.1 < (List.length f.blocks : Int) then
 (if 0 ≤ x1.2 ∧ x1.2 < (List.length ((at_ f.blocks x1.1).phis) : Int) then
 (some ((at_ ((at_ f.blocks x1.1).phis) x1.2).ins))
 else none)
 else none)
 else
 (Option.bind (impl_instOf_m f id) fun x9 =>
 (Option.bind (impl_OperandsOf_m x9.1) fun x11 =>
 (some x11))))
 else none)))
theorem impl_namesOf_sim {f : GFunc} {id : Int} {r : List Int} (hm : impl_namesOf_m f id = some r) : Sim Try.prog 45 [.agg (eFunc false f), .one (.int .i64 id)] [] (.u (.one (.bs () 1 (List.map iL r)))) [] := by
 refine fN 44 0 Try.func45 [.tmp 4] fun B hB0 => ?_
 unfold impl_namesOf_m at hm
 refine yG ?_
 intro _ hm
 refine nO (kW ?_)
 refine yG ?_
 intro _ hm
 obtain ⟨x1, h2, hm⟩ := of_bind hm
 refine nO (aopK_A (cB (impl_PlaceOf_sim h2) ?_))
 refine yG ?_
 intro _ hm
 refine bS hm (fun hb3 hm => ?_) fun hb3 hm => ?_
 refine yG ?_
 intro _ hm
 cases hm
 exact rZ1h (hg := f_nl 0 0 1 false rfl rfl rfl)
 refine yG ?_
 intro k1 hm
 refine bS hm (fun hb6 hm => ?_) fun hb6 hm => ?_
 refine yG ?_
 intro k2 hm
 cases hm
 exact rZ1
 refine yG ?_
 intro _ hm
 refine nO (kW ?_)
 refine yG ?_
 intro _ hm
 obtain ⟨x9, h10, hm⟩ := of_bind hm
 refine nO (cG [] (impl_instOf_sim h10) ?_)
 refine yG ?_
 intro _ hm
 refine nO (kW ?_)
 obtain ⟨x11, h12, hm⟩ := of_bind hm
 refine nO (aopK_A (cB (impl_OperandsOf_sim h12) ?_))
 refine yG ?_
 intro _ hm
 cases hm
 exact rZ1h (hg := f_frR 0 0 rfl rfl rfl (by first | rfl | simp) rfl rfl)
/-- impl.needed -/
noncomputable def impl_needed_m (f : GFunc) : Option (List Bool) :=
 (Option.bind (impl_CountOf_m f) fun x1 =>
 (if 0 ≤ x1 ∧ x1 ≤ x1 ∧ x1 * (1 : Nat) ≤ 140737488355328 ∧ x1 ≤ 140737488355328 then
 (Option.bind (impl_CountOf_m f) fun x4 =>
 (Option.bind (loopO (fun (st6 : (List Int) × Int) =>
 ((if decide (st6.2 < x4) = true then
 (Option.bind (impl_instOf_m f st6.2) fun x9 =>
 (Option.bind ((if x9.2 = true then
 (Option.bind (impl_isRoot_m f x9.1) fun x13 =>
 (some x13))
 else
 (some false))) fun (j11 : Bool) =>
 (if j11 = true then
 (if (List.length st6.1 + List.length ([st6.2])) * 8 ≤ 140737488355328 ∧ List.length st6.1 + List.length ([st6.2]) ≤ LIM then
 (if inI (st6.2 + 1) then
 (some (Sum.inl ((st6.1 ++ ([st6.2]), st6.2 + 1))))
 else none)
 else none)
 else
 (if inI (st6.2 + 1) then
 (some (Sum.inl ((st6.1, st6.2 + 1))))
 else none))))
 else
 (some (Sum.inr st6.1))) : Option (((List Int) × Int) ⊕ (((List Int)))))) (([] : List Int), 0)) fun (j7 : (List Int)) =>
 (Option.bind (loopO (fun (st23 : (List Int) × Int) =>
 ((if decide (st23.2 < ((List.length f.blocks : Int))) = true then
 (if 0 ≤ st23.2 ∧ st23.2 < (List.length f.blocks : Int) then
 (if (List.length st23.1 + List.length ((impl_endNames_m (((at_ f.blocks st23.2).term))))) * 8 ≤ 140737488355328 ∧ List.length st23.1 + List.length ((impl_endNames_m (((at_ f.blocks st23.2).term)))) ≤ LIM then
 (if inI (st23.2 + 1) then
 (some (Sum.inl ((st23.1 ++ ((impl_endNames_m (((at_ f.blocks st23.2).term)))), st23.2 + 1))))
 else none)
 else none)
 else none)
 else
 (some (Sum.inr st23.1))) : Option (((List Int) × Int) ⊕ (((List Int)))))) (j7, 0)) fun (j24 : (List Int)) =>
 (Option.bind (loopO (fun (st31 : (List Bool) × (List Int)) =>
 ((if decide (((List.length st31.2 : Int)) > 0) = true then
 (if (0 : Int) ≤ 0 ∧ 0 < (List.length st31.2 : Int) then
 (if 1 ≤ (List.length st31.2) ∧ (List.length st31.2) ≤ List.length st31.2 then
 (if 0 ≤ (at_ st31.2 0) ∧ (at_ st31.2 0) < (List.length st31.1 : Int) then
 (if (!(at_ st31.1 (at_ st31.2 0))) = true then
 (if 0 ≤ (at_ st31.2 0) ∧ (at_ st31.2 0) < (List.length st31.1 : Int) then
 (Option.bind (impl_namesOf_m f (at_ st31.2 0)) fun x40 =>
 (if (List.length (List.drop 1 st31.2) + List.length x40) * 8 ≤ 140737488355328 ∧ List.length (List.drop 1 st31.2) + List.length x40 ≤ LIM then
 (some (Sum.inl ((List.set st31.1 (Int.toNat (at_ st31.2 0)) true, (List.drop 1 st31.2) ++ x40))))
 else none))
 else none)
 else
 (some (Sum.inl ((st31.1, List.drop 1 st31.2)))))
 else none)
 else none)
 else none)
 else
 (some (Sum.inr st31.1))) : Option (((List Bool) × (List Int)) ⊕ (((List Bool)))))) (List.replicate (Int.toNat x1) false, j24)) fun (j32 : (List Bool)) =>
 (some j32)))))
 else none))
theorem impl_needed_sim {f : GFunc} {r : List Bool} (hm : impl_needed_m f = some r) : Sim Try.prog 22 [.agg (eFunc false f)] [] (.u (.one (.os () 1 (List.map bL r)))) [] := by
 refine fN 72 0 Try.func22 [.tmp 2] fun B hB0 => ?_
 unfold impl_needed_m at hm
 refine yG ?_
 intro _ hm
 refine nO (kW ?_)
 obtain ⟨x1, h2, hm⟩ := of_bind hm
 refine nO (aopK_A (cB (impl_CountOf_sim h2) ?_))
 obtain ⟨h3, hm⟩ := of_ite hm
 refine nO (x_mk (enc := bL) (d := false) A53 rfl rfl rfl h3 ?_)
 refine yG ?_
 intro _ hm
 refine nO (kM (iL) (([] : List Int)) ?_)
 refine yG ?_
 intro _ hm
 refine nO (kW ?_)
 obtain ⟨x4, h5, hm⟩ := of_bind hm
 refine nO (aopK_A (cB (impl_CountOf_sim h5) ?_))
 refine yG ?_
 intro _ hm
 obtain ⟨j7, hl21, hm⟩ := of_bind hm
 refine lP hl21 (fun st6 => St 72 [(1, vP 0), (3, vR 1 (List.length (List.replicate (Int.toNat x1) false))), (4, vR 2 (List.length st6.1)), (16, vI x4), (17, vI st6.2)] [(0, oL 3 (eFunc false f)), (1, oM 1 bL (List.replicate (Int.toNat x1) false)), (2, oM 1 iL st6.1)] 3) (fun j7 => (.exit 0, St 72 [(1, vP 0), (3, vR 1 (List.length (List.replicate (Int.toNat x1) false))), (4, vR 2 (List.length j7))] [(0, oL 3 (eFunc false f)), (1, oM 1 bL (List.replicate (Int.toNat x1) false)), (2, oM 1 iL j7)] 3)) (vW [0, 1, 2]) ?_ ?_
 intro st6 x hm
 refine yG ?_
 intro _ hm
 refine bS hm (fun hb8 hm => ?_) fun hb8 hm => ?_
 refine yG ?_
 intro _ hm
 refine nO (kW ?_)
 refine yG ?_
 intro _ hm
 obtain ⟨x9, h10, hm⟩ := of_bind hm
 refine nO (cG [] (impl_instOf_sim h10) ?_)
 refine yR ?_
 intro _ hm
 refine o_end ?_
 refine Wp.seq ?_
 obtain ⟨j11, hj15, hm⟩ := of_bind hm
 refine c_cut (St 72 [(1, vP 0), (3, vR 1 (List.length (List.replicate (Int.toNat x1) false))), (4, vR 2 (List.length st6.1)), (16, vI x4), (17, vI st6.2), (5, vI st6.2), (31, vB j11)] [(0, oL 3 (eFunc false f)), (1, oM 1 bL (List.replicate (Int.toNat x1) false)), (2, oM 1 iL st6.1)] 3) ?_ ?_
 replace hm := hj15
 refine yG ?_
 intro _ hm
 refine bG1 hm (fun hb12 hm => ?_) fun hb12 hm => ?_
 refine gO_t rfl rfl rfl (kW ?_)
 refine gO_t rfl rfl rfl (kW ?_)
 obtain ⟨x13, h14, hm⟩ := of_bind hm
 refine gO_t rfl rfl rfl (aopK_A (cB (impl_isRoot_sim h14) ?_))
 refine yG ?_
 intro _ hm
 cases hm
 exact vW [0, 1, 2]
 refine yG ?_
 intro _ hm
 cases hm
 exact vW [0, 1, 2]
 refine bS hm (fun hb16 hm => ?_) fun hb16 hm => ?_
 refine yG ?_
 intro _ hm
 refine nO (kM (iL) ([st6.2]) ?_)
 refine yG ?_
 intro k1 hm
 cases hm
 exact ⟨rfl, vW [0, 1, 4]⟩
 refine yG ?_
 intro k2 hm
 cases hm
 exact ⟨rfl, vW [0, 1, 2]⟩
 refine c_exit ?_
 cases hm
 exact ⟨rfl, vW [0, 1, 2]⟩
 refine yG ?_
 intro k3 hm
 obtain ⟨j24, hl30, hm⟩ := of_bind hm
 refine lP hl30 (fun st23 => St 72 [(1, vP 0), (3, vR 1 (List.length (List.replicate (Int.toNat x1) false))), (4, vR 2 (List.length st23.1)), (38, .u (.one (.bs () 6 (List.map (eBlock false) f.blocks)))), (39, vI ((List.length f.blocks : Int))), (40, vI st23.2)] [(0, oL 3 (eFunc false f)), (1, oM 1 bL (List.replicate (Int.toNat x1) false)), (2, oM 1 iL st23.1)] 3) (fun j24 => (.exit 2, St 72 [(1, vP 0), (3, vR 1 (List.length (List.replicate (Int.toNat x1) false))), (4, vR 2 (List.length j24))] [(0, oL 3 (eFunc false f)), (1, oM 1 bL (List.replicate (Int.toNat x1) false)), (2, oM 1 iL j24)] 3)) (vW [0, 1, 2]) ?_ ?_
 intro st23 x hm
 refine yG ?_
 intro _ hm
 refine bS hm (fun hb25 hm => ?_) fun hb25 hm => ?_
 refine yG ?_
 intro k4 hm
 refine nO (x_ldi T40 rfl (pk_all rfl rfl) rfl ?_)
 refine yG ?_
 intro _ hm
 refine nO (kL (.agg (eTerm (((at_ f.blocks st23.2).term)))) ?_)
 refine nO (aopK_A (cB (impl_endNames_sim (((at_ f.blocks st23.2).term))) ?_))
 refine yG ?_
 intro k5 hm
 cases hm
 exact ⟨rfl, vW [0, 1, 5]⟩
 refine c_exit ?_
 cases hm
 exact ⟨rfl, vW [0, 1, 2]⟩
 refine Wp.seq ?_
 refine Wp.block ?_
 obtain ⟨j32, hl44, hm⟩ := of_bind hm
 refine lP hl44 (fun st31 => St 72 [(1, vP 0), (3, vR 1 (List.length st31.1)), (4, vR 2 (List.length st31.2))] [(0, oL 3 (eFunc false f)), (1, oM 1 bL st31.1), (2, oM 1 iL st31.2)] 3) (fun j32 => (.exit 4, St 72 [(3, vR 0 (List.length j32))] [(0, oM 1 bL j32)] 1)) (vW [0, 1, 2]) ?_ ?_
 intro st31 x hm
 refine yG ?_
 intro k6 hm
 refine bS hm (fun hb34 hm => ?_) fun hb34 hm => ?_
 refine yG ?_
 intro k7 hm
 obtain ⟨h36, hm⟩ := of_ite hm
 refine nO (x_slr (l := 1) (h := (List.length st31.2)) rfl E24 rfl rfl (bd_s (m := 1) rfl (by decide)) bd_n h36 ?_)
 refine WpO.ghb (f_cutd 57 st31.2 (List.drop 1 st31.2) rfl rfl rfl (by simp only [List.length_take, List.length_drop] <;> omega) (by first | rfl | exact List.take_of_length_le (by simp only [List.length_drop, Nat.zero_add] <;> omega))) ?_
 refine yG ?_
 intro k8 hm
 refine bS hm (fun hb38 hm => ?_) fun hb38 hm => ?_
 refine yG ?_
 intro k9 hm
 refine nO (x_stn true T4 rfl rfl rfl k9.2 rfl rfl rfl rfl ?_)
 refine yG ?_
 intro _ hm
 refine nO (kW ?_)
 refine yG ?_
 intro _ hm
 obtain ⟨x40, h41, hm⟩ := of_bind hm
 refine nO (cG [] (impl_namesOf_sim h41) ?_)
 refine yG ?_
 intro k10 hm
 cases hm
 exact ⟨rfl, vW [0, 1, 4]⟩
 refine c_skip ?_
 cases hm
 exact ⟨rfl, vW [0, 1, 3]⟩
 refine c_exit ?_
 cases hm
 exact ⟨rfl, vW [1]⟩
 refine yG ?_
 intro _ hm
 cases hm
 exact rZ1h (hg := f_fold 0 0 rfl rfl rfl rfl)
/-- impl.Needed -/
noncomputable def impl_Needed_m (f : GFunc) : Option (List Int) :=
 (Option.bind (impl_isFormed_m f) fun x1 =>
 (if (!x1) = true then
 (some ([]))
 else
 (Option.bind (impl_needed_m f) fun x4 =>
 (Option.bind (loopO (fun (st7 : (List Int) × Int) =>
 ((if decide (st7.2 < ((List.length x4 : Int))) = true then
 (if 0 ≤ st7.2 ∧ st7.2 < (List.length x4 : Int) then
 (if at_ x4 st7.2 = true then
 (if (List.length st7.1 + List.length ([st7.2])) * 8 ≤ 140737488355328 ∧ List.length st7.1 + List.length ([st7.2]) ≤ LIM then
 (if inI (st7.2 + 1) then
 (some (Sum.inl ((st7.1 ++ ([st7.2]), st7.2 + 1))))
 else none)
 else none)
 else
 (if inI (st7.2 + 1) then
 (some (Sum.inl ((st7.1, st7.2 + 1))))
 else none))
 else none)
 else
 (some (Sum.inr st7.1))) : Option (((List Int) × Int) ⊕ (((List Int)))))) (([] : List Int), 0)) fun (j8 : (List Int)) =>
 (some j8)))))
theorem impl_Needed_sim {f : GFunc} {r : List Int} (hm : impl_Needed_m f = some r) : Sim Try.prog 7 [.agg (eFunc false f)] [] (.u (.one (.os () 1 (List.map iL r)))) [] := by
 refine fN 25 0 Try.func7 [.tmp 2] fun B hB0 => ?_
 unfold impl_Needed_m at hm
 refine yG ?_
 intro _ hm
 refine nO (kW ?_)
 obtain ⟨x1, h2, hm⟩ := of_bind hm
 refine nO (aopK_A (cB (impl_isFormed_sim h2) ?_))
 refine yG ?_
 intro _ hm
 refine bS hm (fun hb3 hm => ?_) fun hb3 hm => ?_
 refine yG ?_
 intro _ hm
 cases hm
 exact rZ1h (hg := f_nl 0 0 1 true rfl rfl rfl)
 refine yG ?_
 intro _ hm
 refine nO (kM (iL) (([] : List Int)) ?_)
 refine yG ?_
 intro _ hm
 refine nO (kW ?_)
 obtain ⟨x4, h5, hm⟩ := of_bind hm
 refine nO (aopK_A (cB (impl_needed_sim h5) ?_))
 refine yG ?_
 intro k1 hm
 obtain ⟨j8, hl16, hm⟩ := of_bind hm
 refine lP hl16 (fun st7 => St 25 [(3, vR 0 (List.length st7.1)), (11, vR 1 (List.length x4)), (12, vI ((List.length x4 : Int))), (13, vI st7.2)] [(0, oM 1 iL st7.1), (1, oM 1 bL x4)] 2) (fun j8 => (.exit 0, St 25 [(3, vR 0 (List.length j8))] [(0, oM 1 iL j8)] 1)) (vW [1, 2]) ?_ ?_
 intro st7 x hm
 refine yG ?_
 intro _ hm
 refine bS hm (fun hb9 hm => ?_) fun hb9 hm => ?_
 refine yG ?_
 intro k2 hm
 refine bS hm (fun hb11 hm => ?_) fun hb11 hm => ?_
 refine yG ?_
 intro _ hm
 refine nO (kM (iL) ([st7.2]) ?_)
 refine yG ?_
 intro k3 hm
 cases hm
 exact ⟨rfl, vW [3, 1]⟩
 refine yG ?_
 intro k4 hm
 cases hm
 exact ⟨rfl, vW [0, 1]⟩
 refine c_exit ?_
 cases hm
 exact ⟨rfl, vW [0]⟩
 refine yG ?_
 intro _ hm
 cases hm
 exact rZ1h (hg := f_fold 0 0 rfl rfl rfl rfl)
/-- spec.l1Copy -/
noncomputable def spec_l1Copy_m (l : List Int) : Option (List Int) :=
 (if (List.length (([] : List Int)) + List.length l) * 8 ≤ 140737488355328 ∧ List.length (([] : List Int)) + List.length l ≤ LIM then
 (some ((([] : List Int)) ++ l))
 else none)
theorem spec_l1Copy_sim {l : List Int} {r : List Int} (hm : spec_l1Copy_m l = some r) : Sim Try.prog 50 [.one (.bs () 1 (List.map iL l))] [] (.u (.one (.os () 1 (List.map iL r)))) [] := by
 refine fN 6 0 Try.func50 [.tmp 2] fun B hB0 => ?_
 unfold spec_l1Copy_m at hm
 refine yG ?_
 intro _ hm
 refine nO (kM (iL) (([] : List Int)) ?_)
 refine yG ?_
 intro k1 hm
 cases hm
 exact rZ1h (hg := f_fold 0 0 rfl rfl rfl rfl)
/-- spec.l2Operands -/
noncomputable def spec_l2Operands_m (i : GInst) : Option (List Int) :=
 (if ((spec_l1In_m i.op_ 1 17) || (i.op_ == 24)) = true then
 (some ([i.a, i.b]))
 else
 (if ((spec_l1In_m i.op_ 18 20) || ((i.op_ == 23) || ((i.op_ == 25) || (i.op_ == 27)))) = true then
 (some ([i.a]))
 else
 (if (i.op_ == 22) = true then
 (some ([i.a, i.b, i.c]))
 else
 (if (i.op_ == 26) = true then
 (Option.bind (spec_l1Copy_m i.args) fun x11 =>
 (some x11))
 else
 (some (([] : List Int)))))))
theorem spec_l2Operands_sim {i : GInst} {r : List Int} (hm : spec_l2Operands_m i = some r) : Sim Try.prog 54 [.agg (eInst false i)] [] (.u (.one (.os () 1 (List.map iL r)))) [] := by
 refine fN 50 0 Try.func54 [.tmp 2] fun B hB0 => ?_
 unfold spec_l2Operands_m at hm
 refine Wp.seq ?_
 refine c_regS ?_
 refine yR ?_
 intro _ hm
 refine o_end ?_
 refine Wp.seq ?_
 refine Wp.block ?_
 refine Wp.seq ?_
 refine c_cut (St 50 [(1, vP 0), (3, vB (((spec_l1In_m i.op_ 1 17) || (i.op_ == 24))))] [(0, oL 7 (eInst false i))] 1) ?_ ?_
 refine yG ?_
 intro _ hm
 refine nO (aopK_A (cB (spec_l1In_sim i.op_ 1 17) ?_))
 refine yG ?_
 intro _ hm
 refine c_s rfl rfl (fun hb2 => ?_) (fun hb2 => ?_)
 refine c_skip ?_
 exact w_ [0] (.cons rfl rfl (.cons (by simp only [hb2, BO]; rfl) rfl .nil)) (.lit rfl rfl .nil) (by decide) (hB_0 hB0)
 refine yG ?_
 intro _ hm
 exact w_ [0] (.cons rfl rfl (.cons (by simp only [hb2, BO]; rfl) rfl .nil)) (.lit rfl rfl .nil) (by decide) (hB_0 hB0)
 refine bS hm (fun hb3 hm => ?_) fun hb3 hm => ?_
 refine yG ?_
 intro _ hm
 refine nO (kM (iL) ([i.a, i.b]) ?_)
 refine yG ?_
 intro _ hm
 cases hm
 exact rZ1h (hg := f_fold 0 0 rfl rfl rfl rfl)
 refine Wp.seq ?_
 refine c_cut (St 50 [(1, vP 0), (15, vB (((spec_l1In_m i.op_ 18 20) || ((i.op_ == 23) || ((i.op_ == 25) || (i.op_ == 27))))))] [(0, oL 7 (eInst false i))] 1) ?_ ?_
 refine yG ?_
 intro _ hm
 refine nO (aopK_A (cB (spec_l1In_sim i.op_ 18 20) ?_))
 refine yG ?_
 intro _ hm
 refine c_s rfl rfl (fun hb5 => ?_) (fun hb5 => ?_)
 refine c_skip ?_
 exact w_ [0] (.cons rfl rfl (.cons (by simp only [hb5, BO]; rfl) rfl .nil)) (.lit rfl rfl .nil) (by decide) (hB_0 hB0)
 refine yG ?_
 intro _ hm
 refine c_s rfl rfl (fun hb6 => ?_) (fun hb6 => ?_)
 refine c_skip ?_
 exact w_ [0] (.cons rfl rfl (.cons (by simp only [hb5, hb6, BO]; rfl) rfl .nil)) (.lit rfl rfl .nil) (by decide) (hB_0 hB0)
 refine yG ?_
 intro _ hm
 refine c_s rfl rfl (fun hb7 => ?_) (fun hb7 => ?_)
 refine c_skip ?_
 exact w_ [0] (.cons rfl rfl (.cons (by simp only [hb5, hb6, hb7, BO]; rfl) rfl .nil)) (.lit rfl rfl .nil) (by decide) (hB_0 hB0)
 refine yG ?_
 intro _ hm
 exact w_ [0] (.cons rfl rfl (.cons (by simp only [hb5, hb6, hb7, BO]; rfl) rfl .nil)) (.lit rfl rfl .nil) (by decide) (hB_0 hB0)
 refine bS hm (fun hb8 hm => ?_) fun hb8 hm => ?_
 refine yG ?_
 intro _ hm
 refine nO (kM (iL) ([i.a]) ?_)
 refine yG ?_
 intro _ hm
 cases hm
 exact rZ1h (hg := f_fold 0 0 rfl rfl rfl rfl)
 refine yG ?_
 intro _ hm
 refine bS hm (fun hb9 hm => ?_) fun hb9 hm => ?_
 refine yG ?_
 intro _ hm
 refine nO (kM (iL) ([i.a, i.b, i.c]) ?_)
 refine yG ?_
 intro _ hm
 cases hm
 exact rZ1h (hg := f_fold 0 0 rfl rfl rfl rfl)
 refine yG ?_
 intro _ hm
 refine bS hm (fun hb10 hm => ?_) fun hb10 hm => ?_
 refine yG ?_
 intro _ hm
 obtain ⟨x11, h12, hm⟩ := of_bind hm
 refine nO (aopK_A (cB (spec_l1Copy_sim h12) ?_))
 refine yG ?_
 intro _ hm
 cases hm
 exact rZ1h (hg := f_fold 0 0 rfl rfl rfl rfl)
 refine yG ?_
 intro _ hm
 refine nO (kM (iL) (([] : List Int)) ?_)
 refine yG ?_
 intro _ hm
 cases hm
 exact rZ1h (hg := f_fold 0 0 rfl rfl rfl rfl)
/-- spec.l1Top -/
noncomputable def spec_l1Top_m (w : Int) : Option Int :=
 (if 0 ≤ (IntKind.u64.wrap w) then
 (some (IntKind.i64.wrap (1 * 2 ^ min (Int.toNat (IntKind.u64.wrap w)) (IntKind.bits .i64))))
 else none)
theorem spec_l1Top_sim {w : Int} {r : Int} (hm : spec_l1Top_m w = some r) : Sim Try.prog 100 [.one (.int .i64 w)] [] (.u (.one (.int .i64 r))) [] := by
 refine fN 6 0 Try.func100 [.tmp 2] fun B hB0 => ?_
 unfold spec_l1Top_m at hm
 refine yG ?_
 intro k1 hm
 cases hm
 exact rZ1
/-- spec.l1Value -/
noncomputable def spec_l1Value_m (w : Int) (v : Int) : Option Bool :=
 (Option.bind ((if (spec_WidthOk_m w) = true then
 (Option.bind (spec_l1Top_m w) fun x3 =>
 (if inI (x3 - 1) then
 (some ((spec_l1In_m v 0 (x3 - 1))))
 else none))
 else
 (some false))) fun (j1 : Bool) =>
 (some j1))
theorem spec_l1Value_sim {w : Int} {v : Int} {r : Bool} (hm : spec_l1Value_m w v = some r) : Sim Try.prog 78 [.one (.int .i64 w), .one (.int .i64 v)] [] (.u (.one (.bool r))) [] := by
 refine fN 14 0 Try.func78 [.tmp 4] fun B hB0 => ?_
 unfold spec_l1Value_m at hm
 refine Wp.seq ?_
 refine c_regS ?_
 refine nO (x_as rfl rfl ?_)
 refine o_end ?_
 refine Wp.seq ?_
 obtain ⟨j1, hj6, hm⟩ := of_bind hm
 refine c_cut (St 14 [(4, vB j1)] [] 0) ?_ ?_
 replace hm := hj6
 refine yG ?_
 intro _ hm
 refine nO (aopK_A (cB (spec_WidthOk_sim w) ?_))
 refine yG ?_
 intro _ hm
 refine bG1 hm (fun hb2 hm => ?_) fun hb2 hm => ?_
 refine yG ?_
 intro _ hm
 obtain ⟨x3, h4, hm⟩ := of_bind hm
 refine gO_t rfl rfl rfl (aopK_A (cB (spec_l1Top_sim h4) ?_))
 refine yG ?_
 intro k1 hm
 refine gO_t rfl rfl rfl (aopK_A (cB (spec_l1In_sim v 0 (x3 - 1)) ?_))
 refine yG ?_
 intro _ hm
 cases hm
 exact vW []
 refine yG ?_
 intro _ hm
 cases hm
 exact vW []
 refine c_ret ?_
 cases hm
 exact rZ1
/-- spec.l2Inst -/
noncomputable def spec_l2Inst_m (i : GInst) (count : Int) (funcs : Int) : Option Bool :=
 (if ((!((spec_l1In_m i.op_ 1 27))) || ((i.op_ != 26) && decide (((List.length i.args : Int)) > 0))) = true then
 (some false)
 else
 (Option.bind (spec_l2Operands_m i) fun x6 =>
 (Option.bind (loopO (fun (st8 : Int) =>
 ((if decide (st8 < ((List.length x6 : Int))) = true then
 (if 0 ≤ st8 ∧ st8 < (List.length x6 : Int) then
 (if inI (count - 1) then
 (if (!((spec_l1In_m (at_ x6 st8) 0 (count - 1)))) = true then
 (some (Sum.inr ((Sum.inl (())))))
 else
 (if inI (st8 + 1) then
 (some (Sum.inl (st8 + 1)))
 else none))
 else none)
 else none)
 else
 (some (Sum.inr ((Sum.inr (())))))) : Option ((Int) ⊕ (Unit ⊕ Unit)))) 0) fun (y17 : Unit ⊕ Unit) => match y17 with
 | (Sum.inl j9) =>
 (some false)
 | (Sum.inr j10) =>
 (if (if (!((((i.op_ == 24) || (i.op_ == 25))) == ((i.w == 0)))) = true then true else (if (!(((i.op_ == 24) || (i.op_ == 25)))) = true then ((!((spec_WidthOk_m i.w))) || decide (((List.length i.args : Int)) > 4)) else decide (((List.length i.args : Int)) > 4))) = true then
 (some false)
 else
 (if (if decide (((if (i.op_ == 26) = true then 0 else (List.length x6 : Int))) < 1) = true then (if (i.a != 0) = true then true else (if decide (((if (i.op_ == 26) = true then 0 else (List.length x6 : Int))) < 2) = true then (if (i.b != 0) = true then true else (if decide (((if (i.op_ == 26) = true then 0 else (List.length x6 : Int))) < 3) = true then (i.c != 0) else false)) else (if decide (((if (i.op_ == 26) = true then 0 else (List.length x6 : Int))) < 3) = true then (i.c != 0) else false))) else (if decide (((if (i.op_ == 26) = true then 0 else (List.length x6 : Int))) < 2) = true then (if (i.b != 0) = true then true else (if decide (((if (i.op_ == 26) = true then 0 else (List.length x6 : Int))) < 3) = true then (i.c != 0) else false)) else (if decide (((if (i.op_ == 26) = true then 0 else (List.length x6 : Int))) < 3) = true then (i.c != 0) else false))) = true then
 (some false)
 else
 (if (i.op_ == 21) = true then
 (Option.bind (spec_l1Value_m i.w i.imm) fun x44 =>
 (some x44))
 else
 (if (i.op_ == 26) = true then
 (if inI (funcs - 1) then
 (some ((spec_l1In_m i.imm 0 (funcs - 1))))
 else none)
 else
 (if (i.op_ == 23) = true then
 (some (((i.w == 8) && (i.imm == 0))))
 else
 (some ((i.imm == 0)))))))))))
theorem spec_l2Inst_sim {i : GInst} {count : Int} {funcs : Int} {r : Bool} (hm : spec_l2Inst_m i count funcs = some r) : Sim Try.prog 47 [.agg (eInst false i), .one (.int .i64 count), .one (.int .i64 funcs)] [] (.u (.one (.bool r))) [] := by
 refine fN 130 0 Try.func47 [.tmp 6] fun B hB0 => ?_
 unfold spec_l2Inst_m at hm
 refine Wp.seq ?_
 refine c_regS ?_
 refine yR ?_
 intro _ hm
 refine o_end ?_
 refine Wp.seq ?_
 refine Wp.seq ?_
 refine c_cut (St 130 [(1, vI count), (2, vI funcs), (3, vP 0), (25, vB (((!((spec_l1In_m i.op_ 1 27))) || ((i.op_ != 26) && decide (((List.length i.args : Int)) > 0)))))] [(0, oL 7 (eInst false i))] 1) ?_ ?_
 refine yG ?_
 intro _ hm
 refine nO (aopK_A (cB (spec_l1In_sim i.op_ 1 27) ?_))
 refine yG ?_
 intro _ hm
 refine gO_s rfl rfl rfl (fun hb2 => ?_) (fun hb2 => ?_)
 refine yG ?_
 intro _ hm
 refine gO_s rfl rfl rfl (fun hb3 => ?_) (fun hb3 => ?_)
 refine yG ?_
 intro k1 hm
 exact w_ [0] (.cons rfl rfl (.cons rfl rfl (.cons rfl rfl (.cons (by simp only [hb2, hb3, BO]; rfl) rfl .nil)))) (.lit rfl rfl .nil) (by decide) (hB_0 hB0)
 refine yG ?_
 intro _ hm
 exact w_ [0] (.cons rfl rfl (.cons rfl rfl (.cons rfl rfl (.cons (by simp only [hb2, hb3, BO]; rfl) rfl .nil)))) (.lit rfl rfl .nil) (by decide) (hB_0 hB0)
 refine yG ?_
 intro _ hm
 exact w_ [0] (.cons rfl rfl (.cons rfl rfl (.cons rfl rfl (.cons (by simp only [hb2, BO]; rfl) rfl .nil)))) (.lit rfl rfl .nil) (by decide) (hB_0 hB0)
 refine bS hm (fun hb5 hm => ?_) fun hb5 hm => ?_
 refine yG ?_
 intro _ hm
 cases hm
 exact rZ1
 refine yG ?_
 intro _ hm
 refine nO (kW ?_)
 obtain ⟨x6, h7, hm⟩ := of_bind hm
 refine nO (aopK_A (cB (spec_l2Operands_sim h7) ?_))
 refine yG ?_
 intro _ hm
 obtain ⟨y17, hl18, hm⟩ := of_bind hm
 refine c_loop hl18 (fun (st8 : Int) => St 130 [(1, vI count), (2, vI funcs), (3, vP 0), (7, vR 1 (List.length x6)), (8, vI st8)] [(0, oL 7 (eInst false i)), (1, oM 1 iL x6)] 2) (fun (y : Unit ⊕ Unit) => match y with | (Sum.inl j9) => (.ret, St 130 [(6, vB false)] [] 0) | (Sum.inr j10) => (.exit 0, St 130 [(2, vI funcs), (3, vP 0), (7, vR 1 (List.length x6))] [(0, oL 7 (eInst false i)), (1, oM 1 iL x6)] 2)) (vW [0, 1]) ?_ (by rintro (_ | _) <;> simp) ?_
 intro st8 x hm
 refine yG ?_
 intro k2 hm
 refine bS hm (fun hb12 hm => ?_) fun hb12 hm => ?_
 refine yG ?_
 intro k3 hm
 refine nO (aopK_A (cB (spec_l1In_sim (at_ x6 st8) 0 (count - 1)) ?_))
 refine yG ?_
 intro _ hm
 refine bS hm (fun hb15 hm => ?_) fun hb15 hm => ?_
 refine yG ?_
 intro _ hm
 cases hm
 exact ⟨rfl, vW []⟩
 refine yG ?_
 intro k4 hm
 cases hm
 exact ⟨rfl, vW [0, 1]⟩
 refine c_exit ?_
 cases hm
 exact ⟨rfl, vW [0, 1]⟩
 rcases y17 with j9 | j10 <;> simp only at hm
 cases hm
 exact rZ1
 refine Wp.seq ?_
 refine c_cut (St 130 [(2, vI funcs), (3, vP 0), (7, vR 1 (List.length x6)), (9, vB (((i.op_ == 24) || (i.op_ == 25))))] [(0, oL 7 (eInst false i)), (1, oM 1 iL x6)] 2) ?_ ?_
 refine yG ?_
 intro _ hm
 refine gO_s rfl rfl rfl (fun hb20 => ?_) (fun hb20 => ?_)
 refine yG ?_
 intro _ hm
 exact w_ [0, 1] (.cons rfl rfl (.cons rfl rfl (.cons rfl rfl (.cons (by simp only [hb20, BO]; rfl) rfl .nil)))) (.lit rfl rfl (.map rfl .nil)) (by decide) (hB_0 hB0)
 refine yG ?_
 intro _ hm
 exact w_ [0, 1] (.cons rfl rfl (.cons rfl rfl (.cons rfl rfl (.cons (by simp only [hb20, BO]; rfl) rfl .nil)))) (.lit rfl rfl (.map rfl .nil)) (by decide) (hB_0 hB0)
 refine Wp.seq ?_
 refine Wp.seq ?_
 refine c_cut (St 130 [(2, vI funcs), (3, vP 0), (7, vR 1 (List.length x6)), (70, vB ((if (!((((i.op_ == 24) || (i.op_ == 25))) == ((i.w == 0)))) = true then true else (if (!(((i.op_ == 24) || (i.op_ == 25)))) = true then ((!((spec_WidthOk_m i.w))) || decide (((List.length i.args : Int)) > 4)) else decide (((List.length i.args : Int)) > 4)))))] [(0, oL 7 (eInst false i)), (1, oM 1 iL x6)] 2) ?_ ?_
 refine yG ?_
 intro _ hm
 refine gO_s rfl rfl rfl (fun hb22 => ?_) (fun hb22 => ?_)
 refine yG ?_
 intro _ hm
 refine gO_s rfl rfl rfl (fun hb23 => ?_) (fun hb23 => ?_)
 refine yG ?_
 intro _ hm
 refine gO_t rfl rfl rfl (aopK_A (cB (spec_WidthOk_sim i.w) ?_))
 refine yG ?_
 intro _ hm
 refine gO_s rfl rfl rfl (fun hb24 => ?_) (fun hb24 => ?_)
 refine yG ?_
 intro k5 hm
 exact w_ [0, 1] (.cons rfl rfl (.cons rfl rfl (.cons rfl rfl (.cons (by simp only [hb22, hb23, hb24, BO]; rfl) rfl .nil)))) (.lit rfl rfl (.map rfl .nil)) (by decide) (hB_0 hB0)
 refine yG ?_
 intro _ hm
 exact w_ [0, 1] (.cons rfl rfl (.cons rfl rfl (.cons rfl rfl (.cons (by simp only [hb22, hb23, hb24, BO]; rfl) rfl .nil)))) (.lit rfl rfl (.map rfl .nil)) (by decide) (hB_0 hB0)
 refine yG ?_
 intro k6 hm
 exact w_ [0, 1] (.cons rfl rfl (.cons rfl rfl (.cons rfl rfl (.cons (by simp only [hb22, hb23, BO]; rfl) rfl .nil)))) (.lit rfl rfl (.map rfl .nil)) (by decide) (hB_0 hB0)
 refine yG ?_
 intro _ hm
 exact w_ [0, 1] (.cons rfl rfl (.cons rfl rfl (.cons rfl rfl (.cons (by simp only [hb22, BO]; rfl) rfl .nil)))) (.lit rfl rfl (.map rfl .nil)) (by decide) (hB_0 hB0)
 refine bS hm (fun hb27 hm => ?_) fun hb27 hm => ?_
 refine yG ?_
 intro _ hm
 cases hm
 exact rZ1
 refine c_skip ?_
 refine Wp.seq ?_
 refine c_regS ?_
 refine yR ?_
 intro k7 hm
 refine o_end ?_
 refine Wp.seq ?_
 refine c_cut (St 130 [(2, vI funcs), (3, vP 0), (10, vI ((if (i.op_ == 26) = true then 0 else (List.length x6 : Int))))] [(0, oL 7 (eInst false i))] 1) ?_ ?_
 refine yG ?_
 intro _ hm
 refine c_s rfl rfl (fun hb30 => ?_) (fun hb30 => ?_)
 refine yG ?_
 intro _ hm
 exact w_ [0] (.cons rfl rfl (.cons rfl rfl (.cons (by simp only [hb30, BO]; rfl) rfl .nil))) (.lit rfl rfl .nil) (by decide) (hB_0 hB0)
 refine c_skip ?_
 exact w_ [0] (.cons rfl rfl (.cons rfl rfl (.cons (by simp only [hb30, BO]; rfl) rfl .nil))) (.lit rfl rfl .nil) (by decide) (hB_0 hB0)
 refine Wp.seq ?_
 refine Wp.seq ?_
 refine c_cut (St 130 [(2, vI funcs), (3, vP 0), (100, vB ((if decide (((if (i.op_ == 26) = true then 0 else (List.length x6 : Int))) < 1) = true then (if (i.a != 0) = true then true else (if decide (((if (i.op_ == 26) = true then 0 else (List.length x6 : Int))) < 2) = true then (if (i.b != 0) = true then true else (if decide (((if (i.op_ == 26) = true then 0 else (List.length x6 : Int))) < 3) = true then (i.c != 0) else false)) else (if decide (((if (i.op_ == 26) = true then 0 else (List.length x6 : Int))) < 3) = true then (i.c != 0) else false))) else (if decide (((if (i.op_ == 26) = true then 0 else (List.length x6 : Int))) < 2) = true then (if (i.b != 0) = true then true else (if decide (((if (i.op_ == 26) = true then 0 else (List.length x6 : Int))) < 3) = true then (i.c != 0) else false)) else (if decide (((if (i.op_ == 26) = true then 0 else (List.length x6 : Int))) < 3) = true then (i.c != 0) else false)))))] [(0, oL 7 (eInst false i))] 1) ?_ ?_
 refine yG ?_
 intro _ hm
 refine gO_s rfl rfl rfl (fun hb32 => ?_) (fun hb32 => ?_)
 refine yG ?_
 intro _ hm
 refine gO_s rfl rfl rfl (fun hb33 => ?_) (fun hb33 => ?_)
 refine yG ?_
 intro _ hm
 refine gO_s rfl rfl rfl (fun hb34 => ?_) (fun hb34 => ?_)
 refine yG ?_
 intro _ hm
 refine gO_s rfl rfl rfl (fun hb35 => ?_) (fun hb35 => ?_)
 refine yG ?_
 intro _ hm
 refine gO_s rfl rfl rfl (fun hb36 => ?_) (fun hb36 => ?_)
 refine yG ?_
 intro _ hm
 exact w_ [0] (.cons rfl rfl (.cons rfl rfl (.cons (by simp only [hb32, hb33, hb34, hb35, hb36, BO]; rfl) rfl .nil))) (.lit rfl rfl .nil) (by decide) (hB_0 hB0)
 refine yG ?_
 intro _ hm
 exact w_ [0] (.cons rfl rfl (.cons rfl rfl (.cons (by simp only [hb32, hb33, hb34, hb35, hb36, BO]; rfl) rfl .nil))) (.lit rfl rfl .nil) (by decide) (hB_0 hB0)
 refine yG ?_
 intro _ hm
 exact w_ [0] (.cons rfl rfl (.cons rfl rfl (.cons (by simp only [hb32, hb33, hb34, hb35, BO]; rfl) rfl .nil))) (.lit rfl rfl .nil) (by decide) (hB_0 hB0)
 refine yG ?_
 intro _ hm
 refine gO_s rfl rfl rfl (fun hb37 => ?_) (fun hb37 => ?_)
 refine yG ?_
 intro _ hm
 exact w_ [0] (.cons rfl rfl (.cons rfl rfl (.cons (by simp only [hb32, hb33, hb34, hb37, BO]; rfl) rfl .nil))) (.lit rfl rfl .nil) (by decide) (hB_0 hB0)
 refine yG ?_
 intro _ hm
 exact w_ [0] (.cons rfl rfl (.cons rfl rfl (.cons (by simp only [hb32, hb33, hb34, hb37, BO]; rfl) rfl .nil))) (.lit rfl rfl .nil) (by decide) (hB_0 hB0)
 refine yG ?_
 intro _ hm
 exact w_ [0] (.cons rfl rfl (.cons rfl rfl (.cons (by simp only [hb32, hb33, BO]; rfl) rfl .nil))) (.lit rfl rfl .nil) (by decide) (hB_0 hB0)
 refine yG ?_
 intro _ hm
 refine gO_s rfl rfl rfl (fun hb38 => ?_) (fun hb38 => ?_)
 refine yG ?_
 intro _ hm
 refine gO_s rfl rfl rfl (fun hb39 => ?_) (fun hb39 => ?_)
 refine yG ?_
 intro _ hm
 refine gO_s rfl rfl rfl (fun hb40 => ?_) (fun hb40 => ?_)
 refine yG ?_
 intro _ hm
 exact w_ [0] (.cons rfl rfl (.cons rfl rfl (.cons (by simp only [hb32, hb38, hb39, hb40, BO]; rfl) rfl .nil))) (.lit rfl rfl .nil) (by decide) (hB_0 hB0)
 refine yG ?_
 intro _ hm
 exact w_ [0] (.cons rfl rfl (.cons rfl rfl (.cons (by simp only [hb32, hb38, hb39, hb40, BO]; rfl) rfl .nil))) (.lit rfl rfl .nil) (by decide) (hB_0 hB0)
 refine yG ?_
 intro _ hm
 exact w_ [0] (.cons rfl rfl (.cons rfl rfl (.cons (by simp only [hb32, hb38, hb39, BO]; rfl) rfl .nil))) (.lit rfl rfl .nil) (by decide) (hB_0 hB0)
 refine yG ?_
 intro _ hm
 refine gO_s rfl rfl rfl (fun hb41 => ?_) (fun hb41 => ?_)
 refine yG ?_
 intro _ hm
 exact w_ [0] (.cons rfl rfl (.cons rfl rfl (.cons (by simp only [hb32, hb38, hb41, BO]; rfl) rfl .nil))) (.lit rfl rfl .nil) (by decide) (hB_0 hB0)
 refine yG ?_
 intro _ hm
 exact w_ [0] (.cons rfl rfl (.cons rfl rfl (.cons (by simp only [hb32, hb38, hb41, BO]; rfl) rfl .nil))) (.lit rfl rfl .nil) (by decide) (hB_0 hB0)
 refine bS hm (fun hb42 hm => ?_) fun hb42 hm => ?_
 refine yG ?_
 intro _ hm
 cases hm
 exact rZ1
 refine yG ?_
 intro _ hm
 refine bS hm (fun hb43 hm => ?_) fun hb43 hm => ?_
 refine yG ?_
 intro _ hm
 obtain ⟨x44, h45, hm⟩ := of_bind hm
 refine nO (aopK_A (cB (spec_l1Value_sim h45) ?_))
 refine yG ?_
 intro _ hm
 cases hm
 exact rZ1
 refine yG ?_
 intro _ hm
 refine bS hm (fun hb46 hm => ?_) fun hb46 hm => ?_
 refine yG ?_
 intro k8 hm
 refine nO (aopK_A (cB (spec_l1In_sim i.imm 0 (funcs - 1)) ?_))
 refine yG ?_
 intro _ hm
 cases hm
 exact rZ1
 refine yG ?_
 intro _ hm
 refine bS hm (fun hb48 hm => ?_) fun hb48 hm => ?_
 refine Wp.seq ?_
 refine c_cut (St 130 [(6, vB (((i.w == 8) && (i.imm == 0))))] [] 0) ?_ ?_
 refine yG ?_
 intro _ hm
 refine gO_s rfl rfl rfl (fun hb50 => ?_) (fun hb50 => ?_)
 refine yG ?_
 intro _ hm
 exact w_ [] (.cons (by simp only [hb50, BO]; rfl) rfl .nil) .nil (by decide) (hB_0 hB0)
 refine yG ?_
 intro _ hm
 exact w_ [] (.cons (by simp only [hb50, BO]; rfl) rfl .nil) .nil (by decide) (hB_0 hB0)
 refine c_ret ?_
 cases hm
 exact rZ1
 refine yG ?_
 intro _ hm
 cases hm
 exact rZ1
/-- spec.l2Term -/
noncomputable def spec_l2Term_m (t : GTerm) (count : Int) (blocks : Int) : Option Bool :=
 (if (t.kind == 1) = true then
 (Option.bind ((if inI (count - 1) then
 (if (spec_l1In_m t.a 0 (count - 1)) = true then
 (if (t.x == 0) = true then
 (some ((t.y == 0)))
 else
 (some false))
 else
 (some false))
 else none)) fun (j2 : Bool) =>
 (some j2))
 else
 (if (t.kind == 2) = true then
 (Option.bind ((if (t.a == 0) = true then
 (if inI (blocks - 1) then
 (if (spec_l1In_m t.x 0 (blocks - 1)) = true then
 (some ((t.y == 0)))
 else
 (some false))
 else none)
 else
 (some false))) fun (j8 : Bool) =>
 (some j8))
 else
 (if (t.kind == 3) = true then
 (Option.bind ((if inI (count - 1) then
 (if (spec_l1In_m t.a 0 (count - 1)) = true then
 (if inI (blocks - 1) then
 (if (spec_l1In_m t.x 0 (blocks - 1)) = true then
 (if inI (blocks - 1) then
 (if (spec_l1In_m t.y 0 (blocks - 1)) = true then
 (some ((t.x != t.y)))
 else
 (some false))
 else none)
 else
 (some false))
 else none)
 else
 (some false))
 else none)) fun (j14 : Bool) =>
 (some j14))
 else
 (some (((t.kind == 4) && ((t.a == 0) && ((t.x == 0) && (t.y == 0)))))))))
theorem spec_l2Term_sim {t : GTerm} {count : Int} {blocks : Int} {r : Bool} (hm : spec_l2Term_m t count blocks = some r) : Sim Try.prog 48 [.agg (eTerm t), .one (.int .i64 count), .one (.int .i64 blocks)] [] (.u (.one (.bool r))) [] := by
 refine fN 89 0 Try.func48 [.tmp 6] fun B hB0 => ?_
 unfold spec_l2Term_m at hm
 refine yG ?_
 intro _ hm
 refine bS hm (fun hb1 hm => ?_) fun hb1 hm => ?_
 refine Wp.seq ?_
 obtain ⟨j2, hj6, hm⟩ := of_bind hm
 refine c_cut (St 89 [(6, vB j2)] [] 0) ?_ ?_
 replace hm := hj6
 refine yG ?_
 intro k1 hm
 refine nO (aopK_A (cB (spec_l1In_sim t.a 0 (count - 1)) ?_))
 refine yG ?_
 intro _ hm
 refine bG1 hm (fun hb4 hm => ?_) fun hb4 hm => ?_
 refine yG ?_
 intro _ hm
 refine bG1 hm (fun hb5 hm => ?_) fun hb5 hm => ?_
 refine yG ?_
 intro _ hm
 cases hm
 exact vW []
 refine yG ?_
 intro _ hm
 cases hm
 exact vW []
 refine yG ?_
 intro _ hm
 cases hm
 exact vW []
 refine c_ret ?_
 cases hm
 exact rZ1
 refine yG ?_
 intro _ hm
 refine bS hm (fun hb7 hm => ?_) fun hb7 hm => ?_
 refine Wp.seq ?_
 obtain ⟨j8, hj12, hm⟩ := of_bind hm
 refine c_cut (St 89 [(6, vB j8)] [] 0) ?_ ?_
 replace hm := hj12
 refine yG ?_
 intro _ hm
 refine bG1 hm (fun hb9 hm => ?_) fun hb9 hm => ?_
 refine yG ?_
 intro k2 hm
 refine gO_t rfl rfl rfl (aopK_A (cB (spec_l1In_sim t.x 0 (blocks - 1)) ?_))
 refine yG ?_
 intro _ hm
 refine bG1 hm (fun hb11 hm => ?_) fun hb11 hm => ?_
 refine yG ?_
 intro _ hm
 cases hm
 exact vW []
 refine yG ?_
 intro _ hm
 cases hm
 exact vW []
 refine yG ?_
 intro _ hm
 cases hm
 exact vW []
 refine c_ret ?_
 cases hm
 exact rZ1
 refine yG ?_
 intro _ hm
 refine bS hm (fun hb13 hm => ?_) fun hb13 hm => ?_
 refine Wp.seq ?_
 obtain ⟨j14, hj21, hm⟩ := of_bind hm
 refine c_cut (St 89 [(6, vB j14)] [] 0) ?_ ?_
 replace hm := hj21
 refine yG ?_
 intro k3 hm
 refine nO (aopK_A (cB (spec_l1In_sim t.a 0 (count - 1)) ?_))
 refine yG ?_
 intro _ hm
 refine bG1 hm (fun hb16 hm => ?_) fun hb16 hm => ?_
 refine yG ?_
 intro k4 hm
 refine gO_t rfl rfl rfl (aopK_A (cB (spec_l1In_sim t.x 0 (blocks - 1)) ?_))
 refine yG ?_
 intro _ hm
 refine bG1 hm (fun hb18 hm => ?_) fun hb18 hm => ?_
 refine yG ?_
 intro k5 hm
 refine gO_t rfl rfl rfl (aopK_A (cB (spec_l1In_sim t.y 0 (blocks - 1)) ?_))
 refine yG ?_
 intro _ hm
 refine bG1 hm (fun hb20 hm => ?_) fun hb20 hm => ?_
 refine yG ?_
 intro _ hm
 cases hm
 exact vW []
 refine yG ?_
 intro _ hm
 cases hm
 exact vW []
 refine yG ?_
 intro _ hm
 cases hm
 exact vW []
 refine yG ?_
 intro _ hm
 cases hm
 exact vW []
 refine c_ret ?_
 cases hm
 exact rZ1
 refine c_skip ?_
 refine Wp.seq ?_
 refine c_cut (St 89 [(6, vB (((t.kind == 4) && ((t.a == 0) && ((t.x == 0) && (t.y == 0))))))] [] 0) ?_ ?_
 refine yG ?_
 intro _ hm
 refine gO_s rfl rfl rfl (fun hb23 => ?_) (fun hb23 => ?_)
 refine yG ?_
 intro _ hm
 refine gO_s rfl rfl rfl (fun hb24 => ?_) (fun hb24 => ?_)
 refine yG ?_
 intro _ hm
 refine gO_s rfl rfl rfl (fun hb25 => ?_) (fun hb25 => ?_)
 refine yG ?_
 intro _ hm
 exact w_ [] (.cons (by simp only [hb23, hb24, hb25, BO]; rfl) rfl .nil) .nil (by decide) (hB_0 hB0)
 refine yG ?_
 intro _ hm
 exact w_ [] (.cons (by simp only [hb23, hb24, hb25, BO]; rfl) rfl .nil) .nil (by decide) (hB_0 hB0)
 refine yG ?_
 intro _ hm
 exact w_ [] (.cons (by simp only [hb23, hb24, BO]; rfl) rfl .nil) .nil (by decide) (hB_0 hB0)
 refine yG ?_
 intro _ hm
 exact w_ [] (.cons (by simp only [hb23, BO]; rfl) rfl .nil) .nil (by decide) (hB_0 hB0)
 refine c_ret ?_
 cases hm
 exact rZ1
/-- spec.l2Func -/
noncomputable def spec_l2Func_m (f : GFunc) (funcs : Int) : Option Bool :=
 (Option.bind (spec_CountOf_m f) fun x1 =>
 (if (if decide (((List.length f.params : Int)) > 4) = true then true else (if (!((spec_WidthOk_m f.ret))) = true then true else (if (!((spec_l1In_m ((List.length f.blocks : Int)) 1 10))) = true then true else decide (x1 > 60)))) = true then
 (some false)
 else
 (Option.bind (loopO (fun (st10 : Int) =>
 ((if decide (st10 < ((List.length f.params : Int))) = true then
 (if 0 ≤ st10 ∧ st10 < (List.length f.params : Int) then
 (if (!((spec_WidthOk_m (at_ f.params st10)))) = true then
 (some (Sum.inr ((Sum.inl (())))))
 else
 (if inI (st10 + 1) then
 (some (Sum.inl (st10 + 1)))
 else none))
 else none)
 else
 (some (Sum.inr ((Sum.inr (())))))) : Option ((Int) ⊕ (Unit ⊕ Unit)))) 0) fun (y18 : Unit ⊕ Unit) => match y18 with
 | (Sum.inl j11) =>
 (some false)
 | (Sum.inr j12) =>
 (Option.bind (loopO (fun (st20 : Int) =>
 ((if decide (st20 < ((List.length f.blocks : Int))) = true then
 (if 0 ≤ st20 ∧ st20 < (List.length f.blocks : Int) then
 (Option.bind (loopO (fun (st26 : Int) =>
 ((if decide (st26 < ((List.length ((at_ f.blocks st20).phis) : Int))) = true then
 (Option.bind ((if 0 ≤ st26 ∧ st26 < (List.length ((at_ f.blocks st20).phis) : Int) then
 (if (!((spec_WidthOk_m ((at_ ((at_ f.blocks st20).phis) st26).w)))) = true then
 (some true)
 else
 (if 0 ≤ st26 ∧ st26 < (List.length ((at_ f.blocks st20).phis) : Int) then
 (some (decide (((List.length ((at_ ((at_ f.blocks st20).phis) st26).ins) : Int)) > 10)))
 else none))
 else none)) fun (j31 : Bool) =>
 (if j31 = true then
 (some (Sum.inr ((Sum.inl (())))))
 else
 (Option.bind (loopO (fun (st38 : Int) =>
 ((if 0 ≤ st26 ∧ st26 < (List.length ((at_ f.blocks st20).phis) : Int) then
 (if decide (st38 < ((List.length ((at_ ((at_ f.blocks st20).phis) st26).ins) : Int))) = true then
 (if 0 ≤ st26 ∧ st26 < (List.length ((at_ f.blocks st20).phis) : Int) then
 (if 0 ≤ st38 ∧ st38 < (List.length ((at_ ((at_ f.blocks st20).phis) st26).ins) : Int) then
 (if inI (x1 - 1) then
 (if (!((spec_l1In_m (at_ ((at_ ((at_ f.blocks st20).phis) st26).ins) st38) 0 (x1 - 1)))) = true then
 (some (Sum.inr ((Sum.inl (())))))
 else
 (if inI (st38 + 1) then
 (some (Sum.inl (st38 + 1)))
 else none))
 else none)
 else none)
 else none)
 else
 (some (Sum.inr ((Sum.inr (()))))))
 else none) : Option ((Int) ⊕ (Unit ⊕ Unit)))) 0) fun (y49 : Unit ⊕ Unit) => match y49 with
 | (Sum.inl j39) =>
 (some (Sum.inr ((Sum.inl (())))))
 | (Sum.inr j40) =>
 (if inI (st26 + 1) then
 (some (Sum.inl (st26 + 1)))
 else none))))
 else
 (some (Sum.inr ((Sum.inr (())))))) : Option ((Int) ⊕ (Unit ⊕ Unit)))) 0) fun (y52 : Unit ⊕ Unit) => match y52 with
 | (Sum.inl j27) =>
 (some (Sum.inr ((Sum.inl (())))))
 | (Sum.inr j28) =>
 (Option.bind (loopO (fun (st54 : Int) =>
 ((if decide (st54 < ((List.length ((at_ f.blocks st20).insts) : Int))) = true then
 (if 0 ≤ st54 ∧ st54 < (List.length ((at_ f.blocks st20).insts) : Int) then
 (Option.bind (spec_l2Inst_m (at_ ((at_ f.blocks st20).insts) st54) x1 funcs) fun x60 =>
 (if (!x60) = true then
 (some (Sum.inr ((Sum.inl (())))))
 else
 (if inI (st54 + 1) then
 (some (Sum.inl (st54 + 1)))
 else none)))
 else none)
 else
 (some (Sum.inr ((Sum.inr (())))))) : Option ((Int) ⊕ (Unit ⊕ Unit)))) 0) fun (y64 : Unit ⊕ Unit) => match y64 with
 | (Sum.inl j55) =>
 (some (Sum.inr ((Sum.inl (())))))
 | (Sum.inr j56) =>
 (Option.bind (spec_l2Term_m (((at_ f.blocks st20).term)) x1 ((List.length f.blocks : Int))) fun x66 =>
 (if (!x66) = true then
 (some (Sum.inr ((Sum.inl (())))))
 else
 (if inI (st20 + 1) then
 (some (Sum.inl (st20 + 1)))
 else none)))))
 else none)
 else
 (some (Sum.inr ((Sum.inr (())))))) : Option ((Int) ⊕ (Unit ⊕ Unit)))) 0) fun (y70 : Unit ⊕ Unit) => match y70 with
 | (Sum.inl j21) =>
 (some false)
 | (Sum.inr j22) =>
 (some true)))))
theorem spec_l2Func_sim {f : GFunc} {funcs : Int} {r : Bool} (hm : spec_l2Func_m f funcs = some r) : Sim Try.prog 23 [.agg (eFunc false f), .one (.int .i64 funcs)] [] (.u (.one (.bool r))) [] := by
 refine fN 134 0 Try.func23 [.tmp 4] fun B hB0 => ?_
 unfold spec_l2Func_m at hm
 refine yG ?_
 intro _ hm
 refine nO (kW ?_)
 obtain ⟨x1, h2, hm⟩ := of_bind hm
 refine nO (aopK_A (cB (spec_CountOf_sim h2) ?_))
 refine nO (x_as rfl rfl ?_)
 refine o_end ?_
 refine Wp.seq ?_
 refine c_regS ?_
 refine yR ?_
 intro k1 hm
 refine o_end ?_
 refine Wp.seq ?_
 refine Wp.seq ?_
 refine c_cut (St 134 [(1, vI funcs), (2, vP 0), (5, vI x1), (6, vI ((List.length f.blocks : Int))), (36, vB ((if decide (((List.length f.params : Int)) > 4) = true then true else (if (!((spec_WidthOk_m f.ret))) = true then true else (if (!((spec_l1In_m ((List.length f.blocks : Int)) 1 10))) = true then true else decide (x1 > 60))))))] [(0, oL 3 (eFunc false f))] 1) ?_ ?_
 refine yG ?_
 intro k2 hm
 refine gO_s rfl rfl rfl (fun hb6 => ?_) (fun hb6 => ?_)
 refine yG ?_
 intro _ hm
 refine gO_t rfl rfl rfl (aopK_A (cB (spec_WidthOk_sim f.ret) ?_))
 refine yG ?_
 intro _ hm
 refine gO_s rfl rfl rfl (fun hb7 => ?_) (fun hb7 => ?_)
 refine yG ?_
 intro _ hm
 refine gO_t rfl rfl rfl (aopK_A (cB (spec_l1In_sim ((List.length f.blocks : Int)) 1 10) ?_))
 refine yG ?_
 intro _ hm
 refine gO_s rfl rfl rfl (fun hb8 => ?_) (fun hb8 => ?_)
 refine yG ?_
 intro _ hm
 exact w_ [0] (.cons rfl rfl (.cons rfl rfl (.cons rfl rfl (.cons rfl rfl (.cons (by simp only [hb6, hb7, hb8, BO]; rfl) rfl .nil))))) (.lit rfl rfl .nil) (by decide) (hB_0 hB0)
 refine yG ?_
 intro _ hm
 exact w_ [0] (.cons rfl rfl (.cons rfl rfl (.cons rfl rfl (.cons rfl rfl (.cons (by simp only [hb6, hb7, hb8, BO]; rfl) rfl .nil))))) (.lit rfl rfl .nil) (by decide) (hB_0 hB0)
 refine yG ?_
 intro _ hm
 exact w_ [0] (.cons rfl rfl (.cons rfl rfl (.cons rfl rfl (.cons rfl rfl (.cons (by simp only [hb6, hb7, BO]; rfl) rfl .nil))))) (.lit rfl rfl .nil) (by decide) (hB_0 hB0)
 refine yG ?_
 intro _ hm
 exact w_ [0] (.cons rfl rfl (.cons rfl rfl (.cons rfl rfl (.cons rfl rfl (.cons (by simp only [hb6, BO]; rfl) rfl .nil))))) (.lit rfl rfl .nil) (by decide) (hB_0 hB0)
 refine bS hm (fun hb9 hm => ?_) fun hb9 hm => ?_
 refine yG ?_
 intro _ hm
 cases hm
 exact rZ1
 refine yG ?_
 intro _ hm
 obtain ⟨y18, hl19, hm⟩ := of_bind hm
 refine c_loop hl19 (fun (st10 : Int) => St 134 [(1, vI funcs), (2, vP 0), (5, vI x1), (6, vI ((List.length f.blocks : Int))), (7, vI st10)] [(0, oL 3 (eFunc false f))] 1) (fun (y : Unit ⊕ Unit) => match y with | (Sum.inl j11) => (.ret, St 134 [(4, vB false)] [] 0) | (Sum.inr j12) => (.exit 0, St 134 [(1, vI funcs), (2, vP 0), (5, vI x1), (6, vI ((List.length f.blocks : Int)))] [(0, oL 3 (eFunc false f))] 1)) (vW [0]) ?_ (by rintro (_ | _) <;> simp) ?_
 intro st10 x hm
 refine yG ?_
 intro k3 hm
 refine bS hm (fun hb14 hm => ?_) fun hb14 hm => ?_
 refine yG ?_
 intro k4 hm
 refine nO (aopK_A (cB (spec_WidthOk_sim (at_ f.params st10)) ?_))
 refine yG ?_
 intro _ hm
 refine bS hm (fun hb16 hm => ?_) fun hb16 hm => ?_
 refine yG ?_
 intro _ hm
 cases hm
 exact ⟨rfl, vW []⟩
 refine yG ?_
 intro k5 hm
 cases hm
 exact ⟨rfl, vW [0]⟩
 refine c_exit ?_
 cases hm
 exact ⟨rfl, vW [0]⟩
 rcases y18 with j11 | j12 <;> simp only at hm
 cases hm
 exact rZ1
 refine yG ?_
 intro _ hm
 obtain ⟨y70, hl71, hm⟩ := of_bind hm
 refine c_loop hl71 (fun (st20 : Int) => St 134 [(1, vI funcs), (2, vP 0), (5, vI x1), (6, vI ((List.length f.blocks : Int))), (8, vI st20)] [(0, oL 3 (eFunc false f))] 1) (fun (y : Unit ⊕ Unit) => match y with | (Sum.inl j21) => (.ret, St 134 [(4, vB false)] [] 0) | (Sum.inr j22) => (.exit 2, St 134 [] [] 0)) (vW [0]) ?_ (by rintro (_ | _) <;> simp) ?_
 intro st20 x hm
 refine yG ?_
 intro k6 hm
 refine bS hm (fun hb24 hm => ?_) fun hb24 hm => ?_
 refine yG ?_
 intro k7 hm
 refine nO (x_ldi T40 rfl (pk_all rfl rfl) rfl ?_)
 refine yG ?_
 intro _ hm
 obtain ⟨y52, hl53, hm⟩ := of_bind hm
 refine c_loop hl53 (fun (st26 : Int) => St 134 [(1, vI funcs), (2, vP 0), (5, vI x1), (6, vI ((List.length f.blocks : Int))), (8, vI st20), (9, vP 1), (10, vI st26)] [(0, oL 3 (eFunc false f)), (1, oL 6 (eBlock false (at_ f.blocks st20)))] 2) (fun (y : Unit ⊕ Unit) => match y with | (Sum.inl j27) => (.ret, St 134 [(4, vB false)] [] 0) | (Sum.inr j28) => (.exit 4, St 134 [(1, vI funcs), (2, vP 0), (5, vI x1), (6, vI ((List.length f.blocks : Int))), (8, vI st20), (9, vP 1)] [(0, oL 3 (eFunc false f)), (1, oL 6 (eBlock false (at_ f.blocks st20)))] 2)) (vW [0, 1]) ?_ (by rintro (_ | _) <;> simp) ?_
 intro st26 x hm
 refine yG ?_
 intro k8 hm
 refine bS hm (fun hb30 hm => ?_) fun hb30 hm => ?_
 refine c_skip ?_
 refine Wp.seq ?_
 refine Wp.block ?_
 refine Wp.seq ?_
 refine Wp.seq ?_
 obtain ⟨j31, hj36, hm⟩ := of_bind hm
 refine c_cut (St 134 [(1, vI funcs), (2, vP 0), (5, vI x1), (6, vI ((List.length f.blocks : Int))), (8, vI st20), (9, vP 1), (10, vI st26), (87, vB j31)] [(0, oL 3 (eFunc false f)), (1, oL 6 (eBlock false (at_ f.blocks st20)))] 2) ?_ ?_
 replace hm := hj36
 refine yG ?_
 intro k9 hm
 refine nO (aopK_A (cB (spec_WidthOk_sim ((at_ ((at_ f.blocks st20).phis) st26).w)) ?_))
 refine yG ?_
 intro _ hm
 refine bG0 hm (fun hb33 hm => ?_) fun hb33 hm => ?_
 refine yG ?_
 intro k10 hm
 cases hm
 exact vW [0, 1]
 refine yG ?_
 intro _ hm
 cases hm
 exact vW [0, 1]
 refine bS hm (fun hb37 hm => ?_) fun hb37 hm => ?_
 refine yG ?_
 intro _ hm
 cases hm
 exact ⟨rfl, vW []⟩
 refine yG ?_
 intro _ hm
 obtain ⟨y49, hl50, hm⟩ := of_bind hm
 refine c_loop hl50 (fun (st38 : Int) => St 134 [(1, vI funcs), (2, vP 0), (5, vI x1), (6, vI ((List.length f.blocks : Int))), (8, vI st20), (9, vP 1), (10, vI st26), (11, vI st38)] [(0, oL 3 (eFunc false f)), (1, oL 6 (eBlock false (at_ f.blocks st20)))] 2) (fun (y : Unit ⊕ Unit) => match y with | (Sum.inl j39) => (.ret, St 134 [(4, vB false)] [] 0) | (Sum.inr j40) => (.exit 6, St 134 [(1, vI funcs), (2, vP 0), (5, vI x1), (6, vI ((List.length f.blocks : Int))), (8, vI st20), (9, vP 1), (10, vI st26)] [(0, oL 3 (eFunc false f)), (1, oL 6 (eBlock false (at_ f.blocks st20)))] 2)) (vW [0, 1]) ?_ (by rintro (_ | _) <;> simp) ?_
 intro st38 x hm
 refine yG ?_
 intro k11 hm
 refine bS hm (fun hb43 hm => ?_) fun hb43 hm => ?_
 refine yG ?_
 intro k12 hm
 refine nO (aopK_A (cB (spec_l1In_sim (at_ ((at_ ((at_ f.blocks st20).phis) st26).ins) st38) 0 (x1 - 1)) ?_))
 refine yG ?_
 intro _ hm
 refine bS hm (fun hb47 hm => ?_) fun hb47 hm => ?_
 refine yG ?_
 intro _ hm
 cases hm
 exact ⟨rfl, vW []⟩
 refine yG ?_
 intro k13 hm
 cases hm
 exact ⟨rfl, vW [0, 1]⟩
 refine c_exit ?_
 cases hm
 exact ⟨rfl, vW [0, 1]⟩
 rcases y49 with j39 | j40 <;> simp only at hm
 cases hm
 exact ⟨rfl, vW []⟩
 refine yG ?_
 intro k14 hm
 cases hm
 exact ⟨rfl, vW [0, 1]⟩
 refine c_exit ?_
 cases hm
 exact ⟨rfl, vW [0, 1]⟩
 rcases y52 with j27 | j28 <;> simp only at hm
 cases hm
 exact ⟨rfl, vW []⟩
 refine yG ?_
 intro _ hm
 obtain ⟨y64, hl65, hm⟩ := of_bind hm
 refine c_loop hl65 (fun (st54 : Int) => St 134 [(1, vI funcs), (2, vP 0), (5, vI x1), (6, vI ((List.length f.blocks : Int))), (8, vI st20), (9, vP 1), (12, vI st54)] [(0, oL 3 (eFunc false f)), (1, oL 6 (eBlock false (at_ f.blocks st20)))] 2) (fun (y : Unit ⊕ Unit) => match y with | (Sum.inl j55) => (.ret, St 134 [(4, vB false)] [] 0) | (Sum.inr j56) => (.exit 8, St 134 [(1, vI funcs), (2, vP 0), (5, vI x1), (6, vI ((List.length f.blocks : Int))), (8, vI st20), (9, vP 1)] [(0, oL 3 (eFunc false f)), (1, oL 6 (eBlock false (at_ f.blocks st20)))] 2)) (vW [0, 1]) ?_ (by rintro (_ | _) <;> simp) ?_
 intro st54 x hm
 refine yG ?_
 intro k15 hm
 refine bS hm (fun hb58 hm => ?_) fun hb58 hm => ?_
 refine yG ?_
 intro k16 hm
 refine nO (x_ldi T45 rfl (pk_all rfl rfl) rfl ?_)
 refine yG ?_
 intro _ hm
 obtain ⟨x60, h61, hm⟩ := of_bind hm
 refine nO (aopK_A (cB (spec_l2Inst_sim h61) ?_))
 refine yG ?_
 intro _ hm
 refine bS hm (fun hb62 hm => ?_) fun hb62 hm => ?_
 refine yG ?_
 intro _ hm
 cases hm
 exact ⟨rfl, vW []⟩
 refine yG ?_
 intro k17 hm
 cases hm
 exact ⟨rfl, vW [0, 1]⟩
 refine c_exit ?_
 cases hm
 exact ⟨rfl, vW [0, 1]⟩
 rcases y64 with j55 | j56 <;> simp only at hm
 cases hm
 exact ⟨rfl, vW []⟩
 refine yG ?_
 intro _ hm
 refine nO (kL (.agg (eTerm (((at_ f.blocks st20).term)))) ?_)
 refine yG ?_
 intro _ hm
 obtain ⟨x66, h67, hm⟩ := of_bind hm
 refine nO (aopK_A (cB (spec_l2Term_sim h67) ?_))
 refine yG ?_
 intro _ hm
 refine bS hm (fun hb68 hm => ?_) fun hb68 hm => ?_
 refine yG ?_
 intro _ hm
 cases hm
 exact ⟨rfl, vW []⟩
 refine yG ?_
 intro k18 hm
 cases hm
 exact ⟨rfl, vW [0]⟩
 refine c_exit ?_
 cases hm
 exact ⟨rfl, vW []⟩
 rcases y70 with j21 | j22 <;> simp only at hm
 cases hm
 exact rZ1
 refine yG ?_
 intro _ hm
 cases hm
 exact rZ1
end Go.Proofs.Ytghdhjgoicnbcaa.AM

namespace Go.Proofs.Ytghdhjgoicnbcaa.AM
open Go
set_option linter.unusedSimpArgs false
set_option linter.unusedVariables false
set_option maxHeartbeats 8000000
set_option maxRecDepth 100000
attribute [local irreducible] aopK awpOps Wp St WpO
/-- spec.l1Divides -/
noncomputable def spec_l1Divides_m (op_ : Int) : Bool :=
 ((spec_l1In_m op_ 4 7))
theorem spec_l1Divides_sim (op_ : Int) : Sim Try.prog 79 [.one (.int .i64 op_)] [] (.u (.one (.bool ((spec_l1Divides_m op_))))) [] := by
 generalize hm : spec_l1Divides_m op_ = r
 refine fN 5 0 Try.func79 [.tmp 2] fun B hB0 => ?_
 unfold spec_l1Divides_m at hm
 refine yG ?_
 intro _ hm
 refine nO (aopK_A (cB (spec_l1In_sim op_ 4 7) ?_))
 refine yG ?_
 intro _ hm
 cases hm
 exact rZ1
/-- spec.l2Place -/
noncomputable def spec_l2Place_m (f : GFunc) (id : Int) : Option (Int × Int) :=
 (if decide (id < 0) = true then
 (some (((-2), 0)))
 else
 (if decide (id < ((List.length f.params : Int))) = true then
 (some (((-1), id)))
 else
 (if inI (id - ((List.length f.params : Int))) then
 (Option.bind (loopO (fun (st6 : Int × Int) =>
 ((if decide (st6.2 < ((List.length f.blocks : Int))) = true then
 (if 0 ≤ st6.2 ∧ st6.2 < (List.length f.blocks : Int) then
 (if 0 ≤ st6.2 ∧ st6.2 < (List.length f.blocks : Int) then
 (if decide (st6.1 < (IntKind.i64.wrap (((List.length ((at_ f.blocks st6.2).phis) : Int)) + ((List.length ((at_ f.blocks st6.2).insts) : Int))))) = true then
 (some (Sum.inr ((Sum.inl ((st6.2, st6.1))))))
 else
 (if inI (st6.2 + 1) then
 (some (Sum.inl ((IntKind.i64.wrap (st6.1 - (IntKind.i64.wrap (((List.length ((at_ f.blocks st6.2).phis) : Int)) + ((List.length ((at_ f.blocks st6.2).insts) : Int))))), st6.2 + 1))))
 else none))
 else none)
 else none)
 else
 (some (Sum.inr ((Sum.inr (())))))) : Option ((Int × Int) ⊕ ((Int × Int) ⊕ Unit)))) (id - ((List.length f.params : Int)), 0)) fun (y17 : (Int × Int) ⊕ Unit) => match y17 with
 | (Sum.inl j7) =>
 (some ((j7.1, j7.2)))
 | (Sum.inr j8) =>
 (some (((-2), 0))))
 else none)))
theorem spec_l2Place_sim {f : GFunc} {id : Int} {r : Int × Int} (hm : spec_l2Place_m f id = some r) : Sim Try.prog 53 [.agg (eFunc false f), .one (.int .i64 id)] [] (.tup [.one (.int .i64 r.1), .one (.int .i64 r.2)]) [] := by
 refine fN 51 0 Try.func53 [.tmp 4, .tmp 5] fun B hB0 => ?_
 have fW := trivial
 unfold spec_l2Place_m at hm
 refine yG ?_
 intro _ hm
 refine bS hm (fun hb1 hm => ?_) fun hb1 hm => ?_
 refine yG ?_
 intro _ hm
 cases hm
 exact rZt
 refine yG ?_
 intro k1 hm
 refine bS hm (fun hb3 hm => ?_) fun hb3 hm => ?_
 refine yG ?_
 intro _ hm
 cases hm
 exact rZt
 refine yG ?_
 intro k2 hm
 obtain ⟨y17, hl18, hm⟩ := of_bind hm
 refine c_loop hl18 (fun (st6 : Int × Int) => St 51 [(1, vI st6.1), (2, vP 0), (6, vI st6.2)] [(0, oL 3 (eFunc false f))] 1) (fun (y : (Int × Int) ⊕ Unit) => match y with | (Sum.inl j7) => (.ret, St 51 [(4, vI j7.1), (5, vI j7.2)] [] 0) | (Sum.inr j8) => (.exit 0, St 51 [] [] 0)) (vW [0]) ?_ (by rintro (_ | _) <;> simp) ?_
 intro st6 x hm
 refine yG ?_
 intro k3 hm
 refine bS hm (fun hb10 hm => ?_) fun hb10 hm => ?_
 refine c_skip ?_
 refine Wp.seq ?_
 refine Wp.block ?_
 refine Wp.seq ?_
 refine c_drw (Y := sysC _) mixed ?_
 refine tK 0 1 rfl (kF ?_)
 refine tK 1 1 rfl (kD ?_)
 refine tK 2 0 rfl (kV ?_)
 obtain ⟨h11, hm⟩ := of_ite hm
 refine tK 3 0 rfl (x_ixb E25 rfl rfl h11 ?_)
 refine tK 4 0 rfl (x_fai F40_0 rfl ?_)
 refine tK 5 0 rfl (x_ldi T35 rfl rfl rfl ?_)
 refine tK 6 0 rfl (x_lnb N35 rfl fun hL12 => ?_)
 refine tK 7 1 rfl (kF ?_)
 refine tK 8 1 rfl (kD ?_)
 refine tK 9 0 rfl (kV ?_)
 obtain ⟨h13, hm⟩ := of_ite hm
 refine tK 10 0 rfl (x_ixb E25 rfl rfl h13 ?_)
 refine tK 11 0 rfl (x_fai F40_1 rfl ?_)
 refine tK 12 0 rfl (x_ldi T36 rfl rfl rfl ?_)
 refine tK 13 0 rfl (x_lnb N36 rfl fun hL14 => ?_)
 refine tK 14 0 rfl (x_binw T3 rfl rfl rfl ?_)
 refine tK 15 0 rfl (x_as rfl rfl ?_)
 refine aN ?_
 refine yG ?_
 intro _ hm
 refine bS hm (fun hb15 hm => ?_) fun hb15 hm => ?_
 refine yG ?_
 intro _ hm
 cases hm
 exact ⟨rfl, vW []⟩
 refine yG ?_
 intro _ hm
 refine nO (x_binw T2 rfl rfl rfl ?_)
 refine yG ?_
 intro k4 hm
 cases hm
 exact ⟨rfl, vW [0]⟩
 refine c_exit ?_
 cases hm
 exact ⟨rfl, vW []⟩
 rcases y17 with j7 | j8 <;> simp only at hm
 cases hm
 exact rZt
 refine yG ?_
 intro _ hm
 cases hm
 exact rZt
/-- spec.l9Inst -/
noncomputable def spec_l9Inst_m (f : GFunc) (id : Int) : Option (GInst × Bool) :=
 (Option.bind (spec_l2Place_m f id) fun x1 =>
 (if decide (x1.1 < 0) = true then
 (some ((({ op_ := 0, w := 0, a := 0, b := 0, c := 0, imm := 0, args := [] } : GInst), false)))
 else
 (if 0 ≤ x1.1 ∧ x1.1 < (List.length f.blocks : Int) then
 (if decide (x1.2 < ((List.length ((at_ f.blocks x1.1).phis) : Int))) = true then
 (some ((({ op_ := 0, w := 0, a := 0, b := 0, c := 0, imm := 0, args := [] } : GInst), false)))
 else
 (if 0 ≤ x1.1 ∧ x1.1 < (List.length f.blocks : Int) then
 (if inI (x1.2 - ((List.length ((at_ f.blocks x1.1).phis) : Int))) then
 (if 0 ≤ (x1.2 - ((List.length ((at_ f.blocks x1.1).phis) : Int))) ∧ (x1.2 - ((List.length ((at_ f.blocks x1.1).phis) : Int))) < (List.length ((at_ f.blocks x1.1).insts) : Int) then
 (some ((({ op_ := (at_ ((at_ f.blocks x1.1).insts) (x1.2 - ((List.length ((at_ f.blocks x1.1).phis) : Int)))).op_, w := (at_ ((at_ f.blocks x1.1).insts) (x1.2 - ((List.length ((at_ f.blocks x1.1).phis) : Int)))).w, a := (at_ ((at_ f.blocks x1.1).insts) (x1.2 - ((List.length ((at_ f.blocks x1.1).phis) : Int)))).a, b := (at_ ((at_ f.blocks x1.1).insts) (x1.2 - ((List.length ((at_ f.blocks x1.1).phis) : Int)))).b, c := (at_ ((at_ f.blocks x1.1).insts) (x1.2 - ((List.length ((at_ f.blocks x1.1).phis) : Int)))).c, imm := (at_ ((at_ f.blocks x1.1).insts) (x1.2 - ((List.length ((at_ f.blocks x1.1).phis) : Int)))).imm, args := (at_ ((at_ f.blocks x1.1).insts) (x1.2 - ((List.length ((at_ f.blocks x1.1).phis) : Int)))).args } : GInst), true)))
 else none)
 else none)
 else none))
 else none)))
theorem spec_l9Inst_sim {f : GFunc} {id : Int} {r : GInst × Bool} (hm : spec_l9Inst_m f id = some r) : Sim Try.prog 101 [.agg (eFunc false f), .one (.int .i64 id)] [] (.tup [.agg (eInst false r.1), .one (.bool r.2)]) [] := by
 refine fN 40 0 Try.func101 [.cell 4 45, .tmp 5] fun B hB0 => ?_
 unfold spec_l9Inst_m at hm
 refine yG ?_
 intro _ hm
 refine nO (kW ?_)
 refine yG ?_
 intro _ hm
 obtain ⟨x1, h2, hm⟩ := of_bind hm
 refine nO (aopK_A (cB (spec_l2Place_sim h2) ?_))
 refine yG ?_
 intro _ hm
 refine bS hm (fun hb3 hm => ?_) fun hb3 hm => ?_
 refine yG ?_
 intro _ hm
 cases hm
 exact rZth (hg := f_nl 0 6 1 false rfl rfl rfl)
 refine yG ?_
 intro k1 hm
 refine bS hm (fun hb6 hm => ?_) fun hb6 hm => ?_
 refine yG ?_
 intro _ hm
 cases hm
 exact rZth (hg := f_nl 0 6 1 false rfl rfl rfl)
 refine yG ?_
 intro k2 hm
 refine nO (x_ldi T45 rfl (pk_all rfl rfl) rfl ?_)
 refine yG ?_
 intro _ hm
 cases hm
 exact rZt
/-- spec.ConstOf -/
noncomputable def spec_ConstOf_m (f : GFunc) (id : Int) : Option (Int × Bool) :=
 (Option.bind (spec_l9Inst_m f id) fun x1 =>
 (if ((!x1.2) || (x1.1.op_ != 21)) = true then
 (some ((0, false)))
 else
 (some ((x1.1.imm, true)))))
theorem spec_ConstOf_sim {f : GFunc} {id : Int} {r : Int × Bool} (hm : spec_ConstOf_m f id = some r) : Sim Try.prog 80 [.agg (eFunc false f), .one (.int .i64 id)] [] (.tup [.one (.int .i64 r.1), .one (.bool r.2)]) [] := by
 refine fN 23 0 Try.func80 [.tmp 4, .tmp 5] fun B hB0 => ?_
 unfold spec_ConstOf_m at hm
 refine yG ?_
 intro _ hm
 refine nO (kW ?_)
 refine yG ?_
 intro _ hm
 obtain ⟨x1, h2, hm⟩ := of_bind hm
 refine nO (cG [] (spec_l9Inst_sim h2) ?_)
 refine yR ?_
 intro _ hm
 refine o_end ?_
 refine Wp.seq ?_
 refine Wp.seq ?_
 refine c_cut (St 23 [(6, vP 0), (20, vB (((!x1.2) || (x1.1.op_ != 21))))] [(0, oL 7 (eInst false x1.1))] 1) ?_ ?_
 refine yG ?_
 intro _ hm
 refine gO_s rfl rfl rfl (fun hb4 => ?_) (fun hb4 => ?_)
 refine yG ?_
 intro _ hm
 exact w_ [1] (.cons rfl rfl (.cons (by simp only [hb4, BO]; rfl) rfl .nil)) (.lit rfl rfl .nil) (by decide) (hB_0 hB0)
 refine yG ?_
 intro _ hm
 exact w_ [1] (.cons rfl rfl (.cons (by simp only [hb4, BO]; rfl) rfl .nil)) (.lit rfl rfl .nil) (by decide) (hB_0 hB0)
 refine bS hm (fun hb5 hm => ?_) fun hb5 hm => ?_
 refine yG ?_
 intro _ hm
 cases hm
 exact rZt
 refine yG ?_
 intro _ hm
 cases hm
 exact rZt
/-- spec.l10Root -/
noncomputable def spec_l10Root_m (f : GFunc) (i : GInst) : Option Bool :=
 (if (spec_l1Divides_m i.op_) = true then
 (Option.bind (spec_ConstOf_m f i.b) fun x2 =>
 (some (((!x2.2) || (x2.1 == 0)))))
 else
 (some ((spec_l1In_m i.op_ 23 26))))
theorem spec_l10Root_sim {f : GFunc} {i : GInst} {r : Bool} (hm : spec_l10Root_m f i = some r) : Sim Try.prog 49 [.agg (eFunc false f), .agg (eInst false i)] [] (.u (.one (.bool r))) [] := by
 refine fN 26 0 Try.func49 [.tmp 4] fun B hB0 => ?_
 unfold spec_l10Root_m at hm
 refine yG ?_
 intro _ hm
 refine nO (aopK_A (cB (spec_l1Divides_sim i.op_) ?_))
 refine o_end ?_
 refine bS hm (fun hb1 hm => ?_) fun hb1 hm => ?_
 refine Wp.seq ?_
 refine c_regS ?_
 refine nO (kW ?_)
 refine yG ?_
 intro _ hm
 obtain ⟨x2, h3, hm⟩ := of_bind hm
 refine nO (aopK_A (cB (spec_ConstOf_sim h3) ?_))
 refine yR ?_
 intro _ hm
 refine o_end ?_
 refine Wp.seq ?_
 refine c_cut (St 26 [(4, vB (((!x2.2) || (x2.1 == 0))))] [] 0) ?_ ?_
 refine yG ?_
 intro _ hm
 refine gO_s rfl rfl rfl (fun hb5 => ?_) (fun hb5 => ?_)
 refine yG ?_
 intro _ hm
 exact w_ [] (.cons (by simp only [hb5, BO]; rfl) rfl .nil) .nil (by decide) (hB_0 hB0)
 refine yG ?_
 intro _ hm
 exact w_ [] (.cons (by simp only [hb5, BO]; rfl) rfl .nil) .nil (by decide) (hB_0 hB0)
 refine c_ret ?_
 cases hm
 exact rZ1
 refine yG ?_
 intro _ hm
 refine nO (aopK_A (cB (spec_l1In_sim i.op_ 23 26) ?_))
 refine yG ?_
 intro _ hm
 cases hm
 exact rZ1
/-- spec.l1Has -/
noncomputable def spec_l1Has_m (l : List Int) (n : Int) : Option Bool :=
 (Option.bind (loopO (fun (st1 : Int) =>
 ((if decide (st1 < ((List.length l : Int))) = true then
 (if 0 ≤ st1 ∧ st1 < (List.length l : Int) then
 (if ((at_ l st1) == n) = true then
 (some (Sum.inr ((Sum.inl (())))))
 else
 (if inI (st1 + 1) then
 (some (Sum.inl (st1 + 1)))
 else none))
 else none)
 else
 (some (Sum.inr ((Sum.inr (())))))) : Option ((Int) ⊕ (Unit ⊕ Unit)))) 0) fun (y9 : Unit ⊕ Unit) => match y9 with
 | (Sum.inl j2) =>
 (some true)
 | (Sum.inr j3) =>
 (some false))
theorem spec_l1Has_sim {l : List Int} {n : Int} {r : Bool} (hm : spec_l1Has_m l n = some r) : Sim Try.prog 51 [.one (.bs () 1 (List.map iL l)), .one (.int .i64 n)] [] (.u (.one (.bool r))) [] := by
 refine fN 18 0 Try.func51 [.tmp 4] fun B hB0 => ?_
 unfold spec_l1Has_m at hm
 refine yG ?_
 intro _ hm
 obtain ⟨y9, hl10, hm⟩ := of_bind hm
 refine c_loop hl10 (fun (st1 : Int) => St 18 [(0, .u (.one (.bs () 1 (List.map iL l)))), (1, vI n), (5, vI st1)] [] 0) (fun (y : Unit ⊕ Unit) => match y with | (Sum.inl j2) => (.ret, St 18 [(4, vB true)] [] 0) | (Sum.inr j3) => (.exit 0, St 18 [] [] 0)) (vW []) ?_ (by rintro (_ | _) <;> simp) ?_
 intro st1 x hm
 refine yG ?_
 intro k1 hm
 refine bS hm (fun hb5 hm => ?_) fun hb5 hm => ?_
 refine yG ?_
 intro k2 hm
 refine bS hm (fun hb7 hm => ?_) fun hb7 hm => ?_
 refine yG ?_
 intro _ hm
 cases hm
 exact ⟨rfl, vW []⟩
 refine yG ?_
 intro k3 hm
 cases hm
 exact ⟨rfl, vW []⟩
 refine c_exit ?_
 cases hm
 exact ⟨rfl, vW []⟩
 rcases y9 with j2 | j3 <;> simp only at hm
 cases hm
 exact rZ1
 refine yG ?_
 intro _ hm
 cases hm
 exact rZ1
/-- spec.l1Put -/
noncomputable def spec_l1Put_m (l : List Int) (n : Int) : Option (List Int) :=
 (Option.bind (loopO (fun (st1 : Int) =>
 ((Option.bind ((if decide (st1 < ((List.length l : Int))) = true then
 (if 0 ≤ st1 ∧ st1 < (List.length l : Int) then
 (some (decide ((at_ l st1) < n)))
 else none)
 else
 (some false))) fun (j3 : Bool) =>
 (if j3 = true then
 (if inI (st1 + 1) then
 (some (Sum.inl (st1 + 1)))
 else none)
 else
 (some (Sum.inr st1)))) : Option ((Int) ⊕ (Int)))) 0) fun (j2 : Int) =>
 (Option.bind ((if decide (j2 < ((List.length l : Int))) = true then
 (if 0 ≤ j2 ∧ j2 < (List.length l : Int) then
 (some (((at_ l j2) == n)))
 else none)
 else
 (some false))) fun (j12 : Bool) =>
 (if j12 = true then
 (some l)
 else
 (if 0 ≤ j2 ∧ 0 ≤ (Int.toNat j2) ∧ (Int.toNat j2) ≤ List.length l then
 (if (List.length (([] : List Int)) + List.length (List.take ((Int.toNat j2) - 0) (List.drop 0 l))) * 8 ≤ 140737488355328 ∧ List.length (([] : List Int)) + List.length (List.take ((Int.toNat j2) - 0) (List.drop 0 l)) ≤ LIM then
 (if (List.length ((([] : List Int)) ++ (List.take ((Int.toNat j2) - 0) (List.drop 0 l))) + List.length ([n])) * 8 ≤ 140737488355328 ∧ List.length ((([] : List Int)) ++ (List.take ((Int.toNat j2) - 0) (List.drop 0 l))) + List.length ([n]) ≤ LIM then
 (if 0 ≤ j2 ∧ (Int.toNat j2) ≤ (List.length l) ∧ (List.length l) ≤ List.length l then
 (if (List.length (((([] : List Int)) ++ (List.take ((Int.toNat j2) - 0) (List.drop 0 l))) ++ ([n])) + List.length (List.take ((List.length l) - (Int.toNat j2)) (List.drop (Int.toNat j2) l))) * 8 ≤ 140737488355328 ∧ List.length (((([] : List Int)) ++ (List.take ((Int.toNat j2) - 0) (List.drop 0 l))) ++ ([n])) + List.length (List.take ((List.length l) - (Int.toNat j2)) (List.drop (Int.toNat j2) l)) ≤ LIM then
 (some ((((([] : List Int)) ++ (List.take ((Int.toNat j2) - 0) (List.drop 0 l))) ++ ([n])) ++ (List.take ((List.length l) - (Int.toNat j2)) (List.drop (Int.toNat j2) l))))
 else none)
 else none)
 else none)
 else none)
 else none))))
theorem spec_l1Put_sim {l : List Int} {n : Int} {r : List Int} (hm : spec_l1Put_m l n = some r) : Sim Try.prog 52 [.one (.bs () 1 (List.map iL l)), .one (.int .i64 n)] [] (.u (.one (.bs () 1 (List.map iL r)))) [] := by
 refine fN 48 0 Try.func52 [.tmp 4] fun B hB0 => ?_
 unfold spec_l1Put_m at hm
 refine yG ?_
 intro _ hm
 obtain ⟨j2, hl11, hm⟩ := of_bind hm
 refine lP hl11 (fun st1 => St 48 [(0, .u (.one (.bs () 1 (List.map iL l)))), (1, vI n), (5, vI st1)] [] 0) (fun j2 => (.exit 0, St 48 [(0, .u (.one (.bs () 1 (List.map iL l)))), (1, vI n), (5, vI j2)] [] 0)) (vW []) ?_ ?_
 intro st1 x hm
 refine Wp.seq ?_
 refine Wp.seq ?_
 obtain ⟨j3, hj7, hm⟩ := of_bind hm
 refine c_cut (St 48 [(0, .u (.one (.bs () 1 (List.map iL l)))), (1, vI n), (5, vI st1), (18, vB j3)] [] 0) ?_ ?_
 replace hm := hj7
 refine yG ?_
 intro k1 hm
 refine bG1 hm (fun hb5 hm => ?_) fun hb5 hm => ?_
 refine yG ?_
 intro k2 hm
 cases hm
 exact vW []
 refine yG ?_
 intro _ hm
 cases hm
 exact vW []
 refine bS hm (fun hb8 hm => ?_) fun hb8 hm => ?_
 refine yG ?_
 intro k3 hm
 cases hm
 exact ⟨rfl, vW []⟩
 refine c_exit ?_
 cases hm
 exact ⟨rfl, vW []⟩
 refine Wp.seq ?_
 refine Wp.seq ?_
 obtain ⟨j12, hj16, hm⟩ := of_bind hm
 refine c_cut (St 48 [(0, .u (.one (.bs () 1 (List.map iL l)))), (1, vI n), (5, vI j2), (32, vB j12)] [] 0) ?_ ?_
 replace hm := hj16
 refine yG ?_
 intro k4 hm
 refine bG1 hm (fun hb14 hm => ?_) fun hb14 hm => ?_
 refine yG ?_
 intro k5 hm
 cases hm
 exact vW []
 refine yG ?_
 intro _ hm
 cases hm
 exact vW []
 refine bS hm (fun hb17 hm => ?_) fun hb17 hm => ?_
 refine yG ?_
 intro _ hm
 cases hm
 exact rZ1
 refine yG ?_
 intro _ hm
 refine nO (kM (iL) (([] : List Int)) ?_)
 refine yG ?_
 intro _ hm
 obtain ⟨h18, hm⟩ := of_ite hm
 refine nO (x_slb (enc := iL) (xs := l) (l := 0) (h := (Int.toNat j2)) E24 rfl bd_n (bd_s rfl h18.1) h18.2 ?_)
 refine yG ?_
 intro k6 hm
 refine nO (kM (iL) ([n]) ?_)
 refine yG ?_
 intro k7 hm
 obtain ⟨h21, hm⟩ := of_ite hm
 refine nO (x_slb (enc := iL) (xs := l) (l := (Int.toNat j2)) (h := (List.length l)) E24 rfl (bd_s rfl h21.1) bd_n h21.2 ?_)
 refine yG ?_
 intro k8 hm
 cases hm
 exact rZ1h (hg := f_frR 0 0 rfl rfl rfl (by first | rfl | simp) rfl rfl)
/-- spec.l10Needed -/
noncomputable def spec_l10Needed_m (f : GFunc) : Option (List Int) :=
 (Option.bind (loopO (fun (st2 : (List Int) × Int × Int) =>
 ((if decide (st2.2.2 < ((List.length f.blocks : Int))) = true then
 (if 0 ≤ st2.2.2 ∧ st2.2.2 < (List.length f.blocks : Int) then
 (if inI (st2.2.1 + ((List.length ((at_ f.blocks st2.2.2).phis) : Int))) then
 (Option.bind (loopO (fun (st9 : (List Int) × Int × Int) =>
 ((if decide (st9.2.2 < ((List.length ((at_ f.blocks st2.2.2).insts) : Int))) = true then
 (if 0 ≤ st9.2.2 ∧ st9.2.2 < (List.length ((at_ f.blocks st2.2.2).insts) : Int) then
 (Option.bind (spec_l10Root_m f (at_ ((at_ f.blocks st2.2.2).insts) st9.2.2)) fun x14 =>
 (if x14 = true then
 (if (List.length st9.1 + List.length ([st9.2.1])) * 8 ≤ 140737488355328 ∧ List.length st9.1 + List.length ([st9.2.1]) ≤ LIM then
 (if inI (st9.2.1 + 1) then
 (if inI (st9.2.2 + 1) then
 (some (Sum.inl ((st9.1 ++ ([st9.2.1]), st9.2.1 + 1, st9.2.2 + 1))))
 else none)
 else none)
 else none)
 else
 (if inI (st9.2.1 + 1) then
 (if inI (st9.2.2 + 1) then
 (some (Sum.inl ((st9.1, st9.2.1 + 1, st9.2.2 + 1))))
 else none)
 else none)))
 else none)
 else
 (some (Sum.inr (((st9.1, st9.2.1)))))) : Option (((List Int) × Int × Int) ⊕ (((List Int) × Int))))) (st2.1, st2.2.1 + ((List.length ((at_ f.blocks st2.2.2).phis) : Int)), 0)) fun (j10 : (List Int) × Int) =>
 (if (if ((((at_ f.blocks st2.2.2).term).kind) == 1) = true then true else ((((at_ f.blocks st2.2.2).term).kind) == 3)) = true then
 (if (List.length j10.1 + List.length ([((at_ f.blocks st2.2.2).term).a])) * 8 ≤ 140737488355328 ∧ List.length j10.1 + List.length ([((at_ f.blocks st2.2.2).term).a]) ≤ LIM then
 (if inI (st2.2.2 + 1) then
 (some (Sum.inl ((j10.1 ++ ([((at_ f.blocks st2.2.2).term).a]), j10.2, st2.2.2 + 1))))
 else none)
 else none)
 else
 (if inI (st2.2.2 + 1) then
 (some (Sum.inl ((j10.1, j10.2, st2.2.2 + 1))))
 else none)))
 else none)
 else none)
 else
 (some (Sum.inr st2.1))) : Option (((List Int) × Int × Int) ⊕ (((List Int)))))) (([] : List Int), (List.length f.params : Int), 0)) fun (j3 : (List Int)) =>
 (Option.bind (loopO (fun (st33 : (List Int) × (List Int)) =>
 ((if decide (((List.length st33.1 : Int)) > 0) = true then
 (if (0 : Int) ≤ 0 ∧ 0 < (List.length st33.1 : Int) then
 (if 1 ≤ (List.length st33.1) ∧ (List.length st33.1) ≤ List.length st33.1 then
 (Option.bind (spec_l1Copy_m (List.drop 1 st33.1)) fun x39 =>
 (Option.bind (spec_l1Has_m st33.2 (at_ st33.1 0)) fun x41 =>
 (if x41 = true then
 (some (Sum.inl ((x39, st33.2))))
 else
 (Option.bind (spec_l1Put_m st33.2 (at_ st33.1 0)) fun x44 =>
 (Option.bind (spec_l2Place_m f (at_ st33.1 0)) fun x46 =>
 (if decide (x46.1 < 0) = true then
 (some (Sum.inl ((x39, x44))))
 else
 (if 0 ≤ x46.1 ∧ x46.1 < (List.length f.blocks : Int) then
 (if decide (x46.2 < ((List.length ((at_ f.blocks x46.1).phis) : Int))) = true then
 (if 0 ≤ x46.2 ∧ x46.2 < (List.length ((at_ f.blocks x46.1).phis) : Int) then
 (if (List.length x39 + List.length ((at_ ((at_ f.blocks x46.1).phis) x46.2).ins)) * 8 ≤ 140737488355328 ∧ List.length x39 + List.length ((at_ ((at_ f.blocks x46.1).phis) x46.2).ins) ≤ LIM then
 (some (Sum.inl ((x39 ++ ((at_ ((at_ f.blocks x46.1).phis) x46.2).ins), x44))))
 else none)
 else none)
 else
 (if inI (x46.2 - ((List.length ((at_ f.blocks x46.1).phis) : Int))) then
 (if 0 ≤ (x46.2 - ((List.length ((at_ f.blocks x46.1).phis) : Int))) ∧ (x46.2 - ((List.length ((at_ f.blocks x46.1).phis) : Int))) < (List.length ((at_ f.blocks x46.1).insts) : Int) then
 (Option.bind (spec_l2Operands_m (at_ ((at_ f.blocks x46.1).insts) (x46.2 - ((List.length ((at_ f.blocks x46.1).phis) : Int))))) fun x57 =>
 (if (List.length x39 + List.length x57) * 8 ≤ 140737488355328 ∧ List.length x39 + List.length x57 ≤ LIM then
 (some (Sum.inl ((x39 ++ x57, x44))))
 else none))
 else none)
 else none))
 else none)))))))
 else none)
 else none)
 else
 (some (Sum.inr st33.2))) : Option (((List Int) × (List Int)) ⊕ (((List Int)))))) (j3, ([] : List Int))) fun (j34 : (List Int)) =>
 (some j34)))
theorem spec_l10Needed_sim {f : GFunc} {r : List Int} (hm : spec_l10Needed_m f = some r) : Sim Try.prog 24 [.agg (eFunc false f)] [] (.u (.one (.bs () 1 (List.map iL r)))) [] := by
 refine fN 125 0 Try.func24 [.tmp 2] fun B hB0 => ?_
 unfold spec_l10Needed_m at hm
 refine yG ?_
 intro _ hm
 refine nO (kM (iL) (([] : List Int)) ?_)
 refine yG ?_
 intro _ hm
 refine nO (kM (iL) (([] : List Int)) ?_)
 refine yG ?_
 intro k1 hm
 obtain ⟨j3, hl31, hm⟩ := of_bind hm
 refine lP hl31 (fun st2 => St 125 [(1, vP 0), (3, vR 1 (List.length (([] : List Int)))), (4, vR 2 (List.length st2.1)), (5, vI st2.2.1), (6, vI st2.2.2)] [(0, oL 3 (eFunc false f)), (1, oM 1 iL (([] : List Int))), (2, oM 1 iL st2.1)] 3) (fun j3 => (.exit 0, St 125 [(1, vP 0), (3, vR 1 (List.length (([] : List Int)))), (4, vR 2 (List.length j3))] [(0, oL 3 (eFunc false f)), (1, oM 1 iL (([] : List Int))), (2, oM 1 iL j3)] 3)) (vW [0, 1, 2]) ?_ ?_
 intro st2 x hm
 refine yG ?_
 intro k2 hm
 refine bS hm (fun hb5 hm => ?_) fun hb5 hm => ?_
 refine yG ?_
 intro k3 hm
 refine nO (x_ldi T40 rfl (pk_all rfl rfl) rfl ?_)
 refine yG ?_
 intro k4 hm
 obtain ⟨j10, hl23, hm⟩ := of_bind hm
 refine lP hl23 (fun st9 => St 125 [(1, vP 0), (3, vR 1 (List.length (([] : List Int)))), (4, vR 2 (List.length st9.1)), (5, vI st9.2.1), (6, vI st2.2.2), (7, vP 3), (8, vI st9.2.2)] [(0, oL 3 (eFunc false f)), (1, oM 1 iL (([] : List Int))), (2, oM 1 iL st9.1), (3, oL 6 (eBlock false (at_ f.blocks st2.2.2)))] 4) (fun j10 => (.exit 2, St 125 [(1, vP 0), (3, vR 1 (List.length (([] : List Int)))), (4, vR 2 (List.length j10.1)), (5, vI j10.2), (6, vI st2.2.2), (7, vP 3)] [(0, oL 3 (eFunc false f)), (1, oM 1 iL (([] : List Int))), (2, oM 1 iL j10.1), (3, oL 6 (eBlock false (at_ f.blocks st2.2.2)))] 4)) (vW [0, 1, 2, 3]) ?_ ?_
 intro st9 x hm
 refine yG ?_
 intro k5 hm
 refine bS hm (fun hb12 hm => ?_) fun hb12 hm => ?_
 refine c_skip ?_
 refine Wp.seq ?_
 refine Wp.block ?_
 refine Wp.seq ?_
 refine Wp.seq ?_
 refine c_drw (Y := sysC _) mixed ?_
 refine tK 0 1 rfl (kW ?_)
 refine tK 1 1 rfl (kF ?_)
 refine tK 2 1 rfl (kD ?_)
 refine tK 3 0 rfl (kV ?_)
 obtain ⟨h13, hm⟩ := of_ite hm
 refine tK 4 0 rfl (x_ixb E36 rfl rfl h13 ?_)
 refine tK 5 0 rfl (x_ldi T45 rfl (pk_all rfl rfl) rfl ?_)
 obtain ⟨x14, h15, hm⟩ := of_bind hm
 refine oK 6 rfl (cB (spec_l10Root_sim h15) ?_)
 refine aN ?_
 refine bS hm (fun hb16 hm => ?_) fun hb16 hm => ?_
 refine yG ?_
 intro _ hm
 refine nO (kM (iL) ([st9.2.1]) ?_)
 refine yG ?_
 intro k6 hm
 cases hm
 exact ⟨rfl, vW [0, 1, 5, 3]⟩
 refine yG ?_
 intro k7 hm
 cases hm
 exact ⟨rfl, vW [0, 1, 2, 3]⟩
 refine c_exit ?_
 cases hm
 exact ⟨rfl, vW [0, 1, 2, 3]⟩
 refine Wp.seq ?_
 refine c_cut (St 125 [(1, vP 0), (3, vR 1 (List.length (([] : List Int)))), (4, vR 2 (List.length j10.1)), (5, vI j10.2), (6, vI st2.2.2), (7, vP 3), (64, vB ((if ((((at_ f.blocks st2.2.2).term).kind) == 1) = true then true else ((((at_ f.blocks st2.2.2).term).kind) == 3))))] [(0, oL 3 (eFunc false f)), (1, oM 1 iL (([] : List Int))), (2, oM 1 iL j10.1), (3, oL 6 (eBlock false (at_ f.blocks st2.2.2)))] 4) ?_ ?_
 refine yG ?_
 intro _ hm
 refine gO_s rfl rfl rfl (fun hb25 => ?_) (fun hb25 => ?_)
 refine yG ?_
 intro _ hm
 exact w_ [0, 1, 2, 3] (.cons rfl rfl (.cons rfl rfl (.cons rfl rfl (.cons rfl rfl (.cons rfl rfl (.cons rfl rfl (.cons (by simp only [hb25, BO]; rfl) rfl .nil))))))) (.lit rfl rfl (.map rfl (.map rfl (.lit rfl rfl .nil)))) (by decide) (hB_0 hB0)
 refine yG ?_
 intro _ hm
 exact w_ [0, 1, 2, 3] (.cons rfl rfl (.cons rfl rfl (.cons rfl rfl (.cons rfl rfl (.cons rfl rfl (.cons rfl rfl (.cons (by simp only [hb25, BO]; rfl) rfl .nil))))))) (.lit rfl rfl (.map rfl (.map rfl (.lit rfl rfl .nil)))) (by decide) (hB_0 hB0)
 refine bS hm (fun hb26 hm => ?_) fun hb26 hm => ?_
 refine yG ?_
 intro _ hm
 refine nO (kM (iL) ([((at_ f.blocks st2.2.2).term).a]) ?_)
 refine yG ?_
 intro k8 hm
 cases hm
 exact ⟨rfl, vW [0, 1, 5]⟩
 refine yG ?_
 intro k9 hm
 cases hm
 exact ⟨rfl, vW [0, 1, 2]⟩
 refine c_exit ?_
 cases hm
 exact ⟨rfl, vW [0, 1, 2]⟩
 refine Wp.seq ?_
 refine Wp.block ?_
 refine gH (f_frz 1 [3] rfl (all_plain_map _) (.cons rfl (by simp) .nil) rfl) ?_
 obtain ⟨j34, hl61, hm⟩ := of_bind hm
 refine lP hl61 (fun st33 => St 125 [(1, vP 0), (3, .u (.one (.bs () 1 (List.map iL st33.2)))), (4, vR 1 (List.length st33.1))] [(0, oL 3 (eFunc false f)), (1, oM 1 iL st33.1)] 2) (fun j34 => (.exit 4, St 125 [(3, .u (.one (.bs () 1 (List.map iL j34))))] [] 0)) (vW [0, 2]) ?_ ?_
 intro st33 x hm
 refine yG ?_
 intro k10 hm
 refine bS hm (fun hb36 hm => ?_) fun hb36 hm => ?_
 refine yG ?_
 intro k11 hm
 obtain ⟨h38, hm⟩ := of_ite hm
 refine nO (x_slr (l := 1) (h := (List.length st33.1)) rfl E24 rfl rfl (bd_s (m := 1) rfl (by decide)) bd_n h38 ?_)
 refine WpO.ghb (f_cutd 78 st33.1 (List.drop 1 st33.1) rfl rfl rfl (by simp only [List.length_take, List.length_drop] <;> omega) (by first | rfl | exact List.take_of_length_le (by simp only [List.length_drop, Nat.zero_add] <;> omega))) ?_
 obtain ⟨x39, h40, hm⟩ := of_bind hm
 refine nO (aopK_A (cB (spec_l1Copy_sim h40) ?_))
 refine yG ?_
 intro _ hm
 obtain ⟨x41, h42, hm⟩ := of_bind hm
 refine nO (aopK_A (cB (spec_l1Has_sim h42) ?_))
 refine o_end ?_
 refine bS hm (fun hb43 hm => ?_) fun hb43 hm => ?_
 refine c_exit ?_
 cases hm
 exact ⟨rfl, vW [0, 3]⟩
 refine yG ?_
 intro _ hm
 obtain ⟨x44, h45, hm⟩ := of_bind hm
 refine nO (cG [] (spec_l1Put_sim h45) ?_)
 refine yG ?_
 intro _ hm
 refine nO (kW ?_)
 refine yG ?_
 intro _ hm
 obtain ⟨x46, h47, hm⟩ := of_bind hm
 refine nO (aopK_A (cB (spec_l2Place_sim h47) ?_))
 refine yG ?_
 intro _ hm
 refine bS hm (fun hb48 hm => ?_) fun hb48 hm => ?_
 refine c_exit ?_
 cases hm
 exact ⟨rfl, vW [0, 3]⟩
 refine yG ?_
 intro k12 hm
 refine nO (x_ldi T40 rfl (pk_all rfl rfl) rfl ?_)
 refine yG ?_
 intro k13 hm
 refine bS hm (fun hb51 hm => ?_) fun hb51 hm => ?_
 refine yG ?_
 intro k14 hm
 cases hm
 exact ⟨rfl, vW [0, 5]⟩
 refine yG ?_
 intro k15 hm
 refine nO (x_ldi T45 rfl (pk_all rfl rfl) rfl ?_)
 obtain ⟨x57, h58, hm⟩ := of_bind hm
 refine nO (aopK_A (cB (spec_l2Operands_sim h58) ?_))
 refine yG ?_
 intro k16 hm
 cases hm
 exact ⟨rfl, vW [0, 6]⟩
 refine c_exit ?_
 cases hm
 exact ⟨rfl, vW []⟩
 refine yG ?_
 intro _ hm
 cases hm
 exact rZ1
/-- spec.Needed -/
noncomputable def spec_Needed_m (f : GFunc) : Option (List Int) :=
 (Option.bind (spec_l2Func_m f 3) fun x1 =>
 (if (!x1) = true then
 (some (([] : List Int)))
 else
 (Option.bind (spec_l10Needed_m f) fun x4 =>
 (some x4))))
theorem spec_Needed_sim {f : GFunc} {r : List Int} (hm : spec_Needed_m f = some r) : Sim Try.prog 9 [.agg (eFunc false f)] [] (.u (.one (.bs () 1 (List.map iL r)))) [] := by
 refine fN 9 0 Try.func9 [.tmp 2] fun B hB0 => ?_
 unfold spec_Needed_m at hm
 refine yG ?_
 intro _ hm
 refine nO (kW ?_)
 obtain ⟨x1, h2, hm⟩ := of_bind hm
 refine nO (aopK_A (cB (spec_l2Func_sim h2) ?_))
 refine yG ?_
 intro _ hm
 refine bS hm (fun hb3 hm => ?_) fun hb3 hm => ?_
 refine Wp.seq ?_
 refine c_regS ?_
 refine nO (kM (iL) (([] : List Int)) ?_)
 refine yG ?_
 intro _ hm
 cases hm
 exact rZ1h (hg := f_frR 0 0 rfl rfl rfl (by first | rfl | simp) rfl rfl)
 refine yG ?_
 intro _ hm
 refine nO (kW ?_)
 obtain ⟨x4, h5, hm⟩ := of_bind hm
 refine nO (cG [] (spec_l10Needed_sim h5) ?_)
 refine yG ?_
 intro _ hm
 cases hm
 exact rZ1
/-- laws.sameInts -/
noncomputable def laws_sameInts_m (a : List Int) (b : List Int) : Option Bool :=
 (if (((List.length a : Int)) != ((List.length b : Int))) = true then
 (some false)
 else
 (Option.bind (loopO (fun (st4 : Int) =>
 ((if decide (st4 < ((List.length a : Int))) = true then
 (if 0 ≤ st4 ∧ st4 < (List.length a : Int) then
 (if 0 ≤ st4 ∧ st4 < (List.length b : Int) then
 (if ((at_ a st4) != (at_ b st4)) = true then
 (some (Sum.inr ((Sum.inl (())))))
 else
 (if inI (st4 + 1) then
 (some (Sum.inl (st4 + 1)))
 else none))
 else none)
 else none)
 else
 (some (Sum.inr ((Sum.inr (())))))) : Option ((Int) ⊕ (Unit ⊕ Unit)))) 0) fun (y13 : Unit ⊕ Unit) => match y13 with
 | (Sum.inl j5) =>
 (some false)
 | (Sum.inr j6) =>
 (some true)))
theorem laws_sameInts_sim {a : List Int} {b : List Int} {r : Bool} (hm : laws_sameInts_m a b = some r) : Sim Try.prog 8 [.one (.bs () 1 (List.map iL a)), .one (.bs () 1 (List.map iL b))] [] (.u (.one (.bool r))) [] := by
 refine fN 26 0 Try.func8 [.tmp 4] fun B hB0 => ?_
 unfold laws_sameInts_m at hm
 refine yG ?_
 intro k1 hm
 refine bS hm (fun hb3 hm => ?_) fun hb3 hm => ?_
 refine yG ?_
 intro _ hm
 cases hm
 exact rZ1
 refine yG ?_
 intro _ hm
 obtain ⟨y13, hl14, hm⟩ := of_bind hm
 refine c_loop hl14 (fun (st4 : Int) => St 26 [(0, .u (.one (.bs () 1 (List.map iL a)))), (1, .u (.one (.bs () 1 (List.map iL b)))), (5, vI st4)] [] 0) (fun (y : Unit ⊕ Unit) => match y with | (Sum.inl j5) => (.ret, St 26 [(4, vB false)] [] 0) | (Sum.inr j6) => (.exit 0, St 26 [] [] 0)) (vW []) ?_ (by rintro (_ | _) <;> simp) ?_
 intro st4 x hm
 refine yG ?_
 intro k2 hm
 refine bS hm (fun hb8 hm => ?_) fun hb8 hm => ?_
 refine c_skip ?_
 refine Wp.seq ?_
 refine Wp.block ?_
 refine Wp.seq ?_
 refine c_drw (Y := sysC _) mixed ?_
 refine tK 0 0 rfl (kV ?_)
 refine tK 1 0 rfl (kV ?_)
 obtain ⟨h9, hm⟩ := of_ite hm
 refine tK 2 0 rfl (x_ixb E24 rfl rfl h9 ?_)
 refine tK 3 0 rfl (x_ldi T2 rfl rfl rfl ?_)
 refine tK 4 0 rfl (kV ?_)
 refine tK 5 0 rfl (kV ?_)
 obtain ⟨h10, hm⟩ := of_ite hm
 refine tK 6 0 rfl (x_ixb E24 rfl rfl h10 ?_)
 refine tK 7 0 rfl (x_ldi T2 rfl rfl rfl ?_)
 refine tK 8 0 rfl (x_bin T2 rfl rfl rfl ?_)
 refine aN ?_
 refine bS hm (fun hb11 hm => ?_) fun hb11 hm => ?_
 refine yG ?_
 intro _ hm
 cases hm
 exact ⟨rfl, vW []⟩
 refine yG ?_
 intro k3 hm
 cases hm
 exact ⟨rfl, vW []⟩
 refine c_exit ?_
 cases hm
 exact ⟨rfl, vW []⟩
 rcases y13 with j5 | j6 <;> simp only at hm
 cases hm
 exact rZ1
 refine yG ?_
 intro _ hm
 cases hm
 exact rZ1
/-- laws.rising -/
noncomputable def laws_rising_m (l : List Int) : Option Bool :=
 (Option.bind (loopO (fun (st1 : Int) =>
 ((if decide (st1 < ((List.length l : Int))) = true then
 (if inI (st1 - 1) then
 (if 0 ≤ (st1 - 1) ∧ (st1 - 1) < (List.length l : Int) then
 (if 0 ≤ st1 ∧ st1 < (List.length l : Int) then
 (if decide ((at_ l (st1 - 1)) ≥ (at_ l st1)) = true then
 (some (Sum.inr ((Sum.inl (())))))
 else
 (if inI (st1 + 1) then
 (some (Sum.inl (st1 + 1)))
 else none))
 else none)
 else none)
 else none)
 else
 (some (Sum.inr ((Sum.inr (())))))) : Option ((Int) ⊕ (Unit ⊕ Unit)))) 1) fun (y11 : Unit ⊕ Unit) => match y11 with
 | (Sum.inl j2) =>
 (some false)
 | (Sum.inr j3) =>
 (some true))
theorem laws_rising_sim {l : List Int} {r : Bool} (hm : laws_rising_m l = some r) : Sim Try.prog 10 [.one (.bs () 1 (List.map iL l))] [] (.u (.one (.bool r))) [] := by
 refine fN 20 0 Try.func10 [.tmp 2] fun B hB0 => ?_
 unfold laws_rising_m at hm
 refine yG ?_
 intro _ hm
 obtain ⟨y11, hl12, hm⟩ := of_bind hm
 refine c_loop hl12 (fun (st1 : Int) => St 20 [(0, .u (.one (.bs () 1 (List.map iL l)))), (3, .u (.one (.int .i64 st1)))] [] 0) (fun (y : Unit ⊕ Unit) => match y with | (Sum.inl j2) => (.ret, St 20 [(2, .u (.one (.bool false)))] [] 0) | (Sum.inr j3) => (.exit 0, St 20 [] [] 0)) (w_ [] (.cons rfl rfl (.cons rfl rfl .nil)) .nil (by decide) (hB_0 hB0)) ?_ (by rintro (_ | _) <;> simp) ?_
 intro st1 x hm
 refine yG ?_
 intro k1 hm
 refine bS hm (fun hb5 hm => ?_) fun hb5 hm => ?_
 refine c_skip ?_
 refine Wp.seq ?_
 refine Wp.block ?_
 refine Wp.seq ?_
 refine c_drw (Y := sysC _) mixed ?_
 refine tK 0 0 rfl (kV ?_)
 refine tK 1 0 rfl (kV ?_)
 obtain ⟨h6, hm⟩ := of_ite hm
 refine tK 2 0 rfl (x_subc T3 rfl rfl h6 ?_)
 obtain ⟨h7, hm⟩ := of_ite hm
 refine tK 3 0 rfl (x_ixb E24 rfl rfl h7 ?_)
 refine tK 4 0 rfl (x_ldi T2 rfl rfl rfl ?_)
 refine tK 5 0 rfl (kV ?_)
 refine tK 6 0 rfl (kV ?_)
 obtain ⟨h8, hm⟩ := of_ite hm
 refine tK 7 0 rfl (x_ixb E24 rfl rfl h8 ?_)
 refine tK 8 0 rfl (x_ldi T2 rfl rfl rfl ?_)
 refine tK 9 0 rfl (x_bin T2 rfl rfl rfl ?_)
 refine aN ?_
 refine bS hm (fun hb9 hm => ?_) fun hb9 hm => ?_
 refine yG ?_
 intro _ hm
 cases hm
 exact ⟨rfl, vW []⟩
 refine yG ?_
 intro k2 hm
 cases hm
 exact ⟨rfl, w_ [] (.cons rfl rfl (.cons rfl rfl .nil)) .nil (by decide) (hB_0 hB0)⟩
 refine c_exit ?_
 cases hm
 exact ⟨rfl, vW []⟩
 rcases y11 with j2 | j3 <;> simp only at hm
 cases hm
 exact rZ1
 refine yG ?_
 intro _ hm
 cases hm
 exact rZ1
/-- laws.has -/
noncomputable def laws_has_m (l : List Int) (n : Int) : Option Bool :=
 (Option.bind (loopO (fun (st1 : Int) =>
 ((if decide (st1 < ((List.length l : Int))) = true then
 (if 0 ≤ st1 ∧ st1 < (List.length l : Int) then
 (if ((at_ l st1) == n) = true then
 (some (Sum.inr ((Sum.inl (())))))
 else
 (if inI (st1 + 1) then
 (some (Sum.inl (st1 + 1)))
 else none))
 else none)
 else
 (some (Sum.inr ((Sum.inr (())))))) : Option ((Int) ⊕ (Unit ⊕ Unit)))) 0) fun (y9 : Unit ⊕ Unit) => match y9 with
 | (Sum.inl j2) =>
 (some true)
 | (Sum.inr j3) =>
 (some false))
theorem laws_has_sim {l : List Int} {n : Int} {r : Bool} (hm : laws_has_m l n = some r) : Sim Try.prog 13 [.one (.bs () 1 (List.map iL l)), .one (.int .i64 n)] [] (.u (.one (.bool r))) [] := by
 refine fN 18 0 Try.func13 [.tmp 4] fun B hB0 => ?_
 unfold laws_has_m at hm
 refine yG ?_
 intro _ hm
 obtain ⟨y9, hl10, hm⟩ := of_bind hm
 refine c_loop hl10 (fun (st1 : Int) => St 18 [(0, .u (.one (.bs () 1 (List.map iL l)))), (1, .u (.one (.int .i64 n))), (5, .u (.one (.int .i64 st1)))] [] 0) (fun (y : Unit ⊕ Unit) => match y with | (Sum.inl j2) => (.ret, St 18 [(4, .u (.one (.bool true)))] [] 0) | (Sum.inr j3) => (.exit 0, St 18 [] [] 0)) (vW []) ?_ (by rintro (_ | _) <;> simp) ?_
 intro st1 x hm
 refine yG ?_
 intro k1 hm
 refine bS hm (fun hb5 hm => ?_) fun hb5 hm => ?_
 refine yG ?_
 intro k2 hm
 refine bS hm (fun hb7 hm => ?_) fun hb7 hm => ?_
 refine yG ?_
 intro _ hm
 cases hm
 exact ⟨rfl, vW []⟩
 refine yG ?_
 intro k3 hm
 cases hm
 exact ⟨rfl, vW []⟩
 refine c_exit ?_
 cases hm
 exact ⟨rfl, vW []⟩
 rcases y9 with j2 | j3 <;> simp only at hm
 cases hm
 exact rZ1
 refine yG ?_
 intro _ hm
 cases hm
 exact rZ1
/-- laws.within -/
noncomputable def laws_within_m (a : List Int) (b : List Int) : Option Bool :=
 (Option.bind (loopO (fun (st1 : Int) =>
 ((if decide (st1 < ((List.length a : Int))) = true then
 (if 0 ≤ st1 ∧ st1 < (List.length a : Int) then
 (Option.bind (laws_has_m b (at_ a st1)) fun x7 =>
 (if (!x7) = true then
 (some (Sum.inr ((Sum.inl (())))))
 else
 (if inI (st1 + 1) then
 (some (Sum.inl (st1 + 1)))
 else none)))
 else none)
 else
 (some (Sum.inr ((Sum.inr (())))))) : Option ((Int) ⊕ (Unit ⊕ Unit)))) 0) fun (y11 : Unit ⊕ Unit) => match y11 with
 | (Sum.inl j2) =>
 (some false)
 | (Sum.inr j3) =>
 (some true))
theorem laws_within_sim {a : List Int} {b : List Int} {r : Bool} (hm : laws_within_m a b = some r) : Sim Try.prog 14 [.one (.bs () 1 (List.map iL a)), .one (.bs () 1 (List.map iL b))] [] (.u (.one (.bool r))) [] := by
 refine fN 19 0 Try.func14 [.tmp 4] fun B hB0 => ?_
 unfold laws_within_m at hm
 refine yG ?_
 intro _ hm
 obtain ⟨y11, hl12, hm⟩ := of_bind hm
 refine c_loop hl12 (fun (st1 : Int) => St 19 [(0, .u (.one (.bs () 1 (List.map iL a)))), (1, .u (.one (.bs () 1 (List.map iL b)))), (5, vI st1)] [] 0) (fun (y : Unit ⊕ Unit) => match y with | (Sum.inl j2) => (.ret, St 19 [(4, vB false)] [] 0) | (Sum.inr j3) => (.exit 0, St 19 [] [] 0)) (vW []) ?_ (by rintro (_ | _) <;> simp) ?_
 intro st1 x hm
 refine yG ?_
 intro k1 hm
 refine bS hm (fun hb5 hm => ?_) fun hb5 hm => ?_
 refine yG ?_
 intro k2 hm
 obtain ⟨x7, h8, hm⟩ := of_bind hm
 refine nO (aopK_A (cB (laws_has_sim h8) ?_))
 refine yG ?_
 intro _ hm
 refine bS hm (fun hb9 hm => ?_) fun hb9 hm => ?_
 refine yG ?_
 intro _ hm
 cases hm
 exact ⟨rfl, vW []⟩
 refine yG ?_
 intro k3 hm
 cases hm
 exact ⟨rfl, vW []⟩
 refine c_exit ?_
 cases hm
 exact ⟨rfl, vW []⟩
 rcases y11 with j2 | j3 <;> simp only at hm
 cases hm
 exact rZ1
 refine yG ?_
 intro _ hm
 cases hm
 exact rZ1
/-- laws.FnNeeded -/
noncomputable def laws_FnNeeded_m (code : List Int) : Option Bool :=
 (if (laws_big_m code) = true then
 (some true)
 else
 (Option.bind (spec_DrawNeeded_m code) fun x2 =>
 (Option.bind (impl_Needed_m x2) fun x4 =>
 (Option.bind ((Option.bind (spec_Needed_m x2) fun x7 =>
 (Option.bind (laws_sameInts_m x4 x7) fun x9 =>
 (if (!x9) = true then
 (some true)
 else
 (Option.bind (laws_rising_m x4) fun x12 =>
 (some ((!x12)))))))) fun (j6 : Bool) =>
 (if j6 = true then
 (some false)
 else
 (Option.bind (loopO (fun (st17 : Int) =>
 ((Option.bind (impl_CountOf_m x2) fun x20 =>
 (if decide (st17 < x20) = true then
 (Option.bind (impl_PlaceOf_m x2 st17) fun x23 =>
 (if 0 ≤ x23.1 ∧ x23.1 < (List.length x2.blocks : Int) then
 (if decide (x23.2 < ((List.length ((at_ x2.blocks x23.1).phis) : Int))) = true then
 (Option.bind ((Option.bind (laws_has_m x4 st17) fun x29 =>
 (if x29 = true then
 (if 0 ≤ x23.1 ∧ x23.1 < (List.length x2.blocks : Int) then
 (if 0 ≤ x23.2 ∧ x23.2 < (List.length ((at_ x2.blocks x23.1).phis) : Int) then
 (Option.bind (laws_within_m ((at_ ((at_ x2.blocks x23.1).phis) x23.2).ins) x4) fun x34 =>
 (some ((!x34))))
 else none)
 else none)
 else
 (some false)))) fun (j28 : Bool) =>
 (if j28 = true then
 (some (Sum.inr ((Sum.inl (())))))
 else
 (if inI (st17 + 1) then
 (some (Sum.inl (st17 + 1)))
 else none)))
 else
 (if 0 ≤ x23.1 ∧ x23.1 < (List.length x2.blocks : Int) then
 (if inI (x23.2 - ((List.length ((at_ x2.blocks x23.1).phis) : Int))) then
 (if 0 ≤ (x23.2 - ((List.length ((at_ x2.blocks x23.1).phis) : Int))) ∧ (x23.2 - ((List.length ((at_ x2.blocks x23.1).phis) : Int))) < (List.length ((at_ x2.blocks x23.1).insts) : Int) then
 (Option.bind ((Option.bind (laws_has_m x4 st17) fun x43 =>
 (if x43 = true then
 (Option.bind (impl_OperandsOf_m (at_ ((at_ x2.blocks x23.1).insts) (x23.2 - ((List.length ((at_ x2.blocks x23.1).phis) : Int))))) fun x46 =>
 (Option.bind (laws_within_m x46 x4) fun x48 =>
 (if (!x48) = true then
 (some true)
 else
 (if decide (((at_ ((at_ x2.blocks x23.1).insts) (x23.2 - ((List.length ((at_ x2.blocks x23.1).phis) : Int)))).op_) ≥ 23) = true then
 (if decide (((at_ ((at_ x2.blocks x23.1).insts) (x23.2 - ((List.length ((at_ x2.blocks x23.1).phis) : Int)))).op_) ≤ 26) = true then
 (Option.bind (laws_has_m x4 st17) fun x53 =>
 (some ((!x53))))
 else
 (some false))
 else
 (some false)))))
 else
 (if decide (((at_ ((at_ x2.blocks x23.1).insts) (x23.2 - ((List.length ((at_ x2.blocks x23.1).phis) : Int)))).op_) ≥ 23) = true then
 (if decide (((at_ ((at_ x2.blocks x23.1).insts) (x23.2 - ((List.length ((at_ x2.blocks x23.1).phis) : Int)))).op_) ≤ 26) = true then
 (Option.bind (laws_has_m x4 st17) fun x57 =>
 (some ((!x57))))
 else
 (some false))
 else
 (some false))))) fun (j42 : Bool) =>
 (if j42 = true then
 (some (Sum.inr ((Sum.inl (())))))
 else
 (if inI (st17 + 1) then
 (some (Sum.inl (st17 + 1)))
 else none)))
 else none)
 else none)
 else none))
 else none))
 else
 (some (Sum.inr ((Sum.inr (()))))))) : Option ((Int) ⊕ (Unit ⊕ Unit)))) (List.length x2.params : Int)) fun (y62 : Unit ⊕ Unit) => match y62 with
 | (Sum.inl j18) =>
 (some false)
 | (Sum.inr j19) =>
 (some true)))))))
theorem laws_FnNeeded_sim {code : List Int} {r : Bool} (hm : laws_FnNeeded_m code = some r) : Sim Try.prog 3 [.one (.bs () 1 (List.map (iK .u8) code))] [] (.u (.one (.bool r))) [] := by
 refine fN 106 0 Try.func3 [.tmp 2] fun B hB0 => ?_
 unfold laws_FnNeeded_m at hm
 refine yG ?_
 intro _ hm
 refine nO (aopK_A (cB (laws_big_sim code) ?_))
 refine o_end ?_
 refine bS hm (fun hb1 hm => ?_) fun hb1 hm => ?_
 refine yG ?_
 intro _ hm
 cases hm
 exact rZ1
 refine yG ?_
 intro _ hm
 obtain ⟨x2, h3, hm⟩ := of_bind hm
 refine nO (cG [] (spec_DrawNeeded_sim h3) ?_)
 refine yG ?_
 intro _ hm
 refine nO (kW ?_)
 obtain ⟨x4, h5, hm⟩ := of_bind hm
 refine nO (aopK_A (cB (impl_Needed_sim h5) ?_))
 refine nO (x_as rfl rfl ?_)
 refine o_end ?_
 refine Wp.seq ?_
 refine Wp.seq ?_
 obtain ⟨j6, hj14, hm⟩ := of_bind hm
 refine c_cut (St 106 [(3, vP 0), (4, vR 1 (List.length x4)), (25, vB j6)] [(0, oL 3 (eFunc false x2)), (1, oM 1 iL x4)] 2) ?_ ?_
 replace hm := hj14
 refine yG ?_
 intro _ hm
 refine nO (kW ?_)
 obtain ⟨x7, h8, hm⟩ := of_bind hm
 refine nO (cG [] (spec_Needed_sim h8) ?_)
 obtain ⟨x9, h10, hm⟩ := of_bind hm
 refine nO (aopK_A (cB (laws_sameInts_sim h10) ?_))
 refine yG ?_
 intro _ hm
 refine bG0 hm (fun hb11 hm => ?_) fun hb11 hm => ?_
 refine yG ?_
 intro _ hm
 obtain ⟨x12, h13, hm⟩ := of_bind hm
 refine gO_t rfl rfl rfl (aopK_A (cB (laws_rising_sim h13) ?_))
 refine yG ?_
 intro _ hm
 cases hm
 exact vW [0, 1]
 refine yG ?_
 intro _ hm
 cases hm
 exact vW [0, 1]
 refine bS hm (fun hb15 hm => ?_) fun hb15 hm => ?_
 refine yG ?_
 intro _ hm
 cases hm
 exact rZ1
 refine yG ?_
 intro k1 hm
 obtain ⟨y62, hl63, hm⟩ := of_bind hm
 refine c_loop hl63 (fun (st17 : Int) => St 106 [(3, vP 0), (4, vR 1 (List.length x4)), (5, vI st17)] [(0, oL 3 (eFunc false x2)), (1, oM 1 iL x4)] 2) (fun (y : Unit ⊕ Unit) => match y with | (Sum.inl j18) => (.ret, St 106 [(2, vB false)] [] 0) | (Sum.inr j19) => (.exit 0, St 106 [] [] 0)) (vW [0, 1]) ?_ (by rintro (_ | _) <;> simp) ?_
 intro st17 x hm
 refine yG ?_
 intro _ hm
 refine nO (kW ?_)
 obtain ⟨x20, h21, hm⟩ := of_bind hm
 refine nO (aopK_A (cB (impl_CountOf_sim h21) ?_))
 refine yG ?_
 intro _ hm
 refine bS hm (fun hb22 hm => ?_) fun hb22 hm => ?_
 refine yG ?_
 intro _ hm
 refine nO (kW ?_)
 refine yG ?_
 intro _ hm
 obtain ⟨x23, h24, hm⟩ := of_bind hm
 refine nO (aopK_A (cB (impl_PlaceOf_sim h24) ?_))
 refine yG ?_
 intro k2 hm
 refine bS hm (fun hb27 hm => ?_) fun hb27 hm => ?_
 refine Wp.seq ?_
 refine Wp.seq ?_
 obtain ⟨j28, hj36, hm⟩ := of_bind hm
 refine c_cut (St 106 [(3, vP 0), (4, vR 1 (List.length x4)), (5, vI st17), (68, vB j28)] [(0, oL 3 (eFunc false x2)), (1, oM 1 iL x4)] 2) ?_ ?_
 replace hm := hj36
 refine yG ?_
 intro _ hm
 obtain ⟨x29, h30, hm⟩ := of_bind hm
 refine nO (aopK_A (cB (laws_has_sim h30) ?_))
 refine yG ?_
 intro _ hm
 refine bG1 hm (fun hb31 hm => ?_) fun hb31 hm => ?_
 refine yG ?_
 intro k3 hm
 obtain ⟨x34, h35, hm⟩ := of_bind hm
 refine gO_t rfl rfl rfl (aopK_A (cB (laws_within_sim h35) ?_))
 refine yG ?_
 intro _ hm
 cases hm
 exact vW [0, 1]
 refine yG ?_
 intro _ hm
 cases hm
 exact vW [0, 1]
 refine bS hm (fun hb37 hm => ?_) fun hb37 hm => ?_
 refine yG ?_
 intro _ hm
 cases hm
 exact ⟨rfl, vW []⟩
 refine yG ?_
 intro k4 hm
 cases hm
 exact ⟨rfl, vW [0, 1]⟩
 refine yG ?_
 intro k5 hm
 refine nO (x_ldi T45 rfl (pk_all rfl rfl) rfl ?_)
 refine yR ?_
 intro _ hm
 refine o_end ?_
 refine Wp.seq ?_
 obtain ⟨j42, hj59, hm⟩ := of_bind hm
 refine c_cut (St 106 [(3, vP 0), (4, vR 1 (List.length x4)), (5, vI st17), (105, vB j42)] [(0, oL 3 (eFunc false x2)), (1, oM 1 iL x4)] 2) ?_ ?_
 replace hm := hj59
 refine yG ?_
 intro _ hm
 obtain ⟨x43, h44, hm⟩ := of_bind hm
 refine nO (aopK_A (cB (laws_has_sim h44) ?_))
 refine yG ?_
 intro _ hm
 refine bG1 hm (fun hb45 hm => ?_) fun hb45 hm => ?_
 refine gO_t rfl rfl rfl (kW ?_)
 obtain ⟨x46, h47, hm⟩ := of_bind hm
 refine gO_t rfl rfl rfl (aopK_A (cB (impl_OperandsOf_sim h47) ?_))
 refine yG ?_
 intro _ hm
 obtain ⟨x48, h49, hm⟩ := of_bind hm
 refine gO_t rfl rfl rfl (aopK_A (cB (laws_within_sim h49) ?_))
 refine yG ?_
 intro _ hm
 refine bG0 hm (fun hb50 hm => ?_) fun hb50 hm => ?_
 refine yG ?_
 intro _ hm
 refine bG1 hm (fun hb51 hm => ?_) fun hb51 hm => ?_
 refine yG ?_
 intro _ hm
 refine bG1 hm (fun hb52 hm => ?_) fun hb52 hm => ?_
 refine yG ?_
 intro _ hm
 obtain ⟨x53, h54, hm⟩ := of_bind hm
 refine gO_t rfl rfl rfl (aopK_A (cB (laws_has_sim h54) ?_))
 refine yG ?_
 intro _ hm
 cases hm
 exact vW [0, 1]
 refine yG ?_
 intro _ hm
 cases hm
 exact vW [0, 1]
 refine yG ?_
 intro _ hm
 cases hm
 exact vW [0, 1]
 refine yG ?_
 intro _ hm
 cases hm
 exact vW [0, 1]
 refine yG ?_
 intro _ hm
 refine bG1 hm (fun hb55 hm => ?_) fun hb55 hm => ?_
 refine yG ?_
 intro _ hm
 refine bG1 hm (fun hb56 hm => ?_) fun hb56 hm => ?_
 refine yG ?_
 intro _ hm
 obtain ⟨x57, h58, hm⟩ := of_bind hm
 refine gO_t rfl rfl rfl (aopK_A (cB (laws_has_sim h58) ?_))
 refine yG ?_
 intro _ hm
 cases hm
 exact vW [0, 1]
 refine yG ?_
 intro _ hm
 cases hm
 exact vW [0, 1]
 refine yG ?_
 intro _ hm
 cases hm
 exact vW [0, 1]
 refine bS hm (fun hb60 hm => ?_) fun hb60 hm => ?_
 refine yG ?_
 intro _ hm
 cases hm
 exact ⟨rfl, vW []⟩
 refine yG ?_
 intro k6 hm
 cases hm
 exact ⟨rfl, vW [0, 1]⟩
 refine c_exit ?_
 cases hm
 exact ⟨rfl, vW []⟩
 rcases y62 with j18 | j19 <;> simp only at hm
 cases hm
 exact rZ1
 refine yG ?_
 intro _ hm
 cases hm
 exact rZ1
end Go.Proofs.Ytghdhjgoicnbcaa.AM

namespace Go.Proofs.Ytghdhjgoicnbcaa.AM
open Go

theorem loop_anyN {α : Type} {body : Int → Option (Int ⊕ (α ⊕ Unit))} (n : Nat) (c : Nat → Bool) (a : Nat → α) (h1 : ∀ k : Nat, k < n → body (k : Int) = some (if c k = true then .inr (.inl (a k)) else .inl ((k : Int) + 1)))
    (h2 : body (n : Int) = some (.inr (.inr ()))) :
    (∃ k, k < n ∧ c k = true ∧ (∀ j, j < k → c j = false) ∧ loopO body 0 = some (.inl (a k))) ∨ ((∀ k, k < n → c k = false) ∧ loopO body 0 = some (.inr ())) := by
  have key : ∀ m k : Nat, k + m = n → (∃ i, k ≤ i ∧ i < n ∧ c i = true ∧ (∀ j, k ≤ j → j < i → c j = false) ∧ loopO body (k : Int) = some (.inl (a i))) ∨ ((∀ i, k ≤ i → i < n → c i = false) ∧ loopO body (k : Int) = some (.inr ())) := by
    intro m
    induction m with
    | zero =>
      intro k hk
      obtain rfl : k = n := by omega
      exact .inr ⟨fun i h1 h2 => by omega, by rw [loopO_step, h2]; rfl⟩
    | succ m ih =>
      intro k hk
      by_cases hc : c k = true
      · exact .inl ⟨k, Nat.le_refl _, by omega, hc, fun j h1 h2 => by omega, by rw [loopO_step, h1 k (by omega), if_pos hc]; rfl⟩
      · have hc' : c k = false := by simpa using hc
        have e : loopO body (k : Int) = loopO body ((k + 1 : Nat) : Int) := by
          rw [loopO_step, h1 k (by omega), if_neg hc]
          simp
        rcases ih (k + 1) (by omega) with ⟨i, p1, p2, p3, p4, p5⟩ | ⟨p1, p2⟩
        · refine .inl ⟨i, by omega, p2, p3, fun j hj hji => ?_, by rw [e]; exact p5⟩
          rcases Nat.lt_or_ge k j with h | h
          · exact p4 j (by omega) hji
          · obtain rfl : j = k := by omega
            exact hc'
        · refine .inr ⟨fun i hi hin => ?_, by rw [e]; exact p2⟩
          rcases Nat.lt_or_ge k i with h | h
          · exact p1 i (by omega) hin
          · obtain rfl : i = k := by omega
            exact hc'
  rcases key n 0 (by omega) with ⟨k, _, p2, p3, p4, p5⟩ | ⟨p1, p2⟩
  · exact .inl ⟨k, p2, p3, fun j hj => p4 j (Nat.zero_le _) hj, p5⟩
  · exact .inr ⟨fun i hi => p1 i (Nat.zero_le _) hi, p2⟩
/-- Where only it matters that one is found. -/
theorem loop_any {α β : Type} [Inhabited β] {body : Int → Option (Int ⊕ (α ⊕ Unit))} (xs : List β) (c : β → Bool) (a : Nat → α) (h1 : ∀ k : Nat, k < xs.length → body (k : Int) = some (if c (at_ xs k) = true then .inr (.inl (a k)) else .inl ((k : Int) + 1)))
    (h2 : body (xs.length : Int) = some (.inr (.inr ()))) :
    (xs.any c = true ∧ ∃ k, k < xs.length ∧ loopO body 0 = some (.inl (a k))) ∨ (xs.any c = false ∧ loopO body 0 = some (.inr ())) := by
  have hat : ∀ k (h : k < xs.length), at_ xs (k : Int) = xs[k] := fun k h => by simp [at_, List.getD_eq_getElem?_getD, List.getElem?_eq_getElem h]
  rcases loop_anyN xs.length (fun k => c (at_ xs (k : Int))) a h1 h2 with ⟨k, p1, p2, _, p4⟩ | ⟨p1, p2⟩
  · exact .inl ⟨List.any_eq_true.2 ⟨xs[k], List.getElem_mem p1, by rw [← hat k p1]; exact p2⟩, k, p1, p4⟩
  · refine .inr ⟨?_, p2⟩
    rw [List.any_eq_false]
    intro x hx
    obtain ⟨k, hk, rfl⟩ := List.getElem_of_mem hx
    have := p1 k hk
    rw [hat k hk] at this
    simp [this]
theorem at_nat {β : Type} [Inhabited β] {xs : List β} {k : Nat} (h : k < xs.length) : at_ xs (k : Int) = xs[k] := by simp [at_, List.getD_eq_getElem?_getD, List.getElem?_eq_getElem h]
theorem loop_anyN' {α : Type} {body : Int → Option (Int ⊕ (α ⊕ Unit))} {L : Option (α ⊕ Unit)} (hB : loopO body 0 = L) (n : Nat) (c : Nat → Bool) (a : Nat → α)
    (h1 : ∀ k : Nat, k < n → body (k : Int) = some (if c k = true then .inr (.inl (a k)) else .inl ((k : Int) + 1))) (h2 : body (n : Int) = some (.inr (.inr ()))) :
    (∃ k, k < n ∧ c k = true ∧ (∀ j, j < k → c j = false) ∧ L = some (.inl (a k))) ∨ ((∀ k, k < n → c k = false) ∧ L = some (.inr ())) := by
  subst hB
  exact loop_anyN n c a h1 h2
theorem loop_any' {α β : Type} [Inhabited β] {body : Int → Option (Int ⊕ (α ⊕ Unit))} {L : Option (α ⊕ Unit)} (hB : loopO body 0 = L) (xs : List β) (c : β → Bool) (a : Nat → α)
    (h1 : ∀ k : Nat, k < xs.length → body (k : Int) = some (if c (at_ xs k) = true then .inr (.inl (a k)) else .inl ((k : Int) + 1))) (h2 : body (xs.length : Int) = some (.inr (.inr ()))) :
    (xs.any c = true ∧ ∃ k, k < xs.length ∧ L = some (.inl (a k))) ∨ (xs.any c = false ∧ L = some (.inr ())) := by
  subst hB
  exact loop_any xs c a h1 h2
end Go.Proofs.Ytghdhjgoicnbcaa.AM

namespace Go.Proofs.Ytghdhjgoicnbcaa.AM
open Go Go.WideShapes Go.ChangeShapes

/-- The form of a type of data. -/
inductive Ty : Type where
  | int (k : IntKind)
  | bool
  | str
  | sl (n b : Nat) (e : Ty)
  | st (fs : List Ty)
mutual
inductive TyP (P : Program) : TypeId → Ty → Prop
  | int {t k} : P.underlying t = some (.int k) → TyP P t (.int k)
  | bool {t} : P.underlying t = some .bool → TyP P t .bool
  | str {t} : P.underlying t = some .string → TyP P t .str
  | sl {t e n b ty} : P.underlying t = some (.slice e) → P.cellsOf e = n → P.bytesOf e = b → 0 < n → 0 < b → TyP P e ty → TyP P t (.sl n b ty)
  | st {t gs fs m} : P.underlying t = some (.struct gs) → P.cellsOf t = m → FsP P gs.toList fs 0 m → TyP P t (.st fs)
inductive FsP (P : Program) : List Field → List Ty → Nat → Nat → Prop
  | nil {m} : FsP P [] [] m m
  | cons {g gs ty tys o c m} : g.offset = o → P.cellsOf g.type = c → TyP P g.type ty → FsP P gs tys (o + c) m → FsP P (g :: gs) (ty :: tys) o m
end
def fsB (P : Program) (tb : TypeId → Ty → Bool) : List Field → List Ty → Nat → Nat → Bool
  | [], [], o, m => Nat.beq o m
  | g :: gs, ty :: tys, o, m => Nat.beq g.offset o && tb g.type ty && fsB P tb gs tys (o + P.cellsOf g.type) m
  | _, _, _, _ => false
def tyB (P : Program) : Nat → TypeId → Ty → Bool
  | 0, _, _ => false
  | _ + 1, t, .int k => match P.underlying t with
    | some (.int k') => decide (k' = k)
    | _ => false
  | _ + 1, t, .bool => match P.underlying t with
    | some .bool => true
    | _ => false
  | _ + 1, t, .str => match P.underlying t with
    | some .string => true
    | _ => false
  | f + 1, t, .sl n b e => match P.underlying t with
    | some (.slice t') => Nat.beq (P.cellsOf t') n && Nat.beq (P.bytesOf t') b && Nat.blt 0 n && Nat.blt 0 b && tyB P f t' e
    | _ => false
  | f + 1, t, .st fs => match P.underlying t with
    | some (.struct gs) => fsB P (tyB P f) gs.toList fs 0 (P.cellsOf t)
    | _ => false
theorem fsB_sound {P : Program} {tb : TypeId → Ty → Bool} (h : ∀ t ty, tb t ty = true → TyP P t ty) : ∀ {gs : List Field} {fs : List Ty} {o m : Nat}, fsB P tb gs fs o m = true → FsP P gs fs o m
  | [], [], o, m, hb => by
    have := Nat.eq_of_beq_eq_true hb
    subst this
    exact .nil
  | g :: gs, ty :: tys, o, m, hb => by
    simp only [fsB, Bool.and_eq_true] at hb
    obtain ⟨⟨h1, h2⟩, h3⟩ := hb
    exact .cons (Nat.eq_of_beq_eq_true h1) rfl (h _ _ h2) (fsB_sound h h3)
  | [], _ :: _, _, _, hb => by cases hb
  | _ :: _, [], _, _, hb => by cases hb
theorem tyB_sound {P : Program} : ∀ {f : Nat} {t : TypeId} {ty : Ty}, tyB P f t ty = true → TyP P t ty
  | 0, _, _, h => by simp [tyB] at h
  | f + 1, t, .int k, h => by
    unfold tyB at h
    split at h
    · rename_i k' hu
      have := of_decide_eq_true h
      subst this
      exact .int hu
    · cases h
  | f + 1, t, .bool, h => by
    unfold tyB at h
    split at h
    · rename_i hu; exact .bool hu
    · cases h
  | f + 1, t, .str, h => by
    unfold tyB at h
    split at h
    · rename_i hu; exact .str hu
    · cases h
  | f + 1, t, .sl n b e, h => by
    unfold tyB at h
    split at h
    · rename_i t' hu
      simp only [Bool.and_eq_true] at h
      obtain ⟨⟨⟨⟨h1, h2⟩, h3⟩, h4⟩, h5⟩ := h
      exact .sl hu (Nat.eq_of_beq_eq_true h1) (Nat.eq_of_beq_eq_true h2) (blt_lt h3) (blt_lt h4) (tyB_sound h5)
    · cases h
  | f + 1, t, .st fs, h => by
    unfold tyB at h
    split at h
    · rename_i gs hu
      exact .st hu rfl (fsB_sound (fun t ty ht => tyB_sound ht) h)
    · cases h
/-- The cells of a value of a form. -/
inductive Fits {δ : Type} : Ty → List (L δ) → Prop
  | int {k n} : (Lit.int k n).wf = true → Fits (.int k) [.int k n]
  | bool {b} : Fits .bool [.bool b]
  | str {s : ByteArray} : s.size ≤ reachBytes → Fits .str [.str s]
  | sl {n b e v rows} : rows.length * b ≤ reachBytes → (∀ r ∈ rows, Fits e r) → Fits (.sl n b e) [.bs v n rows]
  | st0 : Fits (.st []) []
  | st {t ts a b} : Fits t a → Fits (.st ts) b → Fits (.st (t :: ts)) (a ++ b)
theorem Fits.map {δ ε : Type} (g : δ → ε) : ∀ {ty : Ty} {ls : List (L δ)}, Fits ty ls → Fits ty (ls.map (mapL g)) := by
  intro ty ls h
  induction h with
  | int h => exact .int h
  | bool => exact .bool
  | str h => exact .str h
  | sl h _ ih =>
    simp only [List.map_cons, List.map_nil, mapL, mapR_eq]
    refine .sl (by simpa using h) fun r hr => ?_
    obtain ⟨r0, h0, rfl⟩ := List.mem_map.1 hr
    exact ih r0 h0
  | st0 => exact .st0
  | st _ _ h1 h2 => rw [List.map_append]; exact .st h1 h2
/-- A leaf that is only read. -/
structure Pl (w : World) (l : L Value) : Prop where
  wf : ∀ nest, wfL nest l
  ids : idsL l = []
  own : ownL l = []
  ref : ∀ ob, refOk ob l
  imm : ∀ q ∈ immL l, q.2 ≠ [] → ImmFact w q
theorem pl_int {w : World} {k n} : Pl w (.int k n) := ⟨fun _ => trivial, rfl, rfl, fun _ => trivial, fun q hq => by simp [immL] at hq⟩
theorem pl_bool {w : World} {b} : Pl w (.bool b) := ⟨fun _ => trivial, rfl, rfl, fun _ => trivial, fun q hq => by simp [immL] at hq⟩
theorem pl_str {w : World} {b} : Pl w (.str b) := ⟨fun _ => trivial, rfl, rfl, fun _ => trivial, fun q hq => by simp [immL] at hq⟩
theorem choose_rows {α : Type} {R : Nat → α → Prop} : ∀ n : Nat, (∀ i, i < n → ∃ r, R i r) → ∃ rows : List α, rows.length = n ∧ ∀ (i : Nat) r, rows[i]? = some r → R i r
  | 0, _ => ⟨[], rfl, fun i r h => by simp at h⟩
  | n + 1, h => by
    obtain ⟨rows, h1, h2⟩ := choose_rows n fun i hi => h i (by omega)
    obtain ⟨r, hr⟩ := h n (by omega)
    refine ⟨rows ++ [r], by simp [h1], fun i x hx => ?_⟩
    rcases Nat.lt_trichotomy i n with hi | hi | hi
    · rw [List.getElem?_append_left (by omega)] at hx
      exact h2 i x hx
    · subst hi
      rw [List.getElem?_append_right (by omega), h1, Nat.sub_self] at hx
      cases hx
      exact hr
    · rw [List.getElem?_eq_none (by simp; omega)] at hx
      cases hx
theorem weights_all {H : Type} {P : Program} {e : TypeId} : ∀ {ds : List (DataW H)} {i : Nat} {d : DataW H}, ds[i]? = some d → ∀ n ∈ d.weights P e, n ∈ DataW.weightsAll P e ds
  | d0 :: ds, 0, d, hd, n, hn => by
    simp only [List.getElem?_cons_zero, Option.some.injEq] at hd
    subst hd
    simp only [DataW.weightsAll, List.mem_append]
    exact .inl hn
  | d0 :: ds, i + 1, d, hd, n, hn => by
    simp only [List.getElem?_cons_succ] at hd
    simp only [DataW.weightsAll, List.mem_append]
    exact .inr (weights_all hd n hn)
theorem valR_at {n : Nat} {rows : List (List (L Value))} (hl : ∀ r ∈ rows, r.length = n) {j : Nat} {v : Value} (h : (valR rows)[j]? = some v) : ∃ r, rows[j / n]? = some r ∧ (r.map val)[j % n]? = some v ∧ 0 < n := by
  have hlt := (List.getElem?_eq_some_iff.1 h).1
  rw [valR_len hl] at hlt
  have hn : 0 < n := by
    rcases Nat.eq_zero_or_pos n with h0 | h0
    · subst h0; omega
    · exact h0
  have hi : j / n < rows.length := Nat.div_lt_of_lt_mul (by rw [Nat.mul_comm]; exact hlt)
  have hr := List.getElem?_eq_getElem hi
  have hm := Nat.mod_lt j hn
  have hlr := hl _ (List.mem_of_getElem? hr)
  have hx := List.getElem?_eq_getElem (l := rows[j / n]) (i := j % n) (by omega)
  have := valR_get hl hr hx
  refine ⟨_, hr, ?_, hn⟩
  have e : j / n * n + j % n = j := by rw [Nat.mul_comm]; exact Nat.div_add_mod j n
  rw [e] at this
  rw [List.getElem?_map, hx, ← h, this]
  rfl
section
variable {H : Type} {enc : TypeId × Value → H} {P : Program} {w : World} {base : Nat} {spare : Nat → Bool} {held : Bool}
/-- What a value reads as. -/
theorem reading : ∀ (fuel : Nat) {t : TypeId} {ty : Ty} {cs : List Value} {x : DataW H × List MemPlace}, TyP P t ty → DataW.trod enc P w base spare held fuel t cs = some x → (∀ n ∈ x.1.weights P t, n ≤ reachBytes) →
    ∃ ls : List (L Value), ls.map val = cs ∧ Fits ty ls ∧ (∀ l ∈ ls, Pl w l) ∧ (P.underlying t = P.underlying t) := by
  intro fuel
  induction fuel with
  | zero => intro t ty cs x _ h; simp [DataW.trod] at h
  | succ fuel ih =>
    intro t ty cs x hty h hw
    cases hty with
    | int hu =>
      obtain ⟨n, rfl, rfl, hwf⟩ := DataW.trod_int hu h
      exact ⟨[.int _ n], rfl, .int hwf, by simpa using pl_int, rfl⟩
    | bool hu =>
      obtain ⟨b, rfl, rfl⟩ := DataW.trod_bool hu h
      exact ⟨[.bool b], rfl, .bool, by simpa using pl_bool, rfl⟩
    | str hu =>
      obtain ⟨s, rfl, rfl, _⟩ := DataW.trod_string hu h
      refine ⟨[.str s], rfl, .str ?_, by simpa using pl_str, rfl⟩
      have := hw s.data.toList.length (by simp [DataW.weights])
      simpa using this
    | sl hu hn hb hn0 hb0 he =>
      rename_i e n b ty'
      rcases DataW.trod_slice hu h with ⟨rfl, rfl⟩ | ⟨a, len, cap, elems, rest, m, hm, rfl, rfl, hbs, hl, hm2, hlen, hel, _, _⟩
      · refine ⟨[.bs (.slice none 0 0) n []], rfl, .sl (by simp) (by simp), ?_, rfl⟩
        intro l hl
        simp only [List.mem_singleton] at hl
        subst hl
        exact ⟨fun _ => ⟨⟨none, 0, rfl, by simp, by simp [LIM], by simp⟩, by simp, by simp [wfR]⟩, rfl, rfl, fun _ => trivial, fun q hq => by simp [immL, hdrImm, immR] at hq⟩
      · obtain rfl : fuel = m := by omega
        have hlenb : (elems.length + rest.length) * b ≤ reachBytes := by
          have := hw ((elems.length + rest.length) * P.bytesOf e) (by simp [DataW.weights, hu])
          rwa [hb] at this
        obtain ⟨rows, hr1, hr2⟩ := choose_rows (R := fun i (r : List (L Value)) => (∃ c, w.cells? base (a.add (i * n)) n = some c ∧ r.map val = c) ∧ Fits ty' r ∧ (∀ l ∈ r, Pl w l)) len fun i hi => by
          have h1 := hel i hi
          have hie : i < elems.length := by omega
          rw [List.getElem?_eq_getElem hie, Option.bind_eq_some_iff, hn] at h1
          obtain ⟨c, hc, ht⟩ := h1
          obtain ⟨ls, e1, e2, e3, _⟩ := ih he ht fun k hk => hw k (by
            simp only [DataW.weights, hu, List.mem_cons, List.mem_append]
            refine .inr (.inl (weights_all (i := i) ?_ k hk))
            rw [List.getElem?_map, List.getElem?_eq_getElem hie]
            rfl)
          exact ⟨ls, ⟨c, hc, e1⟩, e2, e3⟩
        have hmem : ∀ r ∈ rows, Fits ty' r ∧ (∀ l ∈ r, Pl w l) ∧ r.length = n := fun r hr => by
          obtain ⟨i, hi⟩ := List.getElem?_of_mem hr
          obtain ⟨⟨c, hc, e1⟩, e2, e3⟩ := hr2 i r hi
          refine ⟨e2, e3, ?_⟩
          have := (World.cells?_some hc).2.1
          rw [← e1, List.length_map] at this
          exact this
        have hsp : rows ≠ [] → a = ⟨a.block, a.off, none⟩ := fun hne => by
          obtain ⟨r, hr⟩ : ∃ r, rows[0]? = some r := by
            cases rows with
            | nil => exact absurd rfl hne
            | cons r _ => exact ⟨r, rfl⟩
          obtain ⟨⟨c, hc, e1⟩, _⟩ := hr2 0 r hr
          obtain ⟨_, k1, k2⟩ := World.cells?_some hc
          have := k2 0 hn0
          rw [List.getElem?_eq_getElem (by omega), Nat.zero_mul] at this
          have h0 : (a.add 0).add 0 = a := by simp [Addr.add]
          rw [h0] at this
          have := World.cell?_spot this
          cases a
          simp only at this
          subst this
          rfl
        have hLen : rows.length ≤ LIM := by
          have h3 : len * b ≤ reachBytes := Nat.le_trans (Nat.mul_le_mul_right _ (by omega)) hlenb
          have h4 : len * 1 ≤ len * b := Nat.mul_le_mul_left _ hb0
          have h5 : reachBytes ≤ LIM := by decide
          omega
        refine ⟨[.bs (.slice (some a) len cap) n rows], rfl, .sl ?_ (fun r hr => (hmem r hr).1), ?_, rfl⟩
        · rw [hr1]
          exact Nat.le_trans (Nat.mul_le_mul_right _ (by omega)) hlenb
        · intro l hl'
          simp only [List.mem_singleton] at hl'
          subst hl'
          refine ⟨fun nest => ⟨⟨some a, cap, by rw [hr1], by omega, hLen, fun hne => ⟨a.block, a.off, by rw [← hsp hne]⟩⟩, fun r hr => (hmem r hr).2.2, ?_⟩, rfl, rfl, fun _ => trivial, fun q hq hne => ?_⟩
          · exact (wfR_iff true rows).2 fun r hr l hl => ((hmem r hr).2.1 l hl).wf true
          · simp only [immL, hdrImm, List.mem_append, List.mem_singleton] at hq
            rcases hq with rfl | hq
            · intro j v hj
              obtain ⟨r, k1, k2, _⟩ := valR_at (fun r hr => (hmem r hr).2.2) hj
              obtain ⟨⟨c, hc, e1⟩, _⟩ := hr2 _ r k1
              obtain ⟨_, k3, k4⟩ := World.cells?_some hc
              have hr0 : rows ≠ [] := fun h0 => by rw [h0] at k1; simp at k1
              have := k4 (j % n) (Nat.mod_lt _ hn0)
              rw [← e1, k2, hsp hr0, addr_add, addr_add] at this
              simp only at this ⊢
              rw [← this]
              congr 2
              have := Nat.div_add_mod j n
              rw [Nat.mul_comm] at this
              omega
            · rw [immR_eq] at hq
              obtain ⟨l, hl, hq⟩ := List.mem_flatMap.1 hq
              obtain ⟨r, hr, hl⟩ := List.mem_flatten.1 hl
              exact ((hmem r hr).2.1 l hl).imm q hq hne
    | st hu hm hfs =>
      rename_i gs fs m
      obtain ⟨xs, k, hk, rfl, hcs, hxl, hxs⟩ := DataW.trod_struct hu h
      obtain rfl : fuel = k := by omega
      rw [hm] at hcs
      have key : ∀ (gl : List Field) (fs : List Ty) (o i : Nat), FsP P gl fs o m → gs.toList.drop i = gl → o ≤ m → ∃ ls : List (L Value), ls.map val = cs.drop o ∧ Fits (.st fs) ls ∧ ∀ l ∈ ls, Pl w l := by
        intro gl
        induction gl with
        | nil =>
          intro fs o i hf _ ho
          cases hf
          exact ⟨[], by rw [List.drop_of_length_le (by omega)]; rfl, .st0, by simp⟩
        | cons g gl ihg =>
          intro fs o i hf hd ho
          cases hf with
          | cons h1 h2 h3 h4 =>
            rename_i ty1 tys c
            have hgi : gs[i]? = some g := by
              have : (gs.toList.drop i)[0]? = some g := by rw [hd]; rfl
              rw [List.getElem?_drop] at this
              simpa using this
            have h5 := hxs i g hgi
            have hi : i < xs.length := by
              rw [hxl]
              exact (Array.getElem?_eq_some_iff.1 hgi).1
            rw [List.getElem?_eq_getElem hi] at h5
            obtain ⟨ls1, a1, a2, a3, _⟩ := ih h3 h5 fun n hn => hw n (by
              simp only [DataW.weights, hu]
              refine DataW.weights_mem_each (j := i) (t := g.type) (d := (xs[i]'hi).1) ?_ ?_ n hn
              · rw [List.getElem?_map, Array.getElem?_toList, hgi]; rfl
              · rw [List.getElem?_map, List.getElem?_eq_getElem hi]; rfl)
            have hle : o + c ≤ m := by
              clear ihg
              have : ∀ {gl : List Field} {tys : List Ty} {o m : Nat}, FsP P gl tys o m → o ≤ m := by
                intro gl
                induction gl with
                | nil => intro tys o m h; cases h; omega
                | cons g gl ih =>
                  intro tys o m h
                  cases h with
                  | cons _ _ _ h => have := ih h; omega
              exact this h4
            obtain ⟨ls2, b1, b2, b3⟩ := ihg tys (o + c) (i + 1) h4 (by rw [← List.drop_drop, hd]; rfl) hle
            refine ⟨ls1 ++ ls2, ?_, .st a2 b2, fun l hl => (List.mem_append.1 hl).elim (a3 l) (b3 l)⟩
            rw [List.map_append, a1, b1, h1, h2]
            rw [← List.drop_drop]
            exact List.take_append_drop c _
      obtain ⟨ls, a1, a2, a3⟩ := key gs.toList fs 0 0 hfs rfl (Nat.zero_le _)
      exact ⟨ls, by simpa using a1, a2, a3, rfl⟩
end
end Go.Proofs.Ytghdhjgoicnbcaa.AM

namespace Go.Proofs.Ytghdhjgoicnbcaa.AM
open Go Go.WideShapes Go.ChangeShapes Go.RowKit

theorem dc_rows {α : Type} {ty : Ty} {enc : α → List (L Unit)} {ok : α → Prop} (hd : ∀ ls, Fits ty ls → ∃ x, ls = enc x ∧ ok x) : ∀ {rows : List (List (L Unit))}, (∀ r ∈ rows, Fits ty r) → ∃ xs : List α, rows = xs.map enc ∧ ∀ x ∈ xs, ok x
  | [], _ => ⟨[], rfl, by simp⟩
  | r :: rows, h => by
    obtain ⟨x, rfl, hx⟩ := hd r (h r (by simp))
    obtain ⟨xs, rfl, hxs⟩ := dc_rows hd (rows := rows) fun r hr => h r (by simp [hr])
    exact ⟨x :: xs, rfl, fun y hy => (List.mem_cons.1 hy).elim (fun e => e ▸ hx) (hxs y)⟩
theorem dc_list {α : Type} {n b : Nat} {ty : Ty} {enc : α → List (L Unit)} {ok : α → Prop} (hd : ∀ ls, Fits ty ls → ∃ x, ls = enc x ∧ ok x) {ls : List (L Unit)} (h : Fits (.sl n b ty) ls) :
    ∃ xs : List α, ls = lL false n enc xs ∧ xs.length * b ≤ reachBytes ∧ ∀ x ∈ xs, ok x := by
  cases h with
  | sl h1 h2 =>
    obtain ⟨xs, rfl, hxs⟩ := dc_rows hd h2
    exact ⟨xs, rfl, by simpa using h1, hxs⟩
/-- A value that is read, of one cell. -/
theorem read_one {H : Type} {enc : TypeId × Value → H} {P : Program} {w : World} {base : Nat} {spare : Nat → Bool} {held : Bool} {t : TypeId} {ty : Ty} {v : Value} {d : DataW H} {p : List MemPlace}
    (hty : TyP P t ty) (hv : v.cells = #[v]) (h : DataW.Trod enc P w base spare held t v d p) (hw : ∀ n ∈ d.weights P t, n ≤ reachBytes) :
    ∃ l : L Value, UR (.one l) v ∧ Fits ty [erL l] ∧ Pl w l := by
  obtain ⟨fuel, hf⟩ := h
  obtain ⟨ls, e1, e2, e3, _⟩ := reading fuel hty hf hw
  rw [hv] at e1
  match ls, e1, e2, e3 with
  | [l], e1, e2, e3 =>
    simp only [List.map_cons, List.map_nil, List.cons.injEq, and_true] at e1
    exact ⟨l, e1.symm, e2.map _, e3 l (by simp)⟩
/-- A call over arguments that are only read. -/
theorem enter_sim {P : Program} {f : FuncId} {W : World} {us : List (U Value)} {args : List (U Unit)} {vals : List Value} {r : V Unit} (hs : Sim P f args [] r []) (ha : us.map erU = args) (hus : All2 UR us vals) (hpl : ∀ u ∈ us, ∀ l ∈ leavesU u, Pl W l) :
    Calls P f vals.toArray W fun e W' => ∃ x rv, e = .returned x ∧ erV rv = r ∧ VR rv x ∧ Below W.heap.size W W' := by
  have htop : ∀ l ∈ tops (⟨us.map .u, [], 0⟩ : S Value), Pl W l := by
    intro l hl
    simp only [tops, obLeaves, List.flatMap_nil, List.append_nil, List.mem_flatMap, List.mem_map] at hl
    obtain ⟨_, ⟨u, hu, rfl⟩, hl⟩ := hl
    exact hpl u hu l hl
  have hown : ownS (⟨us.map .u, [], 0⟩ : S Value) = [] := by
    unfold ownS
    simp only [List.flatMap_nil, List.nil_append, List.flatMap_eq_nil_iff]
    exact fun l hl => (htop l hl).own
  refine (hs W ⟨us.map .u, [], 0⟩ us vals rfl ha hus rfl ?_ fun l hl i hi => ?_).mono fun e W' h => ?_
  · refine ⟨fun l hl => ⟨(htop l hl).wf false, (htop l hl).ref _⟩, fun p hp => by simp at hp, List.nodup_nil, fun p hp => ?_, ?_, fun p hp hne => ?_⟩
    · rw [hown] at hp; simp at hp
    · rw [hown]; exact List.nodup_nil
    · obtain ⟨l, hl, hp⟩ := List.mem_flatMap.1 hp
      exact ⟨(htop l hl).imm p hp hne, fun q hq => by rw [hown] at hq; simp at hq⟩
  · rw [(htop l hl).ids] at hi; simp at hi
  · obtain ⟨x, d', rv, h1, _, h3, _, h5, h6⟩ := h
    refine ⟨x, rv, h1, h3, h5, h6.fr.3.1, h6.fr.3.2.1, h6.fr.3.2.2, h6.fr.1, fun k hk => h6.fr.2 k hk fun ⟨p, hp, _⟩ => by rw [hown] at hp; simp at hp⟩
theorem res_bool {rv : V Value} {x : Value} {b : Bool} (h : erV rv = .u (.one (.bool b))) (hv : VR rv x) : x = .bool b := by
  cases rv with
  | u u =>
    cases u with
    | one l =>
      cases l <;> simp only [erV, mapV, mapU, mapL, V.u.injEq, U.one.injEq, reduceCtorEq] at h
      cases h
      exact hv
    | agg ls => simp [erV, mapV, mapU] at h
  | _ => simp [erV, mapV] at h
end Go.Proofs.Ytghdhjgoicnbcaa.AM

namespace Go.Proofs.Ytghdhjgoicnbcaa.AM
open Go
theorem inI_le {n : Int} (h1 : -9223372036854775808 ≤ n) (h2 : n ≤ 9223372036854775807) : inI n := ⟨h1, h2⟩
theorem wrap_in {n : Int} (h1 : -9223372036854775808 ≤ n) (h2 : n ≤ 9223372036854775807) : IntKind.i64.wrap n = n := IntWalk.i64_in n (by omega)
theorem at_mem {α : Type} [Inhabited α] {xs : List α} {n : Int} (h : 0 ≤ n ∧ n < (xs.length : Int)) : at_ xs n ∈ xs := List.mem_of_getElem? (at_get h)
/-- (Not by rfl: the kernel then need not compare great terms.) -/
theorem obs {α β : Type} (a : α) (f : α → Option β) : Option.bind (some a) f = f a := by
  have : ∀ o, o = some a → Option.bind o f = f a := fun o h => by subst h; rfl
  exact this _ rfl
/-- A loop with a measure that falls. -/
theorem loop_wf {σ ρ : Type} {body : σ → Option (σ ⊕ ρ)} {L : Option ρ} {s0 : σ} (hB : loopO body s0 = L) (I : σ → Prop) (m : σ → Nat) (Q : ρ → Prop)
    (h : ∀ s, I s → (∃ s', body s = some (.inl s') ∧ I s' ∧ m s' < m s) ∨ (∃ r, body s = some (.inr r) ∧ Q r)) (h0 : I s0) : ∃ r, L = some r ∧ Q r := by
  subst hB
  have key : ∀ n s, m s ≤ n → I s → ∃ r, loopO body s = some r ∧ Q r := by
    intro n
    induction n with
    | zero =>
      intro s hm hi
      rcases h s hi with ⟨s', e, hi', hlt⟩ | ⟨r, e, hq⟩
      · omega
      · exact ⟨r, by rw [loopO_step, e]; rfl, hq⟩
    | succ n ih =>
      intro s hm hi
      rcases h s hi with ⟨s', e, hi', hlt⟩ | ⟨r, e, hq⟩
      · obtain ⟨r, e2, hq⟩ := ih s' (by omega) hi'
        exact ⟨r, by rw [loopO_step, e]; exact e2, hq⟩
      · exact ⟨r, by rw [loopO_step, e]; rfl, hq⟩
  exact key _ s0 (Nat.le_refl _) h0
/-- A loop that counts from a to n, with a part that grows. -/
theorem loop_cnt {σ : Type} {ρ : Type} {body : σ → Option (σ ⊕ ρ)} {L : Option ρ} {s0 : σ} (hB : loopO body s0 = L) (st : Nat → σ) (n : Nat) (r : ρ) (e0 : s0 = st 0)
    (h : ∀ k, k < n → body (st k) = some (.inl (st (k + 1)))) (he : body (st n) = some (.inr r)) : L = some r := by
  subst hB e0
  have key : ∀ m k, k + m = n → loopO body (st k) = some r := by
    intro m
    induction m with
    | zero =>
      intro k hk
      obtain rfl : k = n := by omega
      rw [loopO_step, he]; rfl
    | succ m ih =>
      intro k hk
      rw [loopO_step, h k (by omega)]
      exact ih (k + 1) (by omega)
  exact key n 0 (by omega)
theorem dc_u8 {ls : List (L Unit)} (h : Fits (.int .u8) ls) : ∃ n, ls = iK .u8 n ∧ 0 ≤ n ∧ n ≤ 255 := by
  cases h with
  | int h =>
    refine ⟨_, rfl, ?_⟩
    simp [Lit.wf, IntKind.min, IntKind.max, IntKind.bits, IntKind.signed] at h
    exact h
end Go.Proofs.Ytghdhjgoicnbcaa.AM

namespace Go.Proofs.Ytghdhjgoicnbcaa.AM
open Go
set_option linter.unusedSimpArgs false
set_option linter.unusedVariables false
def okRd (r : Gl1Rd) : Prop := 0 ≤ r.p ∧ r.p ≤ (r.b.length : Int) ∧ r.b.length ≤ 140737488355328 ∧ ∀ x ∈ r.b, 0 ≤ x ∧ x ≤ 255
theorem next_ok {r : Gl1Rd} (h : okRd r) : ∃ x r', spec_l1Rd_next_m r = some (x, r') ∧ okRd r' ∧ 0 ≤ x ∧ x ≤ 255 := by
  obtain ⟨h1, h2, h3, h4⟩ := h
  unfold spec_l1Rd_next_m
  by_cases hp : r.p ≥ (r.b.length : Int)
  · rw [if_pos (by simpa using hp)]
    exact ⟨0, r, rfl, ⟨h1, h2, h3, h4⟩, by omega, by omega⟩
  · rw [if_neg (by simpa using hp), if_pos (inI_le (by omega) (by omega)), if_pos (inI_le (by simp only; omega) (by simp only; omega)), if_pos (by simp only; omega)]
    have hb := h4 (at_ r.b (r.p + 1 - 1)) (at_mem (by omega))
    refine ⟨_, _, rfl, ⟨by simp only; omega, by simp only; omega, h3, h4⟩, ?_⟩
    simp only
    rw [wrap_in (by omega) (by omega)]
    exact hb
theorem tmod_lt {a n : Int} (h : 0 ≤ a) (hn : 1 ≤ n) : 0 ≤ Int.tmod a n ∧ Int.tmod a n < n := by
  rw [Int.tmod_eq_emod_of_nonneg h]
  exact ⟨Int.emod_nonneg _ (by omega), Int.emod_lt_of_pos _ (by omega)⟩
theorem below_ok {r : Gl1Rd} (h : okRd r) (n : Int) : ∃ x r', spec_l1Rd_below_m r n = some (x, r') ∧ okRd r' ∧ 0 ≤ x ∧ (1 ≤ n → x < n) := by
  unfold spec_l1Rd_below_m
  by_cases hn : n ≤ 1
  · rw [if_pos (by simpa using hn)]
    exact ⟨0, r, rfl, h, by omega, by omega⟩
  · rw [if_neg (by simpa using hn)]
    obtain ⟨x, r', e, h', hx⟩ := next_ok h
    by_cases hn2 : n ≤ 256
    · rw [if_pos (by simpa using hn2), e]
      simp only [Option.bind_some]
      rw [if_pos (by omega)]
      exact ⟨_, _, rfl, h', (tmod_lt hx.1 (by omega)).1, fun _ => (tmod_lt hx.1 (by omega)).2⟩
    · rw [if_neg (by simpa using hn2), e]
      simp only [Option.bind_some]
      obtain ⟨y, r2, e2, h2, hy⟩ := next_ok h'
      rw [e2]
      simp only [Option.bind_some]
      rw [if_pos (by omega), wrap_in (n := x * 256) (by omega) (by omega), wrap_in (by omega) (by omega)]
      exact ⟨_, _, rfl, h2, (tmod_lt (by omega) (by omega)).1, fun _ => (tmod_lt (by omega) (by omega)).2⟩
theorem once_ok {r : Gl1Rd} (h : okRd r) (n : Int) (hn : inI (n - 1)) : ∃ x r', spec_l1Rd_once_m r n = some (x, r') ∧ okRd r' := by
  unfold spec_l1Rd_once_m
  obtain ⟨x, r', e, h', hx⟩ := below_ok h n
  rw [e]
  simp only [Option.bind_some]
  rw [if_pos hn]
  exact ⟨_, _, rfl, h'⟩
theorem u64_in {n : Int} (h : (Lit.int .u64 n).wf = true) : 0 ≤ n ∧ n ≤ 18446744073709551615 := by
  have h : IntKind.u64.min ≤ n ∧ n ≤ IntKind.u64.max := by simpa [Lit.wf] using h
  have e1 : IntKind.u64.min = 0 := by decide
  have e2 : IntKind.u64.max = 18446744073709551615 := by decide
  rw [e1, e2] at h
  exact h
theorem word_in {r : Gl1Rd} (h : okRd r) : ∃ x r', spec_l1Rd_word_m r = some (x, r') ∧ okRd r' ∧ 0 ≤ x ∧ x ≤ 18446744073709551615 := by
  unfold spec_l1Rd_word_m
  generalize hB : loopO _ _ = L
  obtain ⟨⟨r2, x⟩, e, h2⟩ := loop_wf hB (fun s => okRd s.1 ∧ 0 ≤ s.2.2 ∧ s.2.2 ≤ 8 ∧ 0 ≤ s.2.1 ∧ s.2.1 ≤ 18446744073709551615) (fun s => (8 - s.2.2).toNat) (fun s => okRd s.1 ∧ 0 ≤ s.2 ∧ s.2 ≤ 18446744073709551615) (by
    rintro ⟨r, a, i⟩ ⟨h1, h2, h3, h4, h5⟩
    simp only at h1 h2 h3 h4 h5 ⊢
    by_cases hi : i < 8
    · left
      rw [if_pos (by simpa using hi)]
      obtain ⟨x, r', e, h', hx⟩ := next_ok h1
      rw [e]
      simp only [Option.bind_some]
      rw [if_pos (inI_le (by omega) (by omega))]
      have hb := u64_in (wf_bits .or .u64 (IntKind.u64.wrap (a * 2 ^ min (Int.toNat 8) (IntKind.bits .u64))) (IntKind.u64.wrap x))
      exact ⟨_, rfl, ⟨h', by simp only; omega, by simp only; omega, hb.1, hb.2⟩, by simp only; omega⟩
    · right
      rw [if_neg (by simpa using hi)]
      exact ⟨_, rfl, h1, h4, h5⟩) ⟨h, by simp only; omega, by simp only; omega, by simp only; omega, by simp only; omega⟩
  subst e
  exact ⟨_, _, rfl, h2⟩
theorem open_ok {code : List Int} (hl : code.length ≤ 140737488355328) (h : ∀ x ∈ code, 0 ≤ x ∧ x ≤ 255) : okRd (spec_l1Open_m code) := ⟨Int.le_refl _, by simp only [spec_l1Open_m]; omega, hl, h⟩
end Go.Proofs.Ytghdhjgoicnbcaa.AM

namespace Go.Proofs.Ytghdhjgoicnbcaa.AM
open Go
def Run {β : Type} (o : Option β) (Q : β → Prop) : Prop := ∃ y, o = some y ∧ Q y
theorem Run.mk {β : Type} {y : β} {Q : β → Prop} (h : Q y) : Run (some y) Q := ⟨y, rfl, h⟩
theorem Run.bind {α β : Type} {o : Option α} {F : α → Option β} {R : α → Prop} {Q : β → Prop} (h : Run o R) (H : ∀ a, R a → Run (F a) Q) : Run (Option.bind o F) Q := by
  obtain ⟨a, e, ha⟩ := h
  rw [e, obs]
  exact H a ha
theorem Run.yes {β : Type} {c : Prop} [Decidable c] {a b : Option β} {Q : β → Prop} (hc : c) (h : Run a Q) : Run (if c then a else b) Q := by rw [if_pos hc]; exact h
theorem Run.no {β : Type} {c : Prop} [Decidable c] {a b : Option β} {Q : β → Prop} (hc : ¬ c) (h : Run b Q) : Run (if c then a else b) Q := by rw [if_neg hc]; exact h
theorem Run.if {β : Type} {c : Prop} [Decidable c] {a b : Option β} {Q : β → Prop} (h1 : c → Run a Q) (h2 : ¬ c → Run b Q) : Run (if c then a else b) Q := by
  by_cases h : c
  · exact .yes h (h1 h)
  · exact .no h (h2 h)
theorem Run.mono {β : Type} {o : Option β} {Q Q' : β → Prop} (h : Run o Q) (hq : ∀ y, Q y → Q' y) : Run o Q' := by
  obtain ⟨y, e, h⟩ := h
  exact ⟨y, e, hq y h⟩
def LoopQ {σ ρ : Type} (I : σ → Prop) (m : σ → Nat) (n : Nat) (Q : ρ → Prop) : σ ⊕ ρ → Prop
  | .inl s => I s ∧ m s < n
  | .inr r => Q r
theorem Run.nx {σ ρ : Type} {I : σ → Prop} {m : σ → Nat} {n : Nat} {Q : ρ → Prop} {s : σ} (h : I s ∧ m s < n) : Run (some (.inl s : σ ⊕ ρ)) (LoopQ I m n Q) := ⟨_, rfl, h⟩
theorem Run.out {σ ρ : Type} {I : σ → Prop} {m : σ → Nat} {n : Nat} {Q : ρ → Prop} {r : ρ} (h : Q r) : Run (some (.inr r : σ ⊕ ρ)) (LoopQ I m n Q) := ⟨_, rfl, h⟩
theorem Run.loop {σ ρ : Type} {body : σ → Option (σ ⊕ ρ)} {s0 : σ} {Q : ρ → Prop} (I : σ → Prop) (m : σ → Nat) (h0 : I s0) (h : ∀ s, I s → Run (body s) (LoopQ I m (m s) Q)) : Run (loopO body s0) Q := by
  refine loop_wf rfl I m Q (fun s hs => ?_) h0
  obtain ⟨x, e, hx⟩ := h s hs
  cases x with
  | inl s' => exact .inl ⟨s', e, hx⟩
  | inr r => exact .inr ⟨r, e, hx⟩
end Go.Proofs.Ytghdhjgoicnbcaa.AM

namespace Go.Proofs.Ytghdhjgoicnbcaa.AM
open Go
set_option linter.unusedSimpArgs false
set_option linter.unusedVariables false
abbrev KM : Nat := 1000000
def isW (w : Int) : Prop := w = 1 ∨ w = 8 ∨ w = 16 ∨ w = 32
theorem LIM_eq : LIM = 140737488355328 := rfl
theorem below_run {r : Gl1Rd} (h : okRd r) (n : Int) : Run (spec_l1Rd_below_m r n) (fun y => okRd y.2 ∧ 0 ≤ y.1 ∧ (1 ≤ n → y.1 < n)) := by
  obtain ⟨x, r', e, h1, h2⟩ := below_ok h n
  exact ⟨_, e, h1, h2⟩
theorem once_run {r : Gl1Rd} (h : okRd r) {n : Int} (hn : inI (n - 1)) : Run (spec_l1Rd_once_m r n) (fun y => okRd y.2) := by
  obtain ⟨x, r', e, h1⟩ := once_ok h n hn
  exact ⟨_, e, h1⟩
theorem width_run {r : Gl1Rd} (h : okRd r) : Run (spec_l1Rd_width_m r) (fun y => okRd y.2 ∧ isW y.1) := by
  unfold spec_l1Rd_width_m
  refine Run.bind (below_run h 4) ?_
  rintro ⟨x, r'⟩ ⟨h1, h2, h3⟩
  have h3 := h3 (by omega)
  refine Run.yes ⟨h2, by simpa using h3⟩ (Run.mk ⟨h1, ?_⟩)
  have : x = 0 ∨ x = 1 ∨ x = 2 ∨ x = 3 := by simp only at h2 h3; omega
  rcases this with rfl | rfl | rfl | rfl <;> simp [isW, at_]
def topW (w : Int) : Int := if w = 1 then 1 else if w = 8 then 255 else if w = 16 then 65535 else 4294967295
theorem topW_in {w : Int} (hw : isW w) : 1 ≤ topW w ∧ topW w ≤ 4294967295 := by rcases hw with rfl | rfl | rfl | rfl <;> decide
theorem topW_pow {w : Int} (hw : isW w) : IntKind.i64.wrap (1 * 2 ^ min (Int.toNat (IntKind.u64.wrap w)) (IntKind.bits .i64)) = topW w + 1 := by rcases hw with rfl | rfl | rfl | rfl <;> decide
theorem value_run {r : Gl1Rd} (h : okRd r) {w : Int} (hw : isW w) : Run (spec_l1Rd_value_m r w) (fun y => okRd y.2 ∧ 0 ≤ y.1 ∧ y.1 ≤ topW w) := by
  unfold spec_l1Rd_value_m
  have h1 : 0 ≤ IntKind.u64.wrap w := by rcases hw with rfl | rfl | rfl | rfl <;> decide
  have h4 := topW_in hw
  have h5 : 0 ≤ IntKind.i64.wrap (Int.tdiv (topW w + 1) 2) ∧ IntKind.i64.wrap (Int.tdiv (topW w + 1) 2) ≤ topW w := by rcases hw with rfl | rfl | rfl | rfl <;> decide
  rw [topW_pow hw]
  refine Run.yes h1 (Run.bind (below_run h 7) ?_)
  rintro ⟨x, r'⟩ ⟨g1, _, _⟩
  refine Run.if (fun _ => Run.mk ⟨g1, Int.le_refl _, by simp only; omega⟩) (fun _ => Run.if (fun _ => Run.mk ⟨g1, by simp only; omega, h4.1⟩) (fun _ => Run.if (fun _ => Run.yes (inI_le (by omega) (by omega)) (Run.mk ⟨g1, by simp only; omega, by simp only; omega⟩)) (fun _ => Run.if (fun _ => Run.mk ⟨g1, h5⟩) (fun _ => Run.bind (R := fun y => okRd y.2 ∧ 0 ≤ y.1 ∧ y.1 ≤ 18446744073709551615) ?_ ?_))))
  · obtain ⟨x2, r2, e, k1, k2⟩ := word_in g1
    exact ⟨_, e, k1, k2⟩
  rintro ⟨y, r2⟩ ⟨g2, g3, g4⟩
  refine Run.yes (by omega) (Run.mk ⟨g2, ?_⟩)
  simp only at g3 g4 ⊢
  have e2 : ((2 : Int) ^ min (Int.toNat 1) (IntKind.bits .u64)) = 2 := by decide
  rw [e2, wrap_in (by omega) (by omega)]
  have := tmod_lt (a := y / 2) (n := topW w + 1) (by omega) (by omega)
  omega
/-- What tells out or stores gives nothing. -/
def okI (i : GInst) : Prop := i.w = 0 ∨ (i.op_ ≠ 24 ∧ i.op_ ≠ 25)
def sz (b : GBlock) : Nat := b.phis.length + b.insts.length
def sumz (bs : List GBlock) : Nat := (bs.map sz).sum
def cnt (f : GFunc) : Nat := f.params.length + sumz f.blocks
/-- What an instruction names. -/
def opsI (i : GInst) : List Int :=
  if (1 ≤ i.op_ ∧ i.op_ ≤ 17) ∨ i.op_ = 24 then [i.a, i.b]
  else if (18 ≤ i.op_ ∧ i.op_ ≤ 20) ∨ i.op_ = 23 ∨ i.op_ = 25 ∨ i.op_ = 27 then [i.a]
  else if i.op_ = 22 then [i.a, i.b, i.c]
  else if i.op_ = 26 then i.args else []
def inN (n : Int) (l : List Int) : Prop := ∀ x ∈ l, 0 ≤ x ∧ x < n
theorem inN.mono {n m : Int} {l : List Int} (h : inN n l) (hm : n ≤ m) : inN m l := fun x hx => ⟨(h x hx).1, by have := (h x hx).2; omega⟩
/-- An instruction's form, whatever it names. -/
structure frI (i : GInst) : Prop where
  op : 1 ≤ i.op_ ∧ i.op_ ≤ 27
  args : i.args.length ≤ 4
  noargs : i.op_ ≠ 26 → i.args = []
  zero : (if i.op_ = 26 then 0 else (opsI i).length) < 1 → i.a = 0
  zerob : (if i.op_ = 26 then 0 else (opsI i).length) < 2 → i.b = 0
  zeroc : (if i.op_ = 26 then 0 else (opsI i).length) < 3 → i.c = 0
  w0 : i.op_ = 24 ∨ i.op_ = 25 → i.w = 0
  w1 : ¬ (i.op_ = 24 ∨ i.op_ = 25) → isW i.w
  w8 : i.op_ = 23 → i.w = 8
  const : i.op_ = 21 → 0 ≤ i.imm ∧ i.imm ≤ topW i.w
  call : i.op_ = 26 → 0 ≤ i.imm ∧ i.imm < 3
  imm : i.op_ ≠ 21 → i.op_ ≠ 26 → i.imm = 0
theorem fr_const {w v : Int} (hw : isW w) (hv : 0 ≤ v ∧ v ≤ topW w) : frI ⟨21, w, 0, 0, 0, v, []⟩ := by
  constructor <;> simp [opsI, hw, hv]
theorem fr_select {w a b c : Int} (hw : isW w) : frI ⟨22, w, a, b, c, 0, []⟩ := by
  constructor <;> simp [opsI, hw]
theorem fr_cast {o w a : Int} (hw : isW w) (ho : 18 ≤ o ∧ o ≤ 20) : frI ⟨o, w, a, 0, 0, 0, []⟩ := by
  have : o = 18 ∨ o = 19 ∨ o = 20 := by omega
  rcases this with rfl | rfl | rfl <;> constructor <;> simp [opsI, hw]
theorem fr_load {a : Int} : frI ⟨23, 8, a, 0, 0, 0, []⟩ := by
  constructor <;> simp [opsI, isW]
theorem fr_store {a b : Int} : frI ⟨24, 0, a, b, 0, 0, []⟩ := by
  constructor <;> simp [opsI, isW]
theorem fr_print {a : Int} : frI ⟨25, 0, a, 0, 0, 0, []⟩ := by
  constructor <;> simp [opsI, isW]
theorem fr_copy {w a : Int} (hw : isW w) : frI ⟨27, w, a, 0, 0, 0, []⟩ := by
  constructor <;> simp [opsI, hw]
theorem fr_call {w k : Int} {l : List Int} (hw : isW w) (hk : 0 ≤ k ∧ k < 3) (hl : l.length ≤ 4) : frI ⟨26, w, 0, 0, 0, k, l⟩ := by
  constructor <;> simp [opsI, hw, hk, hl]
theorem fr_bin {o w a b : Int} (hw : isW w) (ho : 1 ≤ o ∧ o ≤ 17) : frI ⟨o, w, a, b, 0, 0, []⟩ := by
  have e : (opsI ⟨o, w, a, b, 0, 0, []⟩) = [a, b] := by simp only [opsI]; rw [if_pos (.inl ho)]
  have n1 : o ≠ 26 := by omega
  refine ⟨⟨by simp only; omega, by simp only; omega⟩, by simp, fun _ => rfl, ?_, ?_, fun _ => rfl, fun h => by simp only at h; omega, fun _ => hw, fun h => by simp only at h; omega, fun h => by simp only at h; omega, fun h => by simp only at h; omega, fun _ _ => rfl⟩ <;> (rw [e]; simp [n1])
def okIn (n : Int) (i : GInst) : Prop := okI i ∧ inN n (opsI i) ∧ i.args.length ≤ 10 ∧ frI i
def okPn (n : Int) (p : GPhi) : Prop := inN n p.ins ∧ p.ins.length ≤ 10 ∧ isW p.w
def zT (t : GTerm) : Prop := (t.kind = 1 ∧ t.x = 0 ∧ t.y = 0) ∨ (t.kind = 2 ∧ t.a = 0 ∧ t.y = 0) ∨ t.kind = 3 ∨ (t.kind = 4 ∧ t.a = 0 ∧ t.x = 0 ∧ t.y = 0)
def okT (n : Int) (t : GTerm) : Prop := (t.kind = 1 ∨ t.kind = 3 → 0 ≤ t.a ∧ t.a < n) ∧ zT t
/-- Where an end leads. -/
def okX (m : Int) (t : GTerm) : Prop := (t.kind = 2 ∨ t.kind = 3 → 0 ≤ t.x ∧ t.x ≤ m) ∧ (t.kind = 3 → 0 ≤ t.y ∧ t.y ≤ m ∧ t.x ≠ t.y)
theorem okX.mono {m n : Int} {t : GTerm} (h : okX m t) (hm : m ≤ n) : okX n t := ⟨fun k => by have := h.1 k; omega, fun k => by have := h.2 k; omega⟩
def tgt (g : Gl2G) : Prop := ∀ b ∈ g.f.blocks, okX g.f.blocks.length b.term
structure okB (n : Int) (ps : List GPhi) (is : List GInst) : Prop where
  ps : ∀ p ∈ ps, okPn n p
  is : ∀ i ∈ is, okIn n i
theorem okB.mono {n m : Int} {ps : List GPhi} {is : List GInst} (h : okB n ps is) (hm : n ≤ m) : okB m ps is :=
  ⟨fun p hp => ⟨(h.ps p hp).1.mono hm, (h.ps p hp).2⟩, fun i hi => ⟨(h.is i hi).1, (h.is i hi).2.1.mono hm, (h.is i hi).2.2⟩⟩
theorem okT.mono {n m : Int} {t : GTerm} (h : okT n t) (hm : n ≤ m) : okT m t := ⟨fun ht => ⟨(h.1 ht).1, by have := (h.1 ht).2; omega⟩, h.2⟩
def okBl (n : Int) (b : GBlock) : Prop := okB n b.phis b.insts ∧ okT n b.term
theorem okBl.mono {n m : Int} {b : GBlock} (h : okBl n b) (hm : n ≤ m) : okBl m b := ⟨h.1.mono hm, h.2.mono hm⟩
/-- What grows is small; d: what is not numbered yet. -/
structure okGd (d : Int) (k : Nat) (g : Gl2G) : Prop where
  ids : g.ids.length ≤ k
  ws : g.ws.length = g.ids.length
  n0 : 0 ≤ g.next
  n1 : g.next ≤ (k : Int)
  insts : g.b.insts.length ≤ k
  phis : g.b.phis.length ≤ k
  blocks : g.f.blocks.length ≤ k
  params : g.f.params.length ≤ k
  pw : ∀ w ∈ g.f.params, isW w
  ret : isW g.f.ret
  rows : ∀ b ∈ g.f.blocks, b.phis.length ≤ k ∧ b.insts.length ≤ k
  cur : okB (g.next + d) g.b.phis g.b.insts
  okbs : ∀ b ∈ g.f.blocks, okBl (g.next + d) b
  idsIn : inN g.next g.ids
  nx : g.next + d = (g.f.params.length : Int) + sumz g.f.blocks + g.b.phis.length + g.b.insts.length
abbrev okG (k : Nat) (g : Gl2G) : Prop := okGd 0 k g
theorem okGd.mono {d : Int} {k k' : Nat} {g : Gl2G} (h : okGd d k g) (hk : k ≤ k') : okGd d k' g :=
  ⟨Nat.le_trans h.ids hk, h.ws, h.n0, by have := h.n1; omega, Nat.le_trans h.insts hk, Nat.le_trans h.phis hk, Nat.le_trans h.blocks hk, Nat.le_trans h.params hk, h.pw, h.ret, fun b hb => ⟨Nat.le_trans (h.rows b hb).1 hk, Nat.le_trans (h.rows b hb).2 hk⟩, h.cur, h.okbs, h.idsIn, h.nx⟩
/-- The same function, the same phis. -/
def Sm (g g' : Gl2G) : Prop := g'.f = g.f ∧ g'.b.phis = g.b.phis
theorem Sm.trans {a b c : Gl2G} (h : Sm a b) (h' : Sm b c) : Sm a c := ⟨h'.1.trans h.1, h'.2.trans h.2⟩
theorem Sm.refl (a : Gl2G) : Sm a a := ⟨rfl, rfl⟩
structure okP (rets : List Int) (pars : List (List Int)) : Prop where
  len : pars.length = rets.length
  small : rets.length ≤ 2
  rw_ : ∀ w ∈ rets, isW w
  rows : ∀ l ∈ pars, l.length ≤ 4 ∧ ∀ w ∈ l, isW w
section
variable {k : Nat} {g : Gl2G} {gr : Gl1Rd} {rets : List Int} {pars : List (List Int)}
theorem add_run (h : okGd 1 k g) (hk : k ≤ KM) (w : Int) : Run (spec_l2G_add_m g gr rets pars w) (fun y => okG (k + 1) y.2.1 ∧ y.2.2 = gr ∧ y.2.1.f = g.f ∧ y.2.1.b = g.b ∧ y.1 = g.next ∧ y.2.1.next = g.next + 1) := by
  have hL := LIM_eq
  obtain ⟨h1, h2, h3, h4, h5, h6, h7, h8, h9, h10, h11, h12, h13, h14, h15⟩ := h
  unfold KM at hk
  unfold spec_l2G_add_m
  refine Run.bind (R := fun _ => True) (Run.yes (by simp only [List.length_nil]; omega) (Run.yes (by simp only [List.nil_append, List.length_singleton]; omega) (Run.mk trivial))) (fun _ _ => ?_)
  refine Run.yes (by simp only [List.length_nil]; omega) (Run.yes (by simp only [List.nil_append, List.length_singleton]; omega) (Run.yes (inI_le (by simp only; omega) (by simp only; omega)) (Run.yes (inI_le (by simp only; omega) (by simp only; omega)) (Run.mk ⟨?_, rfl, rfl, rfl, by simp only; omega, by simp only⟩))))
  refine ⟨by simp; omega, by simp [h2], by simp only; omega, by simp only; omega, by simp only; omega, by simp only; omega, by simp only; omega, by simp only; omega, h9, h10, fun b hb => ⟨by have := (h11 b hb).1; omega, by have := (h11 b hb).2; omega⟩, by simpa using h12, by simpa using h13, fun x hx => ?_, by simp only; omega⟩
  simp only [List.nil_append, List.mem_append, List.mem_singleton] at hx
  simp only
  rcases hx with hx | rfl
  · have := h14 x hx
    omega
  · omega
theorem put_run (h : okG k g) (hr : okRd gr) (hk : k + 1 ≤ KM) (i : GInst) (hi : okIn g.next i) : Run (spec_l2G_put_m g gr rets pars i) (fun y => okG (k + 2) y.2.1 ∧ okRd y.2.2 ∧ Sm g y.2.1 ∧ (spec_l2Width_m i ≠ 0 → 0 ≤ y.1 ∧ y.1 < y.2.1.next) ∧ g.next ≤ y.2.1.next) := by
  have hL := LIM_eq
  have h0 := h
  obtain ⟨h1, h2, h3, h4, h5, h6, h7, h8, h9, h10, h11, h12, h13, h14, h15⟩ := h
  unfold KM at hk
  have h12' : okB (g.next + 1) g.b.phis (g.b.insts ++ [i]) := by
    refine ⟨fun p hp => (h12.mono (by omega)).ps p hp, fun j hj => ?_⟩
    rcases List.mem_append.1 hj with hj | hj
    · exact (h12.mono (by omega)).is j hj
    · simp only [List.mem_singleton] at hj
      subst hj
      exact ⟨hi.1, hi.2.1.mono (by omega), hi.2.2⟩
  have h13' : ∀ b ∈ g.f.blocks, okBl (g.next + 1) b := fun b hb => (h13 b hb).mono (by omega)
  unfold spec_l2G_put_m
  refine Run.yes (by simp only [List.length_singleton]; omega) (Run.if (fun hw => Run.yes (inI_le (by omega) (by omega)) (Run.mk ⟨?_, hr, ⟨rfl, rfl⟩, fun hn => absurd (by simpa using hw) hn, by simp only; omega⟩)) (fun _ => ?_))
  · exact ⟨by simp only; omega, h2, by simp only; omega, by simp only; omega, by simp; omega, by simp only; omega, by simp only; omega, by simp only; omega, h9, h10, fun b hb => ⟨by have := (h11 b hb).1; omega, by have := (h11 b hb).2; omega⟩, by simpa using h12', by simpa using h13', h14.mono (by simp only; omega), by simp; omega⟩
  · refine Run.bind (add_run (k := k + 1) ?_ (by unfold KM; omega) _) ?_
    · exact ⟨by simp only; omega, h2, by simp only; omega, by simp only; omega, by simp; omega, by simp only; omega, by simp only; omega, by simp only; omega, h9, h10, fun b hb => ⟨by have := (h11 b hb).1; omega, by have := (h11 b hb).2; omega⟩, h12', h13', h14, by simp; omega⟩
    · rintro ⟨x, g', r'⟩ ⟨g1, rfl, g3, g4, g5, g6⟩
      simp only at g5 g6
      exact Run.mk ⟨g1, hr, ⟨g3, by simp only at g4 ⊢; rw [g4]⟩, fun _ => by simp only; omega, by simp only; omega⟩
theorem pick_run (h : okG k g) (hr : okRd gr) (hk : k + 1 ≤ KM) {w : Int} (hw : isW w) : Run (spec_l2G_pick_m g gr rets pars w) (fun y => okG (k + 2) y.2.1 ∧ okRd y.2.2 ∧ Sm g y.2.1 ∧ 0 ≤ y.1 ∧ y.1 < y.2.1.next ∧ g.next ≤ y.2.1.next) := by
  have hL := LIM_eq
  have h1 := h.ids
  have h2 := h.ws
  have hk' := hk
  unfold KM at hk
  unfold spec_l2G_pick_m
  refine Run.bind (R := fun l => l.length ≤ k ∧ inN g.next l) (Run.loop (fun s => 0 ≤ s.2 ∧ s.2 ≤ (g.ids.length : Int) ∧ (s.1.length : Int) ≤ s.2 ∧ inN g.next s.1) (fun s => (g.ids.length - s.2).toNat) ⟨Int.le_refl _, by omega, by simp, by simp [inN]⟩ ?_) ?_
  · rintro ⟨l, i⟩ ⟨a1, a2, a3, a4⟩
    simp only at a1 a2 a3 a4 ⊢
    refine Run.if (fun hi => ?_) (fun hi => Run.out ⟨by omega, a4⟩)
    have hi : i < (g.ids.length : Int) := by simpa using hi
    refine Run.yes (by omega) (Run.if (fun _ => Run.yes (by omega) (Run.yes (by simp only [List.length_singleton]; omega) (Run.yes (inI_le (by omega) (by omega)) (Run.nx ?_)))) (fun _ => Run.yes (inI_le (by omega) (by omega)) (Run.nx ?_)))
    · refine ⟨⟨by simp only; omega, by simp only; omega, by simp; omega, fun x hx => ?_⟩, by simp only; omega⟩
      rcases List.mem_append.1 hx with hx | hx
      · exact a4 x hx
      · simp only [List.mem_singleton] at hx
        subst hx
        exact h.idsIn _ (at_mem (by omega))
    · exact ⟨⟨by simp only; omega, by simp only; omega, by simp only; omega, a4⟩, by simp only; omega⟩
  rintro fit ⟨hf, hfi⟩
  refine Run.bind (R := fun y => okRd y.1 ∧ (y.2 = false → fit ≠ [])) (Run.if (fun _ => Run.mk ⟨hr, fun h => by cases h⟩) (fun hn => Run.bind (once_run hr (inI_le (by omega) (by omega))) ?_)) ?_
  · rintro ⟨b, r'⟩ g1
    exact Run.mk ⟨g1, fun _ e => hn (by simp [e])⟩
  rintro ⟨r', b⟩ ⟨g1, g2⟩
  simp only at g1 g2 ⊢
  refine Run.if (fun _ => Run.bind (value_run g1 hw) ?_) (fun hb => Run.bind (below_run g1 _) ?_)
  · rintro ⟨x, r2⟩ ⟨g3, gv, _⟩
    have e1 : 0 ≤ IntKind.u64.wrap w := by rcases hw with rfl | rfl | rfl | rfl <;> decide
    have e3 : IntKind.i64.wrap (1 * 2 ^ min (Int.toNat (IntKind.u64.wrap w)) (IntKind.bits .i64)) ≠ 0 := by rcases hw with rfl | rfl | rfl | rfl <;> decide
    refine Run.yes e1 (Run.yes e3 (Run.bind (put_run h g3 hk' _ ⟨.inr ⟨by simp, by simp⟩, by simp [inN, opsI], by simp, fr_const hw (by
      have ht := topW_in hw
      have m1 := tmod_lt (a := x) (n := 7) gv (by omega)
      have m2 := tmod_lt (a := Int.tmod x 7) (n := topW w + 1) m1.1 (by omega)
      rw [topW_pow hw]
      show 0 ≤ Int.tmod (Int.tmod x 7) (topW w + 1) ∧ Int.tmod (Int.tmod x 7) (topW w + 1) ≤ topW w
      omega)⟩) ?_))
    rintro ⟨x, g', r3⟩ ⟨g4, g5, g6, g7, g8⟩
    have g9 := g7 (by rcases hw with rfl | rfl | rfl | rfl <;> simp [spec_l2Width_m, spec_l1In_m])
    exact Run.mk ⟨g4, g5, g6, g9.1, g9.2, g8⟩
  · rintro ⟨x, r2⟩ ⟨g3, g4, _⟩
    have hne : fit ≠ [] := g2 (by simpa using hb)
    have hp : 0 < fit.length := List.length_pos_iff.2 hne
    simp only at g3 g4 ⊢
    generalize hz : (if decide (x ≥ (fit.length : Int)) = true then (fit.length : Int) - 1 else x) = z
    have hx : 0 ≤ z ∧ z < (fit.length : Int) := by
      subst hz
      split
      · omega
      · rename_i hx
        have hx : ¬ x ≥ (fit.length : Int) := by simpa using hx
        omega
    exact Run.yes hx (Run.mk ⟨h.mono (by omega), g3, Sm.refl _, (hfi _ (at_mem hx)).1, (hfi _ (at_mem hx)).2, Int.le_refl _⟩)
theorem sumz_snoc (bs : List GBlock) (b : GBlock) : sumz (bs ++ [b]) = sumz bs + sz b := by simp [sumz]
theorem close_run (h : okG k g) (hr : okRd gr) (hk : k ≤ KM) (t : GTerm) (ht : okT g.next t) : Run (spec_l2G_close_m g gr rets pars t) (fun y => okG (k + 1) y.1 ∧ okRd y.2 ∧ y.1.f.blocks = g.f.blocks ++ [⟨g.b.phis, g.b.insts, t⟩] ∧ y.1.f.params = g.f.params ∧ y.1.b.phis = [] ∧ y.1.next = g.next ∧ y.1.b.insts = []) := by
  have hL := LIM_eq
  obtain ⟨h1, h2, h3, h4, h5, h6, h7, h8, h9, h10, h11, h12, h13, h14, h15⟩ := h
  unfold KM at hk
  unfold spec_l2G_close_m
  refine Run.yes (by omega) (Run.mk ⟨?_, hr, rfl, rfl, rfl, rfl, rfl⟩)
  refine ⟨by simp only; omega, h2, by simp only; omega, by simp only; omega, by simp, by simp, by simp; omega, by simp only; omega, h9, h10, fun b hb => ?_, ⟨by simp, by simp⟩, fun b hb => ?_, h14, ?_⟩
  · rcases List.mem_append.1 hb with hb | hb
    · exact ⟨by have := (h11 b hb).1; omega, by have := (h11 b hb).2; omega⟩
    · simp only [List.mem_singleton] at hb
      subst hb
      exact ⟨by simp only; omega, by simp only; omega⟩
  · rcases List.mem_append.1 hb with hb | hb
    · exact h13 b hb
    · simp only [List.mem_singleton] at hb
      subst hb
      exact ⟨h12, by simpa using ht⟩
  · rw [sumz_snoc]
    simp only [sz, List.length_nil]
    omega
theorem phi_run (h : okG k g) (hr : okRd gr) (hk : k + 1 ≤ KM) (w : Int) (ins : List Int) (hi : inN g.next ins) (hi2 : ins.length ≤ 10) (hw : isW w) : Run (spec_l2G_phi_m g gr rets pars w ins) (fun y => okG (k + 2) y.2.1 ∧ okRd y.2.2 ∧ y.2.1.f = g.f ∧ y.2.1.b.phis = g.b.phis ++ [⟨w, ins⟩] ∧ 0 ≤ y.1 ∧ y.1 < y.2.1.next ∧ g.next ≤ y.2.1.next) := by
  have hL := LIM_eq
  obtain ⟨h1, h2, h3, h4, h5, h6, h7, h8, h9, h10, h11, h12, h13, h14, h15⟩ := h
  unfold KM at hk
  unfold spec_l2G_phi_m
  refine Run.yes (by omega) (Run.bind (add_run (k := k + 1) ?_ (by unfold KM; omega) _) ?_)
  · refine ⟨by simp only; omega, h2, by simp only; omega, by simp only; omega, by simp only; omega, by simp; omega, by simp only; omega, by simp only; omega, h9, h10, fun b hb => ⟨by have := (h11 b hb).1; omega, by have := (h11 b hb).2; omega⟩, ⟨fun p hp => ?_, (h12.mono (by simp only; omega)).is⟩, fun b hb => (h13 b hb).mono (by simp only; omega), h14, by simp; omega⟩
    rcases List.mem_append.1 hp with hp | hp
    · exact (h12.mono (by simp only; omega)).ps p hp
    · simp only [List.mem_singleton] at hp
      subst hp
      exact ⟨hi.mono (by simp only; omega), hi2, hw⟩
  · rintro ⟨x, g', r'⟩ ⟨g1, rfl, g3, g4, g5, g6⟩
    simp only at g5 g6
    exact Run.mk ⟨g1, hr, g3, by simp only at g4 ⊢; rw [g4], by simp only; omega, by simp only; omega, by simp only; omega⟩
theorem call_run (h : okG k g) (hr : okRd gr) (hp : okP rets pars) (hk : k + 30 ≤ KM) : Run (spec_l2G_call_m g gr rets pars) (fun y => okG (k + 30) y.1 ∧ okRd y.2 ∧ Sm g y.1 ∧ g.next ≤ y.1.next) := by
  have hL := LIM_eq
  have hl := hp.len
  have hs := hp.small
  unfold KM at hk
  unfold spec_l2G_call_m
  refine Run.if (fun _ => Run.mk ⟨h.mono (by omega), hr, Sm.refl _, Int.le_refl _⟩) (fun hn => Run.bind (below_run hr _) ?_)
  have hn : ¬ (rets.length : Int) = 0 := by simpa using hn
  rintro ⟨c, r1⟩ ⟨g1, g2, g3⟩
  have g3 := g3 (by omega)
  simp only at g1 g2 g3 ⊢
  have hc : 0 ≤ c ∧ c < (pars.length : Int) := by omega
  have hrow := hp.rows _ (at_mem hc)
  refine Run.bind (R := fun y => okG (k + 20) y.1 ∧ okRd y.2.1 ∧ Sm g y.1 ∧ y.2.2.length ≤ 4 ∧ g.next ≤ y.1.next ∧ inN y.1.next y.2.2) (Run.loop (fun s => okG (k + 2 * s.2.2.2.toNat) s.1 ∧ okRd s.2.1 ∧ Sm g s.1 ∧ 0 ≤ s.2.2.2 ∧ s.2.2.2 ≤ ((at_ pars c).length : Int) ∧ (s.2.2.1.length : Int) = s.2.2.2 ∧ g.next ≤ s.1.next ∧ inN s.1.next s.2.2.1) (fun s => ((at_ pars c).length - s.2.2.2).toNat) ⟨h, g1, Sm.refl _, Int.le_refl _, by simp only; omega, rfl, Int.le_refl _, by simp [inN]⟩ ?_) ?_
  · rintro ⟨ga, ra, l, i⟩ ⟨b1, b2, b3, b4, b5, b6, b7, b8⟩
    simp only at b1 b2 b3 b4 b5 b6 b7 b8 ⊢
    have hrl := hrow.1
    refine Run.yes hc (Run.if (fun hi => ?_) (fun hi => Run.out ⟨b1.mono (by omega), b2, b3, by simp only; omega, b7, b8⟩))
    have hi : i < ((at_ pars c).length : Int) := by simpa using hi
    refine Run.yes hc (Run.yes ⟨b4, hi⟩ (Run.bind (pick_run b1 b2 (by unfold KM; omega) (hrow.2 _ (at_mem ⟨b4, hi⟩))) ?_))
    rintro ⟨x, gb, rb⟩ ⟨c1, c2, c3, c4, c5, c6⟩
    simp only at c4 c5 c6
    refine Run.yes (by simp only [List.length_singleton]; omega) (Run.yes (inI_le (by omega) (by omega)) (Run.nx ⟨⟨c1.mono (by simp only; omega), c2, b3.trans c3, by simp only; omega, by simp only; omega, by simp; omega, by simp only; omega, fun z hz => ?_⟩, by simp only; omega⟩))
    rcases List.mem_append.1 hz with hz | hz
    · exact b8.mono c6 z hz
    · simp only [List.mem_singleton] at hz
      subst hz
      exact ⟨c4, c5⟩
  · rintro ⟨ga, ra, l⟩ ⟨b1, b2, b3, b4, b5, b6⟩
    simp only at b1 b2 b3 b4 b5 b6 ⊢
    refine Run.yes ⟨g2, g3⟩ (Run.bind (put_run b1 b2 (by unfold KM; omega) _ ⟨.inr ⟨by simp, by simp⟩, by simpa [opsI] using b6, Nat.le_trans b4 (by decide), fr_call (hp.rw_ _ (at_mem ⟨g2, g3⟩)) ⟨g2, by omega⟩ b4⟩) ?_)
    rintro ⟨x, gb, rb⟩ ⟨c1, c2, c3, c4, c5⟩
    exact Run.mk ⟨c1.mono (by omega), c2, b3.trans c3, (by (try simp only at *) <;> omega)⟩
theorem some_run (h : okG k g) (hr : okRd gr) (hp : okP rets pars) {n : Int} (hn : n ≤ 10) (hk : k + 400 ≤ KM) : Run (spec_l2G_some_m g gr rets pars n) (fun y => okG (k + 400) y.1 ∧ okRd y.2 ∧ Sm g y.1 ∧ g.next ≤ y.1.next) := by
  unfold KM at hk
  unfold spec_l2G_some_m
  refine Run.bind (R := fun (y : Gl2G × Gl1Rd) => okG (k + 400) y.1 ∧ okRd y.2 ∧ Sm g y.1 ∧ g.next ≤ y.1.next) (Run.loop (fun s => okG (k + 30 * s.2.2.toNat) s.1 ∧ okRd s.2.1 ∧ Sm g s.1 ∧ 0 ≤ s.2.2 ∧ s.2.2 ≤ 10 ∧ g.next ≤ s.1.next) (fun s => (10 - s.2.2).toNat) ⟨h, hr, Sm.refl _, by simp only; omega, by simp only; omega, Int.le_refl _⟩ ?_) (fun y hy => Run.mk hy)
  rintro ⟨ga, ra, i⟩ ⟨b1, b2, b3, b4, b5, b6⟩
  simp only at b1 b2 b3 b4 b5 b6 ⊢
  refine Run.if (fun hi => ?_) (fun hi => Run.out ⟨b1.mono (by omega), b2, b3, b6⟩)
  have hi : i < n := by simp only [Bool.and_eq_true, decide_eq_true_eq] at hi; exact hi.1
  refine Run.bind (width_run b2) ?_
  rintro ⟨w, r1⟩ ⟨c1, c2⟩
  refine Run.bind (below_run c1 14) ?_
  rintro ⟨x, r2⟩ ⟨d1, d2, d3⟩
  simp only at c1 c2 d1 d2 d3 ⊢
  have fin : ∀ {m : Nat} {ga' : Gl2G} {ra' : Gl1Rd}, okG m ga' → okRd ra' → Sm ga ga' → ga.next ≤ ga'.next → m ≤ k + 30 * i.toNat + 30 → Run (if inI (i + 1) then some (Sum.inl (ga', ra', i + 1) : (Gl2G × Gl1Rd × Int) ⊕ (Gl2G × Gl1Rd)) else none)
      (LoopQ (fun s => okG (k + 30 * s.2.2.toNat) s.1 ∧ okRd s.2.1 ∧ Sm g s.1 ∧ 0 ≤ s.2.2 ∧ s.2.2 ≤ 10 ∧ g.next ≤ s.1.next) (fun s => (10 - s.2.2).toNat) ((10 - i).toNat) (fun r => okG (k + 400) r.1 ∧ okRd r.2 ∧ Sm g r.1 ∧ g.next ≤ r.1.next)) := fun k1 k2 k3 k5 k4 =>
    Run.yes (inI_le (by omega) (by omega)) (Run.nx ⟨⟨k1.mono (by simp only; omega), k2, b3.trans k3, by simp only; omega, by simp only; omega, by simp only; omega⟩, by simp only; omega⟩)
  refine Run.if (fun _ => ?_) (fun _ => Run.if (fun _ => ?_) (fun _ => Run.if (fun _ => ?_) (fun _ => Run.if (fun _ => ?_) (fun _ => Run.if (fun _ => ?_) (fun _ => Run.if (fun _ => ?_) (fun _ => Run.if (fun _ => ?_) (fun _ => Run.if (fun _ => ?_) (fun _ => Run.if (fun _ => ?_) (fun _ => ?_)))))))))
  · refine Run.bind (value_run d1 c2) ?_
    rintro ⟨v, r3⟩ ⟨e1, e2⟩
    refine Run.bind (put_run b1 e1 (by unfold KM; omega) _ ⟨.inr ⟨by simp, by simp⟩, by intro z hz; simp [opsI] at hz <;> (try simp only at *) <;> omega, by simp, fr_const c2 e2⟩) ?_
    rintro ⟨y, g4, r4⟩ ⟨f1, f2, f3, f4, f5⟩
    exact fin f1 f2 f3 (by (try simp only at *) <;> omega) (by omega)
  · refine Run.bind (pick_run b1 d1 (by unfold KM; omega) (.inl rfl)) ?_
    rintro ⟨y, g3, r3⟩ ⟨e1, e2, e3, e4, e5, e6⟩
    refine Run.bind (pick_run e1 e2 (by unfold KM; omega) c2) ?_
    rintro ⟨y, g4, r4⟩ ⟨f1, f2, f3, f4, f5, f6⟩
    refine Run.bind (pick_run f1 f2 (by unfold KM; omega) c2) ?_
    rintro ⟨y, g5, r5⟩ ⟨a1, a2, a3, a4, a5, a6⟩
    refine Run.bind (put_run a1 a2 (by unfold KM; omega) _ ⟨.inr ⟨by simp, by simp⟩, by intro z hz; simp [opsI] at hz <;> (try simp only at *) <;> omega, by simp, fr_select c2⟩) ?_
    rintro ⟨y, g6, r6⟩ ⟨q1, q2, q3, q4, q5⟩
    exact fin q1 q2 (((e3.trans f3).trans a3).trans q3) (by (try simp only at *) <;> omega) (by omega)
  · refine Run.bind (pick_run b1 d1 (by unfold KM; omega) (.inr (.inl rfl))) ?_
    rintro ⟨y, g3, r3⟩ ⟨e1, e2, e3, e4, e5, e6⟩
    refine Run.bind (R := fun y => okG (k + 30 * i.toNat + 2 + 2) y.1 ∧ okRd y.2 ∧ Sm ga y.1 ∧ ga.next ≤ y.1.next) (Run.bind (below_run e2 2) ?_) ?_
    · rintro ⟨y1, r4⟩ ⟨f1, f2, f3⟩
      have f3 := f3 (by omega)
      refine Run.yes ⟨f2, by simpa using f3⟩ (Run.bind (below_run f1 2) ?_)
      rintro ⟨y2, r5⟩ ⟨a1, a2, a3⟩
      have a3 := a3 (by omega)
      refine Run.yes ⟨a2, by simpa using a3⟩ (Run.bind (put_run e1 a1 (by unfold KM; omega) _ ⟨.inr (by have : y1 = 0 ∨ y1 = 1 := (by simp only at f2 f3; omega); rcases this with rfl | rfl <;> simp [at_]), by have : y1 = 0 ∨ y1 = 1 := (by simp only at f2 f3; omega); rcases this with rfl | rfl <;> (intro z hz; simp [opsI, at_] at hz <;> (try simp only at *) <;> omega), by simp, fr_cast (by have : y2 = 0 ∨ y2 = 1 := (by simp only at a2 a3; omega); rcases this with rfl | rfl <;> simp [at_, isW]) (by have : y1 = 0 ∨ y1 = 1 := (by simp only at f2 f3; omega); rcases this with rfl | rfl <;> simp [at_])⟩) ?_)
      rintro ⟨y3, g6, r6⟩ ⟨q1, q2, q3, q4, q5⟩
      exact Run.mk ⟨q1, q2, e3.trans q3, (by (try simp only at *) <;> omega)⟩
    · rintro ⟨g7, r7⟩ ⟨q1, q2, q3, q4⟩
      exact fin q1 q2 q3 (by (try simp only at *) <;> omega) (by omega)
  · refine Run.bind (pick_run b1 d1 (by unfold KM; omega) (.inr (.inr (.inr rfl)))) ?_
    rintro ⟨y, g3, r3⟩ ⟨e1, e2, e3, e4, e5, e6⟩
    refine Run.bind (below_run e2 3) ?_
    rintro ⟨y1, r4⟩ ⟨f1, f2, f3⟩
    have f3 := f3 (by omega)
    refine Run.yes ⟨f2, by simpa using f3⟩ (Run.bind (put_run e1 f1 (by unfold KM; omega) _ ⟨.inr ⟨by simp, by simp⟩, by intro z hz; simp [opsI] at hz <;> (try simp only at *) <;> omega, by simp, fr_cast (by have : y1 = 0 ∨ y1 = 1 ∨ y1 = 2 := (by simp only at f2 f3; omega); rcases this with rfl | rfl | rfl <;> simp [at_, isW]) (by decide)⟩) ?_)
    rintro ⟨y3, g6, r6⟩ ⟨q1, q2, q3, q4, q5⟩
    exact fin q1 q2 (e3.trans q3) (by (try simp only at *) <;> omega) (by omega)
  · refine Run.bind (below_run d1 34) ?_
    rintro ⟨y1, r4⟩ ⟨f1, f2, f3⟩
    refine Run.bind (put_run b1 f1 (by unfold KM; omega) _ ⟨.inr ⟨by simp, by simp⟩, by intro z hz; simp [opsI] at hz <;> (try simp only at *) <;> omega, by simp, fr_const (.inr (.inr (.inr rfl))) ⟨f2, by have := f3 (by omega); simp only at this; simp [topW]; omega⟩⟩) ?_
    rintro ⟨y3, g6, r6⟩ ⟨q1, q2, q3, q4, q5⟩
    have q4 := q4 (by simp [spec_l2Width_m, spec_l1In_m, spec_ResultWidth_m, spec_WidthOk_m])
    refine Run.bind (put_run q1 q2 (by unfold KM; omega) _ ⟨.inr ⟨by simp, by simp⟩, by intro z hz; simp [opsI] at hz <;> (try simp only at *) <;> omega, by simp, fr_load⟩) ?_
    rintro ⟨y4, g7, r7⟩ ⟨e1, e2, e3, e4, e5⟩
    exact fin e1 e2 (q3.trans e3) (by (try simp only at *) <;> omega) (by omega)
  · refine Run.bind (below_run d1 33) ?_
    rintro ⟨y1, r4⟩ ⟨f1, f2, f3⟩
    refine Run.bind (put_run b1 f1 (by unfold KM; omega) _ ⟨.inr ⟨by simp, by simp⟩, by intro z hz; simp [opsI] at hz <;> (try simp only at *) <;> omega, by simp, fr_const (.inr (.inr (.inr rfl))) ⟨f2, by have := f3 (by omega); simp only at this; simp [topW]; omega⟩⟩) ?_
    rintro ⟨y3, g6, r6⟩ ⟨q1, q2, q3, q4, q5⟩
    have q4 := q4 (by simp [spec_l2Width_m, spec_l1In_m, spec_ResultWidth_m, spec_WidthOk_m])
    refine Run.bind (pick_run q1 q2 (by unfold KM; omega) (.inr (.inl rfl))) ?_
    rintro ⟨y5, g8, r8⟩ ⟨a1, a2, a3, a4, a5, a6⟩
    refine Run.bind (put_run a1 a2 (by unfold KM; omega) _ ⟨.inl rfl, by intro z hz; simp [opsI] at hz <;> (try simp only at *) <;> omega, by simp, fr_store⟩) ?_
    rintro ⟨y4, g7, r7⟩ ⟨e1, e2, e3, e4, e5⟩
    exact fin e1 e2 ((q3.trans a3).trans e3) (by (try simp only at *) <;> omega) (by omega)
  · refine Run.bind (pick_run b1 d1 (by unfold KM; omega) c2) ?_
    rintro ⟨y, g3, r3⟩ ⟨e1, e2, e3, e4, e5, e6⟩
    refine Run.bind (put_run e1 e2 (by unfold KM; omega) _ ⟨.inl rfl, by intro z hz; simp [opsI] at hz <;> (try simp only at *) <;> omega, by simp, fr_print⟩) ?_
    rintro ⟨y3, g6, r6⟩ ⟨q1, q2, q3, q4, q5⟩
    exact fin q1 q2 (e3.trans q3) (by (try simp only at *) <;> omega) (by omega)
  · refine Run.bind (pick_run b1 d1 (by unfold KM; omega) c2) ?_
    rintro ⟨y, g3, r3⟩ ⟨e1, e2, e3, e4, e5, e6⟩
    refine Run.bind (put_run e1 e2 (by unfold KM; omega) _ ⟨.inr ⟨by simp, by simp⟩, by intro z hz; simp [opsI] at hz <;> (try simp only at *) <;> omega, by simp, fr_copy c2⟩) ?_
    rintro ⟨y3, g6, r6⟩ ⟨q1, q2, q3, q4, q5⟩
    exact fin q1 q2 (e3.trans q3) (by (try simp only at *) <;> omega) (by omega)
  · refine Run.bind (call_run b1 d1 hp (by unfold KM; omega)) ?_
    rintro ⟨g6, r6⟩ ⟨q1, q2, q3, q4⟩
    exact fin q1 q2 q3 (by (try simp only at *) <;> omega) (by omega)
  · refine Run.bind (pick_run b1 d1 (by unfold KM; omega) c2) ?_
    rintro ⟨y, g3, r3⟩ ⟨e1, e2, e3, e4, e5, e6⟩
    refine Run.bind (pick_run e1 e2 (by unfold KM; omega) c2) ?_
    rintro ⟨y, g4, r4⟩ ⟨f1, f2, f3, f4, f5, f6⟩
    refine Run.bind (below_run f2 17) ?_
    rintro ⟨y1, r5⟩ ⟨a1, a2, a3⟩
    have a3 := a3 (by omega)
    simp only at a1 a2 a3 ⊢
    refine Run.yes (inI_le (by omega) (by omega)) (Run.bind (put_run f1 a1 (by unfold KM; omega) _ ⟨.inr ⟨by simp only; omega, by simp only; omega⟩, by intro z hz; simp only [opsI] at hz; rw [if_pos (.inl ⟨by omega, by omega⟩)] at hz; simp at hz; (try simp only at *); omega, by simp, fr_bin c2 ⟨by omega, by omega⟩⟩) ?_)
    rintro ⟨y3, g6, r6⟩ ⟨q1, q2, q3, q4, q5⟩
    exact fin q1 q2 ((e3.trans f3).trans q3) (by (try simp only at *) <;> omega) (by omega)
theorem tgt_snoc {g' : Gl2G} {b : GBlock} (e : g'.f.blocks = g.f.blocks ++ [b]) (hg : tgt g) (hb : okX (g.f.blocks.length : Int) b.term) : ∀ x ∈ g'.f.blocks, okX ((g'.f.blocks.length : Int) - 1) x.term := by
  intro x hx
  have el : ((g'.f.blocks.length : Int) - 1) = (g.f.blocks.length : Int) := by rw [e]; simp
  rw [el]
  rw [e] at hx
  rcases List.mem_append.1 hx with hx | hx
  · exact hg x hx
  · simp only [List.mem_singleton] at hx
    subst hx
    exact hb
theorem tgt_three {g' : Gl2G} {a b c : GBlock} (e : g'.f.blocks = ((g.f.blocks ++ [a]) ++ [b]) ++ [c]) (hg : tgt g) (ha : okX ((g.f.blocks.length : Int) + 3) a.term) (hb : okX ((g.f.blocks.length : Int) + 3) b.term) (hc : okX ((g.f.blocks.length : Int) + 3) c.term) : tgt g' := by
  intro x hx
  have el : (g'.f.blocks.length : Int) = (g.f.blocks.length : Int) + 3 := by rw [e]; simp
  rw [el]
  rw [e] at hx
  simp only [List.mem_append, List.mem_singleton] at hx
  rcases hx with ((hx | rfl) | rfl) | rfl
  · exact (hg x hx).mono (by omega)
  · exact ha
  · exact hb
  · exact hc
theorem ends_run (h : okG k g) (hr : okRd gr) (hk : k + 10 ≤ KM) : Run (spec_l2G_ends_m g gr rets pars) (fun y => okG (k + 10) y.1 ∧ okRd y.2 ∧ y.1.f.params = g.f.params ∧ 0 < y.1.f.blocks.length ∧ y.1.b.phis = [] ∧ y.1.b.insts = [] ∧ (tgt g → ∀ b ∈ y.1.f.blocks, okX ((y.1.f.blocks.length : Int) - 1) b.term)) := by
  unfold KM at hk
  unfold spec_l2G_ends_m
  refine Run.bind (once_run hr (inI_le (by omega) (by omega))) ?_
  rintro ⟨b, r1⟩ e1
  refine Run.if (fun _ => Run.bind (close_run h e1 (by unfold KM; omega) _ ⟨by intro ht; simp at ht, .inr (.inr (.inr ⟨rfl, rfl, rfl, rfl⟩))⟩) ?_) (fun _ => Run.bind (pick_run h e1 (by unfold KM; omega) h.ret) ?_)
  · rintro ⟨g2, r2⟩ ⟨a1, a2, a5, a4, a6, a7, a8⟩
    exact Run.mk ⟨a1.mono (by omega), a2, a4, by simp only at a5 ⊢; rw [a5]; simp, a6, a8, fun hg => tgt_snoc a5 hg (by constructor <;> simp)⟩
  · rintro ⟨y, g2, r2⟩ ⟨a1, a2, a3, a4, a5, a6⟩
    refine Run.bind (close_run a1 a2 (by unfold KM; omega) _ ⟨fun _ => ⟨a4, a5⟩, .inl ⟨rfl, rfl, rfl⟩⟩) ?_
    rintro ⟨g3, r3⟩ ⟨b1, b2, b5, b4, b6, b7, b8⟩
    exact Run.mk ⟨b1.mono (by omega), b2, b4.trans (congrArg GFunc.params a3.1), by simp only at b5 ⊢; rw [b5]; simp, b6, b8, fun hg => tgt_snoc (by rw [b5, a3.1]) hg (by constructor <;> simp)⟩
theorem okG.put {ids ws : List Int} {k' : Nat} {g' : Gl2G} (h : okG k g) (h' : okG k' g') (hk : k ≤ k') (hn : g.next ≤ g'.next) : okG k' ({ f := g'.f, b := g'.b, next := g'.next, ids := g.ids, ws := g.ws } : Gl2G) :=
  ⟨Nat.le_trans h.ids hk, h.ws, h'.n0, h'.n1, h'.insts, h'.phis, h'.blocks, h'.params, h'.pw, h'.ret, h'.rows, h'.cur, h'.okbs, h.idsIn.mono hn, h'.nx⟩
theorem fork_run (h : okG k g) (hr : okRd gr) (hp : okP rets pars) (hk : k + 1000 ≤ KM) : Run (spec_l2G_fork_m g gr rets pars) (fun y => okG (k + 1000) y.1 ∧ okRd y.2 ∧ y.1.f.params = g.f.params ∧ g.next ≤ y.1.next ∧ (tgt g → tgt y.1)) := by
  unfold KM at hk
  unfold spec_l2G_fork_m
  refine Run.bind (pick_run h hr (by unfold KM; omega) (.inl rfl)) ?_
  rintro ⟨c, g1, r1⟩ ⟨a1, a2, a3, a4, a5, a6⟩
  refine Run.bind (close_run a1 a2 (by unfold KM; omega) _ ⟨fun _ => ⟨a4, a5⟩, .inr (.inr (.inl rfl))⟩) ?_
  rintro ⟨g2, r2⟩ ⟨b1, b2, b3, b4, _, b6, _⟩
  refine Run.bind (below_run b2 3) ?_
  rintro ⟨n1, r3⟩ ⟨c1, c2, c3⟩
  have c3 := c3 (by omega)
  refine Run.bind (some_run b1 c1 hp (by simp only at c3 ⊢; omega) (by unfold KM; omega)) ?_
  rintro ⟨g4, r4⟩ ⟨d1, d2, d3, d4⟩
  refine Run.bind (width_run d2) ?_
  rintro ⟨w, r5⟩ ⟨e1, e2⟩
  refine Run.bind (pick_run d1 e1 (by unfold KM; omega) e2) ?_
  rintro ⟨x6, g6, r6⟩ ⟨f1, f2, f3, f4, f5, f6⟩
  refine Run.bind (pick_run f1 f2 (by unfold KM; omega) (.inr (.inl rfl))) ?_
  rintro ⟨x7, g7, r7⟩ ⟨p1, p2, p3, p4, p5, p6⟩
  refine Run.bind (close_run p1 p2 (by unfold KM; omega) _ ⟨by intro ht; simp at ht, .inr (.inl ⟨rfl, rfl, rfl⟩)⟩) ?_
  rintro ⟨g8, r8⟩ ⟨q1, q2, q3, q4, _, q6, _⟩
  refine Run.bind (below_run q2 3) ?_
  rintro ⟨n2, r9⟩ ⟨s1, s2, s3⟩
  have s3 := s3 (by omega)
  refine Run.bind (some_run (b1.put (ids := []) (ws := []) q1 (by omega) (by (try simp only at *) <;> omega)) s1 hp (by simp only at s3 ⊢; omega) (by unfold KM; omega)) ?_
  rintro ⟨g10, r10⟩ ⟨t1, t2, t3, t4⟩
  refine Run.bind (pick_run t1 t2 (by unfold KM; omega) e2) ?_
  rintro ⟨x11, g11, r11⟩ ⟨u1, u2, u3, u4, u5, u6⟩
  refine Run.bind (pick_run u1 u2 (by unfold KM; omega) (.inr (.inl rfl))) ?_
  rintro ⟨x12, g12, r12⟩ ⟨v1, v2, v3, v4, v5, v6⟩
  refine Run.bind (close_run v1 v2 (by unfold KM; omega) _ ⟨by intro ht; simp at ht, .inr (.inl ⟨rfl, rfl, rfl⟩)⟩) ?_
  rintro ⟨g13, r13⟩ ⟨w1, w2, w3, w4, _, w6, _⟩
  refine Run.bind (phi_run (b1.put (ids := []) (ws := []) w1 (by omega) (by (try simp only at *) <;> omega)) w2 (by unfold KM; omega) _ _ (by intro z hz; simp at hz; (try simp only at *) <;> omega) (by simp) e2) ?_
  rintro ⟨x14, g14, r14⟩ ⟨y1, y2, y3, y4, y5, y6, y7⟩
  refine Run.bind (phi_run y1 y2 (by unfold KM; omega) _ _ (by intro z hz; simp at hz; (try simp only at *) <;> omega) (by simp) (.inr (.inl rfl))) ?_
  rintro ⟨x15, g15, r15⟩ ⟨z1, z2, z3, z4, z5, z6, z7⟩
  refine Run.mk ⟨z1.mono (by omega), z2, ?_, (by (try simp only at *) <;> omega), ?_⟩
  rotate_left
  · intro hg
    simp only at b3 q3 w3 z3 y3
    refine tgt_three (g := g) (by rw [z3, y3, w3, v3.1, u3.1, t3.1, q3, p3.1, f3.1, d3.1, b3, a3.1]) hg ?_ ?_ ?_
    · constructor <;> simp <;> omega
    · constructor <;> simp <;> omega
    · constructor <;> simp <;> omega
  have e1 := congrArg GFunc.params a3.1
  have e2 := congrArg GFunc.params d3.1
  have e3 := congrArg GFunc.params f3.1
  have e4' := congrArg GFunc.params p3.1
  have e5' := congrArg GFunc.params t3.1
  have e6' := congrArg GFunc.params u3.1
  have e7 := congrArg GFunc.params v3.1
  have e8 := congrArg GFunc.params y3
  have e9 := congrArg GFunc.params z3
  simp only at e1 e2 e3 e4' e5' e6' e7 e8 e9 b4 q4 w4 ⊢
  rw [e9, e8, w4, e7, e6', e5', q4, e4', e3, e2, b4, e1]
theorem at_mid (l : List GBlock) (a b c : GBlock) : at_ (((l ++ [a]) ++ [b]) ++ [c]) ((l.length : Int) + 1) = b := by
  have e : ((l.length : Int) + 1) = ((l.length + 1 : Nat) : Int) := by omega
  rw [e, at_nat (by simp)]
  simp [List.getElem_append]
theorem at_set_self {α : Type} [Inhabited α] {xs : List α} {n : Int} (h : 0 ≤ n ∧ n < (xs.length : Int)) (x : α) : at_ (xs.set n.toNat x) n = x := by
  obtain ⟨m, rfl⟩ := Int.eq_ofNat_of_zero_le h.1
  rw [at_nat (by simp; omega)]
  simp
theorem sumz_set {bs : List GBlock} {n : Int} (h : 0 ≤ n ∧ n < (bs.length : Int)) {x : GBlock} (hx : sz x = sz (at_ bs n)) : sumz (bs.set n.toNat x) = sumz bs := by
  obtain ⟨m, rfl⟩ := Int.eq_ofNat_of_zero_le h.1
  have hm : m < bs.length := by omega
  rw [at_nat hm] at hx
  simp only [Int.toNat_natCast, sumz]
  clear h
  induction bs generalizing m with
  | nil => simp at hm
  | cons b bs ih =>
    cases m with
    | zero => simp at hx; simp [hx]
    | succ m =>
      simp only [List.set_cons_succ, List.map_cons, List.sum_cons]
      rw [ih m (by simpa using hm) (by simpa using hx)]
theorem loop_run (h : okG k g) (hr : okRd gr) (hp : okP rets pars) (hk : k + 1000 ≤ KM) : Run (spec_l2G_loop_m g gr rets pars) (fun y => okG (k + 1000) y.1 ∧ okRd y.2 ∧ y.1.f.params = g.f.params ∧ g.next ≤ y.1.next ∧ (tgt g → tgt y.1)) := by
  unfold KM at hk
  unfold spec_l2G_loop_m
  refine Run.bind (below_run hr 5) ?_
  rintro ⟨x1, r1⟩ ⟨a1, av, av2⟩
  have av2 := av2 (by omega)
  refine Run.bind (put_run h a1 (by unfold KM; omega) _ ⟨.inr ⟨by simp, by simp⟩, by intro z hz; simp [opsI] at hz <;> (try simp only at *) <;> omega, by simp, fr_const (.inr (.inl rfl)) ⟨av, by simp only at av2; simp [topW]; omega⟩⟩) ?_
  rintro ⟨x2, g2, r2⟩ ⟨b1, b2, b3, b4, b5⟩
  have b4 := b4 (by simp [spec_l2Width_m, spec_l1In_m, spec_ResultWidth_m, spec_WidthOk_m])
  refine Run.bind (width_run b2) ?_
  rintro ⟨w, r3⟩ ⟨c1, c2⟩
  refine Run.bind (pick_run b1 c1 (by unfold KM; omega) c2) ?_
  rintro ⟨x4, g4, r4⟩ ⟨d1, d2, d3, d4, d5, d6⟩
  refine Run.bind (close_run d1 d2 (by unfold KM; omega) _ ⟨by intro ht; simp at ht, .inr (.inl ⟨rfl, rfl, rfl⟩)⟩) ?_
  rintro ⟨g5, r5⟩ ⟨e1, e2, e3, e4, e5, e6, _⟩
  refine Run.bind (phi_run e1 e2 (by unfold KM; omega) _ _ (by intro z hz; simp at hz; (try simp only at *) <;> omega) (by simp) (.inr (.inl rfl))) ?_
  rintro ⟨x6, g6, r6⟩ ⟨f1, f2, f3, f4, f5, f6, f7⟩
  refine Run.bind (phi_run f1 f2 (by unfold KM; omega) _ _ (by intro z hz; simp at hz; (try simp only at *) <;> omega) (by simp) c2) ?_
  rintro ⟨x7, g7, r7⟩ ⟨p1, p2, p3, p4, p5, p6, p7⟩
  refine Run.bind (put_run p1 p2 (by unfold KM; omega) _ ⟨.inr ⟨by simp, by simp⟩, by intro z hz; simp [opsI] at hz <;> (try simp only at *) <;> omega, by simp, fr_const (.inr (.inl rfl)) (by decide)⟩) ?_
  rintro ⟨x8, g8, r8⟩ ⟨q1, q2, q3, q4, q5⟩
  have q4 := q4 (by simp [spec_l2Width_m, spec_l1In_m, spec_ResultWidth_m, spec_WidthOk_m])
  refine Run.bind (put_run q1 q2 (by unfold KM; omega) _ ⟨.inr ⟨by simp, by simp⟩, by intro z hz; simp [opsI] at hz <;> (try simp only at *) <;> omega, by simp, fr_bin (.inr (.inl rfl)) (by decide)⟩) ?_
  rintro ⟨x9, g9, r9⟩ ⟨s1, s2, s3, s4, s5⟩
  have s4 := s4 (by simp [spec_l2Width_m, spec_l1In_m, spec_ResultWidth_m, spec_WidthOk_m])
  refine Run.bind (close_run s1 s2 (by unfold KM; omega) _ ⟨fun _ => s4, .inr (.inr (.inl rfl))⟩) ?_
  rintro ⟨g10, r10⟩ ⟨t1, t2, t3, t4, t5, t6, _⟩
  refine Run.bind (put_run t1 t2 (by unfold KM; omega) _ ⟨.inr ⟨by simp, by simp⟩, by intro z hz; simp [opsI] at hz <;> (try simp only at *) <;> omega, by simp, fr_const (.inr (.inl rfl)) (by decide)⟩) ?_
  rintro ⟨x11, g11, r11⟩ ⟨u1, u2, u3, u4, u5⟩
  have u4 := u4 (by simp [spec_l2Width_m, spec_l1In_m, spec_ResultWidth_m, spec_WidthOk_m])
  refine Run.bind (put_run u1 u2 (by unfold KM; omega) _ ⟨.inr ⟨by simp, by simp⟩, by intro z hz; simp [opsI] at hz <;> (try simp only at *) <;> omega, by simp, fr_bin (.inr (.inl rfl)) (by decide)⟩) ?_
  rintro ⟨x12, g12, r12⟩ ⟨v1, v2, v3, v4, v5⟩
  have v4 := v4 (by simp [spec_l2Width_m, spec_l1In_m, spec_ResultWidth_m, spec_WidthOk_m])
  refine Run.bind (below_run v2 3) ?_
  rintro ⟨n13, r13⟩ ⟨w1, w2, w3⟩
  have w3 := w3 (by omega)
  refine Run.bind (some_run v1 w1 hp (by simp only at w3 ⊢; omega) (by unfold KM; omega)) ?_
  rintro ⟨g14, r14⟩ ⟨y1, y2, y3, y4⟩
  refine Run.bind (pick_run y1 y2 (by unfold KM; omega) c2) ?_
  rintro ⟨x15, g15, r15⟩ ⟨z1, z2, z3, z4, z5, z6⟩
  refine Run.bind (R := fun (y : Gl2G × Gl1Rd × Int) => okG (k + 500) y.1 ∧ okRd y.2.1 ∧ Sm g15 y.1 ∧ 0 ≤ y.2.2 ∧ y.2.2 < y.1.next ∧ g15.next ≤ y.1.next) (Run.if (fun _ => Run.bind (put_run z1 z2 (by unfold KM; omega) _ ⟨.inr ⟨by simp, by simp⟩, by intro z hz; simp [opsI] at hz <;> (try simp only at *) <;> omega, by simp, fr_bin c2 (by decide)⟩) ?_) (fun _ => Run.mk ⟨z1.mono (by omega), z2, Sm.refl _, z4, z5, Int.le_refl _⟩)) ?_
  · rintro ⟨x16, g16, r16⟩ ⟨j1, j2, j3, j4, j5⟩
    have j4 := j4 (by rcases c2 with h | h | h | h <;> simp only at h <;> simp [h, spec_l2Width_m, spec_l1In_m, spec_ResultWidth_m, spec_WidthOk_m])
    exact Run.mk ⟨j1.mono (by omega), j2, j3, j4.1, j4.2, j5⟩
  rintro ⟨g16, r16, x16⟩ ⟨j1, j2, j3, j4, j5, j6⟩
  refine Run.bind (close_run j1 j2 (by unfold KM; omega) _ ⟨by intro ht; simp at ht, .inr (.inl ⟨rfl, rfl, rfl⟩)⟩) ?_
  rintro ⟨g17, r17⟩ ⟨k1, k2, k3, k4, k5, k6, _⟩
  simp only at *
  have hb10 : g10.f.blocks = (g.f.blocks ++ [⟨g4.b.phis, g4.b.insts, { kind := 2, a := 0, x := (g.f.blocks.length : Int) + 1, y := 0 }⟩]) ++ [⟨[⟨8, [x2, 0]⟩, ⟨w, [x4, 0]⟩], g9.b.insts, { kind := 3, a := x9, x := (g.f.blocks.length : Int) + 2, y := (g.f.blocks.length : Int) + 3 }⟩] := by
    rw [t3, s3.1, q3.1, p3, f3, e3, d3.1, b3.1, s3.2, q3.2, p4, f4, e5]
    rfl
  have hb17 : g17.f.blocks = (((g.f.blocks ++ [⟨g4.b.phis, g4.b.insts, { kind := 2, a := 0, x := (g.f.blocks.length : Int) + 1, y := 0 }⟩]) ++ [⟨[⟨8, [x2, 0]⟩, ⟨w, [x4, 0]⟩], g9.b.insts, { kind := 3, a := x9, x := (g.f.blocks.length : Int) + 2, y := (g.f.blocks.length : Int) + 3 }⟩]) ++ [⟨g16.b.phis, g16.b.insts, { kind := 2, a := 0, x := (g.f.blocks.length : Int) + 1, y := 0 }⟩]) := by
    rw [k3, j3.1, z3.1, y3.1, v3.1, u3.1, hb10]
  have hat : at_ g17.f.blocks ((g.f.blocks.length : Int) + 1) = ⟨[⟨8, [x2, 0]⟩, ⟨w, [x4, 0]⟩], g9.b.insts, { kind := 3, a := x9, x := (g.f.blocks.length : Int) + 2, y := (g.f.blocks.length : Int) + 3 }⟩ := by rw [hb17]; exact at_mid _ _ _ _
  have hlt : 0 ≤ (g.f.blocks.length : Int) + 1 ∧ (g.f.blocks.length : Int) + 1 < (g17.f.blocks.length : Int) := by rw [hb17]; simp; omega
  have hpar : g17.f.params = g.f.params := by
    rw [k4, j3.1, z3.1, y3.1, v3.1, u3.1, t4, s3.1, q3.1, p3, f3, e4, d3.1, b3.1]
  have hi9 := s1.insts
  have hid := t1.ids
  have hws := t1.ws
  have hidn := t1.idsIn
  obtain ⟨h1, h2, h3, h4, h5, h6, h7, h8, h9, h10, h11, h12, h13, h14, h15⟩ := k1
  have hold := h13 _ (at_mem hlt)
  have hw8 : isW 8 := .inr (.inl rfl)
  rw [hat] at hold
  simp only [hat]
  refine Run.yes hlt (Run.yes (by simp) (Run.yes (by simp [at_]) (Run.yes (by simpa using hlt) ?_)))
  simp only [at_set_self hlt]
  refine Run.yes (by simp) (Run.yes (by simp [at_]) (Run.mk ⟨?_, k2, ?_, ?_, ?_⟩))
  rotate_left
  · exact hpar
  · simp only
    omega
  · intro hg
    have h17 : tgt g17 := by
      refine tgt_three (g := g) hb17 hg ?_ ?_ ?_
      · constructor <;> simp <;> omega
      · constructor <;> simp <;> omega
      · constructor <;> simp <;> omega
    have hx := h17 _ (at_mem hlt)
    rw [hat] at hx
    intro b hb
    simp only [List.length_set] at hb ⊢
    rcases List.mem_or_eq_of_mem_set hb with hb | rfl
    · rcases List.mem_or_eq_of_mem_set hb with hb | rfl
      · exact h17 b hb
      · exact hx
    · exact hx
  refine ⟨by simp only; omega, hws, by simp only; omega, by simp only; omega, by simp only; omega, by simp only; omega, by simp; omega, by simp only; omega, h9, h10, fun b hb => ?_, h12, fun b hb => ?_, hidn.mono (by simp only; omega), ?_⟩
  · rcases List.mem_or_eq_of_mem_set hb with hb | rfl
    · rcases List.mem_or_eq_of_mem_set hb with hb | rfl
      · exact ⟨by have := (h11 b hb).1; omega, by have := (h11 b hb).2; omega⟩
      · exact ⟨by simp, by simp only; omega⟩
    · exact ⟨by simp, by simp only; omega⟩
  · rcases List.mem_or_eq_of_mem_set hb with hb | rfl
    · rcases List.mem_or_eq_of_mem_set hb with hb | rfl
      · exact h13 b hb
      · refine ⟨⟨?_, hold.1.is⟩, hold.2⟩
        simp [okPn, inN, at_, c2, hw8]
        omega
    · refine ⟨⟨?_, hold.1.is⟩, hold.2⟩
      simp [okPn, inN, at_, c2, hw8]
      omega
  · rw [List.set_set, sumz_set hlt (by rw [hat]; simp [sz])]
    exact h15
end
/-- A drawn function is small. -/
structure okFn (f : GFunc) : Prop where
  okbs : ∀ b ∈ f.blocks, okBl (cnt f) b
  params : f.params.length ≤ 4
  pw : ∀ w ∈ f.params, isW w
  ret : isW f.ret
  blocks : f.blocks.length ≤ 100000
  ne : 0 < f.blocks.length
  rows : ∀ b ∈ f.blocks, b.phis.length ≤ 100000 ∧ b.insts.length ≤ 100000
  tg : ∀ b ∈ f.blocks, okX ((f.blocks.length : Int) - 1) b.term
theorem tgt_f {g g' : Gl2G} (e : g'.f = g.f) (h : tgt g) : tgt g' := by
  unfold tgt
  rw [e]
  exact h
theorem fn_run {r : Gl1Rd} {rets : List Int} {pars : List (List Int)} (hr : okRd r) (hp : okP rets pars) : Run (spec_l1Rd_fn_m r rets pars) (fun y => okFn y.1 ∧ okRd y.2) := by
  have hL := LIM_eq
  unfold spec_l1Rd_fn_m
  refine Run.bind (width_run hr) ?_
  rintro ⟨w, r1⟩ ⟨a1, a2⟩
  refine Run.bind (below_run a1 3) ?_
  rintro ⟨n, r2⟩ ⟨b1, b2, b3⟩
  have b3 := b3 (by omega)
  simp only at a1 a2 b1 b2 b3 ⊢
  refine Run.bind (R := fun y => okRd y.1 ∧ okG 4 y.2 ∧ y.2.f.blocks = []) (Run.loop (fun s => okRd s.1 ∧ okG (2 * (n - s.2.2).toNat) s.2.1 ∧ 0 ≤ s.2.2 ∧ s.2.2 ≤ n ∧ s.2.1.f.blocks = []) (fun s => s.2.2.toNat) ⟨b1, ?_, b2, Int.le_refl _, rfl⟩ ?_) ?_
  · exact ⟨by simp, rfl, Int.le_refl _, by simp only; omega, by simp, by simp, by simp, by simp, by simp, a2, by simp, ⟨by simp, by simp⟩, by simp, by simp [inN], by simp [sumz]⟩
  · rintro ⟨ra, ga, i⟩ ⟨c1, c2, c3, c4, c5⟩
    simp only at c1 c2 c3 c4 c5 ⊢
    refine Run.if (fun hi => ?_) (fun hi => Run.out ⟨c1, c2.mono (by omega), c5⟩)
    have hi : i > 0 := by simpa using hi
    refine Run.bind (width_run c1) ?_
    rintro ⟨v, rb⟩ ⟨d1, d2⟩
    have hcp := c2.params
    refine Run.yes (by simp only [List.length_singleton]; omega) (Run.bind (add_run (k := 2 * (n - i).toNat + 1) ?_ (by unfold KM; omega) _) ?_)
    · obtain ⟨h1, h2, h3, h4, h5, h6, h7, h8, h9, h10, h11, h12, h13, h14, h15⟩ := c2
      refine ⟨by simp only; omega, h2, by simp only; omega, by simp only; omega, by simp only; omega, by simp only; omega, by simp only; omega, by simp; omega, fun x hx => ?_, h10, fun b hb => ⟨by have := (h11 b hb).1; omega, by have := (h11 b hb).2; omega⟩, h12.mono (by simp only; omega), fun b hb => (h13 b hb).mono (by simp only; omega), h14, by simp; omega⟩
      rcases List.mem_append.1 hx with hx | hx
      · exact h9 x hx
      · simp only [List.mem_singleton] at hx
        subst hx
        exact d2
    · rintro ⟨x, gb, rc⟩ ⟨e1, rfl, e3, _, _, _⟩
      exact Run.yes (inI_le (by omega) (by omega)) (Run.nx ⟨⟨d1, e1.mono (by simp only; omega), by simp only; omega, by simp only; omega, (congrArg GFunc.blocks e3).trans c5⟩, by simp only; omega⟩)
  rintro ⟨r3, g3⟩ ⟨c1, c2, cb⟩
  have ct : tgt g3 := fun b hb => by simp only at cb; rw [cb] at hb; cases hb
  have hpl := c2.params
  have hpw := c2.pw
  simp only at hpl hpw c1 c2 ⊢
  refine Run.bind (below_run c1 5) ?_
  rintro ⟨n4, r4⟩ ⟨d1, d2, d3⟩
  have d3 := d3 (by omega)
  simp only at d1 d2 d3 ⊢
  refine Run.yes (inI_le (by omega) (by omega)) (Run.bind (some_run c2 d1 hp (by omega) (by unfold KM; omega)) ?_)
  rintro ⟨g5, r5⟩ ⟨e1, e2, e3, _⟩
  have q5 := congrArg GFunc.params e3.1
  have t5 : tgt g5 := tgt_f e3.1 ct
  simp only at q5
  refine Run.bind (R := fun y => okG 5000 y.2 ∧ okRd y.1 ∧ y.2.f.params = g3.f.params ∧ tgt y.2) (Run.bind (below_run e2 4) ?_) ?_
  · rintro ⟨n6, r6⟩ ⟨f1, f2, f3⟩
    refine Run.if (fun _ => Run.bind (fork_run e1 f1 hp (by unfold KM; omega)) ?_) (fun _ => Run.if (fun _ => Run.bind (loop_run e1 f1 hp (by unfold KM; omega)) ?_) (fun _ => Run.if (fun _ => Run.bind (fork_run e1 f1 hp (by unfold KM; omega)) ?_) (fun _ => Run.mk ⟨e1.mono (by omega), f1, q5, t5⟩)))
    · rintro ⟨g7, r7⟩ ⟨p1, p2, p3, _, p5⟩
      exact Run.mk ⟨p1.mono (by omega), p2, p3.trans q5, p5 t5⟩
    · rintro ⟨g7, r7⟩ ⟨p1, p2, p3, _, p5⟩
      exact Run.mk ⟨p1.mono (by omega), p2, p3.trans q5, p5 t5⟩
    · rintro ⟨g7, r7⟩ ⟨p1, p2, p3, _, p5⟩
      refine Run.bind (below_run p2 3) ?_
      rintro ⟨n8, r8⟩ ⟨s1, s2, s3⟩
      have s3 := s3 (by omega)
      refine Run.bind (some_run p1 s1 hp (by simp only at s3 ⊢; omega) (by unfold KM; omega)) ?_
      rintro ⟨g9, r9⟩ ⟨t1, t2, t3, _⟩
      refine Run.bind (loop_run t1 t2 hp (by unfold KM; omega)) ?_
      rintro ⟨g10, r10⟩ ⟨u1, u2, u3, _, u5⟩
      exact Run.mk ⟨u1.mono (by omega), u2, u3.trans ((congrArg GFunc.params t3.1).trans (p3.trans q5)), u5 (tgt_f t3.1 (p5 t5))⟩
  rintro ⟨r11, g11⟩ ⟨p1, p2, p3, p4⟩
  refine Run.bind (below_run p2 3) ?_
  rintro ⟨n12, r12⟩ ⟨s1, s2, s3⟩
  have s3 := s3 (by omega)
  refine Run.bind (some_run p1 s1 hp (by simp only at s3 ⊢; omega) (by unfold KM; omega)) ?_
  rintro ⟨g13, r13⟩ ⟨t1, t2, t3, _⟩
  refine Run.bind (ends_run t1 t2 (by unfold KM; omega)) ?_
  rintro ⟨g14, r14⟩ ⟨u1, u2, u3, u4, u5, u6, u7⟩
  have q : g14.f.params = g3.f.params := u3.trans ((congrArg GFunc.params t3.1).trans p3)
  have hc : g14.next = (cnt g14.f : Int) := by
    have := u1.nx
    simp only at u5 u6 this
    rw [u5, u6] at this
    simp only [List.length_nil] at this
    unfold cnt
    omega
  have hb : ∀ b ∈ g14.f.blocks, okBl (cnt g14.f) b := fun b hb => (u1.okbs b hb).mono (by simp only; omega)
  refine Run.mk ⟨⟨hb, ?_, ?_, u1.ret, Nat.le_trans u1.blocks (by omega), u4, fun b hb => ⟨Nat.le_trans (u1.rows b hb).1 (by omega), Nat.le_trans (u1.rows b hb).2 (by omega)⟩, u7 (tgt_f t3.1 p4)⟩, u2⟩
  · simp only
    rw [q]
    exact hpl
  · simp only
    rw [q]
    exact hpw
end Go.Proofs.Ytghdhjgoicnbcaa.AM

namespace Go.Proofs.Ytghdhjgoicnbcaa.AM
open Go
set_option linter.unusedSimpArgs false
set_option linter.unusedVariables false
def pre (f : GFunc) (k : Nat) : Nat := f.params.length + sumz (f.blocks.take k)
theorem pre_succ {f : GFunc} {k : Nat} (h : k < f.blocks.length) : pre f (k + 1) = pre f k + sz (at_ f.blocks (k : Int)) := by
  unfold pre sumz
  rw [at_nat h, List.take_add_one, List.getElem?_eq_getElem h, List.map_append, List.sum_append]
  simp only [Option.toList, List.map_cons, List.map_nil, List.sum_cons, List.sum_nil]
  omega
theorem sumz_le {bs : List GBlock} {n : Nat} (h : ∀ b ∈ bs, sz b ≤ n) : sumz bs ≤ bs.length * n := by
  induction bs with
  | nil => simp [sumz]
  | cons b bs ih =>
    have h1 := ih (fun c hc => h c (List.mem_cons_of_mem _ hc))
    have h2 := h b (List.mem_cons_self ..)
    unfold sumz at h1 ⊢
    simp only [List.map_cons, List.sum_cons, List.length_cons, Nat.add_mul]
    omega
theorem okFn.szle {f : GFunc} (h : okFn f) : ∀ b ∈ f.blocks, sz b ≤ 200000 := fun b hb => by
  have := h.rows b hb
  unfold sz
  omega
theorem okFn.pre_le {f : GFunc} (h : okFn f) (k : Nat) : pre f k ≤ 100000000000 := by
  have h1 := sumz_le (bs := f.blocks.take k) (n := 200000) (fun b hb => h.szle b (List.mem_of_mem_take hb))
  have h2 := h.blocks
  have h3 := h.params
  have h4 : (f.blocks.take k).length ≤ 100000 := by rw [List.length_take]; omega
  have h5 : (f.blocks.take k).length * 200000 ≤ 100000 * 200000 := Nat.mul_le_mul_right _ h4
  unfold pre
  omega
theorem pre_all (f : GFunc) : pre f f.blocks.length = cnt f := by
  unfold pre cnt
  rw [List.take_length]
theorem okFn.cnt_le {f : GFunc} (h : okFn f) : cnt f ≤ 100000000000 := by rw [← pre_all]; exact h.pre_le _
theorem spec_count {f : GFunc} (h : okFn f) : spec_CountOf_m f = some (cnt f : Int) := by
  unfold spec_CountOf_m
  generalize hB : loopO _ _ = L
  have hb := h.blocks
  rw [loop_cnt hB (fun k => ((pre f k : Int), (k : Int))) f.blocks.length (cnt f : Int) ?_ ?_ ?_]
  · rfl
  · simp [pre, sumz]
  · intro k hk
    have h0 : 0 ≤ (k : Int) ∧ (k : Int) < (f.blocks.length : Int) := by omega
    have h1 := h.rows _ (at_mem h0)
    have h2 := h.pre_le k
    have e : ((at_ f.blocks (k : Int)).phis.length : Int) + ((at_ f.blocks (k : Int)).insts.length : Int) = (sz (at_ f.blocks (k : Int)) : Int) := by simp [sz]
    have h3 := h.szle _ (at_mem h0)
    simp only
    rw [if_pos (by simp; omega), if_pos h0, if_pos h0, if_pos (inI_le (by omega) (by omega)), e, wrap_in (n := (sz _ : Int)) (by omega) (by omega), wrap_in (by omega) (by omega), pre_succ hk]
    simp
  · simp only
    rw [if_neg (by simp), pre_all]
/-- A function of a drawn module. -/
structure okF (f : GFunc) : Prop where
  ok : okFn f
  nb : f.blocks.length ≤ 10
  nv : cnt f ≤ 60
theorem okF_small : okF { params := ([] : List Int), ret := 8, blocks := [({ phis := ([] : List GPhi), insts := [({ op_ := 21, w := 8, a := 0, b := 0, c := 0, imm := 7, args := ([] : List Int) } : GInst)], term := (({ kind := 1, a := 0, x := 0, y := 0 } : GTerm)) } : GBlock)] } := by
  refine ⟨⟨?_, by simp, by simp, .inr (.inl rfl), by simp, by simp, by simp, ?_⟩, by simp, by simp [cnt, sumz, sz]⟩
  · intro b hb
    simp only [List.mem_singleton] at hb
    subst hb
    refine ⟨⟨by simp, fun i hi => ?_⟩, fun _ => by simp [cnt, sumz, sz], .inl ⟨rfl, rfl, rfl⟩⟩
    simp only [List.mem_singleton] at hi
    subst hi
    exact ⟨.inr ⟨by simp, by simp⟩, by simp [inN, opsI], by simp, fr_const (.inr (.inl rfl)) (by decide)⟩
  · intro b hb
    simp only [List.mem_singleton] at hb
    subst hb
    constructor <;> simp
theorem module_run {r : Gl1Rd} (hr : okRd r) : Run (spec_l1Rd_module_m r) (fun y => okRd y.2 ∧ 0 < y.1.funcs.length ∧ y.1.funcs.length ≤ 2 ∧ ∀ f ∈ y.1.funcs, okF f) := by
  have hL := LIM_eq
  unfold spec_l1Rd_module_m
  refine Run.bind (below_run hr 2) ?_
  rintro ⟨n, r1⟩ ⟨a1, a2, a3⟩
  have a3 := a3 (by omega)
  simp only at a1 a2 a3 ⊢
  refine Run.yes (inI_le (by omega) (by omega)) (Run.bind (R := fun y => okRd y.1 ∧ 0 < y.2.length ∧ y.2.length ≤ 2 ∧ ∀ f ∈ y.2, okF f) (Run.loop (fun s => okRd s.1 ∧ ((s.2.1.length : Int) + s.2.2.2.2 = 1 + n) ∧ 0 ≤ s.2.2.2.2 ∧ s.2.2.1.length = s.2.1.length ∧ okP s.2.2.1 s.2.2.2.1 ∧ ∀ f ∈ s.2.1, okF f) (fun s => s.2.2.2.2.toNat) ⟨a1, by simp, by simp only; omega, rfl, ⟨rfl, by simp, by simp, by simp⟩, by simp⟩ ?_) ?_)
  · rintro ⟨ra, fs, rets, pars, i⟩ ⟨b1, b2, b3, b4, b5, b6⟩
    simp only at b1 b2 b3 b4 b5 b6 ⊢
    refine Run.if (fun hi => ?_) (fun hi => Run.out ⟨b1, ?_, ?_, b6⟩)
    · have hi : i > 0 := by simpa using hi
      refine Run.bind (fn_run b1 b5) ?_
      rintro ⟨f, rb⟩ ⟨c1, c2⟩
      simp only at c1 c2 ⊢
      refine Run.bind (R := okF) (Run.bind (R := fun b => b = false → okF f) (Run.bind (R := fun x => x = (cnt f : Int)) ⟨_, spec_count c1, rfl⟩ ?_) ?_) ?_
      · rintro x rfl
        refine Run.if (fun _ => Run.mk (fun h => by cases h)) (fun hx => Run.mk (fun h => ?_))
        have hx : ¬ (cnt f : Int) > 60 := by simpa using hx
        have h : ¬ (f.blocks.length : Int) > 10 := by simpa using h
        exact ⟨c1, by omega, by omega⟩
      · intro b hb
        refine Run.if (fun _ => Run.mk okF_small) (fun h => Run.mk (hb (by simpa using h)))
      · intro g hg
        have hp := b5.len
        refine Run.yes (by simp only [List.length_singleton]; omega) (Run.yes (by simp only [List.length_singleton]; omega) (Run.yes (by simp only [List.length_singleton]; omega) (Run.yes (inI_le (by omega) (by omega)) (Run.nx ⟨⟨c2, by simp; omega, by simp only; omega, by simp; omega, ⟨by simp; omega, by simp; omega, ?_, ?_⟩, ?_⟩, by simp only; omega⟩))))
        · intro w hw
          rcases List.mem_append.1 hw with hw | hw
          · exact b5.rw_ w hw
          · simp only [List.mem_singleton] at hw
            subst hw
            exact hg.ok.ret
        · intro w hw
          rcases List.mem_append.1 hw with hw | hw
          · exact b5.rows w hw
          · simp only [List.mem_singleton] at hw
            subst hw
            exact ⟨hg.ok.params, hg.ok.pw⟩
        · intro w hw
          rcases List.mem_append.1 hw with hw | hw
          · exact b6 w hw
          · simp only [List.mem_singleton] at hw
            subst hw
            exact hg
    · have hi : ¬ i > 0 := by simpa using hi
      simp only; omega
    · have hi : ¬ i > 0 := by simpa using hi
      simp only; omega
  · rintro ⟨r2, fs⟩ ⟨b1, b2, b3, b4⟩
    exact Run.mk ⟨b1, b2, b3, b4⟩
end Go.Proofs.Ytghdhjgoicnbcaa.AM

namespace Go.Proofs.Ytghdhjgoicnbcaa.AM
open Go
set_option linter.unusedSimpArgs false
set_option linter.unusedVariables false
end Go.Proofs.Ytghdhjgoicnbcaa.AM

namespace Go.Proofs.Ytghdhjgoicnbcaa.AM
open Go
set_option linter.unusedSimpArgs false
set_option linter.unusedVariables false
theorem take_flat {α : Type} [Inhabited α] {β : Type} (xs : List α) (f : α → List β) {k : Nat} (h : k < xs.length) : (xs.take (k + 1)).flatMap f = (xs.take k).flatMap f ++ f (at_ xs (k : Int)) := by
  rw [at_nat h, List.take_add_one, List.getElem?_eq_getElem h, List.flatMap_append]
  simp
theorem flat_len {α β : Type} {xs : List α} {f : α → List β} {n : Nat} (h : ∀ x ∈ xs, (f x).length ≤ n) : (xs.flatMap f).length ≤ xs.length * n := by
  induction xs with
  | nil => simp
  | cons x xs ih =>
    have h1 := ih (fun y hy => h y (List.mem_cons_of_mem _ hy))
    have h2 := h x (List.mem_cons_self ..)
    simp only [List.flatMap_cons, List.length_append, List.length_cons, Nat.add_mul]
    omega
theorem flat_take_len {α β : Type} {xs : List α} {f : α → List β} {n m : Nat} (h : ∀ x ∈ xs, (f x).length ≤ n) (hm : xs.length ≤ m) (k : Nat) : ((xs.take k).flatMap f).length ≤ m * n := by
  refine Nat.le_trans (flat_len (n := n) fun x hx => h x (List.mem_of_mem_take hx)) (Nat.mul_le_mul_right _ ?_)
  rw [List.length_take]
  omega
theorem ops_len {i : GInst} (h : i.args.length ≤ 10) : (opsI i).length ≤ 10 := by
  unfold opsI
  split
  · simp
  · split
    · simp
    · split
      · simp
      · split
        · exact h
        · simp
def endL (t : GTerm) : List Int := if t.kind = 1 ∨ t.kind = 3 then [t.a] else []
def namedB (b : GBlock) : List Int := b.phis.flatMap (·.ins) ++ b.insts.flatMap opsI ++ endL b.term
theorem end_names (t : GTerm) : impl_endNames_m t = endL t := by
  unfold impl_endNames_m endL
  by_cases h : t.kind = 1 ∨ t.kind = 3
  · rw [if_pos (by simpa using h), if_pos h]
  · rw [if_neg (by simpa using h), if_neg h]
theorem end_len (t : GTerm) : (endL t).length ≤ 1 := by
  unfold endL
  split <;> simp
/-- A block that is small. -/
structure smB (b : GBlock) : Prop where
  np : b.phis.length ≤ 60
  ni : b.insts.length ≤ 60
  ps : ∀ p ∈ b.phis, p.ins.length ≤ 10
  is : ∀ i ∈ b.insts, i.args.length ≤ 10
theorem smB.nm {b : GBlock} (h : smB b) : (namedB b).length ≤ 1201 := by
  have h1 := flat_take_len (f := fun p : GPhi => p.ins) h.ps h.np b.phis.length
  have h2 := flat_take_len (f := opsI) (fun i hi => ops_len (h.is i hi)) h.ni b.insts.length
  rw [List.take_length] at h1 h2
  have h3 := end_len b.term
  simp only [namedB, List.length_append]
  omega
def all (f : GFunc) : List Int := f.blocks.flatMap namedB
/-- A function that is small. -/
structure smF (f : GFunc) : Prop where
  nb : f.blocks.length ≤ 10
  bs : ∀ b ∈ f.blocks, smB b
theorem smF.len {f : GFunc} (h : smF f) (k : Nat) : ((f.blocks.take k).flatMap namedB).length ≤ 10 * 1201 := flat_take_len (fun b hb => (h.bs b hb).nm) h.nb k
theorem smF.cnt {f : GFunc} (h : smF f) (k : Nat) (id : Int) : ((f.blocks.take k).flatMap namedB).count id ≤ 10 * 1201 := Nat.le_trans List.count_le_length (h.len k)
end Go.Proofs.Ytghdhjgoicnbcaa.AM

namespace Go.Proofs.Ytghdhjgoicnbcaa.AM
open Go
set_option linter.unusedSimpArgs false
set_option linter.unusedVariables false
def pl : List GBlock → Nat → Nat → Option (Nat × Nat)
  | [], _, _ => none
  | x :: xs, b, n => if n < sz x then some (b, n) else pl xs (b + 1) (n - sz x)
def plI : Option (Nat × Nat) → Int × Int
  | none => (-2, 0)
  | some x => ((x.1 : Int), (x.2 : Int))
def placeOf (f : GFunc) (id : Int) : Int × Int :=
  if id < 0 then (-2, 0) else if id < (f.params.length : Int) then (-1, id) else plI (pl f.blocks 0 (id - f.params.length).toNat)
theorem pl_none : ∀ (xs : List GBlock) (b n : Nat), sumz xs ≤ n → pl xs b n = none
  | [], _, _, _ => rfl
  | x :: xs, b, n, h => by
    have h' : sz x + sumz xs ≤ n := by simpa [sumz] using h
    unfold pl
    rw [if_neg (by omega)]
    exact pl_none xs _ _ (by omega)
theorem pl_some : ∀ (xs : List GBlock) (b n : Nat), n < sumz xs → ∃ c a, pl xs b n = some (c, a)
  | [], _, _, h => by simp [sumz] at h
  | x :: xs, b, n, h => by
    have h' : n < sz x + sumz xs := by simpa [sumz] using h
    unfold pl
    by_cases hn : n < sz x
    · rw [if_pos hn]; exact ⟨_, _, rfl⟩
    · rw [if_neg hn]; exact pl_some xs _ _ (by omega)
theorem pl_in : ∀ (xs : List GBlock) (b n c a : Nat), pl xs b n = some (c, a) → b ≤ c ∧ a ≤ n ∧ ∃ x, xs[c - b]? = some x ∧ a < sz x
  | [], _, _, _, _, h => by simp [pl] at h
  | x :: xs, b, n, c, a, h => by
    unfold pl at h
    by_cases hn : n < sz x
    · rw [if_pos hn] at h
      simp only [Option.some.injEq, Prod.mk.injEq] at h
      obtain ⟨rfl, rfl⟩ := h
      exact ⟨Nat.le_refl _, Nat.le_refl _, x, by simp, hn⟩
    · rw [if_neg hn] at h
      obtain ⟨h1, h2, y, h3, h4⟩ := pl_in xs _ _ _ _ h
      refine ⟨by omega, by omega, y, ?_, h4⟩
      rw [show c - b = (c - (b + 1)) + 1 from by omega, List.getElem?_cons_succ]
      exact h3
theorem placeOf_none {f : GFunc} {id : Int} (h : id < 0 ∨ (cnt f : Int) ≤ id) : placeOf f id = (-2, 0) := by
  unfold placeOf
  by_cases h0 : id < 0
  · rw [if_pos h0]
  · have h1 : (cnt f : Int) ≤ id := by omega
    unfold cnt at h1
    rw [if_neg h0, if_neg (by omega), pl_none _ _ _ (by omega)]
    rfl
theorem drop_at {f : GFunc} {k : Nat} (h : k < f.blocks.length) : f.blocks.drop k = at_ f.blocks (k : Int) :: f.blocks.drop (k + 1) := by
  rw [at_nat h]
  exact List.drop_eq_getElem_cons h
theorem placeOf_cases (f : GFunc) (id : Int) : placeOf f id = (-2, 0) ∨ (placeOf f id = (-1, id) ∧ 0 ≤ id ∧ id < (f.params.length : Int)) ∨
    ((0 ≤ (placeOf f id).1 ∧ (placeOf f id).1 < (f.blocks.length : Int)) ∧ 0 ≤ (placeOf f id).2 ∧ (placeOf f id).2 < (sz (at_ f.blocks (placeOf f id).1) : Int)) := by
  unfold placeOf
  by_cases h0 : id < 0
  · rw [if_pos h0]; exact .inl rfl
  · rw [if_neg h0]
    by_cases hp : id < (f.params.length : Int)
    · rw [if_pos hp]; exact .inr (.inl ⟨rfl, by omega, hp⟩)
    · rw [if_neg hp]
      cases e : pl f.blocks 0 (id - (f.params.length : Int)).toNat with
      | none => exact .inl rfl
      | some x =>
        obtain ⟨c, a⟩ := x
        obtain ⟨_, _, x, h1, h2⟩ := pl_in _ _ _ _ _ e
        have hc : c < f.blocks.length := by
          have := (List.getElem?_eq_some_iff.1 h1).1
          omega
        refine .inr (.inr ⟨⟨by simp [plI], by simp only [plI]; omega⟩, by simp [plI], ?_⟩)
        simp only [plI]
        rw [at_nat hc]
        have := (List.getElem?_eq_some_iff.1 h1).2
        simp only [Nat.sub_zero] at this
        rw [this]
        omega
end Go.Proofs.Ytghdhjgoicnbcaa.AM

namespace Go.Proofs.Ytghdhjgoicnbcaa.AM
open Go
set_option linter.unusedSimpArgs false
set_option linter.unusedVariables false

/-- Not too large. -/
structure bndF (f : GFunc) : Prop where
  params : f.params.length ≤ 1000000000000
  blocks : f.blocks.length ≤ 2000000
  rows : ∀ b ∈ f.blocks, b.phis.length ≤ 2000000 ∧ b.insts.length ≤ 2000000
  ins : ∀ b ∈ f.blocks, ∀ p ∈ b.phis, p.ins.length ≤ 1000000000000
  args : ∀ b ∈ f.blocks, ∀ i ∈ b.insts, i.args.length ≤ 1000000000000
theorem okFn.bnd {f : GFunc} (h : okFn f) : bndF f :=
  ⟨Nat.le_trans h.params (by decide), Nat.le_trans h.blocks (by decide), fun b hb => ⟨Nat.le_trans (h.rows b hb).1 (by decide), Nat.le_trans (h.rows b hb).2 (by decide)⟩, fun b hb p hp => Nat.le_trans ((h.okbs b hb).1.ps p hp).2.1 (by decide), fun b hb i hi => Nat.le_trans ((h.okbs b hb).1.is i hi).2.2.1 (by decide)⟩
theorem bndF.szle {f : GFunc} (h : bndF f) : ∀ b ∈ f.blocks, sz b ≤ 4000000 := fun b hb => by
  have := h.rows b hb
  unfold sz
  omega
theorem bndF.pre_le {f : GFunc} (h : bndF f) (k : Nat) : pre f k ≤ 10000000000000 := by
  have h1 := sumz_le (bs := f.blocks.take k) (n := 4000000) (fun b hb => h.szle b (List.mem_of_mem_take hb))
  have h2 := h.blocks
  have h3 := h.params
  have h4 : (f.blocks.take k).length ≤ 2000000 := by rw [List.length_take]; omega
  have h5 : (f.blocks.take k).length * 4000000 ≤ 2000000 * 4000000 := Nat.mul_le_mul_right _ h4
  unfold pre
  omega
theorem bndF.cnt_le {f : GFunc} (h : bndF f) : cnt f ≤ 10000000000000 := by rw [← pre_all]; exact h.pre_le _
theorem specCount {f : GFunc} (h : bndF f) : spec_CountOf_m f = some (cnt f : Int) := by
  unfold spec_CountOf_m
  generalize hB : loopO _ _ = L
  have hb := h.blocks
  rw [loop_cnt hB (fun k => ((pre f k : Int), (k : Int))) f.blocks.length (cnt f : Int) ?_ ?_ ?_]
  · rfl
  · simp [pre, sumz]
  · intro k hk
    have h0 : 0 ≤ (k : Int) ∧ (k : Int) < (f.blocks.length : Int) := by omega
    have h1 := h.rows _ (at_mem h0)
    have h2 := h.pre_le k
    have e : ((at_ f.blocks (k : Int)).phis.length : Int) + ((at_ f.blocks (k : Int)).insts.length : Int) = (sz (at_ f.blocks (k : Int)) : Int) := by simp [sz]
    have h3 := h.szle _ (at_mem h0)
    simp only
    rw [if_pos (by simp; omega), if_pos h0, if_pos h0, if_pos (inI_le (by omega) (by omega)), e, wrap_in (n := (sz _ : Int)) (by omega) (by omega), wrap_in (by omega) (by omega), pre_succ hk]
    simp
  · simp only
    rw [if_neg (by simp), pre_all]
theorem implCount {f : GFunc} (h : bndF f) : impl_CountOf_m f = some (cnt f : Int) := by
  unfold impl_CountOf_m
  generalize hB : loopO _ _ = L
  have hb := h.blocks
  rw [loop_cnt hB (fun k => ((k : Int), (pre f k : Int))) f.blocks.length (cnt f : Int) ?_ ?_ ?_]
  · rfl
  · simp [pre, sumz]
  · intro k hk
    have h0 : 0 ≤ (k : Int) ∧ (k : Int) < (f.blocks.length : Int) := by omega
    have h1 := h.rows _ (at_mem h0)
    have h2 := h.pre_le k
    have e : ((at_ f.blocks (k : Int)).phis.length : Int) + ((at_ f.blocks (k : Int)).insts.length : Int) = (sz (at_ f.blocks (k : Int)) : Int) := by simp [sz]
    have h3 := h.szle _ (at_mem h0)
    simp only
    rw [if_pos (by simp; omega), if_pos h0, e, if_pos (inI_le (by omega) (by omega)), if_pos (inI_le (by omega) (by omega)), pre_succ hk]
    simp
  · simp only
    rw [if_neg (by simp), pre_all]
theorem implPlace {f : GFunc} (h : bndF f) (id : Int) : impl_PlaceOf_m f id = some (placeOf f id) := by
  have hc := h.cnt_le
  unfold impl_PlaceOf_m impl_isId_m impl_within_m
  rw [implCount h]
  simp only [obs]
  rw [if_pos (inI_le (by omega) (by omega))]
  simp only [obs]
  by_cases h0 : id < 0 ∨ (cnt f : Int) ≤ id
  · rw [if_pos (by simp; omega), placeOf_none h0]
  · rw [if_neg (by simp; omega)]
    by_cases hp : id < (f.params.length : Int)
    · rw [if_pos (by simpa using hp)]
      unfold placeOf
      rw [if_neg (by omega), if_pos hp]
    · rw [if_neg (by simpa using hp)]
      unfold placeOf
      rw [if_neg (by omega), if_neg hp]
      have key : ∀ m k, k + m = f.blocks.length → (pre f k : Int) ≤ id → loopO (fun (st7 : Int × Int) =>
              ((if decide (st7.1 < ((List.length f.blocks : Int))) = true then
                  (if 0 ≤ st7.1 ∧ st7.1 < (List.length f.blocks : Int) then
                    (if inI (st7.2 + (((List.length ((at_ f.blocks st7.1).phis) : Int)) + ((List.length ((at_ f.blocks st7.1).insts) : Int)))) then
                      (if decide (id < (st7.2 + (((List.length ((at_ f.blocks st7.1).phis) : Int)) + ((List.length ((at_ f.blocks st7.1).insts) : Int))))) = true then
                        (some (Sum.inr ((Sum.inl ((st7.1, IntKind.i64.wrap (id - st7.2)))))))
                        else
                        (if inI (st7.2 + (((List.length ((at_ f.blocks st7.1).phis) : Int)) + ((List.length ((at_ f.blocks st7.1).insts) : Int)))) then
                        (if inI (st7.1 + 1) then
                        (some (Sum.inl ((st7.1 + 1, st7.2 + (((List.length ((at_ f.blocks st7.1).phis) : Int)) + ((List.length ((at_ f.blocks st7.1).insts) : Int)))))))
                        else none)
                        else none))
                      else none)
                    else none)
                  else
                  (some (Sum.inr ((Sum.inr (())))))) : Option ((Int × Int) ⊕ ((Int × Int) ⊕ Unit)))) ((k : Int), (pre f k : Int))
              = some (match pl (f.blocks.drop k) k (id - pre f k).toNat with | some x => Sum.inl ((x.1 : Int), (x.2 : Int)) | none => Sum.inr ()) := by
        intro m
        induction m with
        | zero =>
          intro k hk hle
          rw [loopO_step]
          simp only
          rw [if_neg (by simp; omega), List.drop_of_length_le (by omega)]
          rfl
        | succ m ih =>
          intro k hk hle
          have hk' : k < f.blocks.length := by omega
          have h0 : 0 ≤ (k : Int) ∧ (k : Int) < (f.blocks.length : Int) := by omega
          have h1 := h.rows _ (at_mem h0)
          have h2 := h.pre_le k
          have e : ((at_ f.blocks (k : Int)).phis.length : Int) + ((at_ f.blocks (k : Int)).insts.length : Int) = (sz (at_ f.blocks (k : Int)) : Int) := by simp [sz]
          have h3 := h.szle _ (at_mem h0)
          have h4 := pre_succ hk'
          have h5 := h.blocks
          rw [loopO_step, drop_at hk']
          simp only [e, pl]
          rw [if_pos (by simp; omega), if_pos h0, if_pos (inI_le (by omega) (by omega))]
          by_cases hn : (id - (pre f k : Int)).toNat < sz (at_ f.blocks (k : Int))
          · rw [if_pos (by simp; omega), if_pos hn, wrap_in (by omega) (by omega), obs]
            simp only
            rw [show ((id - (pre f k : Int)).toNat : Int) = id - (pre f k : Int) from by omega]
          · rw [if_neg (by simp; omega), if_pos (inI_le (by omega) (by omega)), if_neg hn]
            have := ih (k + 1) (by omega) (by omega)
            rw [if_pos (inI_le (by omega) (by omega)), obs]
            simp only
            rw [show ((k : Int) + 1) = ((k + 1 : Nat) : Int) from by omega, show (pre f k : Int) + (sz (at_ f.blocks (k : Int)) : Int) = ((pre f (k + 1) : Nat) : Int) from by omega, show (id - (pre f k : Int)).toNat - sz (at_ f.blocks (k : Int)) = (id - (pre f (k + 1) : Int)).toNat from by omega]
            exact this
      have k0 := key f.blocks.length 0 (by omega) (by simp [pre, sumz]; omega)
      have e0 : (pre f 0 : Int) = (f.params.length : Int) := by simp [pre, sumz]
      rw [e0] at k0
      rw [show ((0 : Nat) : Int) = (0 : Int) from rfl] at k0
      rw [k0]
      simp only [obs, List.drop_zero]
      cases pl f.blocks 0 (id - (f.params.length : Int)).toNat with
      | none => rfl
      | some x => rfl
theorem specPlace {f : GFunc} (h : bndF f) {id : Int} (hi : id ≤ 9223372036854775807) : spec_l2Place_m f id = some (placeOf f id) := by
  have hc := h.cnt_le
  unfold spec_l2Place_m
  by_cases h0 : id < 0
  · rw [if_pos (by simpa using h0), placeOf_none (.inl h0)]
  · rw [if_neg (by simpa using h0)]
    by_cases hp : id < (f.params.length : Int)
    · rw [if_pos (by simpa using hp)]
      unfold placeOf
      rw [if_neg (by omega), if_pos hp]
    · rw [if_neg (by simpa using hp), if_pos (inI_le (by omega) (by omega))]
      unfold placeOf
      rw [if_neg (by omega), if_neg hp]
      obtain ⟨n, hn⟩ := Int.eq_ofNat_of_zero_le (show 0 ≤ id - (f.params.length : Int) by omega)
      have hn' : (n : Int) ≤ 9223372036854775807 := by omega
      rw [hn]
      have key : ∀ m k (n : Nat), k + m = f.blocks.length → (n : Int) ≤ 9223372036854775807 → loopO (fun (st6 : Int × Int) =>
              ((if decide (st6.2 < ((List.length f.blocks : Int))) = true then
                  (if 0 ≤ st6.2 ∧ st6.2 < (List.length f.blocks : Int) then
                    (if 0 ≤ st6.2 ∧ st6.2 < (List.length f.blocks : Int) then
                      (if decide (st6.1 < (IntKind.i64.wrap (((List.length ((at_ f.blocks st6.2).phis) : Int)) + ((List.length ((at_ f.blocks st6.2).insts) : Int))))) = true then
                        (some (Sum.inr ((Sum.inl ((st6.2, st6.1))))))
                        else
                        (if inI (st6.2 + 1) then
                        (some (Sum.inl ((IntKind.i64.wrap (st6.1 - (IntKind.i64.wrap (((List.length ((at_ f.blocks st6.2).phis) : Int)) + ((List.length ((at_ f.blocks st6.2).insts) : Int))))), st6.2 + 1))))
                        else none))
                      else none)
                    else none)
                  else
                  (some (Sum.inr ((Sum.inr (())))))) : Option ((Int × Int) ⊕ ((Int × Int) ⊕ Unit)))) ((n : Int), (k : Int))
              = some (match pl (f.blocks.drop k) k n with | some x => Sum.inl ((x.1 : Int), (x.2 : Int)) | none => Sum.inr ()) := by
        intro m
        induction m with
        | zero =>
          intro k n hk hle
          rw [loopO_step]
          simp only
          rw [if_neg (by simp; omega), List.drop_of_length_le (by omega)]
          rfl
        | succ m ih =>
          intro k n hk hle
          have hk' : k < f.blocks.length := by omega
          have h0 : 0 ≤ (k : Int) ∧ (k : Int) < (f.blocks.length : Int) := by omega
          have h1 := h.rows _ (at_mem h0)
          have e : ((at_ f.blocks (k : Int)).phis.length : Int) + ((at_ f.blocks (k : Int)).insts.length : Int) = (sz (at_ f.blocks (k : Int)) : Int) := by simp [sz]
          have h3 := h.szle _ (at_mem h0)
          have h5 := h.blocks
          rw [loopO_step, drop_at hk']
          simp only [e, pl]
          rw [if_pos (by simp; omega), if_pos h0, if_pos h0, wrap_in (n := (sz _ : Int)) (by omega) (by omega)]
          by_cases hn : n < sz (at_ f.blocks (k : Int))
          · rw [if_pos (by simp; omega), if_pos hn, obs]
          · rw [if_neg (by simp; omega), if_neg hn, if_pos (inI_le (by omega) (by omega)), wrap_in (by omega) (by omega), obs]
            have := ih (k + 1) (n - sz (at_ f.blocks (k : Int))) (by omega) (by omega)
            simp only
            rw [show ((k : Int) + 1) = ((k + 1 : Nat) : Int) from by omega, show (n : Int) - (sz (at_ f.blocks (k : Int)) : Int) = ((n - sz (at_ f.blocks (k : Int)) : Nat) : Int) from by omega]
            exact this
      have k0 := key f.blocks.length 0 n (by omega) hn'
      rw [show ((0 : Nat) : Int) = (0 : Int) from rfl] at k0
      rw [k0]
      simp only [obs, List.drop_zero]
      rw [show ((n : Int)).toNat = n from by omega]
      cases pl f.blocks 0 n with
      | none => rfl
      | some x => rfl
end Go.Proofs.Ytghdhjgoicnbcaa.AM

namespace Go.Proofs.Ytghdhjgoicnbcaa.AM
open Go
set_option linter.unusedSimpArgs false
set_option linter.unusedVariables false
theorem indexFunc_int_ok (s : List Int) (f : Int → Option Bool) (c : Int → Bool) (h : ∀ x ∈ s, f x = some (c x)) (hl : s.length ≤ 140737488355328) : slices_ContainsFunc_int64_int64_m s f = some (s.any c) := by
  unfold slices_ContainsFunc_int64_int64_m slices_IndexFunc_int64_int64_m
  generalize hB : loopO _ (0 : Int) = L
  have K := loop_any' hB s c (fun k : Nat => (k : Int)) (by
    intro k hk
    rw [if_pos (by simpa using hk), if_pos (by omega), h _ (at_mem (by omega))]
    simp only [Option.bind_some]
    cases c (at_ s (k : Int))
    · rw [if_neg (by simp), if_pos (inI_le (by omega) (by omega)), if_neg (by simp)]
    · rw [if_pos rfl, if_pos rfl]) (by rw [if_neg (by simp)])
  rcases K with ⟨h1, k, h2, rfl⟩ | ⟨h1, rfl⟩
  · rw [h1]; simp
  · rw [h1]; simp
theorem any_eq_mem {l : List Int} {n : Int} : l.any (fun x => x == n) = decide (n ∈ l) := by
  rw [Bool.eq_iff_iff]
  simp [List.any_eq_true]
theorem l1Has_ok (l : List Int) (n : Int) (hl : l.length ≤ 140737488355328) : spec_l1Has_m l n = some (decide (n ∈ l)) := by
  unfold spec_l1Has_m
  generalize hB : loopO _ (0 : Int) = L
  have K := loop_any' hB l (fun x => x == n) (fun _ => ()) (by
    intro k hk
    rw [if_pos (by simpa using hk), if_pos (by omega)]
    cases (at_ l (k : Int) == n)
    · rw [if_neg (by simp), if_pos (inI_le (by omega) (by omega)), if_neg (by simp)]
    · rw [if_pos rfl, if_pos rfl]) (by rw [if_neg (by simp)])
  rw [any_eq_mem] at K
  rcases K with ⟨h1, k, h2, rfl⟩ | ⟨h1, rfl⟩
  · rw [h1]; rfl
  · rw [h1]; rfl
theorem has_ok (l : List Int) (n : Int) (hl : l.length ≤ 140737488355328) : laws_has_m l n = some (decide (n ∈ l)) := by
  unfold laws_has_m
  generalize hB : loopO _ (0 : Int) = L
  have K := loop_any' hB l (fun x => x == n) (fun _ => ()) (by
    intro k hk
    rw [if_pos (by simpa using hk), if_pos (by omega)]
    cases (at_ l (k : Int) == n)
    · rw [if_neg (by simp), if_pos (inI_le (by omega) (by omega)), if_neg (by simp)]
    · rw [if_pos rfl, if_pos rfl]) (by rw [if_neg (by simp)])
  rw [any_eq_mem] at K
  rcases K with ⟨h1, k, h2, rfl⟩ | ⟨h1, rfl⟩
  · rw [h1]; rfl
  · rw [h1]; rfl
theorem within_ok (a b : List Int) (ha : a.length ≤ 140737488355328) (hb : b.length ≤ 140737488355328) (h : ∀ x ∈ a, x ∈ b) : laws_within_m a b = some true := by
  unfold laws_within_m
  generalize hB : loopO _ (0 : Int) = L
  have K := loop_anyN' hB a.length (fun _ => false) (fun _ => ()) (by
    intro k hk
    rw [if_pos (by simpa using hk), if_pos (by omega), has_ok b _ hb]
    simp only [Option.bind_some]
    rw [decide_eq_true (h _ (at_mem (by omega))), if_neg (by simp), if_pos (inI_le (by omega) (by omega)), if_neg (by simp)]) (by rw [if_neg (by simp)])
  rcases K with ⟨k, _, h1, _⟩ | ⟨_, rfl⟩
  · cases h1
  · rfl
theorem sameInts_ok (a : List Int) (ha : a.length ≤ 140737488355328) : laws_sameInts_m a a = some true := by
  unfold laws_sameInts_m
  rw [if_neg (by simp)]
  generalize hB : loopO _ (0 : Int) = L
  have K := loop_anyN' hB a.length (fun _ => false) (fun _ => ()) (by
    intro k hk
    rw [if_pos (by simpa using hk), if_pos (by omega), if_pos (by omega), if_neg (by simp), if_pos (inI_le (by omega) (by omega)), if_neg (by simp)]) (by rw [if_neg (by simp)])
  rcases K with ⟨k, _, h1, _⟩ | ⟨_, rfl⟩
  · cases h1
  · rfl
abbrev Rising (l : List Int) : Prop := l.Pairwise (· < ·)
theorem rising_ok (l : List Int) (hl : l.length ≤ 140737488355328) (h : Rising l) : laws_rising_m l = some true := by
  unfold laws_rising_m
  generalize hB : loopO _ (1 : Int) = L
  obtain ⟨r, rfl, h2⟩ := loop_wf hB (fun s => 1 ≤ s ∧ s ≤ 140737488355330) (fun s => (140737488355330 - s).toNat) (fun r => r = .inr ()) (by
    rintro i ⟨h1, h2⟩
    by_cases hi : i < (l.length : Int)
    · left
      have e1 : at_ l (i - 1) = l[(i - 1).toNat]'(by omega) := by
        have := at_get (xs := l) (n := i - 1) ⟨by omega, by omega⟩
        rw [List.getElem?_eq_getElem (by omega)] at this
        exact (Option.some.inj this).symm
      have e2 : at_ l i = l[i.toNat]'(by omega) := by
        have := at_get (xs := l) (n := i) ⟨by omega, by omega⟩
        rw [List.getElem?_eq_getElem (by omega)] at this
        exact (Option.some.inj this).symm
      have := List.pairwise_iff_getElem.1 h (i - 1).toNat i.toNat (by omega) (by omega) (by omega)
      rw [← e1, ← e2] at this
      rw [if_pos (by simpa using hi), if_pos (inI_le (by omega) (by omega)), if_pos (by omega), if_pos (by omega), if_neg (by simp; omega), if_pos (inI_le (by omega) (by omega))]
      exact ⟨_, rfl, by omega, by omega⟩
    · right
      rw [if_neg (by simpa using hi)]
      exact ⟨_, rfl, rfl⟩) ⟨by omega, by omega⟩
  subst h2
  rfl
theorem rising_len : ∀ {l : List Int} {lo hi : Int}, Rising l → (∀ x ∈ l, lo ≤ x ∧ x < hi) → l.length ≤ (hi - lo).toNat
  | [], lo, hi, _, _ => Nat.zero_le _
  | x :: l, lo, hi, h, hb => by
    have h1 := hb x (by simp)
    have h2 := rising_len (l := l) (lo := x + 1) (hi := hi) (List.pairwise_cons.1 h).2 (fun y hy => ⟨by have := (List.pairwise_cons.1 h).1 y hy; omega, (hb y (by simp [hy])).2⟩)
    simp only [List.length_cons]
    omega
theorem rising_ext : ∀ {a b : List Int}, Rising a → Rising b → (∀ x, x ∈ a ↔ x ∈ b) → a = b
  | [], [], _, _, _ => rfl
  | [], y :: b, _, _, h => by have := (h y).2 (by simp); cases this
  | x :: a, [], _, _, h => by have := (h x).1 (by simp); cases this
  | x :: a, y :: b, ha, hb, h => by
    have ha1 := (List.pairwise_cons.1 ha).1
    have hb1 := (List.pairwise_cons.1 hb).1
    have e : x = y := by
      rcases List.mem_cons.1 ((h x).1 (by simp)) with e | h1
      · exact e
      · rcases List.mem_cons.1 ((h y).2 (by simp)) with e | h2
        · exact e.symm
        · have := ha1 y h2; have := hb1 x h1; omega
    subst e
    congr 1
    refine rising_ext (List.pairwise_cons.1 ha).2 (List.pairwise_cons.1 hb).2 fun z => ?_
    constructor
    · intro hz
      rcases List.mem_cons.1 ((h z).1 (by simp [hz])) with e | h1
      · have := ha1 z hz; omega
      · exact h1
    · intro hz
      rcases List.mem_cons.1 ((h z).2 (by simp [hz])) with e | h1
      · have := hb1 z hz; omega
      · exact h1
theorem rising_filter (n : Nat) (p : Nat → Bool) : Rising (((List.range n).filter p).map Int.ofNat) := by
  rw [Rising, List.pairwise_map]
  exact (List.Pairwise.sublist List.filter_sublist List.pairwise_lt_range).imp fun h => by simpa using h
theorem put_ok (l : List Int) (n : Int) (h : Rising l) (hl : l.length * 8 + 8 ≤ 140737488355328) : ∃ l', spec_l1Put_m l n = some l' ∧ Rising l' ∧ (∀ x, x ∈ l' ↔ x = n ∨ x ∈ l) ∧ (n ∉ l → l'.length = l.length + 1) ∧ (n ∈ l → l' = l) := by
  have hLIM : LIM = 140737488355328 := rfl
  unfold spec_l1Put_m
  generalize hB : loopO _ (0 : Int) = L
  obtain ⟨j, rfl, hj0, hjl, hj1, hj2⟩ := loop_wf hB (fun s => 0 ≤ s ∧ s ≤ (l.length : Int) ∧ ∀ k : Int, 0 ≤ k → k < s → at_ l k < n) (fun s => (l.length - s).toNat) (fun j => 0 ≤ j ∧ j ≤ (l.length : Int) ∧ (∀ k : Int, 0 ≤ k → k < j → at_ l k < n) ∧ (j < (l.length : Int) → n ≤ at_ l j)) (by
    rintro i ⟨h1, h2, h3⟩
    by_cases hi : i < (l.length : Int)
    · rw [if_pos (by simpa using hi), if_pos ⟨h1, hi⟩]
      simp only [Option.bind_some]
      by_cases hlt : at_ l i < n
      · left
        rw [if_pos (by simpa using hlt), if_pos (inI_le (by omega) (by omega))]
        refine ⟨_, rfl, ⟨by omega, by omega, fun k k1 k2 => ?_⟩, by omega⟩
        by_cases hk : k = i
        · subst hk; exact hlt
        · exact h3 k k1 (by omega)
      · right
        rw [if_neg (by simpa using hlt)]
        exact ⟨_, rfl, h1, h2, h3, fun _ => by omega⟩
    · right
      rw [if_neg (by simpa using hi)]
      simp only [Option.bind_some]
      rw [if_neg (by simp)]
      exact ⟨_, rfl, h1, h2, h3, fun h => absurd h hi⟩) ⟨by omega, by omega, fun k k1 k2 => by omega⟩
  simp only [Option.bind_some]
  obtain ⟨m, rfl⟩ := Int.eq_ofNat_of_zero_le hj0
  have hml : m ≤ l.length := by omega
  have htake : ∀ x ∈ l.take m, x < n := fun x hx => by
    obtain ⟨k, hk, rfl⟩ := List.getElem_of_mem hx
    simp only [List.length_take] at hk
    rw [List.getElem_take]
    have := hj1 (k : Int) (by omega) (by omega)
    rwa [at_nat (by omega)] at this
  have hdrop : ∀ x ∈ l.drop m, n ≤ x := fun x hx => by
    obtain ⟨k, hk, rfl⟩ := List.getElem_of_mem hx
    simp only [List.length_drop] at hk
    rw [List.getElem_drop]
    have h0 := hj2 (by omega)
    rw [at_nat (by omega)] at h0
    by_cases hk0 : k = 0
    · subst hk0; exact h0
    · have := List.pairwise_iff_getElem.1 h m (m + k) (by omega) (by omega) (by omega)
      omega
  have hin : n ∈ l → ∃ h : m < l.length, l[m] = n := fun hn => by
    rw [← List.take_append_drop m l] at hn
    rcases List.mem_append.1 hn with h1 | h1
    · have := htake n h1; omega
    · obtain ⟨k, hk, e⟩ := List.getElem_of_mem h1
      simp only [List.length_drop] at hk
      rw [List.getElem_drop] at e
      have h0 := hj2 (by omega)
      rw [at_nat (by omega)] at h0
      refine ⟨by omega, ?_⟩
      by_cases hk0 : k = 0
      · subst hk0; exact e
      · have := List.pairwise_iff_getElem.1 h m (m + k) (by omega) (by omega) (by omega)
        omega
  by_cases hn : n ∈ l
  · obtain ⟨hm, e⟩ := hin hn
    rw [if_pos (by simpa using hm), if_pos (by omega), at_nat hm, e]
    simp only [Option.bind_some]
    rw [if_pos (by simp)]
    exact ⟨l, rfl, h, fun x => ⟨fun hx => .inr hx, fun hx => by rcases hx with rfl | hx <;> assumption⟩, fun h => absurd hn h, fun _ => rfl⟩
  · have hb : ∃ b, (if decide ((m : Int) < (l.length : Int)) = true then (if 0 ≤ (m : Int) ∧ (m : Int) < (l.length : Int) then some (at_ l (m : Int) == n) else none) else some false) = some b ∧ b = false := by
      by_cases hm : m < l.length
      · rw [if_pos (by simpa using hm), if_pos (by omega)]
        refine ⟨_, rfl, ?_⟩
        rw [at_nat hm]
        simp only [beq_eq_false_iff_ne, ne_eq]
        intro e
        exact hn (e ▸ List.getElem_mem hm)
      · rw [if_neg (by simpa using hm)]
        exact ⟨_, rfl, rfl⟩
    obtain ⟨b, e, rfl⟩ := hb
    rw [e]
    simp only [Option.bind_some, Bool.false_eq_true, if_false, Int.toNat_natCast, Nat.sub_zero, List.drop_zero, List.nil_append]
    have e1 : (l.drop m).take (l.length - m) = l.drop m := List.take_of_length_le (by simp)
    rw [if_pos (by omega), if_pos (by simp only [List.length_nil, List.length_take]; omega), if_pos (by simp only [List.length_take, List.length_singleton]; omega), if_pos (by omega), e1,
      if_pos (by simp only [List.length_append, List.length_take, List.length_drop, List.length_singleton]; omega)]
    have hgt : ∀ x ∈ l.drop m, n < x := fun x hx => by
      have h1 := hdrop x hx
      by_cases hx2 : x = n
      · subst hx2; exact absurd (List.mem_of_mem_drop hx) hn
      · omega
    refine ⟨_, rfl, ?_, fun x => ?_, fun _ => ?_, fun h => absurd h hn⟩
    · refine List.pairwise_append.2 ⟨List.pairwise_append.2 ⟨h.sublist (List.take_sublist _ _), by simp, fun a ha b hb => ?_⟩, h.sublist (List.drop_sublist _ _), fun a ha b hb => ?_⟩
      · simp only [List.mem_singleton] at hb; subst hb; exact htake a ha
      · rcases List.mem_append.1 ha with ha | ha
        · have := htake a ha; have := hgt b hb; omega
        · simp only [List.mem_singleton] at ha; subst ha; exact hgt b hb
    · have hx : x ∈ l ↔ x ∈ l.take m ∨ x ∈ l.drop m := by rw [← List.mem_append, List.take_append_drop]
      simp only [List.mem_append, List.mem_singleton, hx]
      constructor
      · rintro ((h | h) | h) <;> simp [h]
      · rintro (h | h | h) <;> simp [h]
    · simp only [List.length_append, List.length_take, List.length_drop, List.length_singleton]
      omega
theorem l1Copy_ok (l : List Int) (hl : l.length * 8 ≤ 140737488355328) : spec_l1Copy_m l = some l := by
  have hLIM : LIM = 140737488355328 := rfl
  unfold spec_l1Copy_m
  rw [if_pos (by simp only [List.length_nil]; omega)]
  rfl
end Go.Proofs.Ytghdhjgoicnbcaa.AM

namespace Go.Proofs.Ytghdhjgoicnbcaa.AM
open Go
set_option linter.unusedSimpArgs false
set_option linter.unusedVariables false
theorem implOps {i : GInst} (h : i.args.length ≤ 1000000000000) : impl_OperandsOf_m i = some (opsI i) := by
  have hL := LIM_eq
  unfold impl_OperandsOf_m opsI impl_isBinary_m impl_isCast_m impl_within_m slices_Clone_int64_int64_m
  by_cases h1 : (1 ≤ i.op_ ∧ i.op_ ≤ 17) ∨ i.op_ = 24
  · rw [if_pos (by simpa using h1), if_pos h1]
  · rw [if_neg (by simpa using h1), if_neg h1]
    by_cases h2 : (18 ≤ i.op_ ∧ i.op_ ≤ 20) ∨ i.op_ = 23 ∨ i.op_ = 25 ∨ i.op_ = 27
    · rw [if_pos (by simpa using h2), if_pos h2]
    · rw [if_neg (by simpa using h2), if_neg h2]
      by_cases h3 : i.op_ = 22
      · rw [if_pos (by simpa using h3), if_pos h3]
      · rw [if_neg (by simpa using h3), if_neg h3]
        by_cases h4 : i.op_ = 26
        · rw [if_pos (by simpa using h4), if_pos h4, if_pos (by simp only [List.length_nil]; omega)]
          rfl
        · rw [if_neg (by simpa using h4), if_neg h4]
theorem specOps {i : GInst} (h : i.args.length ≤ 1000000000000) : spec_l2Operands_m i = some (opsI i) := by
  have hL := LIM_eq
  unfold spec_l2Operands_m opsI spec_l1In_m spec_l1Copy_m
  by_cases h1 : (1 ≤ i.op_ ∧ i.op_ ≤ 17) ∨ i.op_ = 24
  · rw [if_pos (by simpa using h1), if_pos h1]
  · rw [if_neg (by simpa using h1), if_neg h1]
    by_cases h2 : (18 ≤ i.op_ ∧ i.op_ ≤ 20) ∨ i.op_ = 23 ∨ i.op_ = 25 ∨ i.op_ = 27
    · rw [if_pos (by simpa using h2), if_pos h2]
    · rw [if_neg (by simpa using h2), if_neg h2]
      by_cases h3 : i.op_ = 22
      · rw [if_pos (by simpa using h3), if_pos h3]
      · rw [if_neg (by simpa using h3), if_neg h3]
        by_cases h4 : i.op_ = 26
        · rw [if_pos (by simpa using h4), if_pos h4, if_pos (by simp only [List.length_nil]; omega)]
          rfl
        · rw [if_neg (by simpa using h4), if_neg h4]
theorem opsLen {i : GInst} : (opsI i).length ≤ 3 ∨ (opsI i = i.args ∧ i.op_ = 26) := by
  unfold opsI
  split
  · simp
  · split
    · simp
    · split
      · simp
      · split
        · exact .inr ⟨rfl, by assumption⟩
        · simp
theorem contains_phi_ok (s : List GPhi) (f : GPhi → Option Bool) (c : GPhi → Bool) (h : ∀ x ∈ s, f x = some (c x)) (hl : s.length ≤ 140737488355328) : slices_ContainsFunc_impl_Phi_impl_Phi_m s f = some (s.any c) := by
  unfold slices_ContainsFunc_impl_Phi_impl_Phi_m slices_IndexFunc_impl_Phi_impl_Phi_m
  generalize hB : loopO _ (0 : Int) = L
  have K := loop_any' hB s c (fun k : Nat => (k : Int)) (by
    intro k hk
    rw [if_pos (by simpa using hk), if_pos (by omega), h _ (at_mem (by omega))]
    simp only [Option.bind_some]
    cases c (at_ s (k : Int))
    · rw [if_neg (by simp), if_pos (inI_le (by omega) (by omega)), if_neg (by simp)]
    · rw [if_pos rfl, if_pos rfl]) (by rw [if_neg (by simp)])
  rcases K with ⟨h1, k, h2, rfl⟩ | ⟨h1, rfl⟩
  · rw [h1]; simp
  · rw [h1]; simp
theorem contains_inst_ok (s : List GInst) (f : GInst → Option Bool) (c : GInst → Bool) (h : ∀ x ∈ s, f x = some (c x)) (hl : s.length ≤ 140737488355328) : slices_ContainsFunc_impl_Inst_impl_Inst_m s f = some (s.any c) := by
  unfold slices_ContainsFunc_impl_Inst_impl_Inst_m slices_IndexFunc_impl_Inst_impl_Inst_m
  generalize hB : loopO _ (0 : Int) = L
  have K := loop_any' hB s c (fun k : Nat => (k : Int)) (by
    intro k hk
    rw [if_pos (by simpa using hk), if_pos (by omega), h _ (at_mem (by omega))]
    simp only [Option.bind_some]
    cases c (at_ s (k : Int))
    · rw [if_neg (by simp), if_pos (inI_le (by omega) (by omega)), if_neg (by simp)]
    · rw [if_pos rfl, if_pos rfl]) (by rw [if_neg (by simp)])
  rcases K with ⟨h1, k, h2, rfl⟩ | ⟨h1, rfl⟩
  · rw [h1]; simp
  · rw [h1]; simp
/-- A width; within; a value of a width. -/
noncomputable abbrev wB (w : Int) : Bool := impl_WidthOk_m w
noncomputable abbrev iB (n lo hi : Int) : Bool := impl_within_m n lo hi
theorem iB_iff {n lo hi : Int} : iB n lo hi = true ↔ lo ≤ n ∧ n ≤ hi := by simp [iB, impl_within_m]
theorem wB_iff {w : Int} : wB w = true ↔ isW w := by simp [wB, impl_WidthOk_m, isW]
theorem spec_in (n lo hi : Int) : spec_l1In_m n lo hi = iB n lo hi := rfl
theorem spec_w (w : Int) : spec_WidthOk_m w = wB w := rfl
noncomputable def valB (w v : Int) : Bool := wB w && iB v 0 (topW w)
theorem impl_val (w v : Int) : impl_isValue_m w v = some (valB w v) := by
  unfold impl_isValue_m valB
  by_cases h : isW w
  · have e : impl_WidthOk_m w = true := wB_iff.2 h
    simp only [e, if_true, wB, Bool.true_and]
    have hm : impl_mask_m w = some (topW w) := by
      rcases h with rfl | rfl | rfl | rfl <;> decide +kernel
    rw [hm]
    rfl
  · have e : impl_WidthOk_m w = false := by
      cases hx : impl_WidthOk_m w with
      | false => rfl
      | true => exact absurd (wB_iff.1 hx) h
    simp only [e, Bool.false_eq_true, if_false, wB, Bool.false_and]
    rfl
theorem spec_val (w v : Int) : spec_l1Value_m w v = some (valB w v) := by
  unfold spec_l1Value_m valB
  by_cases h : isW w
  · have e : impl_WidthOk_m w = true := wB_iff.2 h
    rw [spec_w]
    simp only [wB, e, if_true, Bool.true_and]
    have hm : spec_l1Top_m w = some (topW w + 1) := by
      rcases h with rfl | rfl | rfl | rfl <;> decide +kernel
    rw [hm]
    simp only [obs]
    have ht : 1 ≤ topW w ∧ topW w ≤ 4294967295 := by rcases h with rfl | rfl | rfl | rfl <;> decide
    rw [if_pos (inI_le (by omega) (by omega)), show topW w + 1 - 1 = topW w from by omega]
    rfl
  · have e : impl_WidthOk_m w = false := by
      cases hx : impl_WidthOk_m w with
      | false => rfl
      | true => exact absurd (wB_iff.1 hx) h
    rw [spec_w]
    simp only [wB, e, Bool.false_eq_true, if_false, Bool.false_and]
    rfl
/-- An instruction in its form. -/
structure fmI (i : GInst) (ids funcs : Int) : Prop where
  op : 1 ≤ i.op_ ∧ i.op_ ≤ 27
  args : i.args.length ≤ 4
  noargs : i.op_ ≠ 26 → i.args = []
  ids : inN ids (opsI i)
  zero : (if i.op_ = 26 then 0 else (opsI i).length) < 1 → i.a = 0
  zerob : (if i.op_ = 26 then 0 else (opsI i).length) < 2 → i.b = 0
  zeroc : (if i.op_ = 26 then 0 else (opsI i).length) < 3 → i.c = 0
  w0 : i.op_ = 24 ∨ i.op_ = 25 → i.w = 0
  w1 : ¬ (i.op_ = 24 ∨ i.op_ = 25) → isW i.w
  w8 : i.op_ = 23 → i.w = 8
  const : i.op_ = 21 → valB i.w i.imm = true
  call : i.op_ = 26 → 0 ≤ i.imm ∧ i.imm < funcs
  imm : i.op_ ≠ 21 → i.op_ ≠ 26 → i.imm = 0
theorem inst_ok {i : GInst} {ids funcs : Int} (ha : i.args.length ≤ 1000000000000) (h1 : inI (ids - 1)) (h2 : inI (funcs - 1)) : ∃ b, impl_isInst_m i ids funcs = some b ∧ spec_l2Inst_m i ids funcs = some b ∧ (b = true ↔ fmI i ids funcs) := by
  by_cases hop : 1 ≤ i.op_ ∧ i.op_ ≤ 27
  rotate_left
  · refine ⟨false, ?_, ?_, by simp, fun h => absurd h.op hop⟩
    · unfold impl_isInst_m
      rw [if_pos (by simp [impl_within_m]; omega)]
    · unfold spec_l2Inst_m
      rw [if_pos (by simp [spec_l1In_m]; omega)]
  have e1 : impl_within_m i.op_ 1 27 = true := iB_iff.2 hop
  have e1' : spec_l1In_m i.op_ 1 27 = true := iB_iff.2 hop
  by_cases hna : i.op_ = 26 ∨ i.args.length = 0
  rotate_left
  · refine ⟨false, ?_, ?_, by simp, fun h => absurd ((Classical.em (i.op_ = 26)).imp id (fun hn => by rw [h.noargs hn]; rfl)) hna⟩
    · unfold impl_isInst_m
      rw [if_pos (by simp [e1]; omega)]
    · unfold spec_l2Inst_m
      rw [if_pos (by simp [e1']; omega)]
  have g0 : ((i.op_ != 26) && decide ((i.args.length : Int) > 0)) = false := by
    rcases hna with h | h
    · simp [h]
    · rw [h]; simp
  have g0' : (decide ((i.args.length : Int) > 0) && (i.op_ != 26)) = false := by rw [Bool.and_comm]; exact g0
  have hl : (opsI i).length ≤ 1000000000000 := by
    rcases opsLen (i := i) with h | ⟨h, _⟩
    · omega
    · rw [h]; exact ha
  have HS : ∀ r, ((opsI i).any (fun x => !iB x 0 (ids - 1)) = true → r = some false) → ((opsI i).any (fun x => !iB x 0 (ids - 1)) = false →
      (if (if (!((((i.op_ == 24) || (i.op_ == 25))) == ((i.w == 0)))) = true then true else (if (!(((i.op_ == 24) || (i.op_ == 25)))) = true then ((!((spec_WidthOk_m i.w))) || decide (((List.length i.args : Int)) > 4)) else decide (((List.length i.args : Int)) > 4))) = true then some false
       else if (if decide (((if (i.op_ == 26) = true then 0 else (List.length (opsI i) : Int))) < 1) = true then (if (i.a != 0) = true then true else (if decide (((if (i.op_ == 26) = true then 0 else (List.length (opsI i) : Int))) < 2) = true then (if (i.b != 0) = true then true else (if decide (((if (i.op_ == 26) = true then 0 else (List.length (opsI i) : Int))) < 3) = true then (i.c != 0) else false)) else (if decide (((if (i.op_ == 26) = true then 0 else (List.length (opsI i) : Int))) < 3) = true then (i.c != 0) else false))) else (if decide (((if (i.op_ == 26) = true then 0 else (List.length (opsI i) : Int))) < 2) = true then (if (i.b != 0) = true then true else (if decide (((if (i.op_ == 26) = true then 0 else (List.length (opsI i) : Int))) < 3) = true then (i.c != 0) else false)) else (if decide (((if (i.op_ == 26) = true then 0 else (List.length (opsI i) : Int))) < 3) = true then (i.c != 0) else false))) = true then some false
       else if (i.op_ == 21) = true then some (valB i.w i.imm) else if (i.op_ == 26) = true then some (iB i.imm 0 (funcs - 1)) else if (i.op_ == 23) = true then some ((i.w == 8) && (i.imm == 0)) else some (i.imm == 0)) = r) → spec_l2Inst_m i ids funcs = r := by
    intro r r1 r2
    unfold spec_l2Inst_m
    rw [if_neg (by rw [e1', g0]; decide), specOps ha]
    simp only [obs]
    generalize hB : loopO _ (0 : Int) = L
    have K := loop_any' hB (opsI i) (fun x => !iB x 0 (ids - 1)) (fun _ => ()) (by
      intro k hk
      rw [if_pos (by simpa using hk), if_pos (by omega), if_pos h1, spec_in]
      cases iB (at_ (opsI i) (k : Int)) 0 (ids - 1)
      · rw [if_pos (by rfl), if_pos (by rfl)]
      · rw [if_neg (by simp), if_pos (inI_le (by omega) (by omega)), if_neg (by simp)]) (by rw [if_neg (by simp)])
    rcases K with ⟨k1, k, k2, rfl⟩ | ⟨k1, rfl⟩
    · rw [r1 k1]; rfl
    · rw [← r2 k1]
      simp only [obs, spec_val, if_pos h2, spec_in]
  by_cases h4 : i.args.length ≤ 4
  rotate_left
  · refine ⟨false, ?_, HS _ (fun _ => rfl) (fun _ => ?_), by simp, fun h => absurd h.args h4⟩
    · unfold impl_isInst_m
      rw [if_pos (by simp [e1]; omega)]
    · rw [if_pos]
      have : decide ((i.args.length : Int) > 4) = true := by simp; omega
      simp [this]
  have HI : impl_isInst_m i ids funcs = if (opsI i).any (fun x => !iB x 0 (ids - 1)) = true then some false else
      if (List.drop (if i.op_ = 26 then ([] : List Int) else opsI i).length [i.a, i.b, i.c]).any (fun n => n != 0) = true then some false else
      if impl_isWidth_m i = true then (if (i.op_ == 21) = true then some (valB i.w i.imm) else if (i.op_ == 26) = true then some (iB i.imm 0 (funcs - 1)) else some (i.imm == 0)) else some false := by
    unfold impl_isInst_m
    rw [if_neg (by rw [e1, g0', show decide ((i.args.length : Int) > 4) = false from by simp; omega]; decide), implOps ha]
    simp only [obs]
    rw [indexFunc_int_ok _ _ (fun x => !iB x 0 (ids - 1)) (fun x _ => by unfold impl_isInst_1_m; rw [if_pos h1]) (by omega)]
    simp only [obs]
    have hj : (if (i.op_ == 26) = true then some ([] : List Int) else some (opsI i)) = some (if i.op_ = 26 then ([] : List Int) else opsI i) := by
      by_cases h : i.op_ = 26 <;> simp [h]
    have hn : (if i.op_ = 26 then ([] : List Int) else opsI i).length ≤ 3 := by
      by_cases h : i.op_ = 26
      · simp [h]
      · rcases opsLen (i := i) with h' | ⟨_, h'⟩
        · simpa [h] using h'
        · exact absurd h' h
    by_cases hA : (opsI i).any (fun x => !iB x 0 (ids - 1)) = true
    · rw [if_pos hA, if_pos hA]
    · rw [if_neg hA, if_neg hA, hj]
      simp only [obs]
      generalize (if i.op_ = 26 then ([] : List Int) else opsI i) = J at hn ⊢
      simp only [Int.toNat_natCast]
      rw [if_pos (by simp; omega), indexFunc_int_ok _ (fun z0 => some (impl_isInst_2_m z0)) (fun n => n != 0) (fun x _ => rfl) (by simp; omega)]
      simp only [obs]
      have him : impl_isImm_m i funcs = (if (i.op_ == 21) = true then some (valB i.w i.imm) else if (i.op_ == 26) = true then some (iB i.imm 0 (funcs - 1)) else some (i.imm == 0)) := by
        unfold impl_isImm_m
        rw [impl_val, if_pos h2]
        rfl
      rw [him]
      split
      · rfl
      · split
        · split
          · rfl
          · split <;> rfl
        · rfl
  have hA : (opsI i).any (fun x => !iB x 0 (ids - 1)) = false ↔ inN ids (opsI i) := by
    simp only [List.any_eq_false, Bool.not_eq_true, Bool.not_eq_false', iB_iff, inN]
    exact ⟨fun h x hx => by have := h x hx; omega, fun h x hx => by have := h x hx; omega⟩
  by_cases hin : inN ids (opsI i)
  rotate_left
  · have : (opsI i).any (fun x => !iB x 0 (ids - 1)) = true := by
      cases hx : (opsI i).any (fun x => !iB x 0 (ids - 1)) with
      | true => rfl
      | false => exact absurd (hA.1 hx) hin
    exact ⟨false, by rw [HI, if_pos this], HS _ (fun _ => rfl) (fun h => by rw [h] at this; cases this), by simp, fun h => absurd h.ids hin⟩
  have hany := hA.2 hin
  rw [hany] at HI HS
  rw [if_neg (by simp)] at HI
  -- what is not used is 0
  have hz : (List.drop (if i.op_ = 26 then ([] : List Int) else opsI i).length [i.a, i.b, i.c]).any (fun n => n != 0) = false ↔
      (((if i.op_ = 26 then 0 else (opsI i).length) < 1 → i.a = 0) ∧ ((if i.op_ = 26 then 0 else (opsI i).length) < 2 → i.b = 0) ∧ ((if i.op_ = 26 then 0 else (opsI i).length) < 3 → i.c = 0)) := by
    have e : (if i.op_ = 26 then ([] : List Int) else opsI i).length = (if i.op_ = 26 then 0 else (opsI i).length) := by split <;> rfl
    rw [e]
    generalize (if i.op_ = 26 then 0 else (opsI i).length) = n
    match n with
    | 0 => simp
    | 1 => simp
    | 2 => simp
    | n + 3 => simp; omega
  have hz2 : (if decide (((if (i.op_ == 26) = true then 0 else (List.length (opsI i) : Int))) < 1) = true then (if (i.a != 0) = true then true else (if decide (((if (i.op_ == 26) = true then 0 else (List.length (opsI i) : Int))) < 2) = true then (if (i.b != 0) = true then true else (if decide (((if (i.op_ == 26) = true then 0 else (List.length (opsI i) : Int))) < 3) = true then (i.c != 0) else false)) else (if decide (((if (i.op_ == 26) = true then 0 else (List.length (opsI i) : Int))) < 3) = true then (i.c != 0) else false))) else (if decide (((if (i.op_ == 26) = true then 0 else (List.length (opsI i) : Int))) < 2) = true then (if (i.b != 0) = true then true else (if decide (((if (i.op_ == 26) = true then 0 else (List.length (opsI i) : Int))) < 3) = true then (i.c != 0) else false)) else (if decide (((if (i.op_ == 26) = true then 0 else (List.length (opsI i) : Int))) < 3) = true then (i.c != 0) else false))) = false ↔
      (((if i.op_ = 26 then 0 else (opsI i).length) < 1 → i.a = 0) ∧ ((if i.op_ = 26 then 0 else (opsI i).length) < 2 → i.b = 0) ∧ ((if i.op_ = 26 then 0 else (opsI i).length) < 3 → i.c = 0)) := by
    have e : (if (i.op_ == 26) = true then 0 else (List.length (opsI i) : Int)) = (((if i.op_ = 26 then 0 else (opsI i).length) : Nat) : Int) := by by_cases h : i.op_ = 26 <;> simp [h]
    rw [e]
    generalize (if i.op_ = 26 then 0 else (opsI i).length) = n
    match n with
    | 0 => by_cases ha : i.a = 0 <;> by_cases hb : i.b = 0 <;> by_cases hc : i.c = 0 <;> simp [ha, hb, hc]
    | 1 => by_cases hb : i.b = 0 <;> by_cases hc : i.c = 0 <;> simp [hb, hc]
    | 2 => by_cases hc : i.c = 0 <;> simp [hc]
    | n + 3 =>
      have g1 : decide (((n + 3 : Nat) : Int) < 1) = false := by simp; omega
      have g2 : decide (((n + 3 : Nat) : Int) < 2) = false := by simp; omega
      have g3 : decide (((n + 3 : Nat) : Int) < 3) = false := by simp; omega
      rw [g1, g2, g3]
      simp; omega
  have h4' : decide ((i.args.length : Int) > 4) = false := by simp; omega
  by_cases hzz : (((if i.op_ = 26 then 0 else (opsI i).length) < 1 → i.a = 0) ∧ ((if i.op_ = 26 then 0 else (opsI i).length) < 2 → i.b = 0) ∧ ((if i.op_ = 26 then 0 else (opsI i).length) < 3 → i.c = 0))
  rotate_left
  · refine ⟨false, ?_, HS _ (fun h => by cases h) (fun _ => ?_), by simp, fun h => absurd ⟨h.zero, h.zerob, h.zeroc⟩ hzz⟩
    · rw [HI, if_pos]
      cases hx : (List.drop (if i.op_ = 26 then ([] : List Int) else opsI i).length [i.a, i.b, i.c]).any (fun n => n != 0) with
      | true => rfl
      | false => exact absurd (hz.1 hx) hzz
    · have hC3 : ¬ _ := fun hx => hzz (hz2.1 hx)
      rw [Bool.not_eq_false] at hC3
      rw [hC3]
      simp only [if_true, ite_self]
  rw [if_neg (by rw [hz.2 hzz]; simp)] at HI
  have HS2 : ∀ r, (if (if (!((((i.op_ == 24) || (i.op_ == 25))) == ((i.w == 0)))) = true then true else (if (!(((i.op_ == 24) || (i.op_ == 25)))) = true then ((!((spec_WidthOk_m i.w))) || decide (((List.length i.args : Int)) > 4)) else decide (((List.length i.args : Int)) > 4))) = true then some false
       else if (i.op_ == 21) = true then some (valB i.w i.imm) else if (i.op_ == 26) = true then some (iB i.imm 0 (funcs - 1)) else if (i.op_ == 23) = true then some ((i.w == 8) && (i.imm == 0)) else some (i.imm == 0)) = r → spec_l2Inst_m i ids funcs = r := fun r hr => by
    refine HS _ (fun h => by cases h) (fun _ => ?_)
    rw [if_neg (c := (if decide _ = true then _ else _) = true) (by rw [hz2.2 hzz]; simp)]
    exact hr
  have hna' : i.op_ ≠ 26 → i.args = [] := fun h => List.eq_nil_of_length_eq_zero (hna.resolve_left h)
  rw [h4'] at HS2
  unfold impl_isWidth_m at HI
  by_cases hv : i.op_ = 24 ∨ i.op_ = 25
  · have ev : ((i.op_ == 24) || (i.op_ == 25)) = true := by rcases hv with h | h <;> simp [h]
    have n1 : (i.op_ == 21) = false := by rcases hv with h | h <;> simp [h]
    have n2 : (i.op_ == 26) = false := by rcases hv with h | h <;> simp [h]
    have n3 : (i.op_ == 23) = false := by rcases hv with h | h <;> simp [h]
    simp only [ev, n1, n2, n3, if_true, Bool.false_eq_true, if_false, Bool.not_true] at HI HS2
    by_cases hw : i.w = 0
    · simp only [hw, BEq.rfl, if_true] at HI HS2
      refine ⟨_, HI, HS2 _ (by simp), fun h => ⟨hop, h4, hna', hin, hzz.1, hzz.2.1, hzz.2.2, fun _ => hw, fun h' => absurd hv h', fun h' => by omega, fun h' => by omega, fun h' => by omega, fun _ _ => by simpa using h⟩, fun h => by simpa using h.imm (by omega) (by omega)⟩
    · have : (i.w == 0) = false := by simpa using hw
      simp only [this, Bool.false_eq_true, if_false] at HI HS2
      exact ⟨false, HI, HS2 _ (by simp), by simp, fun h => absurd (h.w0 hv) hw⟩
  · have ev : ((i.op_ == 24) || (i.op_ == 25)) = false := by
      simp; omega
    simp only [ev, Bool.false_eq_true, if_false, Bool.not_false, if_true, Bool.or_false] at HI HS2
    by_cases hr : i.op_ = 23
    · have n1 : (i.op_ == 21) = false := by simp [hr]
      have n2 : (i.op_ == 26) = false := by simp [hr]
      simp only [hr, n1, n2, BEq.rfl, if_true, Bool.false_eq_true, if_false] at HI HS2
      by_cases hw : i.w = 8
      · simp only [hw, BEq.rfl, if_true, Bool.true_and] at HI HS2
        have : spec_WidthOk_m 8 = true := rfl
        refine ⟨_, HI, HS2 _ (by simp [this]), fun h => ⟨hop, h4, hna', hin, hzz.1, hzz.2.1, hzz.2.2, fun h' => absurd h' hv, fun _ => .inr (.inl hw), fun _ => hw, fun h' => by omega, fun h' => by omega, fun _ _ => by simpa using h⟩, fun h => by simpa using h.imm (by omega) (by omega)⟩
      · have e8 : (i.w == 8) = false := by simpa using hw
        simp only [e8, Bool.false_eq_true, if_false, Bool.false_and] at HI HS2
        refine ⟨false, HI, HS2 _ ?_, by simp, fun h => absurd (h.w8 hr) hw⟩
        cases spec_WidthOk_m i.w <;> cases (i.w == 0) <;> simp
    · have n3 : (i.op_ == 23) = false := by simpa using hr
      simp only [n3, Bool.false_eq_true, if_false] at HI HS2
      by_cases hw : isW i.w
      · have e8 : impl_WidthOk_m i.w = true := wB_iff.2 hw
        have e9 : spec_WidthOk_m i.w = true := wB_iff.2 hw
        have ez : (i.w == 0) = false := by rcases hw with h | h | h | h <;> simp [h]
        simp only [e8, e9, ez, if_true, Bool.not_true, BEq.rfl, Bool.false_eq_true, if_false] at HI HS2
        have hval : ∃ b, (if (i.op_ == 21) = true then some (valB i.w i.imm) else if (i.op_ == 26) = true then some (iB i.imm 0 (funcs - 1)) else some (i.imm == 0)) = some b := by
          split
          · exact ⟨_, rfl⟩
          · split <;> exact ⟨_, rfl⟩
        obtain ⟨b, hb⟩ := hval
        refine ⟨b, HI.trans hb, HS2 _ (by first | exact hb | simpa using hb), fun hbt => ⟨hop, h4, hna', hin, hzz.1, hzz.2.1, hzz.2.2, fun h' => absurd h' hv, fun _ => hw, fun h' => absurd h' hr, fun h' => ?_, fun h' => ?_, fun h' h'' => ?_⟩, fun h => ?_⟩
        · rw [if_pos (by simpa using h')] at hb
          rw [← hbt]; exact Option.some.inj hb
        · rw [if_neg (by simp [h']), if_pos (by simpa using h')] at hb
          have := Option.some.inj hb
          rw [hbt, iB_iff] at this
          omega
        · rw [if_neg (by simpa using h'), if_neg (by simpa using h'')] at hb
          have := Option.some.inj hb
          rw [hbt] at this
          simpa using this
        · have hb := Option.some.inj (show some b = some true from ?_)
          · exact hb
          rw [← hb]
          by_cases k1 : i.op_ = 21
          · rw [if_pos (by simpa using k1), h.const k1]
          · rw [if_neg (by simpa using k1)]
            by_cases k2 : i.op_ = 26
            · rw [if_pos (by simpa using k2), iB_iff.2 (by have := h.call k2; omega)]
            · rw [if_neg (by simpa using k2), h.imm k1 k2]
              rfl
      · have e8 : impl_WidthOk_m i.w = false := by
          cases hx : impl_WidthOk_m i.w with
          | false => rfl
          | true => exact absurd (wB_iff.1 hx) hw
        have e9 : spec_WidthOk_m i.w = false := e8
        simp only [e8, e9, Bool.not_false, Bool.true_or, if_true, Bool.false_eq_true, if_false] at HI HS2
        refine ⟨false, HI, HS2 _ ?_, by simp, fun h => absurd (h.w1 hv) hw⟩
        cases (i.w == 0) <;> rfl
/-- An end in its form. -/
structure fmT (t : GTerm) (ids blocks : Int) : Prop where
  kind : t.kind = 1 ∨ t.kind = 2 ∨ t.kind = 3 ∨ t.kind = 4
  a : t.kind = 1 ∨ t.kind = 3 → 0 ≤ t.a ∧ t.a < ids
  x : t.kind = 2 ∨ t.kind = 3 → 0 ≤ t.x ∧ t.x < blocks
  y : t.kind = 3 → 0 ≤ t.y ∧ t.y < blocks ∧ t.x ≠ t.y
  z1 : t.kind = 1 → t.x = 0 ∧ t.y = 0
  z2 : t.kind = 2 → t.a = 0 ∧ t.y = 0
  z4 : t.kind = 4 → t.a = 0 ∧ t.x = 0 ∧ t.y = 0
theorem term_ok {f : GFunc} {t : GTerm} {ids : Int} (h1 : inI (ids - 1)) (h2 : inI ((f.blocks.length : Int) - 1)) : ∃ b, impl_isTerm_m f t ids = some b ∧ spec_l2Term_m t ids (f.blocks.length : Int) = some b ∧ (b = true ↔ fmT t ids (f.blocks.length : Int)) := by
  unfold impl_isTerm_m spec_l2Term_m impl_isTerm_1_m
  have hi := fun a b : Int => @iB_iff a 0 b
  simp only [if_pos h1, if_pos h2, spec_in, iB] at hi ⊢
  by_cases k1 : t.kind = 1
  · simp only [k1, BEq.rfl, if_true]
    rcases Bool.eq_false_or_eq_true (impl_within_m t.a 0 (ids - 1)) with hA | hA
    rotate_left
    · exact ⟨false, by simp [hA], by simp [hA], by simp, fun h => by have := h.a (.inl k1); rw [(hi _ _).2 (by omega)] at hA; cases hA⟩
    · refine ⟨(t.x == 0) && (t.y == 0), ?_, ?_, fun h => ⟨.inl k1, fun _ => by have := (hi _ _).1 hA; omega, fun h => by omega, fun h => by omega, fun _ => by simpa using h, fun h => by omega, fun h => by omega⟩, fun h => by simpa using h.z1 k1⟩
      · cases (t.x == 0) <;> simp [hA]
      · cases (t.x == 0) <;> simp [hA]
  · have e1 : (t.kind == 1) = false := by simpa using k1
    simp only [e1, Bool.false_eq_true, if_false]
    by_cases k2 : t.kind = 2
    · simp only [k2, BEq.rfl, if_true]
      refine ⟨(t.a == 0) && (impl_within_m t.x 0 ((f.blocks.length : Int) - 1) && (t.y == 0)), rfl, ?_, fun h => ⟨.inr (.inl k2), fun h => by omega, fun _ => ?_, fun h => by omega, fun h => by omega, fun _ => ?_, fun h => by omega⟩, fun h => ?_⟩
      · cases (t.a == 0) <;> rcases Bool.eq_false_or_eq_true (impl_within_m t.x 0 ((f.blocks.length : Int) - 1)) with hX | hX <;> simp [hX]
      · simp only [Bool.and_eq_true] at h
        have := (hi _ _).1 h.2.1
        omega
      · simp only [Bool.and_eq_true] at h
        exact ⟨by simpa using h.1, by simpa using h.2.2⟩
      · have g1 := h.z2 k2
        have g2 := h.x (.inl k2)
        rw [(hi _ _).2 (by omega), g1.1, g1.2]
        rfl
    · have e2 : (t.kind == 2) = false := by simpa using k2
      simp only [e2, Bool.false_eq_true, if_false]
      by_cases k3 : t.kind = 3
      · simp only [k3, BEq.rfl, if_true]
        refine ⟨impl_within_m t.a 0 (ids - 1) && (impl_within_m t.x 0 ((f.blocks.length : Int) - 1) && (impl_within_m t.y 0 ((f.blocks.length : Int) - 1) && (t.x != t.y))), ?_, ?_, fun h => ?_, fun h => ?_⟩
        · show (Option.bind (if impl_within_m t.a 0 (ids - 1) = true then (if impl_within_m t.x 0 ((f.blocks.length : Int) - 1) = true then (if impl_within_m t.y 0 ((f.blocks.length : Int) - 1) = true then some (t.x != t.y) else some false) else some false) else some false) fun j => some j) = _
          rcases Bool.eq_false_or_eq_true (impl_within_m t.a 0 (ids - 1)) with hA | hA <;> rcases Bool.eq_false_or_eq_true (impl_within_m t.x 0 ((f.blocks.length : Int) - 1)) with hX | hX <;> rcases Bool.eq_false_or_eq_true (impl_within_m t.y 0 ((f.blocks.length : Int) - 1)) with hY | hY <;> simp [hA, hX, hY]
        · rcases Bool.eq_false_or_eq_true (impl_within_m t.a 0 (ids - 1)) with hA | hA <;> rcases Bool.eq_false_or_eq_true (impl_within_m t.x 0 ((f.blocks.length : Int) - 1)) with hX | hX <;> rcases Bool.eq_false_or_eq_true (impl_within_m t.y 0 ((f.blocks.length : Int) - 1)) with hY | hY <;> simp [hA, hX, hY]
        · simp only [Bool.and_eq_true] at h
          have g1 := (hi _ _).1 h.1
          have g2 := (hi _ _).1 h.2.1
          have g3 := (hi _ _).1 h.2.2.1
          have g4 := h.2.2.2
          exact ⟨.inr (.inr (.inl k3)), fun _ => by omega, fun _ => by omega, fun _ => ⟨by omega, by omega, by simpa using g4⟩, fun h => by omega, fun h => by omega, fun h => by omega⟩
        · have g1 := h.a (.inr k3)
          have g2 := h.x (.inr k3)
          have g3 := h.y k3
          rw [(hi _ _).2 (by omega), (hi _ _).2 (by omega), (hi _ _).2 (by omega)]
          simpa using g3.2.2
      · have e3 : (t.kind == 3) = false := by simpa using k3
        simp only [e3, Bool.false_eq_true, if_false]
        refine ⟨(t.kind == 4) && ((t.a == 0) && ((t.x == 0) && (t.y == 0))), ?_, rfl, fun h => ?_, fun h => ?_⟩
        · cases (t.kind == 4) <;> simp
        · simp only [Bool.and_eq_true] at h
          have : t.kind = 4 := by simpa using h.1
          exact ⟨.inr (.inr (.inr this)), fun h => by omega, fun h => by omega, fun h => by omega, fun h => by omega, fun h => by omega, fun _ => ⟨by simpa using h.2.1, by simpa using h.2.2.1, by simpa using h.2.2.2⟩⟩
        · have k4 : t.kind = 4 := by
            have := h.kind
            omega
          have g := h.z4 k4
          rw [k4, g.1, g.2.1, g.2.2]
          rfl
/-- A function in its form. -/
structure fmF (f : GFunc) (funcs : Int) : Prop where
  params : f.params.length ≤ 4
  pw : ∀ w ∈ f.params, isW w
  ret : isW f.ret
  blocks : 1 ≤ f.blocks.length ∧ f.blocks.length ≤ 10
  cnt : cnt f ≤ 60
  phis : ∀ b ∈ f.blocks, ∀ p ∈ b.phis, isW p.w ∧ p.ins.length ≤ 10 ∧ inN (AM.cnt f) p.ins
  insts : ∀ b ∈ f.blocks, ∀ i ∈ b.insts, fmI i (AM.cnt f) funcs
  terms : ∀ b ∈ f.blocks, fmT b.term (AM.cnt f) f.blocks.length
noncomputable def phiB (p : GPhi) (n : Int) : Bool := wB p.w && (decide (p.ins.length ≤ 10) && p.ins.all fun x => iB x 0 (n - 1))
theorem phi_impl {p : GPhi} {n : Int} (h1 : inI (n - 1)) (hl : p.ins.length ≤ 1000000000000) : impl_isFunc_2_m p n = some (!phiB p n) := by
  unfold impl_isFunc_2_m phiB
  cases hw : impl_WidthOk_m p.w
  · simp [wB, hw]
  · by_cases h : p.ins.length ≤ 10
    · rw [if_neg (by simp), if_neg (by simp; omega), indexFunc_int_ok _ _ (fun x => !iB x 0 (n - 1)) (fun x _ => by unfold impl_isFunc_2_1_m; rw [if_pos h1]) (by omega)]
      simp only [obs, wB, hw, Bool.true_and, h, decide_true]
      congr 1
      rw [List.all_eq_not_any_not, Bool.not_not]
    · rw [if_neg (by simp), if_pos (by simp; omega)]
      simp [wB, hw, h]
noncomputable def instB (i : GInst) (n funcs : Int) : Bool := (impl_isInst_m i n funcs).getD false
noncomputable def termB (f : GFunc) (t : GTerm) (n : Int) : Bool := (impl_isTerm_m f t n).getD false
theorem inst_impl {i : GInst} {n funcs : Int} (ha : i.args.length ≤ 1000000000000) (h1 : inI (n - 1)) (h2 : inI (funcs - 1)) : impl_isInst_m i n funcs = some (instB i n funcs) := by
  obtain ⟨b, e, _, _⟩ := inst_ok ha h1 h2
  rw [instB, e]; rfl
theorem inst_spec {i : GInst} {n funcs : Int} (ha : i.args.length ≤ 1000000000000) (h1 : inI (n - 1)) (h2 : inI (funcs - 1)) : spec_l2Inst_m i n funcs = some (instB i n funcs) := by
  obtain ⟨b, e, e2, _⟩ := inst_ok ha h1 h2
  rw [instB, e, e2]; rfl
theorem inst_true {i : GInst} {n funcs : Int} (h1 : inI (n - 1)) (h2 : inI (funcs - 1)) (h : fmI i n funcs) : instB i n funcs = true := by
  obtain ⟨b, e, _, e3⟩ := inst_ok (Nat.le_trans h.args (by decide)) h1 h2
  rw [instB, e]
  exact e3.2 h
theorem term_impl {f : GFunc} {t : GTerm} {n : Int} (h1 : inI (n - 1)) (h2 : inI ((f.blocks.length : Int) - 1)) : impl_isTerm_m f t n = some (termB f t n) := by
  obtain ⟨b, e, _, _⟩ := term_ok (t := t) h1 h2
  rw [termB, e]; rfl
theorem term_spec {f : GFunc} {t : GTerm} {n : Int} (h1 : inI (n - 1)) (h2 : inI ((f.blocks.length : Int) - 1)) : spec_l2Term_m t n (f.blocks.length : Int) = some (termB f t n) := by
  obtain ⟨b, e, e2, _⟩ := term_ok (t := t) h1 h2
  rw [termB, e, e2]; rfl
theorem term_true {f : GFunc} {t : GTerm} {n : Int} (h1 : inI (n - 1)) (h2 : inI ((f.blocks.length : Int) - 1)) (h : fmT t n f.blocks.length) : termB f t n = true := by
  obtain ⟨b, e, _, e3⟩ := term_ok (t := t) h1 h2
  rw [termB, e]
  exact e3.2 h
theorem phi_true {p : GPhi} {n : Int} (h : isW p.w ∧ p.ins.length ≤ 10 ∧ inN n p.ins) : phiB p n = true := by
  simp only [phiB, Bool.and_eq_true, decide_eq_true_eq, List.all_eq_true]
  exact ⟨wB_iff.2 h.1, h.2.1, fun x hx => iB_iff.2 (by have := h.2.2 x hx; omega)⟩
/-- A block in its form. -/
noncomputable def blkB (f : GFunc) (funcs : Int) (b : GBlock) : Bool := b.phis.all (fun p => phiB p (cnt f)) && (b.insts.all (fun i => instB i (cnt f) funcs) && termB f b.term (cnt f))
theorem any_not {α : Type} (l : List α) (c : α → Bool) : l.any (fun x => !c x) = !l.all c := by rw [List.all_eq_not_any_not, Bool.not_not]
theorem blk_impl {f : GFunc} {funcs : Int} (h : bndF f) (h2 : inI (funcs - 1)) : ∀ L, loopO (fun (st15 : Int) =>
 ((if decide (st15 < ((List.length f.blocks : Int))) = true then
 (if 0 ≤ st15 ∧ st15 < (List.length f.blocks : Int) then
 (Option.bind (slices_ContainsFunc_impl_Phi_impl_Phi_m ((at_ f.blocks st15).phis) ((fun z0 => impl_isFunc_2_m z0 (cnt f : Int)))) fun x20 =>
 (if x20 = true then
 (some (Sum.inr ((Sum.inl (())))))
 else
 (Option.bind ((Option.bind (slices_ContainsFunc_impl_Inst_impl_Inst_m ((at_ f.blocks st15).insts) ((fun z0 => impl_isFunc_3_m z0 (cnt f : Int) funcs))) fun x24 =>
 (if x24 = true then
 (some true)
 else
 (Option.bind (impl_isTerm_m f (((at_ f.blocks st15).term)) (cnt f : Int)) fun x27 =>
 (some ((!x27))))))) fun (j23 : Bool) =>
 (if j23 = true then
 (some (Sum.inr ((Sum.inl (())))))
 else
 (if inI (st15 + 1) then
 (some (Sum.inl (st15 + 1)))
 else none)))))
 else none)
 else
 (some (Sum.inr ((Sum.inr (())))))) : Option ((Int) ⊕ (Unit ⊕ Unit)))) 0 = L → (f.blocks.all (blkB f funcs) = false ∧ L = some (.inl ())) ∨ (f.blocks.all (blkB f funcs) = true ∧ L = some (.inr ())) := by
  intro L hB
  have hc := h.cnt_le
  have hb := h.blocks
  have h1 : inI ((cnt f : Int) - 1) := inI_le (by omega) (by omega)
  have h3 : inI ((f.blocks.length : Int) - 1) := inI_le (by omega) (by omega)
  have K := loop_any' hB f.blocks (fun b => !blkB f funcs b) (fun _ => ()) (by
    intro k hk
    have h0 : 0 ≤ (k : Int) ∧ (k : Int) < (f.blocks.length : Int) := by omega
    have hm := at_mem h0
    have hr := h.rows _ hm
    rw [if_pos (by simpa using hk), if_pos h0, contains_phi_ok _ _ (fun p => !phiB p (cnt f)) (fun p hp => phi_impl h1 (h.ins _ hm p hp)) (by omega), any_not, obs]
    rw [contains_inst_ok _ _ (fun i => !instB i (cnt f) funcs) (fun i hi => by unfold impl_isFunc_3_m; rw [inst_impl (h.args _ hm i hi) h1 h2]; rfl) (by omega), any_not, obs, term_impl h1 h3, obs]
    simp only [blkB]
    rcases Bool.eq_false_or_eq_true ((at_ f.blocks (k : Int)).phis.all (fun p => phiB p (cnt f))) with hA | hA
    · rcases Bool.eq_false_or_eq_true ((at_ f.blocks (k : Int)).insts.all (fun i => instB i (cnt f) funcs)) with hB2 | hB2
      · rcases Bool.eq_false_or_eq_true (termB f (at_ f.blocks (k : Int)).term (cnt f)) with hC | hC
        · simp only [hA, hB2, hC, Bool.not_true, Bool.false_eq_true, if_false, obs, Bool.and_self]
          rw [if_pos (inI_le (by omega) (by omega))]
        · simp [hA, hB2, hC]
      · simp [hA, hB2]
    · simp [hA]) (by rw [if_neg (by simp)])
  rw [any_not] at K
  rcases K with ⟨k1, k, _, rfl⟩ | ⟨k1, rfl⟩
  · exact .inl ⟨by simpa using k1, rfl⟩
  · exact .inr ⟨by simpa using k1, rfl⟩
end Go.Proofs.Ytghdhjgoicnbcaa.AM
