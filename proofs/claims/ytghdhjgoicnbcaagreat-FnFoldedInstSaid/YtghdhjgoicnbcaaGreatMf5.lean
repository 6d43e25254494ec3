import Derived.Test.YtghdhjgoicnbcaaGreatMf4
import Derived.SizedLaws
import Derived.WideShapes
import Derived.ChangeSlices
import Derived.OpenShut
import Derived.Below
set_option linter.unusedVariables false
set_option linter.unusedSimpArgs false
namespace Go.Proofs.YtghdhjgoicnbcaaGreat.AM
open Go
set_option linter.unusedSimpArgs false
set_option linter.unusedVariables false
set_option maxHeartbeats 8000000
set_option maxRecDepth 100000
attribute [local irreducible] aopK awpOps Wp St WpO
/-- impl.isFunc -/
noncomputable def impl_isFunc_m (f : GFunc) (funcs : Int) : Option Bool :=
 (Option.bind ((if decide (((List.length f.params : Int)) > 4) = true then
 (some true)
 else
 (if (!((impl_WidthOk_m f.ret))) = true then
 (some true)
 else
 (if (!((impl_within_m ((List.length f.blocks : Int)) 1 10))) = true then
 (some true)
 else
 (Option.bind (slices_ContainsFunc_int64_int64_m f.params ((fun z0 => some (impl_isFunc_1_m z0)))) fun x7 =>
 (some x7)))))) fun (j1 : Bool) =>
 (if j1 = true then
 (some false)
 else
 (Option.bind (impl_CountOf_m f) fun x11 =>
 (if decide (x11 > 60) = true then
 (some false)
 else
 (Option.bind (loopO (fun (st15 : Int) =>
 ((if decide (st15 < ((List.length f.blocks : Int))) = true then
 (if 0 ≤ st15 ∧ st15 < (List.length f.blocks : Int) then
 (Option.bind (slices_ContainsFunc_impl_Phi_impl_Phi_m ((at_ f.blocks st15).phis) ((fun z0 => impl_isFunc_2_m z0 x11))) fun x20 =>
 (if x20 = true then
 (some (Sum.inr ((Sum.inl (())))))
 else
 (Option.bind ((Option.bind (slices_ContainsFunc_impl_Inst_impl_Inst_m ((at_ f.blocks st15).insts) ((fun z0 => impl_isFunc_3_m z0 x11 funcs))) fun x24 =>
 (if x24 = true then
 (some true)
 else
 (Option.bind (impl_isTerm_m f (((at_ f.blocks st15).term)) x11) fun x27 =>
 (some ((!x27))))))) fun (j23 : Bool) =>
 (if j23 = true then
 (some (Sum.inr ((Sum.inl (())))))
 else
 (if inI (st15 + 1) then
 (some (Sum.inl (st15 + 1)))
 else none)))))
 else none)
 else
 (some (Sum.inr ((Sum.inr (())))))) : Option ((Int) ⊕ (Unit ⊕ Unit)))) 0) fun (y32 : Unit ⊕ Unit) => match y32 with
 | (Sum.inl j16) =>
 (some false)
 | (Sum.inr j17) =>
 (some true))))))
theorem impl_isFunc_sim {f : GFunc} {funcs : Int} {r : Bool} (hm : impl_isFunc_m f funcs = some r) : Sim Tryz.prog 84 [.agg (eFunc false f), .one (.int .i64 funcs)] [] (.u (.one (.bool r))) [] := by
 refine fN 58 0 Tryz.func84 [.tmp 4] fun B hB0 => ?_
 unfold impl_isFunc_m at hm
 refine Wp.seq ?_
 refine c_regS ?_
 refine yR ?_
 intro _ hm
 refine o_end ?_
 refine Wp.seq ?_
 refine Wp.seq ?_
 obtain ⟨j1, hj9, hm⟩ := of_bind hm
 refine c_cut (St 58 [(2, vP 0), (3, vP 1), (29, vB j1)] [(0, oL 3 (eFunc false f)), (1, oL 1 [.int .i64 funcs])] 2) ?_ ?_
 replace hm := hj9
 refine yG ?_
 intro k1 hm
 refine bG0 hm (fun hb3 hm => ?_) fun hb3 hm => ?_
 refine yG ?_
 intro _ hm
 refine gO_t rfl rfl rfl (aopK_A (cB (impl_WidthOk_sim f.ret) ?_))
 refine yG ?_
 intro _ hm
 refine bG0 hm (fun hb4 hm => ?_) fun hb4 hm => ?_
 refine yG ?_
 intro k2 hm
 refine gO_t rfl rfl rfl (aopK_A (cB (impl_within_sim ((List.length f.blocks : Int)) 1 10) ?_))
 refine yG ?_
 intro _ hm
 refine bG0 hm (fun hb6 hm => ?_) fun hb6 hm => ?_
 refine yG ?_
 intro _ hm
 obtain ⟨x7, h8, hm⟩ := of_bind hm
 refine gO_t rfl rfl rfl (aopK_A (x_call (v := .u (.one (.bool x7))) (nobs := []) (oa' := _) (nx' := 2) rfl (a_1 rfl (b_s rfl) (a_1 rfl (b_f c_n) a_n)) c_n ent118 (slices_ContainsFunc_int64_int64_sim f.params 158 [] (fun z0 => some (impl_isFunc_1_m z0)) ent158 rfl (fun z0 y hy => by cases hy; exact impl_isFunc_1_sim z0) h8) rfl rfl rfl rfl ?_))
 refine yG ?_
 intro _ hm
 cases hm
 exact vW [0, 1]
 refine yG ?_
 intro _ hm
 cases hm
 exact vW [0, 1]
 refine yG ?_
 intro _ hm
 cases hm
 exact vW [0, 1]
 refine yG ?_
 intro _ hm
 cases hm
 exact vW [0, 1]
 refine bS hm (fun hb10 hm => ?_) fun hb10 hm => ?_
 refine yG ?_
 intro _ hm
 cases hm
 exact rZ1
 refine yG ?_
 intro _ hm
 refine nO (kW ?_)
 obtain ⟨x11, h12, hm⟩ := of_bind hm
 refine nO (aopK_A (cB (impl_CountOf_sim h12) ?_))
 refine yG ?_
 intro _ hm
 refine bS hm (fun hb13 hm => ?_) fun hb13 hm => ?_
 refine yG ?_
 intro _ hm
 cases hm
 exact rZ1
 refine yG ?_
 intro k3 hm
 obtain ⟨y32, hl33, hm⟩ := of_bind hm
 refine c_loop hl33 (fun (st15 : Int) => St 58 [(2, vP 0), (3, vP 1), (5, vP 2), (35, .u (.one (.bs () 6 (List.map (eBlock false) f.blocks)))), (36, vI ((List.length f.blocks : Int))), (37, vI st15)] [(0, oL 3 (eFunc false f)), (1, oL 1 [.int .i64 funcs]), (2, oL 1 [.int .i64 x11])] 3) (fun (y : Unit ⊕ Unit) => match y with | (Sum.inl j16) => (.ret, St 58 [(4, vB false)] [] 0) | (Sum.inr j17) => (.exit 0, St 58 [] [] 0)) (vW [0, 1, 2]) ?_ (by rintro (_ | _) <;> simp) ?_
 intro st15 x hm
 refine yG ?_
 intro _ hm
 refine bS hm (fun hb18 hm => ?_) fun hb18 hm => ?_
 refine yG ?_
 intro k4 hm
 refine nO (x_ldi T53 rfl (pk_all rfl rfl) rfl ?_)
 refine yG ?_
 intro _ hm
 refine nO (x_mf (ls := [.ptr () 2 0 0]) rfl ?_)
 obtain ⟨x20, h21, hm⟩ := of_bind hm
 refine nO (aopK_A (x_call (v := .u (.one (.bool x20))) (nobs := []) (oa' := _) (nx' := 4) rfl (a_1 rfl (b_s rfl) (a_1 rfl (b_f (c_c (b_p (cs := [.int .i64 x11]) rfl (c_c (b_s rfl) c_n) rfl) c_n)) a_n)) c_n ent159 (slices_ContainsFunc_impl_Phi_impl_Phi_sim ((at_ f.blocks st15).phis) 160 [.ip () [.int .i64 x11]] (fun z0 => impl_isFunc_2_m z0 x11) ent160 rfl (fun z0 y hy => impl_isFunc_2_sim hy) h21) rfl rfl rfl rfl ?_))
 refine o_end ?_
 refine bS hm (fun hb22 hm => ?_) fun hb22 hm => ?_
 refine yG ?_
 intro _ hm
 cases hm
 exact ⟨rfl, vW []⟩
 refine c_skip ?_
 refine Wp.seq ?_
 obtain ⟨j23, hj29, hm⟩ := of_bind hm
 refine c_cut (St 58 [(2, vP 0), (3, vP 1), (5, vP 2), (35, .u (.one (.bs () 6 (List.map (eBlock false) f.blocks)))), (36, vI ((List.length f.blocks : Int))), (37, vI st15), (56, vB j23)] [(0, oL 3 (eFunc false f)), (1, oL 1 [.int .i64 funcs]), (2, oL 1 [.int .i64 x11])] 3) ?_ ?_
 replace hm := hj29
 refine yG ?_
 intro _ hm
 refine nO (x_mf (ls := [.ptr () 2 0 0, .ptr () 1 0 0]) rfl ?_)
 obtain ⟨x24, h25, hm⟩ := of_bind hm
 refine nO (aopK_A (x_call (v := .u (.one (.bool x24))) (nobs := []) (oa' := _) (nx' := 4) rfl (a_1 rfl (b_s rfl) (a_1 rfl (b_f (c_c (b_p (cs := [.int .i64 x11]) rfl (c_c (b_s rfl) c_n) rfl) (c_c (b_p (cs := [.int .i64 funcs]) rfl (c_c (b_s rfl) c_n) rfl) c_n))) a_n)) c_n ent146 (slices_ContainsFunc_impl_Inst_impl_Inst_sim ((at_ f.blocks st15).insts) 162 [.ip () [.int .i64 x11], .ip () [.int .i64 funcs]] (fun z0 => impl_isFunc_3_m z0 x11 funcs) ent162 rfl (fun z0 y hy => impl_isFunc_3_sim hy) h25) rfl rfl rfl rfl ?_))
 refine yG ?_
 intro _ hm
 refine bG0 hm (fun hb26 hm => ?_) fun hb26 hm => ?_
 refine gO_t rfl rfl rfl (kW ?_)
 refine yG ?_
 intro _ hm
 refine gO_t rfl rfl rfl (kL (.agg (eTerm (((at_ f.blocks st15).term)))) ?_)
 refine yG ?_
 intro _ hm
 obtain ⟨x27, h28, hm⟩ := of_bind hm
 refine gO_t rfl rfl rfl (aopK_A (cB (impl_isTerm_sim h28) ?_))
 refine yG ?_
 intro _ hm
 cases hm
 exact vW [0, 1, 2]
 refine yG ?_
 intro _ hm
 cases hm
 exact vW [0, 1, 2]
 refine bS hm (fun hb30 hm => ?_) fun hb30 hm => ?_
 refine yG ?_
 intro _ hm
 cases hm
 exact ⟨rfl, vW []⟩
 refine yG ?_
 intro k5 hm
 cases hm
 exact ⟨rfl, vW [0, 1, 2]⟩
 refine c_exit ?_
 cases hm
 exact ⟨rfl, vW []⟩
 rcases y32 with j16 | j17 <;> simp only at hm
 cases hm
 exact rZ1
 refine yG ?_
 intro _ hm
 cases hm
 exact rZ1
/-- impl.isFormed -/
noncomputable def impl_isFormed_m (f : GFunc) : Option Bool :=
 (Option.bind (impl_isFunc_m f 3) fun x1 =>
 (some x1))
theorem impl_isFormed_sim {f : GFunc} {r : Bool} (hm : impl_isFormed_m f = some r) : Sim Tryz.prog 65 [.agg (eFunc false f)] [] (.u (.one (.bool r))) [] := by
 refine fN 5 0 Tryz.func65 [.tmp 2] fun B hB0 => ?_
 unfold impl_isFormed_m at hm
 refine yG ?_
 intro _ hm
 refine nO (kW ?_)
 obtain ⟨x1, h2, hm⟩ := of_bind hm
 refine nO (aopK_A (cB (impl_isFunc_sim h2) ?_))
 refine yG ?_
 intro _ hm
 cases hm
 exact rZ1
/-- impl.isId -/
noncomputable def impl_isId_m (f : GFunc) (id : Int) : Option Bool :=
 (Option.bind (impl_CountOf_m f) fun x1 =>
 (if inI (x1 - 1) then
 (some ((impl_within_m id 0 (x1 - 1))))
 else none))
theorem impl_isId_sim {f : GFunc} {id : Int} {r : Bool} (hm : impl_isId_m f id = some r) : Sim Tryz.prog 107 [.agg (eFunc false f), .one (.int .i64 id)] [] (.u (.one (.bool r))) [] := by
 refine fN 10 0 Tryz.func107 [.tmp 4] fun B hB0 => ?_
 unfold impl_isId_m at hm
 refine yG ?_
 intro _ hm
 refine nO (kW ?_)
 obtain ⟨x1, h2, hm⟩ := of_bind hm
 refine nO (aopK_A (cB (impl_CountOf_sim h2) ?_))
 refine yG ?_
 intro k1 hm
 refine nO (aopK_A (cB (impl_within_sim id 0 (x1 - 1)) ?_))
 refine yG ?_
 intro _ hm
 cases hm
 exact rZ1
/-- impl.PlaceOf -/
noncomputable def impl_PlaceOf_m (f : GFunc) (id : Int) : Option (Int × Int) :=
 (Option.bind (impl_isId_m f id) fun x1 =>
 (if (!x1) = true then
 (some (((-2), 0)))
 else
 (if decide (id < ((List.length f.params : Int))) = true then
 (some (((-1), id)))
 else
 (Option.bind (loopO (fun (st7 : Int × Int) =>
 ((if decide (st7.1 < ((List.length f.blocks : Int))) = true then
 (if 0 ≤ st7.1 ∧ st7.1 < (List.length f.blocks : Int) then
 (if inI (st7.2 + (((List.length ((at_ f.blocks st7.1).phis) : Int)) + ((List.length ((at_ f.blocks st7.1).insts) : Int)))) then
 (if decide (id < (st7.2 + (((List.length ((at_ f.blocks st7.1).phis) : Int)) + ((List.length ((at_ f.blocks st7.1).insts) : Int))))) = true then
 (some (Sum.inr ((Sum.inl ((st7.1, IntKind.i64.wrap (id - st7.2)))))))
 else
 (if inI (st7.2 + (((List.length ((at_ f.blocks st7.1).phis) : Int)) + ((List.length ((at_ f.blocks st7.1).insts) : Int)))) then
 (if inI (st7.1 + 1) then
 (some (Sum.inl ((st7.1 + 1, st7.2 + (((List.length ((at_ f.blocks st7.1).phis) : Int)) + ((List.length ((at_ f.blocks st7.1).insts) : Int)))))))
 else none)
 else none))
 else none)
 else none)
 else
 (some (Sum.inr ((Sum.inr (())))))) : Option ((Int × Int) ⊕ ((Int × Int) ⊕ Unit)))) (0, (List.length f.params : Int))) fun (y18 : (Int × Int) ⊕ Unit) => match y18 with
 | (Sum.inl j8) =>
 (some ((j8.1, j8.2)))
 | (Sum.inr j9) =>
 (some (((-2), 0)))))))
theorem impl_PlaceOf_sim {f : GFunc} {id : Int} {r : Int × Int} (hm : impl_PlaceOf_m f id = some r) : Sim Tryz.prog 87 [.agg (eFunc false f), .one (.int .i64 id)] [] (.tup [.one (.int .i64 r.1), .one (.int .i64 r.2)]) [] := by
 refine fN 49 0 Tryz.func87 [.tmp 4, .tmp 5] fun B hB0 => ?_
 have fW := trivial
 unfold impl_PlaceOf_m at hm
 refine yG ?_
 intro _ hm
 refine nO (kW ?_)
 refine yG ?_
 intro _ hm
 obtain ⟨x1, h2, hm⟩ := of_bind hm
 refine nO (aopK_A (cB (impl_isId_sim h2) ?_))
 refine yG ?_
 intro _ hm
 refine bS hm (fun hb3 hm => ?_) fun hb3 hm => ?_
 refine yG ?_
 intro _ hm
 cases hm
 exact rZt
 refine yG ?_
 intro k1 hm
 refine bS hm (fun hb5 hm => ?_) fun hb5 hm => ?_
 refine yG ?_
 intro _ hm
 cases hm
 exact rZt
 refine yG ?_
 intro k2 hm
 obtain ⟨y18, hl19, hm⟩ := of_bind hm
 refine c_loop hl19 (fun (st7 : Int × Int) => St 49 [(1, vI id), (6, vI st7.2), (22, .u (.one (.bs () 6 (List.map (eBlock false) f.blocks)))), (23, vI ((List.length f.blocks : Int))), (24, vI st7.1)] [] 0) (fun (y : (Int × Int) ⊕ Unit) => match y with | (Sum.inl j8) => (.ret, St 49 [(4, vI j8.1), (5, vI j8.2)] [] 0) | (Sum.inr j9) => (.exit 0, St 49 [] [] 0)) (vW []) ?_ (by rintro (_ | _) <;> simp) ?_
 intro st7 x hm
 refine yG ?_
 intro _ hm
 refine bS hm (fun hb10 hm => ?_) fun hb10 hm => ?_
 refine yG ?_
 intro k3 hm
 refine nO (x_ldi T53 rfl (pk_all rfl rfl) rfl ?_)
 refine yG ?_
 intro k4 hm
 refine nO (x_addc T3 rfl rfl (by unfold inI; omega) ?_)
 refine yG ?_
 intro k5 hm
 refine bS hm (fun hb15 hm => ?_) fun hb15 hm => ?_
 refine yG ?_
 intro _ hm
 refine nO (x_binw T2 rfl rfl rfl ?_)
 refine yG ?_
 intro _ hm
 cases hm
 exact ⟨rfl, vW []⟩
 refine yG ?_
 intro k6 hm
 cases hm
 exact ⟨rfl, vW []⟩
 refine c_exit ?_
 cases hm
 exact ⟨rfl, vW []⟩
 rcases y18 with j8 | j9 <;> simp only at hm
 cases hm
 exact rZt
 refine yG ?_
 intro _ hm
 cases hm
 exact rZt
/-- impl.instOf -/
noncomputable def impl_instOf_m (f : GFunc) (id : Int) : Option (GInst × Bool) :=
 (Option.bind (impl_PlaceOf_m f id) fun x1 =>
 (Option.bind ((if decide (x1.1 < 0) = true then
 (some true)
 else
 (if 0 ≤ x1.1 ∧ x1.1 < (List.length f.blocks : Int) then
 (some (decide (x1.2 < ((List.length ((at_ f.blocks x1.1).phis) : Int)))))
 else none))) fun (j3 : Bool) =>
 (if j3 = true then
 (some ((({ op_ := 0, w := 0, a := 0, b := 0, c := 0, imm := 0, args := [] } : GInst), false)))
 else
 (if 0 ≤ x1.1 ∧ x1.1 < (List.length f.blocks : Int) then
 (if 0 ≤ x1.1 ∧ x1.1 < (List.length f.blocks : Int) then
 (if 0 ≤ (IntKind.i64.wrap (x1.2 - ((List.length ((at_ f.blocks x1.1).phis) : Int)))) ∧ (IntKind.i64.wrap (x1.2 - ((List.length ((at_ f.blocks x1.1).phis) : Int)))) < (List.length ((at_ f.blocks x1.1).insts) : Int) then
 (some ((({ op_ := (at_ ((at_ f.blocks x1.1).insts) (IntKind.i64.wrap (x1.2 - ((List.length ((at_ f.blocks x1.1).phis) : Int))))).op_, w := (at_ ((at_ f.blocks x1.1).insts) (IntKind.i64.wrap (x1.2 - ((List.length ((at_ f.blocks x1.1).phis) : Int))))).w, a := (at_ ((at_ f.blocks x1.1).insts) (IntKind.i64.wrap (x1.2 - ((List.length ((at_ f.blocks x1.1).phis) : Int))))).a, b := (at_ ((at_ f.blocks x1.1).insts) (IntKind.i64.wrap (x1.2 - ((List.length ((at_ f.blocks x1.1).phis) : Int))))).b, c := (at_ ((at_ f.blocks x1.1).insts) (IntKind.i64.wrap (x1.2 - ((List.length ((at_ f.blocks x1.1).phis) : Int))))).c, imm := (at_ ((at_ f.blocks x1.1).insts) (IntKind.i64.wrap (x1.2 - ((List.length ((at_ f.blocks x1.1).phis) : Int))))).imm, args := (at_ ((at_ f.blocks x1.1).insts) (IntKind.i64.wrap (x1.2 - ((List.length ((at_ f.blocks x1.1).phis) : Int))))).args } : GInst), true)))
 else none)
 else none)
 else none))))
theorem impl_instOf_sim {f : GFunc} {id : Int} {r : GInst × Bool} (hm : impl_instOf_m f id = some r) : Sim Tryz.prog 71 [.agg (eFunc false f), .one (.int .i64 id)] [] (.tup [.agg (eInst false r.1), .one (.bool r.2)]) [] := by
 refine fN 45 0 Tryz.func71 [.cell 4 29, .tmp 5] fun B hB0 => ?_
 have fW := trivial
 unfold impl_instOf_m at hm
 refine yG ?_
 intro _ hm
 refine nO (kW ?_)
 refine yG ?_
 intro _ hm
 obtain ⟨x1, h2, hm⟩ := of_bind hm
 refine nO (aopK_A (cB (impl_PlaceOf_sim h2) ?_))
 refine yR ?_
 intro _ hm
 refine o_end ?_
 refine Wp.seq ?_
 refine Wp.seq ?_
 obtain ⟨j3, hj7, hm⟩ := of_bind hm
 refine c_cut (St 45 [(2, vP 0), (4, vP 1), (6, vI x1.1), (7, vI x1.2), (26, vB j3)] [(0, oL 3 (eFunc false f)), (1, oL 7 [.int .i64 0, .int .i64 0, .int .i64 0, .int .i64 0, .int .i64 0, .int .i64 0, .nl])] 2) ?_ ?_
 replace hm := hj7
 refine yG ?_
 intro _ hm
 refine bG0 hm (fun hb4 hm => ?_) fun hb4 hm => ?_
 refine yG ?_
 intro k1 hm
 cases hm
 exact vW [0, 1]
 refine yG ?_
 intro _ hm
 cases hm
 exact vW [0, 1]
 refine bS hm (fun hb8 hm => ?_) fun hb8 hm => ?_
 refine yG ?_
 intro _ hm
 cases hm
 exact rZth (hg := f_nl 0 6 1 false rfl rfl rfl)
 refine c_skip ?_
 refine Wp.seq ?_
 refine c_drw (Y := sysC _) mixed ?_
 refine tK 0 1 rfl (kF ?_)
 refine tK 1 1 rfl (kD ?_)
 refine tK 2 0 rfl (kV ?_)
 obtain ⟨h9, hm⟩ := of_ite hm
 refine tK 3 0 rfl (x_ixb E25 rfl rfl h9 ?_)
 refine tK 4 0 rfl (x_fai F53_1 rfl ?_)
 refine tK 5 0 rfl (x_ldi T49 rfl rfl rfl ?_)
 refine tK 6 0 rfl (kV ?_)
 refine tK 7 1 rfl (kF ?_)
 refine tK 8 1 rfl (kD ?_)
 refine tK 9 0 rfl (kV ?_)
 obtain ⟨h10, hm⟩ := of_ite hm
 refine tK 10 0 rfl (x_ixb E25 rfl rfl h10 ?_)
 refine tK 11 0 rfl (x_fai F53_0 rfl ?_)
 refine tK 12 0 rfl (x_ldi T48 rfl rfl rfl ?_)
 refine tK 13 0 rfl (x_lnb N48 rfl fun hL11 => ?_)
 refine tK 14 0 rfl (x_binw T2 rfl rfl rfl ?_)
 obtain ⟨h12, hm⟩ := of_ite hm
 refine tK 15 0 rfl (x_ixb E49 rfl rfl h12 ?_)
 refine tK 16 0 rfl (x_ldi T29 rfl (pk_all rfl rfl) rfl ?_)
 refine oK 17 rfl (kS ?_)
 refine tK 18 0 rfl (x_as rfl rfl ?_)
 refine aN ?_
 refine c_ret ?_
 cases hm
 exact rZt
/-- impl.ConstOf -/
noncomputable def impl_ConstOf_m (f : GFunc) (id : Int) : Option (Int × Bool) :=
 (Option.bind (impl_instOf_m f id) fun x1 =>
 (if ((!x1.2) || (x1.1.op_ != 21)) = true then
 (some ((0, false)))
 else
 (some ((x1.1.imm, true)))))
theorem impl_ConstOf_sim {f : GFunc} {id : Int} {r : Int × Bool} (hm : impl_ConstOf_m f id = some r) : Sim Tryz.prog 17 [.agg (eFunc false f), .one (.int .i64 id)] [] (.tup [.one (.int .i64 r.1), .one (.bool r.2)]) [] := by
 refine fN 23 0 Tryz.func17 [.tmp 4, .tmp 5] fun B hB0 => ?_
 unfold impl_ConstOf_m at hm
 refine yG ?_
 intro _ hm
 refine nO (kW ?_)
 refine yG ?_
 intro _ hm
 obtain ⟨x1, h2, hm⟩ := of_bind hm
 refine nO (cG [] (impl_instOf_sim h2) ?_)
 refine yR ?_
 intro _ hm
 refine o_end ?_
 refine Wp.seq ?_
 refine Wp.seq ?_
 refine c_cut (St 23 [(6, vP 0), (20, vB (((!x1.2) || (x1.1.op_ != 21))))] [(0, oL 7 (eInst false x1.1))] 1) ?_ ?_
 refine yG ?_
 intro _ hm
 refine gO_s rfl rfl rfl (fun hb4 => ?_) (fun hb4 => ?_)
 refine yG ?_
 intro _ hm
 exact w_ [1] (.cons rfl rfl (.cons (by simp only [hb4, BO]; rfl) rfl .nil)) (.lit rfl rfl .nil) (by decide) (hB_0 hB0)
 refine yG ?_
 intro _ hm
 exact w_ [1] (.cons rfl rfl (.cons (by simp only [hb4, BO]; rfl) rfl .nil)) (.lit rfl rfl .nil) (by decide) (hB_0 hB0)
 refine bS hm (fun hb5 hm => ?_) fun hb5 hm => ?_
 refine yG ?_
 intro _ hm
 cases hm
 exact rZt
 refine yG ?_
 intro _ hm
 cases hm
 exact rZt
/-- impl.isDivision -/
noncomputable def impl_isDivision_m (op_ : Int) : Bool :=
 ((impl_within_m op_ 4 7))
theorem impl_isDivision_sim (op_ : Int) : Sim Tryz.prog 244 [.one (.int .i64 op_)] [] (.u (.one (.bool ((impl_isDivision_m op_))))) [] := by
 generalize hm : impl_isDivision_m op_ = r
 refine fN 5 0 Tryz.func244 [.tmp 2] fun B hB0 => ?_
 unfold impl_isDivision_m at hm
 refine yG ?_
 intro _ hm
 refine nO (aopK_A (cB (impl_within_sim op_ 4 7) ?_))
 refine yG ?_
 intro _ hm
 cases hm
 exact rZ1
/-- impl.signOf -/
noncomputable def impl_signOf_m (w : Int) (v : Int) : Option Int :=
 (if inI (w - 1) then
 (if 0 ≤ (w - 1) then
 (if ((bits .and .i64 (v / 2 ^ min (Int.toNat (w - 1)) (IntKind.bits .i64)) 1) == 1) = true then
 (Option.bind (impl_mask_m w) fun x4 =>
 (if inI ((IntKind.i64.wrap (v - x4)) - 1) then
 (some ((IntKind.i64.wrap (v - x4)) - 1))
 else none))
 else
 (some v))
 else none)
 else none)
theorem impl_signOf_sim {w : Int} {v : Int} {r : Int} (hm : impl_signOf_m w v = some r) : Sim Tryz.prog 202 [.one (.int .i64 w), .one (.int .i64 v)] [] (.u (.one (.int .i64 r))) [] := by
 refine fN 17 0 Tryz.func202 [.tmp 4] fun B hB0 => ?_
 have fW := trivial
 unfold impl_signOf_m at hm
 refine yG ?_
 intro k1 hm
 refine bS hm (fun hb3 hm => ?_) fun hb3 hm => ?_
 refine yG ?_
 intro _ hm
 obtain ⟨x4, h5, hm⟩ := of_bind hm
 refine nO (aopK_A (cB (impl_mask_sim h5) ?_))
 refine nO (x_binw T2 rfl rfl rfl ?_)
 refine yG ?_
 intro k2 hm
 cases hm
 exact rZ1
 refine yG ?_
 intro _ hm
 cases hm
 exact rZ1
/-- impl.truth -/
noncomputable def impl_truth_m (is : Bool) : Int :=
 (if is = true then
 1
 else
 0)
theorem impl_truth_sim (is : Bool) : Sim Tryz.prog 277 [.one (.bool is)] [] (.u (.one (.int .i64 ((impl_truth_m is))))) [] := by
 generalize hm : impl_truth_m is = r
 refine fN 4 0 Tryz.func277 [.tmp 2] fun B hB0 => ?_
 unfold impl_truth_m at hm
 refine yG ?_
 intro _ hm
 refine bS hm (fun hb1 hm => ?_) fun hb1 hm => ?_
 refine yG ?_
 intro _ hm
 cases hm
 exact rZ1
 refine yG ?_
 intro _ hm
 cases hm
 exact rZ1
/-- impl.shifted -/
noncomputable def impl_shifted_m (op_ : Int) (w : Int) (a : Int) (b : Int) : Option Int :=
 (if (op_ == 13) = true then
 (Option.bind (impl_signOf_m w a) fun x2 =>
 (if 0 ≤ (min b 63) then
 (some (x2 / 2 ^ min (Int.toNat (min b 63)) (IntKind.bits .i64)))
 else none))
 else
 (if decide (b ≥ w) = true then
 (some 0)
 else
 (if (op_ == 11) = true then
 (if 0 ≤ b then
 (some (IntKind.i64.wrap (a * 2 ^ min (Int.toNat b) (IntKind.bits .i64))))
 else none)
 else
 (if 0 ≤ b then
 (some (a / 2 ^ min (Int.toNat b) (IntKind.bits .i64)))
 else none))))
theorem impl_shifted_sim {op_ : Int} {w : Int} {a : Int} {b : Int} {r : Int} (hm : impl_shifted_m op_ w a b = some r) : Sim Tryz.prog 278 [.one (.int .i64 op_), .one (.int .i64 w), .one (.int .i64 a), .one (.int .i64 b)] [] (.u (.one (.int .i64 r))) [] := by
 refine fN 31 0 Tryz.func278 [.tmp 8] fun B hB0 => ?_
 unfold impl_shifted_m at hm
 refine yG ?_
 intro _ hm
 refine bS hm (fun hb1 hm => ?_) fun hb1 hm => ?_
 refine yG ?_
 intro _ hm
 obtain ⟨x2, h3, hm⟩ := of_bind hm
 refine nO (aopK_A (cB (impl_signOf_sim h3) ?_))
 refine yG ?_
 intro _ hm
 refine nO (x_mn rfl rfl ?_)
 refine yG ?_
 intro k1 hm
 cases hm
 exact rZ1
 refine yG ?_
 intro _ hm
 refine bS hm (fun hb5 hm => ?_) fun hb5 hm => ?_
 refine yG ?_
 intro _ hm
 cases hm
 exact rZ1
 refine yG ?_
 intro _ hm
 refine bS hm (fun hb6 hm => ?_) fun hb6 hm => ?_
 refine yG ?_
 intro k2 hm
 cases hm
 exact rZ1
 refine yG ?_
 intro k3 hm
 cases hm
 exact rZ1
/-- impl.reckoned -/
noncomputable def impl_reckoned_m (op_ : Int) (w : Int) (a : Int) (b : Int) : Option Int :=
 (Option.bind (impl_signOf_m w a) fun x1 =>
 (Option.bind (impl_signOf_m w b) fun x3 =>
 (if (op_ == 1) = true then
 (some (IntKind.i64.wrap (a + b)))
 else
 (if (op_ == 2) = true then
 (some (IntKind.i64.wrap (a - b)))
 else
 (if (op_ == 3) = true then
 (some (IntKind.i64.wrap (a * b)))
 else
 (if (op_ == 4) = true then
 (if b ≠ 0 then
 (some (IntKind.i64.wrap (Int.tdiv a b)))
 else none)
 else
 (if (op_ == 5) = true then
 (if x3 ≠ 0 then
 (some (IntKind.i64.wrap (Int.tdiv x1 x3)))
 else none)
 else
 (if (op_ == 6) = true then
 (if b ≠ 0 then
 (some (Int.tmod a b))
 else none)
 else
 (if (op_ == 7) = true then
 (if x3 ≠ 0 then
 (some (Int.tmod x1 x3))
 else none)
 else
 (if (op_ == 8) = true then
 (some (bits .and .i64 a b))
 else
 (if (op_ == 9) = true then
 (some (bits .or .i64 a b))
 else
 (if (op_ == 10) = true then
 (some (bits .xor .i64 a b))
 else
 (if (op_ == 14) = true then
 (some ((impl_truth_m ((a == b)))))
 else
 (if (op_ == 15) = true then
 (some ((impl_truth_m ((a != b)))))
 else
 (if (op_ == 16) = true then
 (some ((impl_truth_m (decide (a < b)))))
 else
 (if (op_ == 17) = true then
 (some ((impl_truth_m (decide (x1 < x3)))))
 else
 (Option.bind (impl_shifted_m op_ w a b) fun x23 =>
 (some x23))))))))))))))))))
theorem impl_reckoned_sim {op_ : Int} {w : Int} {a : Int} {b : Int} {r : Int} (hm : impl_reckoned_m op_ w a b = some r) : Sim Tryz.prog 245 [.one (.int .i64 op_), .one (.int .i64 w), .one (.int .i64 a), .one (.int .i64 b)] [] (.u (.one (.int .i64 r))) [] := by
 refine fN 97 0 Tryz.func245 [.tmp 8] fun B hB0 => ?_
 have fW := trivial
 unfold impl_reckoned_m at hm
 refine yG ?_
 intro _ hm
 obtain ⟨x1, h2, hm⟩ := of_bind hm
 refine nO (aopK_A (cB (impl_signOf_sim h2) ?_))
 refine yG ?_
 intro _ hm
 obtain ⟨x3, h4, hm⟩ := of_bind hm
 refine nO (aopK_A (cB (impl_signOf_sim h4) ?_))
 refine yG ?_
 intro _ hm
 refine bS hm (fun hb5 hm => ?_) fun hb5 hm => ?_
 refine yG ?_
 intro _ hm
 refine nO (x_binw T2 rfl rfl rfl ?_)
 refine yG ?_
 intro _ hm
 cases hm
 exact rZ1
 refine yG ?_
 intro _ hm
 refine bS hm (fun hb6 hm => ?_) fun hb6 hm => ?_
 refine yG ?_
 intro _ hm
 refine nO (x_binw T2 rfl rfl rfl ?_)
 refine yG ?_
 intro _ hm
 cases hm
 exact rZ1
 refine yG ?_
 intro _ hm
 refine bS hm (fun hb7 hm => ?_) fun hb7 hm => ?_
 refine yG ?_
 intro _ hm
 cases hm
 exact rZ1
 refine yG ?_
 intro _ hm
 refine bS hm (fun hb8 hm => ?_) fun hb8 hm => ?_
 refine yG ?_
 intro k1 hm
 cases hm
 exact rZ1
 refine yG ?_
 intro _ hm
 refine bS hm (fun hb10 hm => ?_) fun hb10 hm => ?_
 refine yG ?_
 intro k2 hm
 cases hm
 exact rZ1
 refine yG ?_
 intro _ hm
 refine bS hm (fun hb12 hm => ?_) fun hb12 hm => ?_
 refine yG ?_
 intro k3 hm
 cases hm
 exact rZ1
 refine yG ?_
 intro _ hm
 refine bS hm (fun hb14 hm => ?_) fun hb14 hm => ?_
 refine yG ?_
 intro k4 hm
 cases hm
 exact rZ1
 refine yG ?_
 intro _ hm
 refine bS hm (fun hb16 hm => ?_) fun hb16 hm => ?_
 refine yG ?_
 intro _ hm
 cases hm
 exact rZ1
 refine yG ?_
 intro _ hm
 refine bS hm (fun hb17 hm => ?_) fun hb17 hm => ?_
 refine yG ?_
 intro _ hm
 cases hm
 exact rZ1
 refine yG ?_
 intro _ hm
 refine bS hm (fun hb18 hm => ?_) fun hb18 hm => ?_
 refine yG ?_
 intro _ hm
 cases hm
 exact rZ1
 refine yG ?_
 intro _ hm
 refine bS hm (fun hb19 hm => ?_) fun hb19 hm => ?_
 refine yG ?_
 intro _ hm
 refine nO (aopK_A (cB (impl_truth_sim ((a == b))) ?_))
 refine yG ?_
 intro _ hm
 cases hm
 exact rZ1
 refine yG ?_
 intro _ hm
 refine bS hm (fun hb20 hm => ?_) fun hb20 hm => ?_
 refine yG ?_
 intro _ hm
 refine nO (aopK_A (cB (impl_truth_sim ((a != b))) ?_))
 refine yG ?_
 intro _ hm
 cases hm
 exact rZ1
 refine yG ?_
 intro _ hm
 refine bS hm (fun hb21 hm => ?_) fun hb21 hm => ?_
 refine yG ?_
 intro _ hm
 refine nO (aopK_A (cB (impl_truth_sim (decide (a < b))) ?_))
 refine yG ?_
 intro _ hm
 cases hm
 exact rZ1
 refine yG ?_
 intro _ hm
 refine bS hm (fun hb22 hm => ?_) fun hb22 hm => ?_
 refine yG ?_
 intro _ hm
 refine nO (aopK_A (cB (impl_truth_sim (decide (x1 < x3))) ?_))
 refine yG ?_
 intro _ hm
 cases hm
 exact rZ1
 refine yG ?_
 intro _ hm
 obtain ⟨x23, h24, hm⟩ := of_bind hm
 refine nO (aopK_A (cB (impl_shifted_sim h24) ?_))
 refine yG ?_
 intro _ hm
 cases hm
 exact rZ1
/-- impl.Masked -/
noncomputable def impl_Masked_m (w : Int) (n : Int) : Option Int :=
 (if (!((impl_WidthOk_m w))) = true then
 (some 0)
 else
 (Option.bind (impl_mask_m w) fun x2 =>
 (some (bits .and .i64 n x2))))
theorem impl_Masked_sim {w : Int} {n : Int} {r : Int} (hm : impl_Masked_m w n = some r) : Sim Tryz.prog 201 [.one (.int .i64 w), .one (.int .i64 n)] [] (.u (.one (.int .i64 r))) [] := by
 refine fN 12 0 Tryz.func201 [.tmp 4] fun B hB0 => ?_
 unfold impl_Masked_m at hm
 refine yG ?_
 intro _ hm
 refine nO (aopK_A (cB (impl_WidthOk_sim w) ?_))
 refine yG ?_
 intro _ hm
 refine bS hm (fun hb1 hm => ?_) fun hb1 hm => ?_
 refine yG ?_
 intro _ hm
 cases hm
 exact rZ1
 refine yG ?_
 intro _ hm
 obtain ⟨x2, h3, hm⟩ := of_bind hm
 refine nO (aopK_A (cB (impl_mask_sim h3) ?_))
 refine yG ?_
 intro _ hm
 cases hm
 exact rZ1
/-- impl.Binary -/
noncomputable def impl_Binary_m (op_ : Int) (w : Int) (a : Int) (b : Int) : Option (Int × Int) :=
 (Option.bind ((if (!((impl_isBinary_m op_))) = true then
 (some true)
 else
 (Option.bind (impl_isValue_m w a) fun x3 =>
 (if (!x3) = true then
 (some true)
 else
 (Option.bind (impl_isValue_m w b) fun x6 =>
 (some ((!x6)))))))) fun (j1 : Bool) =>
 (if j1 = true then
 (some ((0, 2)))
 else
 (if ((impl_isDivision_m op_) && (b == 0)) = true then
 (some ((0, 1)))
 else
 (Option.bind (impl_reckoned_m op_ w a b) fun x13 =>
 (Option.bind (impl_Masked_m w x13) fun x15 =>
 (some ((x15, 0))))))))
theorem impl_Binary_sim {op_ : Int} {w : Int} {a : Int} {b : Int} {r : Int × Int} (hm : impl_Binary_m op_ w a b = some r) : Sim Tryz.prog 199 [.one (.int .i64 op_), .one (.int .i64 w), .one (.int .i64 a), .one (.int .i64 b)] [] (.tup [.one (.int .i64 r.1), .one (.int .i64 r.2)]) [] := by
 refine fN 40 0 Tryz.func199 [.tmp 8, .tmp 9] fun B hB0 => ?_
 unfold impl_Binary_m at hm
 refine Wp.seq ?_
 refine c_regS ?_
 refine yR ?_
 intro _ hm
 refine o_end ?_
 refine Wp.seq ?_
 refine Wp.block ?_
 refine Wp.seq ?_
 obtain ⟨j1, hj8, hm⟩ := of_bind hm
 refine c_cut (St 40 [(0, vI op_), (1, vI w), (2, vI a), (3, vI b), (10, vB j1)] [] 0) ?_ ?_
 replace hm := hj8
 refine yG ?_
 intro _ hm
 refine nO (aopK_A (cB (impl_isBinary_sim op_) ?_))
 refine yG ?_
 intro _ hm
 refine bG0 hm (fun hb2 hm => ?_) fun hb2 hm => ?_
 refine yG ?_
 intro _ hm
 obtain ⟨x3, h4, hm⟩ := of_bind hm
 refine gO_t rfl rfl rfl (aopK_A (cB (impl_isValue_sim h4) ?_))
 refine yG ?_
 intro _ hm
 refine bG0 hm (fun hb5 hm => ?_) fun hb5 hm => ?_
 refine yG ?_
 intro _ hm
 obtain ⟨x6, h7, hm⟩ := of_bind hm
 refine gO_t rfl rfl rfl (aopK_A (cB (impl_isValue_sim h7) ?_))
 refine yG ?_
 intro _ hm
 cases hm
 exact vW []
 refine yG ?_
 intro _ hm
 cases hm
 exact vW []
 refine yG ?_
 intro _ hm
 cases hm
 exact vW []
 refine bS hm (fun hb9 hm => ?_) fun hb9 hm => ?_
 refine yG ?_
 intro _ hm
 cases hm
 exact rZt
 refine Wp.seq ?_
 refine c_cut (St 40 [(0, vI op_), (1, vI w), (2, vI a), (3, vI b), (26, vB (((impl_isDivision_m op_) && (b == 0))))] [] 0) ?_ ?_
 refine yG ?_
 intro _ hm
 refine nO (aopK_A (cB (impl_isDivision_sim op_) ?_))
 refine yG ?_
 intro _ hm
 refine gO_s rfl rfl rfl (fun hb11 => ?_) (fun hb11 => ?_)
 refine yG ?_
 intro _ hm
 exact w_ [] (.cons rfl rfl (.cons rfl rfl (.cons rfl rfl (.cons rfl rfl (.cons (by simp only [hb11, BO]; rfl) rfl .nil))))) .nil (by decide) (hB_0 hB0)
 refine yG ?_
 intro _ hm
 exact w_ [] (.cons rfl rfl (.cons rfl rfl (.cons rfl rfl (.cons rfl rfl (.cons (by simp only [hb11, BO]; rfl) rfl .nil))))) .nil (by decide) (hB_0 hB0)
 refine bS hm (fun hb12 hm => ?_) fun hb12 hm => ?_
 refine yG ?_
 intro _ hm
 cases hm
 exact rZt
 refine yG ?_
 intro _ hm
 obtain ⟨x13, h14, hm⟩ := of_bind hm
 refine nO (aopK_A (cB (impl_reckoned_sim h14) ?_))
 obtain ⟨x15, h16, hm⟩ := of_bind hm
 refine nO (aopK_A (cB (impl_Masked_sim h16) ?_))
 refine yG ?_
 intro _ hm
 cases hm
 exact rZt
/-- impl.ResultWidth -/
noncomputable def impl_ResultWidth_m (op_ : Int) (w : Int) : Int :=
 (if ((!((impl_isBinary_m op_))) || (!((impl_WidthOk_m w)))) = true then
 0
 else
 (if decide (op_ ≥ 14) = true then
 1
 else
 w))
theorem impl_ResultWidth_sim (op_ : Int) (w : Int) : Sim Tryz.prog 167 [.one (.int .i64 op_), .one (.int .i64 w)] [] (.u (.one (.int .i64 ((impl_ResultWidth_m op_ w))))) [] := by
 generalize hm : impl_ResultWidth_m op_ w = r
 refine fN 18 0 Tryz.func167 [.tmp 4] fun B hB0 => ?_
 unfold impl_ResultWidth_m at hm
 refine Wp.seq ?_
 refine c_regS ?_
 refine nO (x_as rfl rfl ?_)
 refine o_end ?_
 refine Wp.seq ?_
 refine Wp.block ?_
 refine Wp.seq ?_
 refine c_cut (St 18 [(0, vI op_), (1, vI w), (5, vB (((!((impl_isBinary_m op_))) || (!((impl_WidthOk_m w))))))] [] 0) ?_ ?_
 refine yG ?_
 intro _ hm
 refine nO (aopK_A (cB (impl_isBinary_sim op_) ?_))
 refine yG ?_
 intro _ hm
 refine gO_s rfl rfl rfl (fun hb2 => ?_) (fun hb2 => ?_)
 refine yG ?_
 intro _ hm
 refine gO_t rfl rfl rfl (aopK_A (cB (impl_WidthOk_sim w) ?_))
 refine yG ?_
 intro _ hm
 exact w_ [] (.cons rfl rfl (.cons rfl rfl (.cons (by simp only [hb2, BO]; rfl) rfl .nil))) .nil (by decide) (hB_0 hB0)
 refine yG ?_
 intro _ hm
 exact w_ [] (.cons rfl rfl (.cons rfl rfl (.cons (by simp only [hb2, BO]; rfl) rfl .nil))) .nil (by decide) (hB_0 hB0)
 refine bS hm (fun hb3 hm => ?_) fun hb3 hm => ?_
 refine yG ?_
 intro _ hm
 cases hm
 exact rZ1
 refine yG ?_
 intro _ hm
 refine bS hm (fun hb4 hm => ?_) fun hb4 hm => ?_
 refine yG ?_
 intro _ hm
 cases hm
 exact rZ1
 refine yG ?_
 intro _ hm
 cases hm
 exact rZ1
/-- impl.widthOf -/
noncomputable def impl_widthOf_m (i : GInst) : Int :=
 (if (impl_isBinary_m i.op_) = true then
 ((impl_ResultWidth_m i.op_ i.w))
 else
 (if ((i.op_ == 24) || (i.op_ == 25)) = true then
 0
 else
 i.w))
theorem impl_widthOf_sim (i : GInst) : Sim Tryz.prog 88 [.agg (eInst false i)] [] (.u (.one (.int .i64 ((impl_widthOf_m i))))) [] := by
 generalize hm : impl_widthOf_m i = r
 refine fN 23 0 Tryz.func88 [.tmp 2] fun B hB0 => ?_
 unfold impl_widthOf_m at hm
 refine yG ?_
 intro _ hm
 refine nO (aopK_A (cB (impl_isBinary_sim i.op_) ?_))
 refine yG ?_
 intro _ hm
 refine bS hm (fun hb1 hm => ?_) fun hb1 hm => ?_
 refine yG ?_
 intro _ hm
 refine nO (aopK_A (cB (impl_ResultWidth_sim i.op_ i.w) ?_))
 refine yG ?_
 intro _ hm
 cases hm
 exact rZ1
 refine Wp.seq ?_
 refine c_cut (St 23 [(1, vP 0), (12, vB (((i.op_ == 24) || (i.op_ == 25))))] [(0, oL 7 (eInst false i))] 1) ?_ ?_
 refine yG ?_
 intro _ hm
 refine gO_s rfl rfl rfl (fun hb3 => ?_) (fun hb3 => ?_)
 refine yG ?_
 intro _ hm
 exact w_ [0] (.cons rfl rfl (.cons (by simp only [hb3, BO]; rfl) rfl .nil)) (.lit rfl rfl .nil) (by decide) (hB_0 hB0)
 refine yG ?_
 intro _ hm
 exact w_ [0] (.cons rfl rfl (.cons (by simp only [hb3, BO]; rfl) rfl .nil)) (.lit rfl rfl .nil) (by decide) (hB_0 hB0)
 refine bS hm (fun hb4 hm => ?_) fun hb4 hm => ?_
 refine yG ?_
 intro _ hm
 cases hm
 exact rZ1
 refine yG ?_
 intro _ hm
 cases hm
 exact rZ1
/-- impl.constant -/
noncomputable def impl_constant_m (i : GInst) (v : Int) : GInst :=
 (({ op_ := 21, w := (impl_widthOf_m i), a := 0, b := 0, c := 0, imm := v, args := [] } : GInst))
theorem impl_constant_sim (i : GInst) (v : Int) : Sim Tryz.prog 128 [.agg (eInst false i), .one (.int .i64 v)] [] (.u (.agg (eInst false ((impl_constant_m i v))))) [] := by
 generalize hm : impl_constant_m i v = r
 refine fN 9 0 Tryz.func128 [.cell 4 29] fun B hB0 => ?_
 unfold impl_constant_m at hm
 refine yG ?_
 intro _ hm
 refine nO (kW ?_)
 refine nO (aopK_A (cB (impl_widthOf_sim i) ?_))
 refine yG ?_
 intro _ hm
 cases hm
 exact rZ1h (hg := f_nl 0 6 1 false rfl rfl rfl)
/-- slices.Index[[]int64,int64] -/
noncomputable def slices_Index_int64_int64_m (s : List Int) (v : Int) : Option Int :=
 (Option.bind (loopO (fun (st2 : Int) =>
 ((if decide (st2 < ((List.length s : Int))) = true then
 (if 0 ≤ st2 ∧ st2 < (List.length s : Int) then
 (if (v == (at_ s st2)) = true then
 (some (Sum.inr ((Sum.inl st2))))
 else
 (if inI (st2 + 1) then
 (some (Sum.inl (st2 + 1)))
 else none))
 else none)
 else
 (some (Sum.inr ((Sum.inr (())))))) : Option ((Int) ⊕ (Int ⊕ Unit)))) 0) fun (y9 : Int ⊕ Unit) => match y9 with
 | (Sum.inl j3) =>
 (some j3)
 | (Sum.inr j4) =>
 (some ((-1))))
theorem slices_Index_int64_int64_sim {s : List Int} {v : Int} {r : Int} (hm : slices_Index_int64_int64_m s v = some r) : Sim Tryz.prog 188 [.one (.bs () 1 (List.map iL s)), .one (.int .i64 v)] [] (.u (.one (.int .i64 r))) [] := by
 refine fN 19 0 Tryz.func188 [.tmp 4] fun B hB0 => ?_
 unfold slices_Index_int64_int64_m at hm
 refine yG ?_
 intro k1 hm
 obtain ⟨y9, hl10, hm⟩ := of_bind hm
 refine c_loop hl10 (fun (st2 : Int) => St 19 [(0, .u (.one (.bs () 1 (List.map iL s)))), (1, vI v), (7, vI ((List.length s : Int))), (8, vI st2)] [] 0) (fun (y : Int ⊕ Unit) => match y with | (Sum.inl j3) => (.ret, St 19 [(4, vI j3)] [] 0) | (Sum.inr j4) => (.exit 0, St 19 [] [] 0)) (vW []) ?_ (by rintro (_ | _) <;> simp) ?_
 intro st2 x hm
 refine yG ?_
 intro _ hm
 refine bS hm (fun hb5 hm => ?_) fun hb5 hm => ?_
 refine yG ?_
 intro k2 hm
 refine bS hm (fun hb7 hm => ?_) fun hb7 hm => ?_
 refine yG ?_
 intro _ hm
 cases hm
 exact ⟨rfl, vW []⟩
 refine yG ?_
 intro k3 hm
 cases hm
 exact ⟨rfl, vW []⟩
 refine c_exit ?_
 cases hm
 exact ⟨rfl, vW []⟩
 rcases y9 with j3 | j4 <;> simp only at hm
 cases hm
 exact rZ1
 refine yG ?_
 intro _ hm
 cases hm
 exact rZ1
/-- slices.Contains[[]int64,int64] -/
noncomputable def slices_Contains_int64_int64_m (s : List Int) (v : Int) : Option Bool :=
 (Option.bind (slices_Index_int64_int64_m s v) fun x1 =>
 (some (decide (x1 ≥ 0))))
theorem slices_Contains_int64_int64_sim {s : List Int} {v : Int} {r : Bool} (hm : slices_Contains_int64_int64_m s v = some r) : Sim Tryz.prog 165 [.one (.bs () 1 (List.map iL s)), .one (.int .i64 v)] [] (.u (.one (.bool r))) [] := by
 refine fN 9 0 Tryz.func165 [.tmp 4] fun B hB0 => ?_
 unfold slices_Contains_int64_int64_m at hm
 refine yG ?_
 intro _ hm
 obtain ⟨x1, h2, hm⟩ := of_bind hm
 refine nO (aopK_A (cB (slices_Index_int64_int64_sim h2) ?_))
 refine yG ?_
 intro _ hm
 cases hm
 exact rZ1
end Go.Proofs.YtghdhjgoicnbcaaGreat.AM

namespace Go.Proofs.YtghdhjgoicnbcaaGreat.AM
open Go
set_option linter.unusedSimpArgs false
set_option linter.unusedVariables false
set_option maxHeartbeats 8000000
set_option maxRecDepth 100000
attribute [local irreducible] aopK awpOps Wp St WpO
/-- impl.is -/
noncomputable def impl_is_m (op_ : Int) (ops : List Int) : Option Bool :=
 (Option.bind (slices_Contains_int64_int64_m ops op_) fun x1 =>
 (some x1))
theorem impl_is_sim {op_ : Int} {ops : List Int} {r : Bool} (hm : impl_is_m op_ ops = some r) : Sim Tryz.prog 200 [.one (.int .i64 op_), .one (.bs () 1 (List.map iL ops))] [] (.u (.one (.bool r))) [] := by
 refine fN 8 0 Tryz.func200 [.tmp 4] fun B hB0 => ?_
 unfold impl_is_m at hm
 refine yG ?_
 intro _ hm
 obtain ⟨x1, h2, hm⟩ := of_bind hm
 refine nO (aopK_A (cB (slices_Contains_int64_int64_sim h2) ?_))
 refine yG ?_
 intro _ hm
 cases hm
 exact rZ1
/-- impl.copied -/
noncomputable def impl_copied_m (i : GInst) (id : Int) : GInst :=
 (({ op_ := 27, w := (impl_widthOf_m i), a := id, b := 0, c := 0, imm := 0, args := [] } : GInst))
theorem impl_copied_sim (i : GInst) (id : Int) : Sim Tryz.prog 129 [.agg (eInst false i), .one (.int .i64 id)] [] (.u (.agg (eInst false ((impl_copied_m i id))))) [] := by
 generalize hm : impl_copied_m i id = r
 refine fN 9 0 Tryz.func129 [.cell 4 29] fun B hB0 => ?_
 unfold impl_copied_m at hm
 refine yG ?_
 intro _ hm
 refine nO (kW ?_)
 refine nO (aopK_A (cB (impl_widthOf_sim i) ?_))
 refine yG ?_
 intro _ hm
 cases hm
 exact rZ1h (hg := f_nl 0 6 1 false rfl rfl rfl)
/-- impl.foldedBinary -/
noncomputable def impl_foldedBinary_m (f : GFunc) (i : GInst) : Option GInst :=
 (Option.bind (impl_ConstOf_m f i.a) fun x1 =>
 (Option.bind (impl_ConstOf_m f i.b) fun x3 =>
 (if (x1.2 && x3.2) = true then
 (Option.bind (impl_Binary_m i.op_ i.w x1.1 x3.1) fun x8 =>
 (if (x8.2 == 0) = true then
 (some (({ op_ := ((impl_constant_m i x8.1)).op_, w := ((impl_constant_m i x8.1)).w, a := ((impl_constant_m i x8.1)).a, b := ((impl_constant_m i x8.1)).b, c := ((impl_constant_m i x8.1)).c, imm := ((impl_constant_m i x8.1)).imm, args := ((impl_constant_m i x8.1)).args } : GInst)))
 else
 (some (({ op_ := i.op_, w := i.w, a := i.a, b := i.b, c := i.c, imm := i.imm, args := i.args } : GInst)))))
 else
 (Option.bind ((if x3.2 = true then
 (if (x3.1 == 0) = true then
 (Option.bind (impl_is_m i.op_ ([1, 2, 9, 10, 11, 12, 13])) fun x14 =>
 (some x14))
 else
 (some false))
 else
 (some false))) fun (j11 : Bool) =>
 (if j11 = true then
 (some (({ op_ := ((impl_copied_m i i.a)).op_, w := ((impl_copied_m i i.a)).w, a := ((impl_copied_m i i.a)).a, b := ((impl_copied_m i i.a)).b, c := ((impl_copied_m i i.a)).c, imm := ((impl_copied_m i i.a)).imm, args := ((impl_copied_m i i.a)).args } : GInst)))
 else
 (Option.bind ((if x1.2 = true then
 (if (x1.1 == 0) = true then
 (Option.bind (impl_is_m i.op_ ([1, 9, 10])) fun x21 =>
 (some x21))
 else
 (some false))
 else
 (some false))) fun (j18 : Bool) =>
 (if j18 = true then
 (some (({ op_ := ((impl_copied_m i i.b)).op_, w := ((impl_copied_m i i.b)).w, a := ((impl_copied_m i i.b)).a, b := ((impl_copied_m i i.b)).b, c := ((impl_copied_m i i.b)).c, imm := ((impl_copied_m i i.b)).imm, args := ((impl_copied_m i i.b)).args } : GInst)))
 else
 (Option.bind ((if x3.2 = true then
 (if (x3.1 == 1) = true then
 (Option.bind (impl_is_m i.op_ ([3, 4])) fun x28 =>
 (some x28))
 else
 (some false))
 else
 (some false))) fun (j25 : Bool) =>
 (if j25 = true then
 (some (({ op_ := ((impl_copied_m i i.a)).op_, w := ((impl_copied_m i i.a)).w, a := ((impl_copied_m i i.a)).a, b := ((impl_copied_m i i.a)).b, c := ((impl_copied_m i i.a)).c, imm := ((impl_copied_m i i.a)).imm, args := ((impl_copied_m i i.a)).args } : GInst)))
 else
 (if (x1.2 && ((x1.1 == 1) && (i.op_ == 3))) = true then
 (some (({ op_ := ((impl_copied_m i i.b)).op_, w := ((impl_copied_m i i.b)).w, a := ((impl_copied_m i i.b)).a, b := ((impl_copied_m i i.b)).b, c := ((impl_copied_m i i.b)).c, imm := ((impl_copied_m i i.b)).imm, args := ((impl_copied_m i i.b)).args } : GInst)))
 else
 (Option.bind ((if x1.2 = true then
 (if (x1.1 == 0) = true then
 (Option.bind (impl_is_m i.op_ ([3, 8])) fun x39 =>
 (some x39))
 else
 (if x3.2 = true then
 (if (x3.1 == 0) = true then
 (Option.bind (impl_is_m i.op_ ([3, 8])) fun x43 =>
 (some x43))
 else
 (some false))
 else
 (some false)))
 else
 (if x3.2 = true then
 (if (x3.1 == 0) = true then
 (Option.bind (impl_is_m i.op_ ([3, 8])) fun x47 =>
 (some x47))
 else
 (some false))
 else
 (some false)))) fun (j36 : Bool) =>
 (if j36 = true then
 (some (({ op_ := ((impl_constant_m i 0)).op_, w := ((impl_constant_m i 0)).w, a := ((impl_constant_m i 0)).a, b := ((impl_constant_m i 0)).b, c := ((impl_constant_m i 0)).c, imm := ((impl_constant_m i 0)).imm, args := ((impl_constant_m i 0)).args } : GInst)))
 else
 (if (i.a != i.b) = true then
 (some (({ op_ := i.op_, w := i.w, a := i.a, b := i.b, c := i.c, imm := i.imm, args := i.args } : GInst)))
 else
 (Option.bind (impl_is_m i.op_ ([2, 10, 15, 16, 17])) fun x52 =>
 (if x52 = true then
 (some (({ op_ := ((impl_constant_m i 0)).op_, w := ((impl_constant_m i 0)).w, a := ((impl_constant_m i 0)).a, b := ((impl_constant_m i 0)).b, c := ((impl_constant_m i 0)).c, imm := ((impl_constant_m i 0)).imm, args := ((impl_constant_m i 0)).args } : GInst)))
 else
 (if (i.op_ == 14) = true then
 (some (({ op_ := ((impl_constant_m i 1)).op_, w := ((impl_constant_m i 1)).w, a := ((impl_constant_m i 1)).a, b := ((impl_constant_m i 1)).b, c := ((impl_constant_m i 1)).c, imm := ((impl_constant_m i 1)).imm, args := ((impl_constant_m i 1)).args } : GInst)))
 else
 (Option.bind (impl_is_m i.op_ ([8, 9])) fun x56 =>
 (if x56 = true then
 (some (({ op_ := ((impl_copied_m i i.a)).op_, w := ((impl_copied_m i i.a)).w, a := ((impl_copied_m i i.a)).a, b := ((impl_copied_m i i.a)).b, c := ((impl_copied_m i i.a)).c, imm := ((impl_copied_m i i.a)).imm, args := ((impl_copied_m i i.a)).args } : GInst)))
 else
 (some (({ op_ := i.op_, w := i.w, a := i.a, b := i.b, c := i.c, imm := i.imm, args := i.args } : GInst)))))))))))))))))))))
theorem impl_foldedBinary_sim {f : GFunc} {i : GInst} {r : GInst} (hm : impl_foldedBinary_m f i = some r) : Sim Tryz.prog 125 [.agg (eFunc false f), .agg (eInst false i)] [] (.u (.agg (eInst false r))) [] := by
 refine fN 159 0 Tryz.func125 [.cell 4 29] fun B hB0 => ?_
 unfold impl_foldedBinary_m at hm
 refine yG ?_
 intro _ hm
 refine nO (kW ?_)
 refine yG ?_
 intro _ hm
 obtain ⟨x1, h2, hm⟩ := of_bind hm
 refine nO (aopK_A (cB (impl_ConstOf_sim h2) ?_))
 refine yG ?_
 intro _ hm
 refine nO (kW ?_)
 refine yG ?_
 intro _ hm
 obtain ⟨x3, h4, hm⟩ := of_bind hm
 refine nO (aopK_A (cB (impl_ConstOf_sim h4) ?_))
 refine yR ?_
 intro _ hm
 refine o_end ?_
 refine Wp.seq ?_
 refine Wp.seq ?_
 refine c_cut (St 159 [(3, vP 0), (4, vP 1), (5, vI x1.1), (6, vB x1.2), (7, vI x3.1), (8, vB x3.2), (28, vB ((x1.2 && x3.2)))] [(0, oL 7 (eInst false i)), (1, oL 7 [.int .i64 0, .int .i64 0, .int .i64 0, .int .i64 0, .int .i64 0, .int .i64 0, .nl])] 2) ?_ ?_
 refine yG ?_
 intro _ hm
 refine gO_s rfl rfl rfl (fun hb6 => ?_) (fun hb6 => ?_)
 refine yG ?_
 intro _ hm
 exact w_ [1, 2] (.cons rfl rfl (.cons rfl rfl (.cons rfl rfl (.cons rfl rfl (.cons rfl rfl (.cons rfl rfl (.cons (by simp only [hb6, BO]; rfl) rfl .nil))))))) (.lit rfl rfl (.lit rfl rfl .nil)) (by decide) (hB_0 hB0)
 refine yG ?_
 intro _ hm
 exact w_ [1, 2] (.cons rfl rfl (.cons rfl rfl (.cons rfl rfl (.cons rfl rfl (.cons rfl rfl (.cons rfl rfl (.cons (by simp only [hb6, BO]; rfl) rfl .nil))))))) (.lit rfl rfl (.lit rfl rfl .nil)) (by decide) (hB_0 hB0)
 refine bS hm (fun hb7 hm => ?_) fun hb7 hm => ?_
 refine yG ?_
 intro _ hm
 obtain ⟨x8, h9, hm⟩ := of_bind hm
 refine nO (aopK_A (cB (impl_Binary_sim h9) ?_))
 refine yG ?_
 intro _ hm
 refine bS hm (fun hb10 hm => ?_) fun hb10 hm => ?_
 refine Wp.seq ?_
 refine c_regS ?_
 refine nO (kW ?_)
 refine yG ?_
 intro _ hm
 refine nO (cG [] (impl_constant_sim i x8.1) ?_)
 refine yG ?_
 intro _ hm
 cases hm
 exact rZ1
 refine yG ?_
 intro _ hm
 refine nO (kW ?_)
 refine yG ?_
 intro _ hm
 cases hm
 exact rZ1
 refine c_skip ?_
 refine Wp.seq ?_
 refine Wp.block ?_
 refine Wp.seq ?_
 obtain ⟨j11, hj16, hm⟩ := of_bind hm
 refine c_cut (St 159 [(3, vP 0), (4, vP 1), (5, vI x1.1), (6, vB x1.2), (7, vI x3.1), (8, vB x3.2), (45, vB j11)] [(0, oL 7 (eInst false i)), (1, oL 7 [.int .i64 0, .int .i64 0, .int .i64 0, .int .i64 0, .int .i64 0, .int .i64 0, .nl])] 2) ?_ ?_
 replace hm := hj16
 refine yG ?_
 intro _ hm
 refine bG1 hm (fun hb12 hm => ?_) fun hb12 hm => ?_
 refine yG ?_
 intro _ hm
 refine bG1 hm (fun hb13 hm => ?_) fun hb13 hm => ?_
 refine yG ?_
 intro _ hm
 refine gO_t rfl rfl rfl (kM (iL) ([1, 2, 9, 10, 11, 12, 13]) ?_)
 obtain ⟨x14, h15, hm⟩ := of_bind hm
 refine gO_t rfl rfl rfl (aopK_A (cB (impl_is_sim h15) ?_))
 refine yG ?_
 intro _ hm
 cases hm
 exact vW [0, 1]
 refine yG ?_
 intro _ hm
 cases hm
 exact vW [0, 1]
 refine yG ?_
 intro _ hm
 cases hm
 exact vW [0, 1]
 refine bS hm (fun hb17 hm => ?_) fun hb17 hm => ?_
 refine Wp.seq ?_
 refine c_regS ?_
 refine nO (kW ?_)
 refine yG ?_
 intro _ hm
 refine nO (cG [] (impl_copied_sim i i.a) ?_)
 refine yG ?_
 intro _ hm
 cases hm
 exact rZ1
 refine Wp.seq ?_
 obtain ⟨j18, hj23, hm⟩ := of_bind hm
 refine c_cut (St 159 [(3, vP 0), (4, vP 1), (5, vI x1.1), (6, vB x1.2), (7, vI x3.1), (8, vB x3.2), (61, vB j18)] [(0, oL 7 (eInst false i)), (1, oL 7 [.int .i64 0, .int .i64 0, .int .i64 0, .int .i64 0, .int .i64 0, .int .i64 0, .nl])] 2) ?_ ?_
 replace hm := hj23
 refine yG ?_
 intro _ hm
 refine bG1 hm (fun hb19 hm => ?_) fun hb19 hm => ?_
 refine yG ?_
 intro _ hm
 refine bG1 hm (fun hb20 hm => ?_) fun hb20 hm => ?_
 refine yG ?_
 intro _ hm
 refine gO_t rfl rfl rfl (kM (iL) ([1, 9, 10]) ?_)
 obtain ⟨x21, h22, hm⟩ := of_bind hm
 refine gO_t rfl rfl rfl (aopK_A (cB (impl_is_sim h22) ?_))
 refine yG ?_
 intro _ hm
 cases hm
 exact vW [0, 1]
 refine yG ?_
 intro _ hm
 cases hm
 exact vW [0, 1]
 refine yG ?_
 intro _ hm
 cases hm
 exact vW [0, 1]
 refine bS hm (fun hb24 hm => ?_) fun hb24 hm => ?_
 refine Wp.seq ?_
 refine c_regS ?_
 refine nO (kW ?_)
 refine yG ?_
 intro _ hm
 refine nO (cG [] (impl_copied_sim i i.b) ?_)
 refine yG ?_
 intro _ hm
 cases hm
 exact rZ1
 refine Wp.seq ?_
 obtain ⟨j25, hj30, hm⟩ := of_bind hm
 refine c_cut (St 159 [(3, vP 0), (4, vP 1), (5, vI x1.1), (6, vB x1.2), (7, vI x3.1), (8, vB x3.2), (77, vB j25)] [(0, oL 7 (eInst false i)), (1, oL 7 [.int .i64 0, .int .i64 0, .int .i64 0, .int .i64 0, .int .i64 0, .int .i64 0, .nl])] 2) ?_ ?_
 replace hm := hj30
 refine yG ?_
 intro _ hm
 refine bG1 hm (fun hb26 hm => ?_) fun hb26 hm => ?_
 refine yG ?_
 intro _ hm
 refine bG1 hm (fun hb27 hm => ?_) fun hb27 hm => ?_
 refine yG ?_
 intro _ hm
 refine gO_t rfl rfl rfl (kM (iL) ([3, 4]) ?_)
 obtain ⟨x28, h29, hm⟩ := of_bind hm
 refine gO_t rfl rfl rfl (aopK_A (cB (impl_is_sim h29) ?_))
 refine yG ?_
 intro _ hm
 cases hm
 exact vW [0, 1]
 refine yG ?_
 intro _ hm
 cases hm
 exact vW [0, 1]
 refine yG ?_
 intro _ hm
 cases hm
 exact vW [0, 1]
 refine bS hm (fun hb31 hm => ?_) fun hb31 hm => ?_
 refine Wp.seq ?_
 refine c_regS ?_
 refine nO (kW ?_)
 refine yG ?_
 intro _ hm
 refine nO (cG [] (impl_copied_sim i i.a) ?_)
 refine yG ?_
 intro _ hm
 cases hm
 exact rZ1
 refine Wp.seq ?_
 refine c_cut (St 159 [(3, vP 0), (4, vP 1), (5, vI x1.1), (6, vB x1.2), (7, vI x3.1), (8, vB x3.2), (93, vB ((x1.2 && ((x1.1 == 1) && (i.op_ == 3)))))] [(0, oL 7 (eInst false i)), (1, oL 7 [.int .i64 0, .int .i64 0, .int .i64 0, .int .i64 0, .int .i64 0, .int .i64 0, .nl])] 2) ?_ ?_
 refine yG ?_
 intro _ hm
 refine gO_s rfl rfl rfl (fun hb33 => ?_) (fun hb33 => ?_)
 refine yG ?_
 intro _ hm
 refine gO_s rfl rfl rfl (fun hb34 => ?_) (fun hb34 => ?_)
 refine yG ?_
 intro _ hm
 exact w_ [0, 1] (.cons rfl rfl (.cons rfl rfl (.cons rfl rfl (.cons rfl rfl (.cons rfl rfl (.cons rfl rfl (.cons (by simp only [hb33, hb34, BO]; rfl) rfl .nil))))))) (.lit rfl rfl (.lit rfl rfl .nil)) (by decide) (hB_0 hB0)
 refine yG ?_
 intro _ hm
 exact w_ [0, 1] (.cons rfl rfl (.cons rfl rfl (.cons rfl rfl (.cons rfl rfl (.cons rfl rfl (.cons rfl rfl (.cons (by simp only [hb33, hb34, BO]; rfl) rfl .nil))))))) (.lit rfl rfl (.lit rfl rfl .nil)) (by decide) (hB_0 hB0)
 refine yG ?_
 intro _ hm
 exact w_ [0, 1] (.cons rfl rfl (.cons rfl rfl (.cons rfl rfl (.cons rfl rfl (.cons rfl rfl (.cons rfl rfl (.cons (by simp only [hb33, BO]; rfl) rfl .nil))))))) (.lit rfl rfl (.lit rfl rfl .nil)) (by decide) (hB_0 hB0)
 refine bS hm (fun hb35 hm => ?_) fun hb35 hm => ?_
 refine Wp.seq ?_
 refine c_regS ?_
 refine nO (kW ?_)
 refine yG ?_
 intro _ hm
 refine nO (cG [] (impl_copied_sim i i.b) ?_)
 refine yG ?_
 intro _ hm
 cases hm
 exact rZ1
 refine Wp.seq ?_
 obtain ⟨j36, hj49, hm⟩ := of_bind hm
 refine c_cut (St 159 [(3, vP 0), (4, vP 1), (108, vB j36)] [(0, oL 7 (eInst false i)), (1, oL 7 [.int .i64 0, .int .i64 0, .int .i64 0, .int .i64 0, .int .i64 0, .int .i64 0, .nl])] 2) ?_ ?_
 replace hm := hj49
 refine yG ?_
 intro _ hm
 refine bG1 hm (fun hb37 hm => ?_) fun hb37 hm => ?_
 refine yG ?_
 intro _ hm
 refine bG0 hm (fun hb38 hm => ?_) fun hb38 hm => ?_
 refine yG ?_
 intro _ hm
 refine bG1 hm (fun hb41 hm => ?_) fun hb41 hm => ?_
 refine yG ?_
 intro _ hm
 refine bG1 hm (fun hb42 hm => ?_) fun hb42 hm => ?_
 refine yG ?_
 intro _ hm
 refine gO_t rfl rfl rfl (kM (iL) ([3, 8]) ?_)
 obtain ⟨x43, h44, hm⟩ := of_bind hm
 refine gO_t rfl rfl rfl (aopK_A (cB (impl_is_sim h44) ?_))
 refine yG ?_
 intro _ hm
 cases hm
 exact vW [0, 1]
 refine yG ?_
 intro _ hm
 cases hm
 exact vW [0, 1]
 refine yG ?_
 intro _ hm
 cases hm
 exact vW [0, 1]
 refine yG ?_
 intro _ hm
 refine gO_t rfl rfl rfl (kM (iL) ([3, 8]) ?_)
 obtain ⟨x39, h40, hm⟩ := of_bind hm
 refine gO_t rfl rfl rfl (aopK_A (cB (impl_is_sim h40) ?_))
 refine yG ?_
 intro _ hm
 cases hm
 exact vW [0, 1]
 refine yG ?_
 intro _ hm
 refine bG1 hm (fun hb45 hm => ?_) fun hb45 hm => ?_
 refine yG ?_
 intro _ hm
 refine bG1 hm (fun hb46 hm => ?_) fun hb46 hm => ?_
 refine yG ?_
 intro _ hm
 refine gO_t rfl rfl rfl (kM (iL) ([3, 8]) ?_)
 obtain ⟨x47, h48, hm⟩ := of_bind hm
 refine gO_t rfl rfl rfl (aopK_A (cB (impl_is_sim h48) ?_))
 refine yG ?_
 intro _ hm
 cases hm
 exact vW [0, 1]
 refine yG ?_
 intro _ hm
 cases hm
 exact vW [0, 1]
 refine yG ?_
 intro _ hm
 cases hm
 exact vW [0, 1]
 refine bS hm (fun hb50 hm => ?_) fun hb50 hm => ?_
 refine Wp.seq ?_
 refine c_regS ?_
 refine nO (kW ?_)
 refine nO (cG [] (impl_constant_sim i 0) ?_)
 refine yG ?_
 intro _ hm
 cases hm
 exact rZ1
 refine yG ?_
 intro _ hm
 refine bS hm (fun hb51 hm => ?_) fun hb51 hm => ?_
 refine Wp.seq ?_
 refine c_regS ?_
 refine nO (kW ?_)
 refine yG ?_
 intro _ hm
 cases hm
 exact rZ1
 refine yG ?_
 intro _ hm
 refine nO (kM (iL) ([2, 10, 15, 16, 17]) ?_)
 obtain ⟨x52, h53, hm⟩ := of_bind hm
 refine nO (aopK_A (cB (impl_is_sim h53) ?_))
 refine yG ?_
 intro _ hm
 refine bS hm (fun hb54 hm => ?_) fun hb54 hm => ?_
 refine Wp.seq ?_
 refine c_regS ?_
 refine nO (kW ?_)
 refine nO (cG [] (impl_constant_sim i 0) ?_)
 refine yG ?_
 intro _ hm
 cases hm
 exact rZ1
 refine yG ?_
 intro _ hm
 refine bS hm (fun hb55 hm => ?_) fun hb55 hm => ?_
 refine Wp.seq ?_
 refine c_regS ?_
 refine nO (kW ?_)
 refine nO (cG [] (impl_constant_sim i 1) ?_)
 refine yG ?_
 intro _ hm
 cases hm
 exact rZ1
 refine yG ?_
 intro _ hm
 refine nO (kM (iL) ([8, 9]) ?_)
 obtain ⟨x56, h57, hm⟩ := of_bind hm
 refine nO (aopK_A (cB (impl_is_sim h57) ?_))
 refine yG ?_
 intro _ hm
 refine bS hm (fun hb58 hm => ?_) fun hb58 hm => ?_
 refine Wp.seq ?_
 refine c_regS ?_
 refine nO (kW ?_)
 refine yG ?_
 intro _ hm
 refine nO (cG [] (impl_copied_sim i i.a) ?_)
 refine yG ?_
 intro _ hm
 cases hm
 exact rZ1
 refine yG ?_
 intro _ hm
 refine nO (kW ?_)
 refine yG ?_
 intro _ hm
 cases hm
 exact rZ1
/-- impl.TypeOf -/
noncomputable def impl_TypeOf_m (f : GFunc) (id : Int) : Option Int :=
 (Option.bind (impl_PlaceOf_m f id) fun x1 =>
 (if (x1.1 == ((-2))) = true then
 (some ((-1)))
 else
 (if (x1.1 == ((-1))) = true then
 (if 0 ≤ x1.2 ∧ x1.2 < (List.length f.params : Int) then
 (some (at_ f.params x1.2))
 else none)
 else
 (if 0 ≤ x1.1 ∧ x1.1 < (List.length f.blocks : Int) then
 (if decide (x1.2 < ((List.length ((at_ f.blocks x1.1).phis) : Int))) = true then
 (if 0 ≤ x1.1 ∧ x1.1 < (List.length f.blocks : Int) then
 (if 0 ≤ x1.2 ∧ x1.2 < (List.length ((at_ f.blocks x1.1).phis) : Int) then
 (some ((at_ ((at_ f.blocks x1.1).phis) x1.2).w))
 else none)
 else none)
 else
 (Option.bind (impl_instOf_m f id) fun x11 =>
 (some ((impl_widthOf_m x11.1)))))
 else none))))
theorem impl_TypeOf_sim {f : GFunc} {id : Int} {r : Int} (hm : impl_TypeOf_m f id = some r) : Sim Tryz.prog 30 [.agg (eFunc false f), .one (.int .i64 id)] [] (.u (.one (.int .i64 r))) [] := by
 refine fN 54 0 Tryz.func30 [.tmp 4] fun B hB0 => ?_
 unfold impl_TypeOf_m at hm
 refine yG ?_
 intro _ hm
 refine nO (kW ?_)
 refine yG ?_
 intro _ hm
 obtain ⟨x1, h2, hm⟩ := of_bind hm
 refine nO (aopK_A (cB (impl_PlaceOf_sim h2) ?_))
 refine yG ?_
 intro _ hm
 refine bS hm (fun hb3 hm => ?_) fun hb3 hm => ?_
 refine yG ?_
 intro _ hm
 cases hm
 exact rZ1
 refine yG ?_
 intro _ hm
 refine bS hm (fun hb4 hm => ?_) fun hb4 hm => ?_
 refine yG ?_
 intro k1 hm
 cases hm
 exact rZ1
 refine yG ?_
 intro k2 hm
 refine bS hm (fun hb8 hm => ?_) fun hb8 hm => ?_
 refine yG ?_
 intro k3 hm
 cases hm
 exact rZ1
 refine yG ?_
 intro _ hm
 refine nO (kW ?_)
 refine yG ?_
 intro _ hm
 obtain ⟨x11, h12, hm⟩ := of_bind hm
 refine nO (cG [] (impl_instOf_sim h12) ?_)
 refine yG ?_
 intro _ hm
 refine nO (kW ?_)
 refine nO (aopK_A (cB (impl_widthOf_sim x11.1) ?_))
 refine yG ?_
 intro _ hm
 cases hm
 exact rZ1
/-- impl.Casted -/
noncomputable def impl_Casted_m (op_ : Int) (from_ : Int) (to : Int) (v : Int) : Option (Int × Bool) :=
 (Option.bind ((Option.bind (impl_isValue_m from_ v) fun x2 =>
 (if (!x2) = true then
 (some true)
 else
 (some ((!((impl_WidthOk_m to)))))))) fun (j1 : Bool) =>
 (if j1 = true then
 (some ((0, false)))
 else
 (if ((op_ == 18) && decide (from_ < to)) = true then
 (some ((v, true)))
 else
 (if ((op_ == 19) && decide (from_ < to)) = true then
 (Option.bind (impl_signOf_m from_ v) fun x13 =>
 (Option.bind (impl_Masked_m to x13) fun x15 =>
 (some ((x15, true)))))
 else
 (if ((op_ == 20) && decide (to < from_)) = true then
 (Option.bind (impl_Masked_m to v) fun x20 =>
 (some ((x20, true))))
 else
 (some ((0, false))))))))
theorem impl_Casted_sim {op_ : Int} {from_ : Int} {to : Int} {v : Int} {r : Int × Bool} (hm : impl_Casted_m op_ from_ to v = some r) : Sim Tryz.prog 127 [.one (.int .i64 op_), .one (.int .i64 from_), .one (.int .i64 to), .one (.int .i64 v)] [] (.tup [.one (.int .i64 r.1), .one (.bool r.2)]) [] := by
 refine fN 52 0 Tryz.func127 [.tmp 8, .tmp 9] fun B hB0 => ?_
 unfold impl_Casted_m at hm
 refine Wp.seq ?_
 refine c_regS ?_
 refine yR ?_
 intro _ hm
 refine o_end ?_
 refine Wp.seq ?_
 refine Wp.seq ?_
 obtain ⟨j1, hj5, hm⟩ := of_bind hm
 refine c_cut (St 52 [(0, vI op_), (1, vI from_), (2, vI to), (3, vI v), (18, vB j1)] [] 0) ?_ ?_
 replace hm := hj5
 refine yG ?_
 intro _ hm
 obtain ⟨x2, h3, hm⟩ := of_bind hm
 refine nO (aopK_A (cB (impl_isValue_sim h3) ?_))
 refine yG ?_
 intro _ hm
 refine bG0 hm (fun hb4 hm => ?_) fun hb4 hm => ?_
 refine yG ?_
 intro _ hm
 refine gO_t rfl rfl rfl (aopK_A (cB (impl_WidthOk_sim to) ?_))
 refine yG ?_
 intro _ hm
 cases hm
 exact vW []
 refine yG ?_
 intro _ hm
 cases hm
 exact vW []
 refine bS hm (fun hb6 hm => ?_) fun hb6 hm => ?_
 refine yG ?_
 intro _ hm
 cases hm
 exact rZt
 refine c_skip ?_
 refine Wp.seq ?_
 refine Wp.block ?_
 refine Wp.seq ?_
 refine c_cut (St 52 [(0, vI op_), (1, vI from_), (2, vI to), (3, vI v), (19, vB (((op_ == 18) && decide (from_ < to))))] [] 0) ?_ ?_
 refine yG ?_
 intro _ hm
 refine gO_s rfl rfl rfl (fun hb8 => ?_) (fun hb8 => ?_)
 refine yG ?_
 intro _ hm
 exact w_ [] (.cons rfl rfl (.cons rfl rfl (.cons rfl rfl (.cons rfl rfl (.cons (by simp only [hb8, BO]; rfl) rfl .nil))))) .nil (by decide) (hB_0 hB0)
 refine yG ?_
 intro _ hm
 exact w_ [] (.cons rfl rfl (.cons rfl rfl (.cons rfl rfl (.cons rfl rfl (.cons (by simp only [hb8, BO]; rfl) rfl .nil))))) .nil (by decide) (hB_0 hB0)
 refine bS hm (fun hb9 hm => ?_) fun hb9 hm => ?_
 refine yG ?_
 intro _ hm
 cases hm
 exact rZt
 refine Wp.seq ?_
 refine c_cut (St 52 [(0, vI op_), (1, vI from_), (2, vI to), (3, vI v), (28, vB (((op_ == 19) && decide (from_ < to))))] [] 0) ?_ ?_
 refine yG ?_
 intro _ hm
 refine gO_s rfl rfl rfl (fun hb11 => ?_) (fun hb11 => ?_)
 refine yG ?_
 intro _ hm
 exact w_ [] (.cons rfl rfl (.cons rfl rfl (.cons rfl rfl (.cons rfl rfl (.cons (by simp only [hb11, BO]; rfl) rfl .nil))))) .nil (by decide) (hB_0 hB0)
 refine yG ?_
 intro _ hm
 exact w_ [] (.cons rfl rfl (.cons rfl rfl (.cons rfl rfl (.cons rfl rfl (.cons (by simp only [hb11, BO]; rfl) rfl .nil))))) .nil (by decide) (hB_0 hB0)
 refine bS hm (fun hb12 hm => ?_) fun hb12 hm => ?_
 refine yG ?_
 intro _ hm
 obtain ⟨x13, h14, hm⟩ := of_bind hm
 refine nO (aopK_A (cB (impl_signOf_sim h14) ?_))
 obtain ⟨x15, h16, hm⟩ := of_bind hm
 refine nO (aopK_A (cB (impl_Masked_sim h16) ?_))
 refine yG ?_
 intro _ hm
 cases hm
 exact rZt
 refine Wp.seq ?_
 refine c_cut (St 52 [(2, vI to), (3, vI v), (41, vB (((op_ == 20) && decide (to < from_))))] [] 0) ?_ ?_
 refine yG ?_
 intro _ hm
 refine gO_s rfl rfl rfl (fun hb18 => ?_) (fun hb18 => ?_)
 refine yG ?_
 intro _ hm
 exact w_ [] (.cons rfl rfl (.cons rfl rfl (.cons (by simp only [hb18, BO]; rfl) rfl .nil))) .nil (by decide) (hB_0 hB0)
 refine yG ?_
 intro _ hm
 exact w_ [] (.cons rfl rfl (.cons rfl rfl (.cons (by simp only [hb18, BO]; rfl) rfl .nil))) .nil (by decide) (hB_0 hB0)
 refine bS hm (fun hb19 hm => ?_) fun hb19 hm => ?_
 refine yG ?_
 intro _ hm
 obtain ⟨x20, h21, hm⟩ := of_bind hm
 refine nO (aopK_A (cB (impl_Masked_sim h21) ?_))
 refine yG ?_
 intro _ hm
 cases hm
 exact rZt
 refine yG ?_
 intro _ hm
 cases hm
 exact rZt
/-- impl.folded -/
noncomputable def impl_folded_m (f : GFunc) (i : GInst) : Option GInst :=
 (Option.bind (impl_ConstOf_m f i.a) fun x1 =>
 (if (impl_isBinary_m i.op_) = true then
 (Option.bind (impl_foldedBinary_m f i) fun x4 =>
 (some (({ op_ := x4.op_, w := x4.w, a := x4.a, b := x4.b, c := x4.c, imm := x4.imm, args := x4.args } : GInst))))
 else
 (if ((impl_isCast_m i.op_) && x1.2) = true then
 (Option.bind (impl_TypeOf_m f i.a) fun x9 =>
 (Option.bind (impl_Casted_m i.op_ x9 i.w x1.1) fun x11 =>
 (if x11.2 = true then
 (some (({ op_ := ((impl_constant_m i x11.1)).op_, w := ((impl_constant_m i x11.1)).w, a := ((impl_constant_m i x11.1)).a, b := ((impl_constant_m i x11.1)).b, c := ((impl_constant_m i x11.1)).c, imm := ((impl_constant_m i x11.1)).imm, args := ((impl_constant_m i x11.1)).args } : GInst)))
 else
 (some (({ op_ := i.op_, w := i.w, a := i.a, b := i.b, c := i.c, imm := i.imm, args := i.args } : GInst))))))
 else
 (if ((i.op_ == 22) && (if x1.2 = true then ((x1.1 == 1) || (i.b == i.c)) else (i.b == i.c))) = true then
 (some (({ op_ := ((impl_copied_m i i.b)).op_, w := ((impl_copied_m i i.b)).w, a := ((impl_copied_m i i.b)).a, b := ((impl_copied_m i i.b)).b, c := ((impl_copied_m i i.b)).c, imm := ((impl_copied_m i i.b)).imm, args := ((impl_copied_m i i.b)).args } : GInst)))
 else
 (if ((i.op_ == 22) && x1.2) = true then
 (some (({ op_ := ((impl_copied_m i i.c)).op_, w := ((impl_copied_m i i.c)).w, a := ((impl_copied_m i i.c)).a, b := ((impl_copied_m i i.c)).b, c := ((impl_copied_m i i.c)).c, imm := ((impl_copied_m i i.c)).imm, args := ((impl_copied_m i i.c)).args } : GInst)))
 else
 (Option.bind ((if (i.op_ == 27) = true then
 (if x1.2 = true then
 (Option.bind (impl_isValue_m i.w x1.1) fun x25 =>
 (some x25))
 else
 (some false))
 else
 (some false))) fun (j22 : Bool) =>
 (if j22 = true then
 (some (({ op_ := ((impl_constant_m i x1.1)).op_, w := ((impl_constant_m i x1.1)).w, a := ((impl_constant_m i x1.1)).a, b := ((impl_constant_m i x1.1)).b, c := ((impl_constant_m i x1.1)).c, imm := ((impl_constant_m i x1.1)).imm, args := ((impl_constant_m i x1.1)).args } : GInst)))
 else
 (some (({ op_ := i.op_, w := i.w, a := i.a, b := i.b, c := i.c, imm := i.imm, args := i.args } : GInst))))))))))
theorem impl_folded_sim {f : GFunc} {i : GInst} {r : GInst} (hm : impl_folded_m f i = some r) : Sim Tryz.prog 69 [.agg (eFunc false f), .agg (eInst false i)] [] (.u (.agg (eInst false r))) [] := by
 refine fN 97 0 Tryz.func69 [.cell 4 29] fun B hB0 => ?_
 unfold impl_folded_m at hm
 refine yG ?_
 intro _ hm
 refine nO (kW ?_)
 refine yG ?_
 intro _ hm
 obtain ⟨x1, h2, hm⟩ := of_bind hm
 refine nO (aopK_A (cB (impl_ConstOf_sim h2) ?_))
 refine yG ?_
 intro _ hm
 refine nO (aopK_A (cB (impl_isBinary_sim i.op_) ?_))
 refine yG ?_
 intro _ hm
 refine bS hm (fun hb3 hm => ?_) fun hb3 hm => ?_
 refine Wp.seq ?_
 refine c_regS ?_
 refine nO (kW ?_)
 refine nO (kW ?_)
 obtain ⟨x4, h5, hm⟩ := of_bind hm
 refine nO (cG [] (impl_foldedBinary_sim h5) ?_)
 refine yG ?_
 intro _ hm
 cases hm
 exact rZ1
 refine Wp.seq ?_
 refine c_cut (St 97 [(2, vP 0), (3, vP 1), (4, vP 2), (5, vI x1.1), (6, vB x1.2), (23, vB (((impl_isCast_m i.op_) && x1.2)))] [(0, oL 3 (eFunc false f)), (1, oL 7 (eInst false i)), (2, oL 7 [.int .i64 0, .int .i64 0, .int .i64 0, .int .i64 0, .int .i64 0, .int .i64 0, .nl])] 3) ?_ ?_
 refine yG ?_
 intro _ hm
 refine nO (aopK_A (cB (impl_isCast_sim i.op_) ?_))
 refine yG ?_
 intro _ hm
 refine gO_s rfl rfl rfl (fun hb7 => ?_) (fun hb7 => ?_)
 refine yG ?_
 intro _ hm
 exact w_ [0, 1, 2] (.cons rfl rfl (.cons rfl rfl (.cons rfl rfl (.cons rfl rfl (.cons rfl rfl (.cons (by simp only [hb7, BO]; rfl) rfl .nil)))))) (.lit rfl rfl (.lit rfl rfl (.lit rfl rfl .nil))) (by decide) (hB_0 hB0)
 refine yG ?_
 intro _ hm
 exact w_ [0, 1, 2] (.cons rfl rfl (.cons rfl rfl (.cons rfl rfl (.cons rfl rfl (.cons rfl rfl (.cons (by simp only [hb7, BO]; rfl) rfl .nil)))))) (.lit rfl rfl (.lit rfl rfl (.lit rfl rfl .nil))) (by decide) (hB_0 hB0)
 refine bS hm (fun hb8 hm => ?_) fun hb8 hm => ?_
 refine Wp.seq ?_
 refine c_drw (Y := sysC _) mixed ?_
 refine tK 0 1 rfl (kF ?_)
 refine tK 1 1 rfl (kD ?_)
 refine tK 2 1 rfl (kW ?_)
 refine tK 3 1 rfl (kF ?_)
 refine tK 4 1 rfl (kD ?_)
 refine tK 6 1 rfl (kF ?_)
 refine tK 7 1 rfl (kD ?_)
 refine tK 8 0 rfl (kV ?_)
 obtain ⟨x9, h10, hm⟩ := of_bind hm
 refine oK 5 rfl (cB (impl_TypeOf_sim h10) ?_)
 obtain ⟨x11, h12, hm⟩ := of_bind hm
 refine oK 9 rfl (cB (impl_Casted_sim h12) ?_)
 refine tK 10 0 rfl (kV ?_)
 refine tK 11 0 rfl (x_ex rfl rfl rfl ?_)
 refine tK 12 0 rfl (x_ex rfl rfl rfl ?_)
 refine tK 13 0 rfl (x_as rfl rfl ?_)
 refine tK 14 0 rfl (x_as rfl rfl ?_)
 refine aN ?_
 refine yG ?_
 intro _ hm
 refine bS hm (fun hb13 hm => ?_) fun hb13 hm => ?_
 refine Wp.seq ?_
 refine c_regS ?_
 refine nO (kW ?_)
 refine yG ?_
 intro _ hm
 refine nO (cG [] (impl_constant_sim i x11.1) ?_)
 refine yG ?_
 intro _ hm
 cases hm
 exact rZ1
 refine yG ?_
 intro _ hm
 refine nO (kW ?_)
 refine yG ?_
 intro _ hm
 cases hm
 exact rZ1
 refine Wp.seq ?_
 refine c_cut (St 97 [(3, vP 0), (4, vP 1), (5, vI x1.1), (6, vB x1.2), (47, vB (((i.op_ == 22) && (if x1.2 = true then ((x1.1 == 1) || (i.b == i.c)) else (i.b == i.c)))))] [(0, oL 7 (eInst false i)), (1, oL 7 [.int .i64 0, .int .i64 0, .int .i64 0, .int .i64 0, .int .i64 0, .int .i64 0, .nl])] 2) ?_ ?_
 refine yG ?_
 intro _ hm
 refine gO_s rfl rfl rfl (fun hb15 => ?_) (fun hb15 => ?_)
 refine yG ?_
 intro _ hm
 refine gO_s rfl rfl rfl (fun hb16 => ?_) (fun hb16 => ?_)
 refine yG ?_
 intro _ hm
 refine gO_s rfl rfl rfl (fun hb17 => ?_) (fun hb17 => ?_)
 refine yG ?_
 intro _ hm
 exact w_ [1, 2] (.cons rfl rfl (.cons rfl rfl (.cons rfl rfl (.cons rfl rfl (.cons (by simp only [hb15, hb16, hb17, BO]; rfl) rfl .nil))))) (.lit rfl rfl (.lit rfl rfl .nil)) (by decide) (hB_0 hB0)
 refine yG ?_
 intro _ hm
 exact w_ [1, 2] (.cons rfl rfl (.cons rfl rfl (.cons rfl rfl (.cons rfl rfl (.cons (by simp only [hb15, hb16, hb17, BO]; rfl) rfl .nil))))) (.lit rfl rfl (.lit rfl rfl .nil)) (by decide) (hB_0 hB0)
 refine yG ?_
 intro _ hm
 exact w_ [1, 2] (.cons rfl rfl (.cons rfl rfl (.cons rfl rfl (.cons rfl rfl (.cons (by simp only [hb15, hb16, BO]; rfl) rfl .nil))))) (.lit rfl rfl (.lit rfl rfl .nil)) (by decide) (hB_0 hB0)
 refine yG ?_
 intro _ hm
 exact w_ [1, 2] (.cons rfl rfl (.cons rfl rfl (.cons rfl rfl (.cons rfl rfl (.cons (by simp only [hb15, BO]; rfl) rfl .nil))))) (.lit rfl rfl (.lit rfl rfl .nil)) (by decide) (hB_0 hB0)
 refine bS hm (fun hb18 hm => ?_) fun hb18 hm => ?_
 refine Wp.seq ?_
 refine c_regS ?_
 refine nO (kW ?_)
 refine yG ?_
 intro _ hm
 refine nO (cG [] (impl_copied_sim i i.b) ?_)
 refine yG ?_
 intro _ hm
 cases hm
 exact rZ1
 refine Wp.seq ?_
 refine c_cut (St 97 [(3, vP 0), (4, vP 1), (5, vI x1.1), (6, vB x1.2), (69, vB (((i.op_ == 22) && x1.2)))] [(0, oL 7 (eInst false i)), (1, oL 7 [.int .i64 0, .int .i64 0, .int .i64 0, .int .i64 0, .int .i64 0, .int .i64 0, .nl])] 2) ?_ ?_
 refine yG ?_
 intro _ hm
 refine gO_s rfl rfl rfl (fun hb20 => ?_) (fun hb20 => ?_)
 refine yG ?_
 intro _ hm
 exact w_ [0, 1] (.cons rfl rfl (.cons rfl rfl (.cons rfl rfl (.cons rfl rfl (.cons (by simp only [hb20, BO]; rfl) rfl .nil))))) (.lit rfl rfl (.lit rfl rfl .nil)) (by decide) (hB_0 hB0)
 refine yG ?_
 intro _ hm
 exact w_ [0, 1] (.cons rfl rfl (.cons rfl rfl (.cons rfl rfl (.cons rfl rfl (.cons (by simp only [hb20, BO]; rfl) rfl .nil))))) (.lit rfl rfl (.lit rfl rfl .nil)) (by decide) (hB_0 hB0)
 refine bS hm (fun hb21 hm => ?_) fun hb21 hm => ?_
 refine Wp.seq ?_
 refine c_regS ?_
 refine nO (kW ?_)
 refine yG ?_
 intro _ hm
 refine nO (cG [] (impl_copied_sim i i.c) ?_)
 refine yG ?_
 intro _ hm
 cases hm
 exact rZ1
 refine Wp.seq ?_
 obtain ⟨j22, hj27, hm⟩ := of_bind hm
 refine c_cut (St 97 [(3, vP 0), (4, vP 1), (5, vI x1.1), (80, vB j22)] [(0, oL 7 (eInst false i)), (1, oL 7 [.int .i64 0, .int .i64 0, .int .i64 0, .int .i64 0, .int .i64 0, .int .i64 0, .nl])] 2) ?_ ?_
 replace hm := hj27
 refine yG ?_
 intro _ hm
 refine bG1 hm (fun hb23 hm => ?_) fun hb23 hm => ?_
 refine yG ?_
 intro _ hm
 refine bG1 hm (fun hb24 hm => ?_) fun hb24 hm => ?_
 refine yG ?_
 intro _ hm
 obtain ⟨x25, h26, hm⟩ := of_bind hm
 refine gO_t rfl rfl rfl (aopK_A (cB (impl_isValue_sim h26) ?_))
 refine yG ?_
 intro _ hm
 cases hm
 exact vW [0, 1]
 refine yG ?_
 intro _ hm
 cases hm
 exact vW [0, 1]
 refine yG ?_
 intro _ hm
 cases hm
 exact vW [0, 1]
 refine bS hm (fun hb28 hm => ?_) fun hb28 hm => ?_
 refine Wp.seq ?_
 refine c_regS ?_
 refine nO (kW ?_)
 refine yG ?_
 intro _ hm
 refine nO (cG [] (impl_constant_sim i x1.1) ?_)
 refine yG ?_
 intro _ hm
 cases hm
 exact rZ1
 refine yG ?_
 intro _ hm
 refine nO (kW ?_)
 refine yG ?_
 intro _ hm
 cases hm
 exact rZ1
/-- impl.ownInst -/
noncomputable def impl_ownInst_m (i : GInst) : Option GInst :=
 (Option.bind (slices_Clone_int64_int64_m i.args) fun x1 =>
 (some (({ op_ := (({ op_ := i.op_, w := i.w, a := i.a, b := i.b, c := i.c, imm := i.imm, args := x1 } : GInst)).op_, w := (({ op_ := i.op_, w := i.w, a := i.a, b := i.b, c := i.c, imm := i.imm, args := x1 } : GInst)).w, a := (({ op_ := i.op_, w := i.w, a := i.a, b := i.b, c := i.c, imm := i.imm, args := x1 } : GInst)).a, b := (({ op_ := i.op_, w := i.w, a := i.a, b := i.b, c := i.c, imm := i.imm, args := x1 } : GInst)).b, c := (({ op_ := i.op_, w := i.w, a := i.a, b := i.b, c := i.c, imm := i.imm, args := x1 } : GInst)).c, imm := (({ op_ := i.op_, w := i.w, a := i.a, b := i.b, c := i.c, imm := i.imm, args := x1 } : GInst)).imm, args := (({ op_ := i.op_, w := i.w, a := i.a, b := i.b, c := i.c, imm := i.imm, args := x1 } : GInst)).args } : GInst))))
theorem impl_ownInst_sim {i : GInst} {r : GInst} (hm : impl_ownInst_m i = some r) : Sim Tryz.prog 68 [.agg (eInst false i)] [] (.u (.agg (eInst false r))) [] := by
 refine fN 8 0 Tryz.func68 [.cell 2 29] fun B hB0 => ?_
 unfold impl_ownInst_m at hm
 refine yG ?_
 intro _ hm
 obtain ⟨x1, h2, hm⟩ := of_bind hm
 refine nO (aopK_A (cB (slices_Clone_int64_int64_sim h2) ?_))
 refine nO (x_fap rfl F29_6 rfl rfl ?_)
 refine WpO.ghb (f_frz 2 [5] rfl (all_plain_map _) (.cons rfl (by simp) .nil) rfl) ?_
 refine yG ?_
 intro _ hm
 refine nO (kW ?_)
 refine yG ?_
 intro _ hm
 cases hm
 exact rZ1
/-- impl.FoldedInst -/
noncomputable def impl_FoldedInst_m (f : GFunc) (i : GInst) : Option GInst :=
 (Option.bind ((Option.bind (impl_isFormed_m f) fun x2 =>
 (if (!x2) = true then
 (some true)
 else
 (Option.bind (impl_CountOf_m f) fun x5 =>
 (Option.bind (impl_isInst_m i x5 3) fun x7 =>
 (some ((!x7)))))))) fun (j1 : Bool) =>
 (if j1 = true then
 (some (({ op_ := 0, w := 0, a := 0, b := 0, c := 0, imm := 0, args := [] } : GInst)))
 else
 (Option.bind (impl_folded_m f i) fun x11 =>
 (Option.bind (impl_ownInst_m x11) fun x13 =>
 (some (({ op_ := x13.op_, w := x13.w, a := x13.a, b := x13.b, c := x13.c, imm := x13.imm, args := x13.args } : GInst)))))))
theorem impl_FoldedInst_sim {f : GFunc} {i : GInst} {r : GInst} (hm : impl_FoldedInst_m f i = some r) : Sim Tryz.prog 15 [.agg (eFunc false f), .agg (eInst false i)] [] (.u (.agg (eInst false r))) [] := by
 refine fN 20 0 Tryz.func15 [.cell 4 29] fun B hB0 => ?_
 unfold impl_FoldedInst_m at hm
 refine Wp.seq ?_
 refine c_regS ?_
 refine yR ?_
 intro _ hm
 refine o_end ?_
 refine Wp.seq ?_
 refine Wp.seq ?_
 obtain ⟨j1, hj9, hm⟩ := of_bind hm
 refine c_cut (St 20 [(2, vP 0), (3, vP 1), (4, vP 2), (14, vB j1)] [(0, oL 3 (eFunc false f)), (1, oL 7 (eInst false i)), (2, oL 7 [.int .i64 0, .int .i64 0, .int .i64 0, .int .i64 0, .int .i64 0, .int .i64 0, .nl])] 3) ?_ ?_
 replace hm := hj9
 refine c_drw (Y := sysC _) mixed ?_
 refine tK 0 1 rfl (kW ?_)
 obtain ⟨x2, h3, hm⟩ := of_bind hm
 refine oK 1 rfl (cB (impl_isFormed_sim h3) ?_)
 refine tK 2 0 rfl (x_un rfl rfl ?_)
 refine tK 3 0 rfl (kV ?_)
 refine bT 8 hm (fun hb4 hm => ?_) fun hb4 hm => ?_
 refine tF 4 rfl ?_
 refine tF 5 rfl ?_
 refine tF 6 rfl ?_
 refine tF 7 rfl ?_
 refine tF 8 rfl ?_
 refine tK 9 0 rfl (x_pk rfl rfl rfl ?_)
 refine aN ?_
 cases hm
 exact vW [0, 1, 2]
 refine tG 4 1 rfl (kW ?_)
 refine tG 5 1 rfl (kW ?_)
 obtain ⟨x5, h6, hm⟩ := of_bind hm
 refine oG 6 rfl (cB (impl_CountOf_sim h6) ?_)
 obtain ⟨x7, h8, hm⟩ := of_bind hm
 refine oG 7 rfl (cB (impl_isInst_sim h8) ?_)
 refine tG 8 0 rfl (x_un rfl rfl ?_)
 refine tK 9 0 rfl (x_pk rfl rfl rfl ?_)
 refine aN ?_
 cases hm
 exact vW [0, 1, 2]
 refine bS hm (fun hb10 hm => ?_) fun hb10 hm => ?_
 refine yG ?_
 intro _ hm
 cases hm
 exact rZ1h (hg := f_nl 0 6 1 false rfl rfl rfl)
 refine yG ?_
 intro _ hm
 refine nO (kW ?_)
 refine nO (kW ?_)
 obtain ⟨x11, h12, hm⟩ := of_bind hm
 refine nO (cG [] (impl_folded_sim h12) ?_)
 obtain ⟨x13, h14, hm⟩ := of_bind hm
 refine nO (cG [] (impl_ownInst_sim h14) ?_)
 refine yG ?_
 intro _ hm
 cases hm
 exact rZ1
/-- spec.DrawTypeOf -/
noncomputable def spec_DrawTypeOf_m (code : List Int) : Option (GFunc × Int) :=
 (Option.bind (spec_l1Rd_module_m ((spec_l1Open_m code))) fun x1 =>
 (if (0 : Int) ≤ 0 ∧ 0 < (List.length x1.1.funcs : Int) then
 (Option.bind ((Option.bind (spec_l1Rd_off_m x1.2 0 20) fun x5 =>
 (some x5.1))) fun (j4 : Int) =>
 (some ((({ params := (at_ x1.1.funcs 0).params, ret := (at_ x1.1.funcs 0).ret, blocks := (at_ x1.1.funcs 0).blocks } : GFunc), j4))))
 else none))
theorem spec_DrawTypeOf_sim {code : List Int} {r : GFunc × Int} (hm : spec_DrawTypeOf_m code = some r) : Sim Tryz.prog 70 [.one (.bs () 1 (List.map (iK .u8) code))] [] (.tup [.agg (eFunc false r.1), .one (.int .i64 r.2)]) [] := by
 refine fN 16 0 Tryz.func70 [.cell 2 27, .tmp 3] fun B hB0 => ?_
 unfold spec_DrawTypeOf_m at hm
 refine yG ?_
 intro _ hm
 refine nO (cG [] (spec_l1Open_sim code) ?_)
 refine yG ?_
 intro _ hm
 obtain ⟨x1, h2, hm⟩ := of_bind hm
 refine nO (cG [1] (spec_l1Rd_module_sim h2) ?_)
 refine nO (x_fd F40_0 rfl rfl rfl ?_)
 refine yG ?_
 intro k1 hm
 refine nO (x_ldn rfl T27 rfl rfl k1.2 (pk_all rfl rfl) rfl ?_)
 refine yR ?_
 intro _ hm
 refine o_end ?_
 refine Wp.seq ?_
 obtain ⟨j4, hj7, hm⟩ := of_bind hm
 refine c_cut (St 16 [(2, vP 0), (3, vI j4)] [(0, oL 3 (eFunc false (at_ x1.1.funcs 0)))] 1) ?_ ?_
 replace hm := hj7
 refine c_drw (Y := sysG _) mixed ?_
 refine tK 1 0 rfl (kV ?_)
 refine t_2 0 2 rfl rfl (by decide +kernel) ?_ ?_
 refine (kW ?_)
 obtain ⟨x5, h6, hm⟩ := of_bind hm
 refine oK 2 rfl (cgG [1] (spec_l1Rd_off_sim h6) ?_)
 refine oK 3 rfl (kS ?_)
 refine tK 4 0 rfl (x_as rfl rfl ?_)
 refine aN ?_
 cases hm
 exact vW [0]
 obtain ⟨x5, h6, hm⟩ := of_bind hm
 refine (cgG [1] (spec_l1Rd_off_sim h6) ?_)
 refine tK 0 1 rfl (kW ?_)
 refine oK 3 rfl (kS ?_)
 refine tK 4 0 rfl (x_as rfl rfl ?_)
 refine aN ?_
 cases hm
 exact vW [0]
 refine c_ret ?_
 cases hm
 exact rZt
/-- spec.DrawConstOf -/
noncomputable def spec_DrawConstOf_m (code : List Int) : Option (GFunc × Int) :=
 (Option.bind (spec_DrawTypeOf_m code) fun x1 =>
 (some ((({ params := x1.1.params, ret := x1.1.ret, blocks := x1.1.blocks } : GFunc), x1.2))))
theorem spec_DrawConstOf_sim {code : List Int} {r : GFunc × Int} (hm : spec_DrawConstOf_m code = some r) : Sim Tryz.prog 16 [.one (.bs () 1 (List.map (iK .u8) code))] [] (.tup [.agg (eFunc false r.1), .one (.int .i64 r.2)]) [] := by
 refine fN 8 0 Tryz.func16 [.cell 2 27, .tmp 3] fun B hB0 => ?_
 unfold spec_DrawConstOf_m at hm
 refine yG ?_
 intro _ hm
 obtain ⟨x1, h2, hm⟩ := of_bind hm
 refine nO (cG [] (spec_DrawTypeOf_sim h2) ?_)
 refine yG ?_
 intro _ hm
 cases hm
 exact rZt
/-- spec.l2Place -/
noncomputable def spec_l2Place_m (f : GFunc) (id : Int) : Option (Int × Int) :=
 (if decide (id < 0) = true then
 (some (((-2), 0)))
 else
 (if decide (id < ((List.length f.params : Int))) = true then
 (some (((-1), id)))
 else
 (if inI (id - ((List.length f.params : Int))) then
 (Option.bind (loopO (fun (st6 : Int × Int) =>
 ((if decide (st6.2 < ((List.length f.blocks : Int))) = true then
 (if 0 ≤ st6.2 ∧ st6.2 < (List.length f.blocks : Int) then
 (if 0 ≤ st6.2 ∧ st6.2 < (List.length f.blocks : Int) then
 (if decide (st6.1 < (IntKind.i64.wrap (((List.length ((at_ f.blocks st6.2).phis) : Int)) + ((List.length ((at_ f.blocks st6.2).insts) : Int))))) = true then
 (some (Sum.inr ((Sum.inl ((st6.2, st6.1))))))
 else
 (if inI (st6.2 + 1) then
 (some (Sum.inl ((IntKind.i64.wrap (st6.1 - (IntKind.i64.wrap (((List.length ((at_ f.blocks st6.2).phis) : Int)) + ((List.length ((at_ f.blocks st6.2).insts) : Int))))), st6.2 + 1))))
 else none))
 else none)
 else none)
 else
 (some (Sum.inr ((Sum.inr (())))))) : Option ((Int × Int) ⊕ ((Int × Int) ⊕ Unit)))) (id - ((List.length f.params : Int)), 0)) fun (y17 : (Int × Int) ⊕ Unit) => match y17 with
 | (Sum.inl j7) =>
 (some ((j7.1, j7.2)))
 | (Sum.inr j8) =>
 (some (((-2), 0))))
 else none)))
theorem spec_l2Place_sim {f : GFunc} {id : Int} {r : Int × Int} (hm : spec_l2Place_m f id = some r) : Sim Tryz.prog 131 [.agg (eFunc false f), .one (.int .i64 id)] [] (.tup [.one (.int .i64 r.1), .one (.int .i64 r.2)]) [] := by
 refine fN 51 0 Tryz.func131 [.tmp 4, .tmp 5] fun B hB0 => ?_
 have fW := trivial
 unfold spec_l2Place_m at hm
 refine yG ?_
 intro _ hm
 refine bS hm (fun hb1 hm => ?_) fun hb1 hm => ?_
 refine yG ?_
 intro _ hm
 cases hm
 exact rZt
 refine yG ?_
 intro k1 hm
 refine bS hm (fun hb3 hm => ?_) fun hb3 hm => ?_
 refine yG ?_
 intro _ hm
 cases hm
 exact rZt
 refine yG ?_
 intro k2 hm
 obtain ⟨y17, hl18, hm⟩ := of_bind hm
 refine c_loop hl18 (fun (st6 : Int × Int) => St 51 [(1, vI st6.1), (2, vP 0), (6, vI st6.2)] [(0, oL 3 (eFunc false f))] 1) (fun (y : (Int × Int) ⊕ Unit) => match y with | (Sum.inl j7) => (.ret, St 51 [(4, vI j7.1), (5, vI j7.2)] [] 0) | (Sum.inr j8) => (.exit 0, St 51 [] [] 0)) (vW [0]) ?_ (by rintro (_ | _) <;> simp) ?_
 intro st6 x hm
 refine yG ?_
 intro k3 hm
 refine bS hm (fun hb10 hm => ?_) fun hb10 hm => ?_
 refine c_skip ?_
 refine Wp.seq ?_
 refine Wp.block ?_
 refine Wp.seq ?_
 refine c_drw (Y := sysC _) mixed ?_
 refine tK 0 1 rfl (kF ?_)
 refine tK 1 1 rfl (kD ?_)
 refine tK 2 0 rfl (kV ?_)
 obtain ⟨h11, hm⟩ := of_ite hm
 refine tK 3 0 rfl (x_ixb E25 rfl rfl h11 ?_)
 refine tK 4 0 rfl (x_fai F53_0 rfl ?_)
 refine tK 5 0 rfl (x_ldi T48 rfl rfl rfl ?_)
 refine tK 6 0 rfl (x_lnb N48 rfl fun hL12 => ?_)
 refine tK 7 1 rfl (kF ?_)
 refine tK 8 1 rfl (kD ?_)
 refine tK 9 0 rfl (kV ?_)
 obtain ⟨h13, hm⟩ := of_ite hm
 refine tK 10 0 rfl (x_ixb E25 rfl rfl h13 ?_)
 refine tK 11 0 rfl (x_fai F53_1 rfl ?_)
 refine tK 12 0 rfl (x_ldi T49 rfl rfl rfl ?_)
 refine tK 13 0 rfl (x_lnb N49 rfl fun hL14 => ?_)
 refine tK 14 0 rfl (x_binw T3 rfl rfl rfl ?_)
 refine tK 15 0 rfl (x_as rfl rfl ?_)
 refine aN ?_
 refine yG ?_
 intro _ hm
 refine bS hm (fun hb15 hm => ?_) fun hb15 hm => ?_
 refine yG ?_
 intro _ hm
 cases hm
 exact ⟨rfl, vW []⟩
 refine yG ?_
 intro _ hm
 refine nO (x_binw T2 rfl rfl rfl ?_)
 refine yG ?_
 intro k4 hm
 cases hm
 exact ⟨rfl, vW [0]⟩
 refine c_exit ?_
 cases hm
 exact ⟨rfl, vW []⟩
 rcases y17 with j7 | j8 <;> simp only at hm
 cases hm
 exact rZt
 refine yG ?_
 intro _ hm
 cases hm
 exact rZt
/-- spec.l9Inst -/
noncomputable def spec_l9Inst_m (f : GFunc) (id : Int) : Option (GInst × Bool) :=
 (Option.bind (spec_l2Place_m f id) fun x1 =>
 (if decide (x1.1 < 0) = true then
 (some ((({ op_ := 0, w := 0, a := 0, b := 0, c := 0, imm := 0, args := [] } : GInst), false)))
 else
 (if 0 ≤ x1.1 ∧ x1.1 < (List.length f.blocks : Int) then
 (if decide (x1.2 < ((List.length ((at_ f.blocks x1.1).phis) : Int))) = true then
 (some ((({ op_ := 0, w := 0, a := 0, b := 0, c := 0, imm := 0, args := [] } : GInst), false)))
 else
 (if 0 ≤ x1.1 ∧ x1.1 < (List.length f.blocks : Int) then
 (if inI (x1.2 - ((List.length ((at_ f.blocks x1.1).phis) : Int))) then
 (if 0 ≤ (x1.2 - ((List.length ((at_ f.blocks x1.1).phis) : Int))) ∧ (x1.2 - ((List.length ((at_ f.blocks x1.1).phis) : Int))) < (List.length ((at_ f.blocks x1.1).insts) : Int) then
 (some ((({ op_ := (at_ ((at_ f.blocks x1.1).insts) (x1.2 - ((List.length ((at_ f.blocks x1.1).phis) : Int)))).op_, w := (at_ ((at_ f.blocks x1.1).insts) (x1.2 - ((List.length ((at_ f.blocks x1.1).phis) : Int)))).w, a := (at_ ((at_ f.blocks x1.1).insts) (x1.2 - ((List.length ((at_ f.blocks x1.1).phis) : Int)))).a, b := (at_ ((at_ f.blocks x1.1).insts) (x1.2 - ((List.length ((at_ f.blocks x1.1).phis) : Int)))).b, c := (at_ ((at_ f.blocks x1.1).insts) (x1.2 - ((List.length ((at_ f.blocks x1.1).phis) : Int)))).c, imm := (at_ ((at_ f.blocks x1.1).insts) (x1.2 - ((List.length ((at_ f.blocks x1.1).phis) : Int)))).imm, args := (at_ ((at_ f.blocks x1.1).insts) (x1.2 - ((List.length ((at_ f.blocks x1.1).phis) : Int)))).args } : GInst), true)))
 else none)
 else none)
 else none))
 else none)))
theorem spec_l9Inst_sim {f : GFunc} {id : Int} {r : GInst × Bool} (hm : spec_l9Inst_m f id = some r) : Sim Tryz.prog 72 [.agg (eFunc false f), .one (.int .i64 id)] [] (.tup [.agg (eInst false r.1), .one (.bool r.2)]) [] := by
 refine fN 40 0 Tryz.func72 [.cell 4 29, .tmp 5] fun B hB0 => ?_
 unfold spec_l9Inst_m at hm
 refine yG ?_
 intro _ hm
 refine nO (kW ?_)
 refine yG ?_
 intro _ hm
 obtain ⟨x1, h2, hm⟩ := of_bind hm
 refine nO (aopK_A (cB (spec_l2Place_sim h2) ?_))
 refine yG ?_
 intro _ hm
 refine bS hm (fun hb3 hm => ?_) fun hb3 hm => ?_
 refine yG ?_
 intro _ hm
 cases hm
 exact rZth (hg := f_nl 0 6 1 false rfl rfl rfl)
 refine yG ?_
 intro k1 hm
 refine bS hm (fun hb6 hm => ?_) fun hb6 hm => ?_
 refine yG ?_
 intro _ hm
 cases hm
 exact rZth (hg := f_nl 0 6 1 false rfl rfl rfl)
 refine yG ?_
 intro k2 hm
 refine nO (x_ldi T29 rfl (pk_all rfl rfl) rfl ?_)
 refine yG ?_
 intro _ hm
 cases hm
 exact rZt
/-- spec.ConstOf -/
noncomputable def spec_ConstOf_m (f : GFunc) (id : Int) : Option (Int × Bool) :=
 (Option.bind (spec_l9Inst_m f id) fun x1 =>
 (if ((!x1.2) || (x1.1.op_ != 21)) = true then
 (some ((0, false)))
 else
 (some ((x1.1.imm, true)))))
theorem spec_ConstOf_sim {f : GFunc} {id : Int} {r : Int × Bool} (hm : spec_ConstOf_m f id = some r) : Sim Tryz.prog 18 [.agg (eFunc false f), .one (.int .i64 id)] [] (.tup [.one (.int .i64 r.1), .one (.bool r.2)]) [] := by
 refine fN 23 0 Tryz.func18 [.tmp 4, .tmp 5] fun B hB0 => ?_
 unfold spec_ConstOf_m at hm
 refine yG ?_
 intro _ hm
 refine nO (kW ?_)
 refine yG ?_
 intro _ hm
 obtain ⟨x1, h2, hm⟩ := of_bind hm
 refine nO (cG [] (spec_l9Inst_sim h2) ?_)
 refine yR ?_
 intro _ hm
 refine o_end ?_
 refine Wp.seq ?_
 refine Wp.seq ?_
 refine c_cut (St 23 [(6, vP 0), (20, vB (((!x1.2) || (x1.1.op_ != 21))))] [(0, oL 7 (eInst false x1.1))] 1) ?_ ?_
 refine yG ?_
 intro _ hm
 refine gO_s rfl rfl rfl (fun hb4 => ?_) (fun hb4 => ?_)
 refine yG ?_
 intro _ hm
 exact w_ [1] (.cons rfl rfl (.cons (by simp only [hb4, BO]; rfl) rfl .nil)) (.lit rfl rfl .nil) (by decide) (hB_0 hB0)
 refine yG ?_
 intro _ hm
 exact w_ [1] (.cons rfl rfl (.cons (by simp only [hb4, BO]; rfl) rfl .nil)) (.lit rfl rfl .nil) (by decide) (hB_0 hB0)
 refine bS hm (fun hb5 hm => ?_) fun hb5 hm => ?_
 refine yG ?_
 intro _ hm
 cases hm
 exact rZt
 refine yG ?_
 intro _ hm
 cases hm
 exact rZt
/-- spec.l1Copy -/
noncomputable def spec_l1Copy_m (l : List Int) : Option (List Int) :=
 (if (List.length (([] : List Int)) + List.length l) * 8 ≤ 140737488355328 ∧ List.length (([] : List Int)) + List.length l ≤ LIM then
 (some ((([] : List Int)) ++ l))
 else none)
theorem spec_l1Copy_sim {l : List Int} {r : List Int} (hm : spec_l1Copy_m l = some r) : Sim Tryz.prog 98 [.one (.bs () 1 (List.map iL l))] [] (.u (.one (.os () 1 (List.map iL r)))) [] := by
 refine fN 6 0 Tryz.func98 [.tmp 2] fun B hB0 => ?_
 unfold spec_l1Copy_m at hm
 refine yG ?_
 intro _ hm
 refine nO (kM (iL) (([] : List Int)) ?_)
 refine yG ?_
 intro k1 hm
 cases hm
 exact rZ1h (hg := f_fold 0 0 rfl rfl rfl rfl)
/-- spec.l2Operands -/
noncomputable def spec_l2Operands_m (i : GInst) : Option (List Int) :=
 (if ((spec_l1In_m i.op_ 1 17) || (i.op_ == 24)) = true then
 (some ([i.a, i.b]))
 else
 (if ((spec_l1In_m i.op_ 18 20) || ((i.op_ == 23) || ((i.op_ == 25) || (i.op_ == 27)))) = true then
 (some ([i.a]))
 else
 (if (i.op_ == 22) = true then
 (some ([i.a, i.b, i.c]))
 else
 (if (i.op_ == 26) = true then
 (Option.bind (spec_l1Copy_m i.args) fun x11 =>
 (some x11))
 else
 (some (([] : List Int)))))))
theorem spec_l2Operands_sim {i : GInst} {r : List Int} (hm : spec_l2Operands_m i = some r) : Sim Tryz.prog 134 [.agg (eInst false i)] [] (.u (.one (.os () 1 (List.map iL r)))) [] := by
 refine fN 50 0 Tryz.func134 [.tmp 2] fun B hB0 => ?_
 unfold spec_l2Operands_m at hm
 refine Wp.seq ?_
 refine c_regS ?_
 refine yR ?_
 intro _ hm
 refine o_end ?_
 refine Wp.seq ?_
 refine Wp.block ?_
 refine Wp.seq ?_
 refine c_cut (St 50 [(1, vP 0), (3, vB (((spec_l1In_m i.op_ 1 17) || (i.op_ == 24))))] [(0, oL 7 (eInst false i))] 1) ?_ ?_
 refine yG ?_
 intro _ hm
 refine nO (aopK_A (cB (spec_l1In_sim i.op_ 1 17) ?_))
 refine yG ?_
 intro _ hm
 refine c_s rfl rfl (fun hb2 => ?_) (fun hb2 => ?_)
 refine c_skip ?_
 exact w_ [0] (.cons rfl rfl (.cons (by simp only [hb2, BO]; rfl) rfl .nil)) (.lit rfl rfl .nil) (by decide) (hB_0 hB0)
 refine yG ?_
 intro _ hm
 exact w_ [0] (.cons rfl rfl (.cons (by simp only [hb2, BO]; rfl) rfl .nil)) (.lit rfl rfl .nil) (by decide) (hB_0 hB0)
 refine bS hm (fun hb3 hm => ?_) fun hb3 hm => ?_
 refine yG ?_
 intro _ hm
 refine nO (kM (iL) ([i.a, i.b]) ?_)
 refine yG ?_
 intro _ hm
 cases hm
 exact rZ1h (hg := f_fold 0 0 rfl rfl rfl rfl)
 refine Wp.seq ?_
 refine c_cut (St 50 [(1, vP 0), (15, vB (((spec_l1In_m i.op_ 18 20) || ((i.op_ == 23) || ((i.op_ == 25) || (i.op_ == 27))))))] [(0, oL 7 (eInst false i))] 1) ?_ ?_
 refine yG ?_
 intro _ hm
 refine nO (aopK_A (cB (spec_l1In_sim i.op_ 18 20) ?_))
 refine yG ?_
 intro _ hm
 refine c_s rfl rfl (fun hb5 => ?_) (fun hb5 => ?_)
 refine c_skip ?_
 exact w_ [0] (.cons rfl rfl (.cons (by simp only [hb5, BO]; rfl) rfl .nil)) (.lit rfl rfl .nil) (by decide) (hB_0 hB0)
 refine yG ?_
 intro _ hm
 refine c_s rfl rfl (fun hb6 => ?_) (fun hb6 => ?_)
 refine c_skip ?_
 exact w_ [0] (.cons rfl rfl (.cons (by simp only [hb5, hb6, BO]; rfl) rfl .nil)) (.lit rfl rfl .nil) (by decide) (hB_0 hB0)
 refine yG ?_
 intro _ hm
 refine c_s rfl rfl (fun hb7 => ?_) (fun hb7 => ?_)
 refine c_skip ?_
 exact w_ [0] (.cons rfl rfl (.cons (by simp only [hb5, hb6, hb7, BO]; rfl) rfl .nil)) (.lit rfl rfl .nil) (by decide) (hB_0 hB0)
 refine yG ?_
 intro _ hm
 exact w_ [0] (.cons rfl rfl (.cons (by simp only [hb5, hb6, hb7, BO]; rfl) rfl .nil)) (.lit rfl rfl .nil) (by decide) (hB_0 hB0)
 refine bS hm (fun hb8 hm => ?_) fun hb8 hm => ?_
 refine yG ?_
 intro _ hm
 refine nO (kM (iL) ([i.a]) ?_)
 refine yG ?_
 intro _ hm
 cases hm
 exact rZ1h (hg := f_fold 0 0 rfl rfl rfl rfl)
 refine yG ?_
 intro _ hm
 refine bS hm (fun hb9 hm => ?_) fun hb9 hm => ?_
 refine yG ?_
 intro _ hm
 refine nO (kM (iL) ([i.a, i.b, i.c]) ?_)
 refine yG ?_
 intro _ hm
 cases hm
 exact rZ1h (hg := f_fold 0 0 rfl rfl rfl rfl)
 refine yG ?_
 intro _ hm
 refine bS hm (fun hb10 hm => ?_) fun hb10 hm => ?_
 refine yG ?_
 intro _ hm
 obtain ⟨x11, h12, hm⟩ := of_bind hm
 refine nO (aopK_A (cB (spec_l1Copy_sim h12) ?_))
 refine yG ?_
 intro _ hm
 cases hm
 exact rZ1h (hg := f_fold 0 0 rfl rfl rfl rfl)
 refine yG ?_
 intro _ hm
 refine nO (kM (iL) (([] : List Int)) ?_)
 refine yG ?_
 intro _ hm
 cases hm
 exact rZ1h (hg := f_fold 0 0 rfl rfl rfl rfl)
/-- spec.l1Top -/
noncomputable def spec_l1Top_m (w : Int) : Option Int :=
 (if 0 ≤ (IntKind.u64.wrap w) then
 (some (IntKind.i64.wrap (1 * 2 ^ min (Int.toNat (IntKind.u64.wrap w)) (IntKind.bits .i64))))
 else none)
theorem spec_l1Top_sim {w : Int} {r : Int} (hm : spec_l1Top_m w = some r) : Sim Tryz.prog 204 [.one (.int .i64 w)] [] (.u (.one (.int .i64 r))) [] := by
 refine fN 6 0 Tryz.func204 [.tmp 2] fun B hB0 => ?_
 unfold spec_l1Top_m at hm
 refine yG ?_
 intro k1 hm
 cases hm
 exact rZ1
/-- spec.l1Value -/
noncomputable def spec_l1Value_m (w : Int) (v : Int) : Option Bool :=
 (Option.bind ((if (spec_WidthOk_m w) = true then
 (Option.bind (spec_l1Top_m w) fun x3 =>
 (if inI (x3 - 1) then
 (some ((spec_l1In_m v 0 (x3 - 1))))
 else none))
 else
 (some false))) fun (j1 : Bool) =>
 (some j1))
theorem spec_l1Value_sim {w : Int} {v : Int} {r : Bool} (hm : spec_l1Value_m w v = some r) : Sim Tryz.prog 135 [.one (.int .i64 w), .one (.int .i64 v)] [] (.u (.one (.bool r))) [] := by
 refine fN 14 0 Tryz.func135 [.tmp 4] fun B hB0 => ?_
 unfold spec_l1Value_m at hm
 refine Wp.seq ?_
 refine c_regS ?_
 refine nO (x_as rfl rfl ?_)
 refine o_end ?_
 refine Wp.seq ?_
 obtain ⟨j1, hj6, hm⟩ := of_bind hm
 refine c_cut (St 14 [(4, vB j1)] [] 0) ?_ ?_
 replace hm := hj6
 refine yG ?_
 intro _ hm
 refine nO (aopK_A (cB (spec_WidthOk_sim w) ?_))
 refine yG ?_
 intro _ hm
 refine bG1 hm (fun hb2 hm => ?_) fun hb2 hm => ?_
 refine yG ?_
 intro _ hm
 obtain ⟨x3, h4, hm⟩ := of_bind hm
 refine gO_t rfl rfl rfl (aopK_A (cB (spec_l1Top_sim h4) ?_))
 refine yG ?_
 intro k1 hm
 refine gO_t rfl rfl rfl (aopK_A (cB (spec_l1In_sim v 0 (x3 - 1)) ?_))
 refine yG ?_
 intro _ hm
 cases hm
 exact vW []
 refine yG ?_
 intro _ hm
 cases hm
 exact vW []
 refine c_ret ?_
 cases hm
 exact rZ1
/-- spec.l2Inst -/
noncomputable def spec_l2Inst_m (i : GInst) (count : Int) (funcs : Int) : Option Bool :=
 (if ((!((spec_l1In_m i.op_ 1 27))) || ((i.op_ != 26) && decide (((List.length i.args : Int)) > 0))) = true then
 (some false)
 else
 (Option.bind (spec_l2Operands_m i) fun x6 =>
 (Option.bind (loopO (fun (st8 : Int) =>
 ((if decide (st8 < ((List.length x6 : Int))) = true then
 (if 0 ≤ st8 ∧ st8 < (List.length x6 : Int) then
 (if inI (count - 1) then
 (if (!((spec_l1In_m (at_ x6 st8) 0 (count - 1)))) = true then
 (some (Sum.inr ((Sum.inl (())))))
 else
 (if inI (st8 + 1) then
 (some (Sum.inl (st8 + 1)))
 else none))
 else none)
 else none)
 else
 (some (Sum.inr ((Sum.inr (())))))) : Option ((Int) ⊕ (Unit ⊕ Unit)))) 0) fun (y17 : Unit ⊕ Unit) => match y17 with
 | (Sum.inl j9) =>
 (some false)
 | (Sum.inr j10) =>
 (if (if (!((((i.op_ == 24) || (i.op_ == 25))) == ((i.w == 0)))) = true then true else (if (!(((i.op_ == 24) || (i.op_ == 25)))) = true then ((!((spec_WidthOk_m i.w))) || decide (((List.length i.args : Int)) > 4)) else decide (((List.length i.args : Int)) > 4))) = true then
 (some false)
 else
 (if (if decide (((if (i.op_ == 26) = true then 0 else (List.length x6 : Int))) < 1) = true then (if (i.a != 0) = true then true else (if decide (((if (i.op_ == 26) = true then 0 else (List.length x6 : Int))) < 2) = true then (if (i.b != 0) = true then true else (if decide (((if (i.op_ == 26) = true then 0 else (List.length x6 : Int))) < 3) = true then (i.c != 0) else false)) else (if decide (((if (i.op_ == 26) = true then 0 else (List.length x6 : Int))) < 3) = true then (i.c != 0) else false))) else (if decide (((if (i.op_ == 26) = true then 0 else (List.length x6 : Int))) < 2) = true then (if (i.b != 0) = true then true else (if decide (((if (i.op_ == 26) = true then 0 else (List.length x6 : Int))) < 3) = true then (i.c != 0) else false)) else (if decide (((if (i.op_ == 26) = true then 0 else (List.length x6 : Int))) < 3) = true then (i.c != 0) else false))) = true then
 (some false)
 else
 (if (i.op_ == 21) = true then
 (Option.bind (spec_l1Value_m i.w i.imm) fun x44 =>
 (some x44))
 else
 (if (i.op_ == 26) = true then
 (if inI (funcs - 1) then
 (some ((spec_l1In_m i.imm 0 (funcs - 1))))
 else none)
 else
 (if (i.op_ == 23) = true then
 (some (((i.w == 8) && (i.imm == 0))))
 else
 (some ((i.imm == 0)))))))))))
theorem spec_l2Inst_sim {i : GInst} {count : Int} {funcs : Int} {r : Bool} (hm : spec_l2Inst_m i count funcs = some r) : Sim Tryz.prog 75 [.agg (eInst false i), .one (.int .i64 count), .one (.int .i64 funcs)] [] (.u (.one (.bool r))) [] := by
 refine fN 130 0 Tryz.func75 [.tmp 6] fun B hB0 => ?_
 unfold spec_l2Inst_m at hm
 refine Wp.seq ?_
 refine c_regS ?_
 refine yR ?_
 intro _ hm
 refine o_end ?_
 refine Wp.seq ?_
 refine Wp.seq ?_
 refine c_cut (St 130 [(1, vI count), (2, vI funcs), (3, vP 0), (25, vB (((!((spec_l1In_m i.op_ 1 27))) || ((i.op_ != 26) && decide (((List.length i.args : Int)) > 0)))))] [(0, oL 7 (eInst false i))] 1) ?_ ?_
 refine yG ?_
 intro _ hm
 refine nO (aopK_A (cB (spec_l1In_sim i.op_ 1 27) ?_))
 refine yG ?_
 intro _ hm
 refine gO_s rfl rfl rfl (fun hb2 => ?_) (fun hb2 => ?_)
 refine yG ?_
 intro _ hm
 refine gO_s rfl rfl rfl (fun hb3 => ?_) (fun hb3 => ?_)
 refine yG ?_
 intro k1 hm
 exact w_ [0] (.cons rfl rfl (.cons rfl rfl (.cons rfl rfl (.cons (by simp only [hb2, hb3, BO]; rfl) rfl .nil)))) (.lit rfl rfl .nil) (by decide) (hB_0 hB0)
 refine yG ?_
 intro _ hm
 exact w_ [0] (.cons rfl rfl (.cons rfl rfl (.cons rfl rfl (.cons (by simp only [hb2, hb3, BO]; rfl) rfl .nil)))) (.lit rfl rfl .nil) (by decide) (hB_0 hB0)
 refine yG ?_
 intro _ hm
 exact w_ [0] (.cons rfl rfl (.cons rfl rfl (.cons rfl rfl (.cons (by simp only [hb2, BO]; rfl) rfl .nil)))) (.lit rfl rfl .nil) (by decide) (hB_0 hB0)
 refine bS hm (fun hb5 hm => ?_) fun hb5 hm => ?_
 refine yG ?_
 intro _ hm
 cases hm
 exact rZ1
 refine yG ?_
 intro _ hm
 refine nO (kW ?_)
 obtain ⟨x6, h7, hm⟩ := of_bind hm
 refine nO (aopK_A (cB (spec_l2Operands_sim h7) ?_))
 refine yG ?_
 intro _ hm
 obtain ⟨y17, hl18, hm⟩ := of_bind hm
 refine c_loop hl18 (fun (st8 : Int) => St 130 [(1, vI count), (2, vI funcs), (3, vP 0), (7, vR 1 (List.length x6)), (8, vI st8)] [(0, oL 7 (eInst false i)), (1, oM 1 iL x6)] 2) (fun (y : Unit ⊕ Unit) => match y with | (Sum.inl j9) => (.ret, St 130 [(6, vB false)] [] 0) | (Sum.inr j10) => (.exit 0, St 130 [(2, vI funcs), (3, vP 0), (7, vR 1 (List.length x6))] [(0, oL 7 (eInst false i)), (1, oM 1 iL x6)] 2)) (vW [0, 1]) ?_ (by rintro (_ | _) <;> simp) ?_
 intro st8 x hm
 refine yG ?_
 intro k2 hm
 refine bS hm (fun hb12 hm => ?_) fun hb12 hm => ?_
 refine yG ?_
 intro k3 hm
 refine nO (aopK_A (cB (spec_l1In_sim (at_ x6 st8) 0 (count - 1)) ?_))
 refine yG ?_
 intro _ hm
 refine bS hm (fun hb15 hm => ?_) fun hb15 hm => ?_
 refine yG ?_
 intro _ hm
 cases hm
 exact ⟨rfl, vW []⟩
 refine yG ?_
 intro k4 hm
 cases hm
 exact ⟨rfl, vW [0, 1]⟩
 refine c_exit ?_
 cases hm
 exact ⟨rfl, vW [0, 1]⟩
 rcases y17 with j9 | j10 <;> simp only at hm
 cases hm
 exact rZ1
 refine Wp.seq ?_
 refine c_cut (St 130 [(2, vI funcs), (3, vP 0), (7, vR 1 (List.length x6)), (9, vB (((i.op_ == 24) || (i.op_ == 25))))] [(0, oL 7 (eInst false i)), (1, oM 1 iL x6)] 2) ?_ ?_
 refine yG ?_
 intro _ hm
 refine gO_s rfl rfl rfl (fun hb20 => ?_) (fun hb20 => ?_)
 refine yG ?_
 intro _ hm
 exact w_ [0, 1] (.cons rfl rfl (.cons rfl rfl (.cons rfl rfl (.cons (by simp only [hb20, BO]; rfl) rfl .nil)))) (.lit rfl rfl (.map rfl .nil)) (by decide) (hB_0 hB0)
 refine yG ?_
 intro _ hm
 exact w_ [0, 1] (.cons rfl rfl (.cons rfl rfl (.cons rfl rfl (.cons (by simp only [hb20, BO]; rfl) rfl .nil)))) (.lit rfl rfl (.map rfl .nil)) (by decide) (hB_0 hB0)
 refine Wp.seq ?_
 refine Wp.seq ?_
 refine c_cut (St 130 [(2, vI funcs), (3, vP 0), (7, vR 1 (List.length x6)), (70, vB ((if (!((((i.op_ == 24) || (i.op_ == 25))) == ((i.w == 0)))) = true then true else (if (!(((i.op_ == 24) || (i.op_ == 25)))) = true then ((!((spec_WidthOk_m i.w))) || decide (((List.length i.args : Int)) > 4)) else decide (((List.length i.args : Int)) > 4)))))] [(0, oL 7 (eInst false i)), (1, oM 1 iL x6)] 2) ?_ ?_
 refine yG ?_
 intro _ hm
 refine gO_s rfl rfl rfl (fun hb22 => ?_) (fun hb22 => ?_)
 refine yG ?_
 intro _ hm
 refine gO_s rfl rfl rfl (fun hb23 => ?_) (fun hb23 => ?_)
 refine yG ?_
 intro _ hm
 refine gO_t rfl rfl rfl (aopK_A (cB (spec_WidthOk_sim i.w) ?_))
 refine yG ?_
 intro _ hm
 refine gO_s rfl rfl rfl (fun hb24 => ?_) (fun hb24 => ?_)
 refine yG ?_
 intro k5 hm
 exact w_ [0, 1] (.cons rfl rfl (.cons rfl rfl (.cons rfl rfl (.cons (by simp only [hb22, hb23, hb24, BO]; rfl) rfl .nil)))) (.lit rfl rfl (.map rfl .nil)) (by decide) (hB_0 hB0)
 refine yG ?_
 intro _ hm
 exact w_ [0, 1] (.cons rfl rfl (.cons rfl rfl (.cons rfl rfl (.cons (by simp only [hb22, hb23, hb24, BO]; rfl) rfl .nil)))) (.lit rfl rfl (.map rfl .nil)) (by decide) (hB_0 hB0)
 refine yG ?_
 intro k6 hm
 exact w_ [0, 1] (.cons rfl rfl (.cons rfl rfl (.cons rfl rfl (.cons (by simp only [hb22, hb23, BO]; rfl) rfl .nil)))) (.lit rfl rfl (.map rfl .nil)) (by decide) (hB_0 hB0)
 refine yG ?_
 intro _ hm
 exact w_ [0, 1] (.cons rfl rfl (.cons rfl rfl (.cons rfl rfl (.cons (by simp only [hb22, BO]; rfl) rfl .nil)))) (.lit rfl rfl (.map rfl .nil)) (by decide) (hB_0 hB0)
 refine bS hm (fun hb27 hm => ?_) fun hb27 hm => ?_
 refine yG ?_
 intro _ hm
 cases hm
 exact rZ1
 refine c_skip ?_
 refine Wp.seq ?_
 refine c_regS ?_
 refine yR ?_
 intro k7 hm
 refine o_end ?_
 refine Wp.seq ?_
 refine c_cut (St 130 [(2, vI funcs), (3, vP 0), (10, vI ((if (i.op_ == 26) = true then 0 else (List.length x6 : Int))))] [(0, oL 7 (eInst false i))] 1) ?_ ?_
 refine yG ?_
 intro _ hm
 refine c_s rfl rfl (fun hb30 => ?_) (fun hb30 => ?_)
 refine yG ?_
 intro _ hm
 exact w_ [0] (.cons rfl rfl (.cons rfl rfl (.cons (by simp only [hb30, BO]; rfl) rfl .nil))) (.lit rfl rfl .nil) (by decide) (hB_0 hB0)
 refine c_skip ?_
 exact w_ [0] (.cons rfl rfl (.cons rfl rfl (.cons (by simp only [hb30, BO]; rfl) rfl .nil))) (.lit rfl rfl .nil) (by decide) (hB_0 hB0)
 refine Wp.seq ?_
 refine Wp.seq ?_
 refine c_cut (St 130 [(2, vI funcs), (3, vP 0), (100, vB ((if decide (((if (i.op_ == 26) = true then 0 else (List.length x6 : Int))) < 1) = true then (if (i.a != 0) = true then true else (if decide (((if (i.op_ == 26) = true then 0 else (List.length x6 : Int))) < 2) = true then (if (i.b != 0) = true then true else (if decide (((if (i.op_ == 26) = true then 0 else (List.length x6 : Int))) < 3) = true then (i.c != 0) else false)) else (if decide (((if (i.op_ == 26) = true then 0 else (List.length x6 : Int))) < 3) = true then (i.c != 0) else false))) else (if decide (((if (i.op_ == 26) = true then 0 else (List.length x6 : Int))) < 2) = true then (if (i.b != 0) = true then true else (if decide (((if (i.op_ == 26) = true then 0 else (List.length x6 : Int))) < 3) = true then (i.c != 0) else false)) else (if decide (((if (i.op_ == 26) = true then 0 else (List.length x6 : Int))) < 3) = true then (i.c != 0) else false)))))] [(0, oL 7 (eInst false i))] 1) ?_ ?_
 refine yG ?_
 intro _ hm
 refine gO_s rfl rfl rfl (fun hb32 => ?_) (fun hb32 => ?_)
 refine yG ?_
 intro _ hm
 refine gO_s rfl rfl rfl (fun hb33 => ?_) (fun hb33 => ?_)
 refine yG ?_
 intro _ hm
 refine gO_s rfl rfl rfl (fun hb34 => ?_) (fun hb34 => ?_)
 refine yG ?_
 intro _ hm
 refine gO_s rfl rfl rfl (fun hb35 => ?_) (fun hb35 => ?_)
 refine yG ?_
 intro _ hm
 refine gO_s rfl rfl rfl (fun hb36 => ?_) (fun hb36 => ?_)
 refine yG ?_
 intro _ hm
 exact w_ [0] (.cons rfl rfl (.cons rfl rfl (.cons (by simp only [hb32, hb33, hb34, hb35, hb36, BO]; rfl) rfl .nil))) (.lit rfl rfl .nil) (by decide) (hB_0 hB0)
 refine yG ?_
 intro _ hm
 exact w_ [0] (.cons rfl rfl (.cons rfl rfl (.cons (by simp only [hb32, hb33, hb34, hb35, hb36, BO]; rfl) rfl .nil))) (.lit rfl rfl .nil) (by decide) (hB_0 hB0)
 refine yG ?_
 intro _ hm
 exact w_ [0] (.cons rfl rfl (.cons rfl rfl (.cons (by simp only [hb32, hb33, hb34, hb35, BO]; rfl) rfl .nil))) (.lit rfl rfl .nil) (by decide) (hB_0 hB0)
 refine yG ?_
 intro _ hm
 refine gO_s rfl rfl rfl (fun hb37 => ?_) (fun hb37 => ?_)
 refine yG ?_
 intro _ hm
 exact w_ [0] (.cons rfl rfl (.cons rfl rfl (.cons (by simp only [hb32, hb33, hb34, hb37, BO]; rfl) rfl .nil))) (.lit rfl rfl .nil) (by decide) (hB_0 hB0)
 refine yG ?_
 intro _ hm
 exact w_ [0] (.cons rfl rfl (.cons rfl rfl (.cons (by simp only [hb32, hb33, hb34, hb37, BO]; rfl) rfl .nil))) (.lit rfl rfl .nil) (by decide) (hB_0 hB0)
 refine yG ?_
 intro _ hm
 exact w_ [0] (.cons rfl rfl (.cons rfl rfl (.cons (by simp only [hb32, hb33, BO]; rfl) rfl .nil))) (.lit rfl rfl .nil) (by decide) (hB_0 hB0)
 refine yG ?_
 intro _ hm
 refine gO_s rfl rfl rfl (fun hb38 => ?_) (fun hb38 => ?_)
 refine yG ?_
 intro _ hm
 refine gO_s rfl rfl rfl (fun hb39 => ?_) (fun hb39 => ?_)
 refine yG ?_
 intro _ hm
 refine gO_s rfl rfl rfl (fun hb40 => ?_) (fun hb40 => ?_)
 refine yG ?_
 intro _ hm
 exact w_ [0] (.cons rfl rfl (.cons rfl rfl (.cons (by simp only [hb32, hb38, hb39, hb40, BO]; rfl) rfl .nil))) (.lit rfl rfl .nil) (by decide) (hB_0 hB0)
 refine yG ?_
 intro _ hm
 exact w_ [0] (.cons rfl rfl (.cons rfl rfl (.cons (by simp only [hb32, hb38, hb39, hb40, BO]; rfl) rfl .nil))) (.lit rfl rfl .nil) (by decide) (hB_0 hB0)
 refine yG ?_
 intro _ hm
 exact w_ [0] (.cons rfl rfl (.cons rfl rfl (.cons (by simp only [hb32, hb38, hb39, BO]; rfl) rfl .nil))) (.lit rfl rfl .nil) (by decide) (hB_0 hB0)
 refine yG ?_
 intro _ hm
 refine gO_s rfl rfl rfl (fun hb41 => ?_) (fun hb41 => ?_)
 refine yG ?_
 intro _ hm
 exact w_ [0] (.cons rfl rfl (.cons rfl rfl (.cons (by simp only [hb32, hb38, hb41, BO]; rfl) rfl .nil))) (.lit rfl rfl .nil) (by decide) (hB_0 hB0)
 refine yG ?_
 intro _ hm
 exact w_ [0] (.cons rfl rfl (.cons rfl rfl (.cons (by simp only [hb32, hb38, hb41, BO]; rfl) rfl .nil))) (.lit rfl rfl .nil) (by decide) (hB_0 hB0)
 refine bS hm (fun hb42 hm => ?_) fun hb42 hm => ?_
 refine yG ?_
 intro _ hm
 cases hm
 exact rZ1
 refine yG ?_
 intro _ hm
 refine bS hm (fun hb43 hm => ?_) fun hb43 hm => ?_
 refine yG ?_
 intro _ hm
 obtain ⟨x44, h45, hm⟩ := of_bind hm
 refine nO (aopK_A (cB (spec_l1Value_sim h45) ?_))
 refine yG ?_
 intro _ hm
 cases hm
 exact rZ1
 refine yG ?_
 intro _ hm
 refine bS hm (fun hb46 hm => ?_) fun hb46 hm => ?_
 refine yG ?_
 intro k8 hm
 refine nO (aopK_A (cB (spec_l1In_sim i.imm 0 (funcs - 1)) ?_))
 refine yG ?_
 intro _ hm
 cases hm
 exact rZ1
 refine yG ?_
 intro _ hm
 refine bS hm (fun hb48 hm => ?_) fun hb48 hm => ?_
 refine Wp.seq ?_
 refine c_cut (St 130 [(6, vB (((i.w == 8) && (i.imm == 0))))] [] 0) ?_ ?_
 refine yG ?_
 intro _ hm
 refine gO_s rfl rfl rfl (fun hb50 => ?_) (fun hb50 => ?_)
 refine yG ?_
 intro _ hm
 exact w_ [] (.cons (by simp only [hb50, BO]; rfl) rfl .nil) .nil (by decide) (hB_0 hB0)
 refine yG ?_
 intro _ hm
 exact w_ [] (.cons (by simp only [hb50, BO]; rfl) rfl .nil) .nil (by decide) (hB_0 hB0)
 refine c_ret ?_
 cases hm
 exact rZ1
 refine yG ?_
 intro _ hm
 cases hm
 exact rZ1
end Go.Proofs.YtghdhjgoicnbcaaGreat.AM

namespace Go.Proofs.YtghdhjgoicnbcaaGreat.AM
open Go
set_option linter.unusedSimpArgs false
set_option linter.unusedVariables false
set_option maxHeartbeats 8000000
set_option maxRecDepth 100000
attribute [local irreducible] aopK awpOps Wp St WpO
/-- spec.l2Term -/
noncomputable def spec_l2Term_m (t : GTerm) (count : Int) (blocks : Int) : Option Bool :=
 (if (t.kind == 1) = true then
 (Option.bind ((if inI (count - 1) then
 (if (spec_l1In_m t.a 0 (count - 1)) = true then
 (if (t.x == 0) = true then
 (some ((t.y == 0)))
 else
 (some false))
 else
 (some false))
 else none)) fun (j2 : Bool) =>
 (some j2))
 else
 (if (t.kind == 2) = true then
 (Option.bind ((if (t.a == 0) = true then
 (if inI (blocks - 1) then
 (if (spec_l1In_m t.x 0 (blocks - 1)) = true then
 (some ((t.y == 0)))
 else
 (some false))
 else none)
 else
 (some false))) fun (j8 : Bool) =>
 (some j8))
 else
 (if (t.kind == 3) = true then
 (Option.bind ((if inI (count - 1) then
 (if (spec_l1In_m t.a 0 (count - 1)) = true then
 (if inI (blocks - 1) then
 (if (spec_l1In_m t.x 0 (blocks - 1)) = true then
 (if inI (blocks - 1) then
 (if (spec_l1In_m t.y 0 (blocks - 1)) = true then
 (some ((t.x != t.y)))
 else
 (some false))
 else none)
 else
 (some false))
 else none)
 else
 (some false))
 else none)) fun (j14 : Bool) =>
 (some j14))
 else
 (some (((t.kind == 4) && ((t.a == 0) && ((t.x == 0) && (t.y == 0)))))))))
theorem spec_l2Term_sim {t : GTerm} {count : Int} {blocks : Int} {r : Bool} (hm : spec_l2Term_m t count blocks = some r) : Sim Tryz.prog 133 [.agg (eTerm t), .one (.int .i64 count), .one (.int .i64 blocks)] [] (.u (.one (.bool r))) [] := by
 refine fN 89 0 Tryz.func133 [.tmp 6] fun B hB0 => ?_
 unfold spec_l2Term_m at hm
 refine yG ?_
 intro _ hm
 refine bS hm (fun hb1 hm => ?_) fun hb1 hm => ?_
 refine Wp.seq ?_
 obtain ⟨j2, hj6, hm⟩ := of_bind hm
 refine c_cut (St 89 [(6, vB j2)] [] 0) ?_ ?_
 replace hm := hj6
 refine yG ?_
 intro k1 hm
 refine nO (aopK_A (cB (spec_l1In_sim t.a 0 (count - 1)) ?_))
 refine yG ?_
 intro _ hm
 refine bG1 hm (fun hb4 hm => ?_) fun hb4 hm => ?_
 refine yG ?_
 intro _ hm
 refine bG1 hm (fun hb5 hm => ?_) fun hb5 hm => ?_
 refine yG ?_
 intro _ hm
 cases hm
 exact vW []
 refine yG ?_
 intro _ hm
 cases hm
 exact vW []
 refine yG ?_
 intro _ hm
 cases hm
 exact vW []
 refine c_ret ?_
 cases hm
 exact rZ1
 refine yG ?_
 intro _ hm
 refine bS hm (fun hb7 hm => ?_) fun hb7 hm => ?_
 refine Wp.seq ?_
 obtain ⟨j8, hj12, hm⟩ := of_bind hm
 refine c_cut (St 89 [(6, vB j8)] [] 0) ?_ ?_
 replace hm := hj12
 refine yG ?_
 intro _ hm
 refine bG1 hm (fun hb9 hm => ?_) fun hb9 hm => ?_
 refine yG ?_
 intro k2 hm
 refine gO_t rfl rfl rfl (aopK_A (cB (spec_l1In_sim t.x 0 (blocks - 1)) ?_))
 refine yG ?_
 intro _ hm
 refine bG1 hm (fun hb11 hm => ?_) fun hb11 hm => ?_
 refine yG ?_
 intro _ hm
 cases hm
 exact vW []
 refine yG ?_
 intro _ hm
 cases hm
 exact vW []
 refine yG ?_
 intro _ hm
 cases hm
 exact vW []
 refine c_ret ?_
 cases hm
 exact rZ1
 refine yG ?_
 intro _ hm
 refine bS hm (fun hb13 hm => ?_) fun hb13 hm => ?_
 refine Wp.seq ?_
 obtain ⟨j14, hj21, hm⟩ := of_bind hm
 refine c_cut (St 89 [(6, vB j14)] [] 0) ?_ ?_
 replace hm := hj21
 refine yG ?_
 intro k3 hm
 refine nO (aopK_A (cB (spec_l1In_sim t.a 0 (count - 1)) ?_))
 refine yG ?_
 intro _ hm
 refine bG1 hm (fun hb16 hm => ?_) fun hb16 hm => ?_
 refine yG ?_
 intro k4 hm
 refine gO_t rfl rfl rfl (aopK_A (cB (spec_l1In_sim t.x 0 (blocks - 1)) ?_))
 refine yG ?_
 intro _ hm
 refine bG1 hm (fun hb18 hm => ?_) fun hb18 hm => ?_
 refine yG ?_
 intro k5 hm
 refine gO_t rfl rfl rfl (aopK_A (cB (spec_l1In_sim t.y 0 (blocks - 1)) ?_))
 refine yG ?_
 intro _ hm
 refine bG1 hm (fun hb20 hm => ?_) fun hb20 hm => ?_
 refine yG ?_
 intro _ hm
 cases hm
 exact vW []
 refine yG ?_
 intro _ hm
 cases hm
 exact vW []
 refine yG ?_
 intro _ hm
 cases hm
 exact vW []
 refine yG ?_
 intro _ hm
 cases hm
 exact vW []
 refine c_ret ?_
 cases hm
 exact rZ1
 refine c_skip ?_
 refine Wp.seq ?_
 refine c_cut (St 89 [(6, vB (((t.kind == 4) && ((t.a == 0) && ((t.x == 0) && (t.y == 0))))))] [] 0) ?_ ?_
 refine yG ?_
 intro _ hm
 refine gO_s rfl rfl rfl (fun hb23 => ?_) (fun hb23 => ?_)
 refine yG ?_
 intro _ hm
 refine gO_s rfl rfl rfl (fun hb24 => ?_) (fun hb24 => ?_)
 refine yG ?_
 intro _ hm
 refine gO_s rfl rfl rfl (fun hb25 => ?_) (fun hb25 => ?_)
 refine yG ?_
 intro _ hm
 exact w_ [] (.cons (by simp only [hb23, hb24, hb25, BO]; rfl) rfl .nil) .nil (by decide) (hB_0 hB0)
 refine yG ?_
 intro _ hm
 exact w_ [] (.cons (by simp only [hb23, hb24, hb25, BO]; rfl) rfl .nil) .nil (by decide) (hB_0 hB0)
 refine yG ?_
 intro _ hm
 exact w_ [] (.cons (by simp only [hb23, hb24, BO]; rfl) rfl .nil) .nil (by decide) (hB_0 hB0)
 refine yG ?_
 intro _ hm
 exact w_ [] (.cons (by simp only [hb23, BO]; rfl) rfl .nil) .nil (by decide) (hB_0 hB0)
 refine c_ret ?_
 cases hm
 exact rZ1
/-- spec.l2Func -/
noncomputable def spec_l2Func_m (f : GFunc) (funcs : Int) : Option Bool :=
 (Option.bind (spec_CountOf_m f) fun x1 =>
 (if (if decide (((List.length f.params : Int)) > 4) = true then true else (if (!((spec_WidthOk_m f.ret))) = true then true else (if (!((spec_l1In_m ((List.length f.blocks : Int)) 1 10))) = true then true else decide (x1 > 60)))) = true then
 (some false)
 else
 (Option.bind (loopO (fun (st10 : Int) =>
 ((if decide (st10 < ((List.length f.params : Int))) = true then
 (if 0 ≤ st10 ∧ st10 < (List.length f.params : Int) then
 (if (!((spec_WidthOk_m (at_ f.params st10)))) = true then
 (some (Sum.inr ((Sum.inl (())))))
 else
 (if inI (st10 + 1) then
 (some (Sum.inl (st10 + 1)))
 else none))
 else none)
 else
 (some (Sum.inr ((Sum.inr (())))))) : Option ((Int) ⊕ (Unit ⊕ Unit)))) 0) fun (y18 : Unit ⊕ Unit) => match y18 with
 | (Sum.inl j11) =>
 (some false)
 | (Sum.inr j12) =>
 (Option.bind (loopO (fun (st20 : Int) =>
 ((if decide (st20 < ((List.length f.blocks : Int))) = true then
 (if 0 ≤ st20 ∧ st20 < (List.length f.blocks : Int) then
 (Option.bind (loopO (fun (st26 : Int) =>
 ((if decide (st26 < ((List.length ((at_ f.blocks st20).phis) : Int))) = true then
 (Option.bind ((if 0 ≤ st26 ∧ st26 < (List.length ((at_ f.blocks st20).phis) : Int) then
 (if (!((spec_WidthOk_m ((at_ ((at_ f.blocks st20).phis) st26).w)))) = true then
 (some true)
 else
 (if 0 ≤ st26 ∧ st26 < (List.length ((at_ f.blocks st20).phis) : Int) then
 (some (decide (((List.length ((at_ ((at_ f.blocks st20).phis) st26).ins) : Int)) > 10)))
 else none))
 else none)) fun (j31 : Bool) =>
 (if j31 = true then
 (some (Sum.inr ((Sum.inl (())))))
 else
 (Option.bind (loopO (fun (st38 : Int) =>
 ((if 0 ≤ st26 ∧ st26 < (List.length ((at_ f.blocks st20).phis) : Int) then
 (if decide (st38 < ((List.length ((at_ ((at_ f.blocks st20).phis) st26).ins) : Int))) = true then
 (if 0 ≤ st26 ∧ st26 < (List.length ((at_ f.blocks st20).phis) : Int) then
 (if 0 ≤ st38 ∧ st38 < (List.length ((at_ ((at_ f.blocks st20).phis) st26).ins) : Int) then
 (if inI (x1 - 1) then
 (if (!((spec_l1In_m (at_ ((at_ ((at_ f.blocks st20).phis) st26).ins) st38) 0 (x1 - 1)))) = true then
 (some (Sum.inr ((Sum.inl (())))))
 else
 (if inI (st38 + 1) then
 (some (Sum.inl (st38 + 1)))
 else none))
 else none)
 else none)
 else none)
 else
 (some (Sum.inr ((Sum.inr (()))))))
 else none) : Option ((Int) ⊕ (Unit ⊕ Unit)))) 0) fun (y49 : Unit ⊕ Unit) => match y49 with
 | (Sum.inl j39) =>
 (some (Sum.inr ((Sum.inl (())))))
 | (Sum.inr j40) =>
 (if inI (st26 + 1) then
 (some (Sum.inl (st26 + 1)))
 else none))))
 else
 (some (Sum.inr ((Sum.inr (())))))) : Option ((Int) ⊕ (Unit ⊕ Unit)))) 0) fun (y52 : Unit ⊕ Unit) => match y52 with
 | (Sum.inl j27) =>
 (some (Sum.inr ((Sum.inl (())))))
 | (Sum.inr j28) =>
 (Option.bind (loopO (fun (st54 : Int) =>
 ((if decide (st54 < ((List.length ((at_ f.blocks st20).insts) : Int))) = true then
 (if 0 ≤ st54 ∧ st54 < (List.length ((at_ f.blocks st20).insts) : Int) then
 (Option.bind (spec_l2Inst_m (at_ ((at_ f.blocks st20).insts) st54) x1 funcs) fun x60 =>
 (if (!x60) = true then
 (some (Sum.inr ((Sum.inl (())))))
 else
 (if inI (st54 + 1) then
 (some (Sum.inl (st54 + 1)))
 else none)))
 else none)
 else
 (some (Sum.inr ((Sum.inr (())))))) : Option ((Int) ⊕ (Unit ⊕ Unit)))) 0) fun (y64 : Unit ⊕ Unit) => match y64 with
 | (Sum.inl j55) =>
 (some (Sum.inr ((Sum.inl (())))))
 | (Sum.inr j56) =>
 (Option.bind (spec_l2Term_m (((at_ f.blocks st20).term)) x1 ((List.length f.blocks : Int))) fun x66 =>
 (if (!x66) = true then
 (some (Sum.inr ((Sum.inl (())))))
 else
 (if inI (st20 + 1) then
 (some (Sum.inl (st20 + 1)))
 else none)))))
 else none)
 else
 (some (Sum.inr ((Sum.inr (())))))) : Option ((Int) ⊕ (Unit ⊕ Unit)))) 0) fun (y70 : Unit ⊕ Unit) => match y70 with
 | (Sum.inl j21) =>
 (some false)
 | (Sum.inr j22) =>
 (some true)))))
theorem spec_l2Func_sim {f : GFunc} {funcs : Int} {r : Bool} (hm : spec_l2Func_m f funcs = some r) : Sim Tryz.prog 74 [.agg (eFunc false f), .one (.int .i64 funcs)] [] (.u (.one (.bool r))) [] := by
 refine fN 134 0 Tryz.func74 [.tmp 4] fun B hB0 => ?_
 unfold spec_l2Func_m at hm
 refine yG ?_
 intro _ hm
 refine nO (kW ?_)
 obtain ⟨x1, h2, hm⟩ := of_bind hm
 refine nO (aopK_A (cB (spec_CountOf_sim h2) ?_))
 refine nO (x_as rfl rfl ?_)
 refine o_end ?_
 refine Wp.seq ?_
 refine c_regS ?_
 refine yR ?_
 intro k1 hm
 refine o_end ?_
 refine Wp.seq ?_
 refine Wp.seq ?_
 refine c_cut (St 134 [(1, vI funcs), (2, vP 0), (5, vI x1), (6, vI ((List.length f.blocks : Int))), (36, vB ((if decide (((List.length f.params : Int)) > 4) = true then true else (if (!((spec_WidthOk_m f.ret))) = true then true else (if (!((spec_l1In_m ((List.length f.blocks : Int)) 1 10))) = true then true else decide (x1 > 60))))))] [(0, oL 3 (eFunc false f))] 1) ?_ ?_
 refine yG ?_
 intro k2 hm
 refine gO_s rfl rfl rfl (fun hb6 => ?_) (fun hb6 => ?_)
 refine yG ?_
 intro _ hm
 refine gO_t rfl rfl rfl (aopK_A (cB (spec_WidthOk_sim f.ret) ?_))
 refine yG ?_
 intro _ hm
 refine gO_s rfl rfl rfl (fun hb7 => ?_) (fun hb7 => ?_)
 refine yG ?_
 intro _ hm
 refine gO_t rfl rfl rfl (aopK_A (cB (spec_l1In_sim ((List.length f.blocks : Int)) 1 10) ?_))
 refine yG ?_
 intro _ hm
 refine gO_s rfl rfl rfl (fun hb8 => ?_) (fun hb8 => ?_)
 refine yG ?_
 intro _ hm
 exact w_ [0] (.cons rfl rfl (.cons rfl rfl (.cons rfl rfl (.cons rfl rfl (.cons (by simp only [hb6, hb7, hb8, BO]; rfl) rfl .nil))))) (.lit rfl rfl .nil) (by decide) (hB_0 hB0)
 refine yG ?_
 intro _ hm
 exact w_ [0] (.cons rfl rfl (.cons rfl rfl (.cons rfl rfl (.cons rfl rfl (.cons (by simp only [hb6, hb7, hb8, BO]; rfl) rfl .nil))))) (.lit rfl rfl .nil) (by decide) (hB_0 hB0)
 refine yG ?_
 intro _ hm
 exact w_ [0] (.cons rfl rfl (.cons rfl rfl (.cons rfl rfl (.cons rfl rfl (.cons (by simp only [hb6, hb7, BO]; rfl) rfl .nil))))) (.lit rfl rfl .nil) (by decide) (hB_0 hB0)
 refine yG ?_
 intro _ hm
 exact w_ [0] (.cons rfl rfl (.cons rfl rfl (.cons rfl rfl (.cons rfl rfl (.cons (by simp only [hb6, BO]; rfl) rfl .nil))))) (.lit rfl rfl .nil) (by decide) (hB_0 hB0)
 refine bS hm (fun hb9 hm => ?_) fun hb9 hm => ?_
 refine yG ?_
 intro _ hm
 cases hm
 exact rZ1
 refine yG ?_
 intro _ hm
 obtain ⟨y18, hl19, hm⟩ := of_bind hm
 refine c_loop hl19 (fun (st10 : Int) => St 134 [(1, vI funcs), (2, vP 0), (5, vI x1), (6, vI ((List.length f.blocks : Int))), (7, vI st10)] [(0, oL 3 (eFunc false f))] 1) (fun (y : Unit ⊕ Unit) => match y with | (Sum.inl j11) => (.ret, St 134 [(4, vB false)] [] 0) | (Sum.inr j12) => (.exit 0, St 134 [(1, vI funcs), (2, vP 0), (5, vI x1), (6, vI ((List.length f.blocks : Int)))] [(0, oL 3 (eFunc false f))] 1)) (vW [0]) ?_ (by rintro (_ | _) <;> simp) ?_
 intro st10 x hm
 refine yG ?_
 intro k3 hm
 refine bS hm (fun hb14 hm => ?_) fun hb14 hm => ?_
 refine yG ?_
 intro k4 hm
 refine nO (aopK_A (cB (spec_WidthOk_sim (at_ f.params st10)) ?_))
 refine yG ?_
 intro _ hm
 refine bS hm (fun hb16 hm => ?_) fun hb16 hm => ?_
 refine yG ?_
 intro _ hm
 cases hm
 exact ⟨rfl, vW []⟩
 refine yG ?_
 intro k5 hm
 cases hm
 exact ⟨rfl, vW [0]⟩
 refine c_exit ?_
 cases hm
 exact ⟨rfl, vW [0]⟩
 rcases y18 with j11 | j12 <;> simp only at hm
 cases hm
 exact rZ1
 refine yG ?_
 intro _ hm
 obtain ⟨y70, hl71, hm⟩ := of_bind hm
 refine c_loop hl71 (fun (st20 : Int) => St 134 [(1, vI funcs), (2, vP 0), (5, vI x1), (6, vI ((List.length f.blocks : Int))), (8, vI st20)] [(0, oL 3 (eFunc false f))] 1) (fun (y : Unit ⊕ Unit) => match y with | (Sum.inl j21) => (.ret, St 134 [(4, vB false)] [] 0) | (Sum.inr j22) => (.exit 2, St 134 [] [] 0)) (vW [0]) ?_ (by rintro (_ | _) <;> simp) ?_
 intro st20 x hm
 refine yG ?_
 intro k6 hm
 refine bS hm (fun hb24 hm => ?_) fun hb24 hm => ?_
 refine yG ?_
 intro k7 hm
 refine nO (x_ldi T53 rfl (pk_all rfl rfl) rfl ?_)
 refine yG ?_
 intro _ hm
 obtain ⟨y52, hl53, hm⟩ := of_bind hm
 refine c_loop hl53 (fun (st26 : Int) => St 134 [(1, vI funcs), (2, vP 0), (5, vI x1), (6, vI ((List.length f.blocks : Int))), (8, vI st20), (9, vP 1), (10, vI st26)] [(0, oL 3 (eFunc false f)), (1, oL 6 (eBlock false (at_ f.blocks st20)))] 2) (fun (y : Unit ⊕ Unit) => match y with | (Sum.inl j27) => (.ret, St 134 [(4, vB false)] [] 0) | (Sum.inr j28) => (.exit 4, St 134 [(1, vI funcs), (2, vP 0), (5, vI x1), (6, vI ((List.length f.blocks : Int))), (8, vI st20), (9, vP 1)] [(0, oL 3 (eFunc false f)), (1, oL 6 (eBlock false (at_ f.blocks st20)))] 2)) (vW [0, 1]) ?_ (by rintro (_ | _) <;> simp) ?_
 intro st26 x hm
 refine yG ?_
 intro k8 hm
 refine bS hm (fun hb30 hm => ?_) fun hb30 hm => ?_
 refine c_skip ?_
 refine Wp.seq ?_
 refine Wp.block ?_
 refine Wp.seq ?_
 refine Wp.seq ?_
 obtain ⟨j31, hj36, hm⟩ := of_bind hm
 refine c_cut (St 134 [(1, vI funcs), (2, vP 0), (5, vI x1), (6, vI ((List.length f.blocks : Int))), (8, vI st20), (9, vP 1), (10, vI st26), (87, vB j31)] [(0, oL 3 (eFunc false f)), (1, oL 6 (eBlock false (at_ f.blocks st20)))] 2) ?_ ?_
 replace hm := hj36
 refine yG ?_
 intro k9 hm
 refine nO (aopK_A (cB (spec_WidthOk_sim ((at_ ((at_ f.blocks st20).phis) st26).w)) ?_))
 refine yG ?_
 intro _ hm
 refine bG0 hm (fun hb33 hm => ?_) fun hb33 hm => ?_
 refine yG ?_
 intro k10 hm
 cases hm
 exact vW [0, 1]
 refine yG ?_
 intro _ hm
 cases hm
 exact vW [0, 1]
 refine bS hm (fun hb37 hm => ?_) fun hb37 hm => ?_
 refine yG ?_
 intro _ hm
 cases hm
 exact ⟨rfl, vW []⟩
 refine yG ?_
 intro _ hm
 obtain ⟨y49, hl50, hm⟩ := of_bind hm
 refine c_loop hl50 (fun (st38 : Int) => St 134 [(1, vI funcs), (2, vP 0), (5, vI x1), (6, vI ((List.length f.blocks : Int))), (8, vI st20), (9, vP 1), (10, vI st26), (11, vI st38)] [(0, oL 3 (eFunc false f)), (1, oL 6 (eBlock false (at_ f.blocks st20)))] 2) (fun (y : Unit ⊕ Unit) => match y with | (Sum.inl j39) => (.ret, St 134 [(4, vB false)] [] 0) | (Sum.inr j40) => (.exit 6, St 134 [(1, vI funcs), (2, vP 0), (5, vI x1), (6, vI ((List.length f.blocks : Int))), (8, vI st20), (9, vP 1), (10, vI st26)] [(0, oL 3 (eFunc false f)), (1, oL 6 (eBlock false (at_ f.blocks st20)))] 2)) (vW [0, 1]) ?_ (by rintro (_ | _) <;> simp) ?_
 intro st38 x hm
 refine yG ?_
 intro k11 hm
 refine bS hm (fun hb43 hm => ?_) fun hb43 hm => ?_
 refine yG ?_
 intro k12 hm
 refine nO (aopK_A (cB (spec_l1In_sim (at_ ((at_ ((at_ f.blocks st20).phis) st26).ins) st38) 0 (x1 - 1)) ?_))
 refine yG ?_
 intro _ hm
 refine bS hm (fun hb47 hm => ?_) fun hb47 hm => ?_
 refine yG ?_
 intro _ hm
 cases hm
 exact ⟨rfl, vW []⟩
 refine yG ?_
 intro k13 hm
 cases hm
 exact ⟨rfl, vW [0, 1]⟩
 refine c_exit ?_
 cases hm
 exact ⟨rfl, vW [0, 1]⟩
 rcases y49 with j39 | j40 <;> simp only at hm
 cases hm
 exact ⟨rfl, vW []⟩
 refine yG ?_
 intro k14 hm
 cases hm
 exact ⟨rfl, vW [0, 1]⟩
 refine c_exit ?_
 cases hm
 exact ⟨rfl, vW [0, 1]⟩
 rcases y52 with j27 | j28 <;> simp only at hm
 cases hm
 exact ⟨rfl, vW []⟩
 refine yG ?_
 intro _ hm
 obtain ⟨y64, hl65, hm⟩ := of_bind hm
 refine c_loop hl65 (fun (st54 : Int) => St 134 [(1, vI funcs), (2, vP 0), (5, vI x1), (6, vI ((List.length f.blocks : Int))), (8, vI st20), (9, vP 1), (12, vI st54)] [(0, oL 3 (eFunc false f)), (1, oL 6 (eBlock false (at_ f.blocks st20)))] 2) (fun (y : Unit ⊕ Unit) => match y with | (Sum.inl j55) => (.ret, St 134 [(4, vB false)] [] 0) | (Sum.inr j56) => (.exit 8, St 134 [(1, vI funcs), (2, vP 0), (5, vI x1), (6, vI ((List.length f.blocks : Int))), (8, vI st20), (9, vP 1)] [(0, oL 3 (eFunc false f)), (1, oL 6 (eBlock false (at_ f.blocks st20)))] 2)) (vW [0, 1]) ?_ (by rintro (_ | _) <;> simp) ?_
 intro st54 x hm
 refine yG ?_
 intro k15 hm
 refine bS hm (fun hb58 hm => ?_) fun hb58 hm => ?_
 refine yG ?_
 intro k16 hm
 refine nO (x_ldi T29 rfl (pk_all rfl rfl) rfl ?_)
 refine yG ?_
 intro _ hm
 obtain ⟨x60, h61, hm⟩ := of_bind hm
 refine nO (aopK_A (cB (spec_l2Inst_sim h61) ?_))
 refine yG ?_
 intro _ hm
 refine bS hm (fun hb62 hm => ?_) fun hb62 hm => ?_
 refine yG ?_
 intro _ hm
 cases hm
 exact ⟨rfl, vW []⟩
 refine yG ?_
 intro k17 hm
 cases hm
 exact ⟨rfl, vW [0, 1]⟩
 refine c_exit ?_
 cases hm
 exact ⟨rfl, vW [0, 1]⟩
 rcases y64 with j55 | j56 <;> simp only at hm
 cases hm
 exact ⟨rfl, vW []⟩
 refine yG ?_
 intro _ hm
 refine nO (kL (.agg (eTerm (((at_ f.blocks st20).term)))) ?_)
 refine yG ?_
 intro _ hm
 obtain ⟨x66, h67, hm⟩ := of_bind hm
 refine nO (aopK_A (cB (spec_l2Term_sim h67) ?_))
 refine yG ?_
 intro _ hm
 refine bS hm (fun hb68 hm => ?_) fun hb68 hm => ?_
 refine yG ?_
 intro _ hm
 cases hm
 exact ⟨rfl, vW []⟩
 refine yG ?_
 intro k18 hm
 cases hm
 exact ⟨rfl, vW [0]⟩
 refine c_exit ?_
 cases hm
 exact ⟨rfl, vW []⟩
 rcases y70 with j21 | j22 <;> simp only at hm
 cases hm
 exact rZ1
 refine yG ?_
 intro _ hm
 cases hm
 exact rZ1
/-- spec.l1Divides -/
noncomputable def spec_l1Divides_m (op_ : Int) : Bool :=
 ((spec_l1In_m op_ 4 7))
theorem spec_l1Divides_sim (op_ : Int) : Sim Tryz.prog 205 [.one (.int .i64 op_)] [] (.u (.one (.bool ((spec_l1Divides_m op_))))) [] := by
 generalize hm : spec_l1Divides_m op_ = r
 refine fN 5 0 Tryz.func205 [.tmp 2] fun B hB0 => ?_
 unfold spec_l1Divides_m at hm
 refine yG ?_
 intro _ hm
 refine nO (aopK_A (cB (spec_l1In_sim op_ 4 7) ?_))
 refine yG ?_
 intro _ hm
 cases hm
 exact rZ1
/-- spec.l1Sign -/
noncomputable def spec_l1Sign_m (w : Int) (v : Int) : Option Int :=
 (Option.bind (spec_l1Top_m w) fun x1 =>
 (if decide (v ≥ (IntKind.i64.wrap (Int.tdiv x1 2))) = true then
 (Option.bind (spec_l1Top_m w) fun x4 =>
 (some (IntKind.i64.wrap (v - x4))))
 else
 (some v)))
theorem spec_l1Sign_sim {w : Int} {v : Int} {r : Int} (hm : spec_l1Sign_m w v = some r) : Sim Tryz.prog 209 [.one (.int .i64 w), .one (.int .i64 v)] [] (.u (.one (.int .i64 r))) [] := by
 refine fN 15 0 Tryz.func209 [.tmp 4] fun B hB0 => ?_
 have fW := trivial
 unfold spec_l1Sign_m at hm
 refine yG ?_
 intro _ hm
 obtain ⟨x1, h2, hm⟩ := of_bind hm
 refine nO (aopK_A (cB (spec_l1Top_sim h2) ?_))
 refine yG ?_
 intro _ hm
 refine bS hm (fun hb3 hm => ?_) fun hb3 hm => ?_
 refine yG ?_
 intro _ hm
 obtain ⟨x4, h5, hm⟩ := of_bind hm
 refine nO (aopK_A (cB (spec_l1Top_sim h5) ?_))
 refine nO (x_binw T2 rfl rfl rfl ?_)
 refine yG ?_
 intro _ hm
 cases hm
 exact rZ1
 refine yG ?_
 intro _ hm
 cases hm
 exact rZ1
/-- spec.l1Bit -/
noncomputable def spec_l1Bit_m (b : Bool) : Int :=
 (if b = true then
 1
 else
 0)
theorem spec_l1Bit_sim (b : Bool) : Sim Tryz.prog 246 [.one (.bool b)] [] (.u (.one (.int .i64 ((spec_l1Bit_m b))))) [] := by
 generalize hm : spec_l1Bit_m b = r
 refine fN 4 0 Tryz.func246 [.tmp 2] fun B hB0 => ?_
 unfold spec_l1Bit_m at hm
 refine yG ?_
 intro _ hm
 refine bS hm (fun hb1 hm => ?_) fun hb1 hm => ?_
 refine yG ?_
 intro _ hm
 cases hm
 exact rZ1
 refine yG ?_
 intro _ hm
 cases hm
 exact rZ1
/-- spec.l1Shift -/
noncomputable def spec_l1Shift_m (op_ : Int) (w : Int) (a : Int) (b : Int) : Option Int :=
 (if ((op_ == 13) && decide (b ≥ w)) = true then
 (Option.bind (spec_l1Sign_m w a) fun x4 =>
 (if inI (w - 1) then
 (if 0 ≤ (IntKind.u64.wrap (w - 1)) then
 (some (x4 / 2 ^ min (Int.toNat (IntKind.u64.wrap (w - 1))) (IntKind.bits .i64)))
 else none)
 else none))
 else
 (if decide (b ≥ w) = true then
 (some 0)
 else
 (if (op_ == 11) = true then
 (if 0 ≤ (IntKind.u64.wrap b) then
 (some (IntKind.i64.wrap (a * 2 ^ min (Int.toNat (IntKind.u64.wrap b)) (IntKind.bits .i64))))
 else none)
 else
 (if (op_ == 12) = true then
 (if 0 ≤ (IntKind.u64.wrap b) then
 (some (a / 2 ^ min (Int.toNat (IntKind.u64.wrap b)) (IntKind.bits .i64)))
 else none)
 else
 (Option.bind (spec_l1Sign_m w a) fun x13 =>
 (if 0 ≤ (IntKind.u64.wrap b) then
 (some (x13 / 2 ^ min (Int.toNat (IntKind.u64.wrap b)) (IntKind.bits .i64)))
 else none))))))
theorem spec_l1Shift_sim {op_ : Int} {w : Int} {a : Int} {b : Int} {r : Int} (hm : spec_l1Shift_m op_ w a b = some r) : Sim Tryz.prog 247 [.one (.int .i64 op_), .one (.int .i64 w), .one (.int .i64 a), .one (.int .i64 b)] [] (.u (.one (.int .i64 r))) [] := by
 refine fN 48 0 Tryz.func247 [.tmp 8] fun B hB0 => ?_
 unfold spec_l1Shift_m at hm
 refine Wp.seq ?_
 refine c_regS ?_
 refine nO (x_as rfl rfl ?_)
 refine o_end ?_
 refine Wp.seq ?_
 refine Wp.block ?_
 refine Wp.seq ?_
 refine c_cut (St 48 [(0, vI op_), (1, vI w), (2, vI a), (3, vI b), (9, vB (((op_ == 13) && decide (b ≥ w))))] [] 0) ?_ ?_
 refine yG ?_
 intro _ hm
 refine gO_s rfl rfl rfl (fun hb2 => ?_) (fun hb2 => ?_)
 refine yG ?_
 intro _ hm
 exact w_ [] (.cons rfl rfl (.cons rfl rfl (.cons rfl rfl (.cons rfl rfl (.cons (by simp only [hb2, BO]; rfl) rfl .nil))))) .nil (by decide) (hB_0 hB0)
 refine yG ?_
 intro _ hm
 exact w_ [] (.cons rfl rfl (.cons rfl rfl (.cons rfl rfl (.cons rfl rfl (.cons (by simp only [hb2, BO]; rfl) rfl .nil))))) .nil (by decide) (hB_0 hB0)
 refine bS hm (fun hb3 hm => ?_) fun hb3 hm => ?_
 refine yG ?_
 intro _ hm
 obtain ⟨x4, h5, hm⟩ := of_bind hm
 refine nO (aopK_A (cB (spec_l1Sign_sim h5) ?_))
 refine yG ?_
 intro k1 hm
 cases hm
 exact rZ1
 refine yG ?_
 intro _ hm
 refine bS hm (fun hb8 hm => ?_) fun hb8 hm => ?_
 refine yG ?_
 intro _ hm
 cases hm
 exact rZ1
 refine yG ?_
 intro _ hm
 refine bS hm (fun hb9 hm => ?_) fun hb9 hm => ?_
 refine yG ?_
 intro k2 hm
 cases hm
 exact rZ1
 refine yG ?_
 intro _ hm
 refine bS hm (fun hb11 hm => ?_) fun hb11 hm => ?_
 refine yG ?_
 intro k3 hm
 cases hm
 exact rZ1
 refine yG ?_
 intro _ hm
 obtain ⟨x13, h14, hm⟩ := of_bind hm
 refine nO (aopK_A (cB (spec_l1Sign_sim h14) ?_))
 refine yG ?_
 intro k4 hm
 cases hm
 exact rZ1
/-- spec.l1Two -/
noncomputable def spec_l1Two_m (op_ : Int) (w : Int) (a : Int) (b : Int) : Option Int :=
 (if (op_ == 1) = true then
 (some (IntKind.i64.wrap (a + b)))
 else
 (if (op_ == 2) = true then
 (some (IntKind.i64.wrap (a - b)))
 else
 (if (op_ == 3) = true then
 (Option.bind (spec_l1Sign_m w a) fun x4 =>
 (Option.bind (spec_l1Sign_m w b) fun x6 =>
 (some (IntKind.i64.wrap (x4 * x6)))))
 else
 (if (op_ == 4) = true then
 (if b ≠ 0 then
 (some (IntKind.i64.wrap (Int.tdiv a b)))
 else none)
 else
 (if (op_ == 5) = true then
 (Option.bind (spec_l1Sign_m w a) fun x11 =>
 (Option.bind (spec_l1Sign_m w b) fun x13 =>
 (if x13 ≠ 0 then
 (some (IntKind.i64.wrap (Int.tdiv x11 x13)))
 else none)))
 else
 (if (op_ == 6) = true then
 (if b ≠ 0 then
 (some (Int.tmod a b))
 else none)
 else
 (if (op_ == 7) = true then
 (Option.bind (spec_l1Sign_m w a) fun x19 =>
 (Option.bind (spec_l1Sign_m w b) fun x21 =>
 (if x21 ≠ 0 then
 (some (Int.tmod x19 x21))
 else none)))
 else
 (if (op_ == 8) = true then
 (some (bits .and .i64 a b))
 else
 (if (op_ == 9) = true then
 (some (bits .or .i64 a b))
 else
 (if (op_ == 10) = true then
 (some (bits .xor .i64 a b))
 else
 (if (op_ == 14) = true then
 (some ((spec_l1Bit_m ((a == b)))))
 else
 (if (op_ == 15) = true then
 (some ((spec_l1Bit_m ((a != b)))))
 else
 (if (op_ == 16) = true then
 (some ((spec_l1Bit_m (decide (a < b)))))
 else
 (if (op_ == 17) = true then
 (Option.bind (spec_l1Sign_m w a) fun x31 =>
 (Option.bind (spec_l1Sign_m w b) fun x33 =>
 (some ((spec_l1Bit_m (decide (x31 < x33)))))))
 else
 (Option.bind (spec_l1Shift_m op_ w a b) fun x35 =>
 (some x35))))))))))))))))
theorem spec_l1Two_sim {op_ : Int} {w : Int} {a : Int} {b : Int} {r : Int} (hm : spec_l1Two_m op_ w a b = some r) : Sim Tryz.prog 207 [.one (.int .i64 op_), .one (.int .i64 w), .one (.int .i64 a), .one (.int .i64 b)] [] (.u (.one (.int .i64 r))) [] := by
 refine fN 105 0 Tryz.func207 [.tmp 8] fun B hB0 => ?_
 have fW := trivial
 unfold spec_l1Two_m at hm
 refine yG ?_
 intro _ hm
 refine bS hm (fun hb1 hm => ?_) fun hb1 hm => ?_
 refine yG ?_
 intro _ hm
 refine nO (x_binw T2 rfl rfl rfl ?_)
 refine yG ?_
 intro _ hm
 cases hm
 exact rZ1
 refine yG ?_
 intro _ hm
 refine bS hm (fun hb2 hm => ?_) fun hb2 hm => ?_
 refine yG ?_
 intro _ hm
 refine nO (x_binw T2 rfl rfl rfl ?_)
 refine yG ?_
 intro _ hm
 cases hm
 exact rZ1
 refine yG ?_
 intro _ hm
 refine bS hm (fun hb3 hm => ?_) fun hb3 hm => ?_
 refine yG ?_
 intro _ hm
 obtain ⟨x4, h5, hm⟩ := of_bind hm
 refine nO (aopK_A (cB (spec_l1Sign_sim h5) ?_))
 refine yG ?_
 intro _ hm
 obtain ⟨x6, h7, hm⟩ := of_bind hm
 refine nO (aopK_A (cB (spec_l1Sign_sim h7) ?_))
 refine yG ?_
 intro _ hm
 cases hm
 exact rZ1
 refine yG ?_
 intro _ hm
 refine bS hm (fun hb8 hm => ?_) fun hb8 hm => ?_
 refine yG ?_
 intro k1 hm
 cases hm
 exact rZ1
 refine yG ?_
 intro _ hm
 refine bS hm (fun hb10 hm => ?_) fun hb10 hm => ?_
 refine yG ?_
 intro _ hm
 obtain ⟨x11, h12, hm⟩ := of_bind hm
 refine nO (aopK_A (cB (spec_l1Sign_sim h12) ?_))
 refine yG ?_
 intro _ hm
 obtain ⟨x13, h14, hm⟩ := of_bind hm
 refine nO (aopK_A (cB (spec_l1Sign_sim h14) ?_))
 refine yG ?_
 intro k2 hm
 cases hm
 exact rZ1
 refine yG ?_
 intro _ hm
 refine bS hm (fun hb16 hm => ?_) fun hb16 hm => ?_
 refine yG ?_
 intro k3 hm
 cases hm
 exact rZ1
 refine yG ?_
 intro _ hm
 refine bS hm (fun hb18 hm => ?_) fun hb18 hm => ?_
 refine yG ?_
 intro _ hm
 obtain ⟨x19, h20, hm⟩ := of_bind hm
 refine nO (aopK_A (cB (spec_l1Sign_sim h20) ?_))
 refine yG ?_
 intro _ hm
 obtain ⟨x21, h22, hm⟩ := of_bind hm
 refine nO (aopK_A (cB (spec_l1Sign_sim h22) ?_))
 refine yG ?_
 intro k4 hm
 cases hm
 exact rZ1
 refine yG ?_
 intro _ hm
 refine bS hm (fun hb24 hm => ?_) fun hb24 hm => ?_
 refine yG ?_
 intro _ hm
 cases hm
 exact rZ1
 refine yG ?_
 intro _ hm
 refine bS hm (fun hb25 hm => ?_) fun hb25 hm => ?_
 refine yG ?_
 intro _ hm
 cases hm
 exact rZ1
 refine yG ?_
 intro _ hm
 refine bS hm (fun hb26 hm => ?_) fun hb26 hm => ?_
 refine yG ?_
 intro _ hm
 cases hm
 exact rZ1
 refine yG ?_
 intro _ hm
 refine bS hm (fun hb27 hm => ?_) fun hb27 hm => ?_
 refine yG ?_
 intro _ hm
 refine nO (aopK_A (cB (spec_l1Bit_sim ((a == b))) ?_))
 refine yG ?_
 intro _ hm
 cases hm
 exact rZ1
 refine yG ?_
 intro _ hm
 refine bS hm (fun hb28 hm => ?_) fun hb28 hm => ?_
 refine yG ?_
 intro _ hm
 refine nO (aopK_A (cB (spec_l1Bit_sim ((a != b))) ?_))
 refine yG ?_
 intro _ hm
 cases hm
 exact rZ1
 refine yG ?_
 intro _ hm
 refine bS hm (fun hb29 hm => ?_) fun hb29 hm => ?_
 refine yG ?_
 intro _ hm
 refine nO (aopK_A (cB (spec_l1Bit_sim (decide (a < b))) ?_))
 refine yG ?_
 intro _ hm
 cases hm
 exact rZ1
 refine yG ?_
 intro _ hm
 refine bS hm (fun hb30 hm => ?_) fun hb30 hm => ?_
 refine yG ?_
 intro _ hm
 obtain ⟨x31, h32, hm⟩ := of_bind hm
 refine nO (aopK_A (cB (spec_l1Sign_sim h32) ?_))
 refine yG ?_
 intro _ hm
 obtain ⟨x33, h34, hm⟩ := of_bind hm
 refine nO (aopK_A (cB (spec_l1Sign_sim h34) ?_))
 refine yG ?_
 intro _ hm
 refine nO (aopK_A (cB (spec_l1Bit_sim (decide (x31 < x33))) ?_))
 refine yG ?_
 intro _ hm
 cases hm
 exact rZ1
 refine yG ?_
 intro _ hm
 obtain ⟨x35, h36, hm⟩ := of_bind hm
 refine nO (aopK_A (cB (spec_l1Shift_sim h36) ?_))
 refine yG ?_
 intro _ hm
 cases hm
 exact rZ1
/-- spec.Masked -/
noncomputable def spec_Masked_m (w : Int) (n : Int) : Option Int :=
 (if (!((spec_WidthOk_m w))) = true then
 (some 0)
 else
 (Option.bind (spec_l1Top_m w) fun x2 =>
 (if inI (x2 - 1) then
 (some (bits .and .i64 n (x2 - 1)))
 else none)))
theorem spec_Masked_sim {w : Int} {n : Int} {r : Int} (hm : spec_Masked_m w n = some r) : Sim Tryz.prog 206 [.one (.int .i64 w), .one (.int .i64 n)] [] (.u (.one (.int .i64 r))) [] := by
 refine fN 13 0 Tryz.func206 [.tmp 4] fun B hB0 => ?_
 unfold spec_Masked_m at hm
 refine yG ?_
 intro _ hm
 refine nO (aopK_A (cB (spec_WidthOk_sim w) ?_))
 refine yG ?_
 intro _ hm
 refine bS hm (fun hb1 hm => ?_) fun hb1 hm => ?_
 refine yG ?_
 intro _ hm
 cases hm
 exact rZ1
 refine yG ?_
 intro _ hm
 obtain ⟨x2, h3, hm⟩ := of_bind hm
 refine nO (aopK_A (cB (spec_l1Top_sim h3) ?_))
 refine yG ?_
 intro k1 hm
 cases hm
 exact rZ1
/-- spec.Binary -/
noncomputable def spec_Binary_m (op_ : Int) (w : Int) (a : Int) (b : Int) : Option (Int × Int) :=
 (Option.bind ((if (!((spec_l1In_m op_ 1 17))) = true then
 (some true)
 else
 (Option.bind (spec_l1Value_m w a) fun x3 =>
 (if (!x3) = true then
 (some true)
 else
 (Option.bind (spec_l1Value_m w b) fun x6 =>
 (some ((!x6)))))))) fun (j1 : Bool) =>
 (if j1 = true then
 (some ((0, 2)))
 else
 (if ((spec_l1Divides_m op_) && (b == 0)) = true then
 (some ((0, 1)))
 else
 (Option.bind (spec_l1Two_m op_ w a b) fun x13 =>
 (Option.bind (spec_Masked_m w x13) fun x15 =>
 (some ((x15, 0))))))))
theorem spec_Binary_sim {op_ : Int} {w : Int} {a : Int} {b : Int} {r : Int × Int} (hm : spec_Binary_m op_ w a b = some r) : Sim Tryz.prog 136 [.one (.int .i64 op_), .one (.int .i64 w), .one (.int .i64 a), .one (.int .i64 b)] [] (.tup [.one (.int .i64 r.1), .one (.int .i64 r.2)]) [] := by
 refine fN 38 0 Tryz.func136 [.tmp 8, .tmp 9] fun B hB0 => ?_
 unfold spec_Binary_m at hm
 refine Wp.seq ?_
 refine c_regS ?_
 refine yR ?_
 intro _ hm
 refine o_end ?_
 refine Wp.seq ?_
 refine Wp.seq ?_
 obtain ⟨j1, hj8, hm⟩ := of_bind hm
 refine c_cut (St 38 [(0, vI op_), (1, vI w), (2, vI a), (3, vI b), (24, vB j1)] [] 0) ?_ ?_
 replace hm := hj8
 refine yG ?_
 intro _ hm
 refine nO (aopK_A (cB (spec_l1In_sim op_ 1 17) ?_))
 refine yG ?_
 intro _ hm
 refine bG0 hm (fun hb2 hm => ?_) fun hb2 hm => ?_
 refine yG ?_
 intro _ hm
 obtain ⟨x3, h4, hm⟩ := of_bind hm
 refine gO_t rfl rfl rfl (aopK_A (cB (spec_l1Value_sim h4) ?_))
 refine yG ?_
 intro _ hm
 refine bG0 hm (fun hb5 hm => ?_) fun hb5 hm => ?_
 refine yG ?_
 intro _ hm
 obtain ⟨x6, h7, hm⟩ := of_bind hm
 refine gO_t rfl rfl rfl (aopK_A (cB (spec_l1Value_sim h7) ?_))
 refine yG ?_
 intro _ hm
 cases hm
 exact vW []
 refine yG ?_
 intro _ hm
 cases hm
 exact vW []
 refine yG ?_
 intro _ hm
 cases hm
 exact vW []
 refine bS hm (fun hb9 hm => ?_) fun hb9 hm => ?_
 refine yG ?_
 intro _ hm
 cases hm
 exact rZt
 refine c_skip ?_
 refine Wp.seq ?_
 refine Wp.seq ?_
 refine c_cut (St 38 [(0, vI op_), (1, vI w), (2, vI a), (3, vI b), (30, vB (((spec_l1Divides_m op_) && (b == 0))))] [] 0) ?_ ?_
 refine yG ?_
 intro _ hm
 refine nO (aopK_A (cB (spec_l1Divides_sim op_) ?_))
 refine yG ?_
 intro _ hm
 refine gO_s rfl rfl rfl (fun hb11 => ?_) (fun hb11 => ?_)
 refine yG ?_
 intro _ hm
 exact w_ [] (.cons rfl rfl (.cons rfl rfl (.cons rfl rfl (.cons rfl rfl (.cons (by simp only [hb11, BO]; rfl) rfl .nil))))) .nil (by decide) (hB_0 hB0)
 refine yG ?_
 intro _ hm
 exact w_ [] (.cons rfl rfl (.cons rfl rfl (.cons rfl rfl (.cons rfl rfl (.cons (by simp only [hb11, BO]; rfl) rfl .nil))))) .nil (by decide) (hB_0 hB0)
 refine bS hm (fun hb12 hm => ?_) fun hb12 hm => ?_
 refine yG ?_
 intro _ hm
 cases hm
 exact rZt
 refine yG ?_
 intro _ hm
 obtain ⟨x13, h14, hm⟩ := of_bind hm
 refine nO (aopK_A (cB (spec_l1Two_sim h14) ?_))
 obtain ⟨x15, h16, hm⟩ := of_bind hm
 refine nO (aopK_A (cB (spec_Masked_sim h16) ?_))
 refine yG ?_
 intro _ hm
 cases hm
 exact rZt
/-- spec.l9Const -/
noncomputable def spec_l9Const_m (w : Int) (v : Int) : GInst :=
 (({ op_ := 21, w := w, a := 0, b := 0, c := 0, imm := v, args := [] } : GInst))
theorem spec_l9Const_sim (w : Int) (v : Int) : Sim Tryz.prog 137 [.one (.int .i64 w), .one (.int .i64 v)] [] (.u (.agg (eInst false ((spec_l9Const_m w v))))) [] := by
 generalize hm : spec_l9Const_m w v = r
 refine fN 8 0 Tryz.func137 [.cell 4 29] fun B hB0 => ?_
 unfold spec_l9Const_m at hm
 refine yG ?_
 intro _ hm
 cases hm
 exact rZ1h (hg := f_nl 0 6 1 false rfl rfl rfl)
/-- spec.l2CopyInst -/
noncomputable def spec_l2CopyInst_m (i : GInst) : Option GInst :=
 (Option.bind (spec_l1Copy_m i.args) fun x1 =>
 (some (({ op_ := (({ op_ := i.op_, w := i.w, a := i.a, b := i.b, c := i.c, imm := i.imm, args := x1 } : GInst)).op_, w := (({ op_ := i.op_, w := i.w, a := i.a, b := i.b, c := i.c, imm := i.imm, args := x1 } : GInst)).w, a := (({ op_ := i.op_, w := i.w, a := i.a, b := i.b, c := i.c, imm := i.imm, args := x1 } : GInst)).a, b := (({ op_ := i.op_, w := i.w, a := i.a, b := i.b, c := i.c, imm := i.imm, args := x1 } : GInst)).b, c := (({ op_ := i.op_, w := i.w, a := i.a, b := i.b, c := i.c, imm := i.imm, args := x1 } : GInst)).c, imm := (({ op_ := i.op_, w := i.w, a := i.a, b := i.b, c := i.c, imm := i.imm, args := x1 } : GInst)).imm, args := (({ op_ := i.op_, w := i.w, a := i.a, b := i.b, c := i.c, imm := i.imm, args := x1 } : GInst)).args } : GInst))))
theorem spec_l2CopyInst_sim {i : GInst} {r : GInst} (hm : spec_l2CopyInst_m i = some r) : Sim Tryz.prog 139 [.agg (eInst false i)] [] (.u (.agg (eInst false r))) [] := by
 refine fN 8 0 Tryz.func139 [.cell 2 29] fun B hB0 => ?_
 unfold spec_l2CopyInst_m at hm
 refine yG ?_
 intro _ hm
 obtain ⟨x1, h2, hm⟩ := of_bind hm
 refine nO (aopK_A (cB (spec_l1Copy_sim h2) ?_))
 refine nO (x_fap rfl F29_6 rfl rfl ?_)
 refine WpO.ghb (f_frz 2 [5] rfl (all_plain_map _) (.cons rfl (by simp) .nil) rfl) ?_
 refine yG ?_
 intro _ hm
 refine nO (kW ?_)
 refine yG ?_
 intro _ hm
 cases hm
 exact rZ1
/-- spec.l9Same -/
noncomputable def spec_l9Same_m (w : Int) (id : Int) : GInst :=
 (({ op_ := 27, w := w, a := id, b := 0, c := 0, imm := 0, args := [] } : GInst))
theorem spec_l9Same_sim (w : Int) (id : Int) : Sim Tryz.prog 142 [.one (.int .i64 w), .one (.int .i64 id)] [] (.u (.agg (eInst false ((spec_l9Same_m w id))))) [] := by
 generalize hm : spec_l9Same_m w id = r
 refine fN 8 0 Tryz.func142 [.cell 4 29] fun B hB0 => ?_
 unfold spec_l9Same_m at hm
 refine yG ?_
 intro _ hm
 cases hm
 exact rZ1h (hg := f_nl 0 6 1 false rfl rfl rfl)
/-- spec.l9Two -/
noncomputable def spec_l9Two_m (i : GInst) (a : Int) (vx : Bool) (b : Int) (vy : Bool) : Option GInst :=
 (if (if vy = true then (if (b == 0) = true then ((i.op_ == 1) || ((i.op_ == 2) || ((i.op_ == 9) || ((i.op_ == 10) || (spec_l1In_m i.op_ 11 13))))) else false) else false) = true then
 (some (({ op_ := ((spec_l9Same_m ((spec_l2Width_m i)) i.a)).op_, w := ((spec_l9Same_m ((spec_l2Width_m i)) i.a)).w, a := ((spec_l9Same_m ((spec_l2Width_m i)) i.a)).a, b := ((spec_l9Same_m ((spec_l2Width_m i)) i.a)).b, c := ((spec_l9Same_m ((spec_l2Width_m i)) i.a)).c, imm := ((spec_l9Same_m ((spec_l2Width_m i)) i.a)).imm, args := ((spec_l9Same_m ((spec_l2Width_m i)) i.a)).args } : GInst)))
 else
 (if (vx && ((a == 0) && ((i.op_ == 1) || ((i.op_ == 9) || (i.op_ == 10))))) = true then
 (some (({ op_ := ((spec_l9Same_m ((spec_l2Width_m i)) i.b)).op_, w := ((spec_l9Same_m ((spec_l2Width_m i)) i.b)).w, a := ((spec_l9Same_m ((spec_l2Width_m i)) i.b)).a, b := ((spec_l9Same_m ((spec_l2Width_m i)) i.b)).b, c := ((spec_l9Same_m ((spec_l2Width_m i)) i.b)).c, imm := ((spec_l9Same_m ((spec_l2Width_m i)) i.b)).imm, args := ((spec_l9Same_m ((spec_l2Width_m i)) i.b)).args } : GInst)))
 else
 (if (vy && ((b == 1) && ((i.op_ == 3) || (i.op_ == 4)))) = true then
 (some (({ op_ := ((spec_l9Same_m ((spec_l2Width_m i)) i.a)).op_, w := ((spec_l9Same_m ((spec_l2Width_m i)) i.a)).w, a := ((spec_l9Same_m ((spec_l2Width_m i)) i.a)).a, b := ((spec_l9Same_m ((spec_l2Width_m i)) i.a)).b, c := ((spec_l9Same_m ((spec_l2Width_m i)) i.a)).c, imm := ((spec_l9Same_m ((spec_l2Width_m i)) i.a)).imm, args := ((spec_l9Same_m ((spec_l2Width_m i)) i.a)).args } : GInst)))
 else
 (if (vx && ((a == 1) && (i.op_ == 3))) = true then
 (some (({ op_ := ((spec_l9Same_m ((spec_l2Width_m i)) i.b)).op_, w := ((spec_l9Same_m ((spec_l2Width_m i)) i.b)).w, a := ((spec_l9Same_m ((spec_l2Width_m i)) i.b)).a, b := ((spec_l9Same_m ((spec_l2Width_m i)) i.b)).b, c := ((spec_l9Same_m ((spec_l2Width_m i)) i.b)).c, imm := ((spec_l9Same_m ((spec_l2Width_m i)) i.b)).imm, args := ((spec_l9Same_m ((spec_l2Width_m i)) i.b)).args } : GInst)))
 else
 (if (if (i.op_ == 3) = true then (if vx = true then ((a == 0) || (vy && (b == 0))) else (vy && (b == 0))) else ((i.op_ == 8) && (if vx = true then ((a == 0) || (vy && (b == 0))) else (vy && (b == 0))))) = true then
 (some (({ op_ := ((spec_l9Const_m ((spec_l2Width_m i)) 0)).op_, w := ((spec_l9Const_m ((spec_l2Width_m i)) 0)).w, a := ((spec_l9Const_m ((spec_l2Width_m i)) 0)).a, b := ((spec_l9Const_m ((spec_l2Width_m i)) 0)).b, c := ((spec_l9Const_m ((spec_l2Width_m i)) 0)).c, imm := ((spec_l9Const_m ((spec_l2Width_m i)) 0)).imm, args := ((spec_l9Const_m ((spec_l2Width_m i)) 0)).args } : GInst)))
 else
 (if (i.a != i.b) = true then
 (Option.bind (spec_l2CopyInst_m i) fun x37 =>
 (some (({ op_ := x37.op_, w := x37.w, a := x37.a, b := x37.b, c := x37.c, imm := x37.imm, args := x37.args } : GInst))))
 else
 (if ((i.op_ == 2) || ((i.op_ == 10) || ((i.op_ == 15) || ((i.op_ == 16) || (i.op_ == 17))))) = true then
 (some (({ op_ := ((spec_l9Const_m ((spec_l2Width_m i)) 0)).op_, w := ((spec_l9Const_m ((spec_l2Width_m i)) 0)).w, a := ((spec_l9Const_m ((spec_l2Width_m i)) 0)).a, b := ((spec_l9Const_m ((spec_l2Width_m i)) 0)).b, c := ((spec_l9Const_m ((spec_l2Width_m i)) 0)).c, imm := ((spec_l9Const_m ((spec_l2Width_m i)) 0)).imm, args := ((spec_l9Const_m ((spec_l2Width_m i)) 0)).args } : GInst)))
 else
 (if (i.op_ == 14) = true then
 (some (({ op_ := ((spec_l9Const_m ((spec_l2Width_m i)) 1)).op_, w := ((spec_l9Const_m ((spec_l2Width_m i)) 1)).w, a := ((spec_l9Const_m ((spec_l2Width_m i)) 1)).a, b := ((spec_l9Const_m ((spec_l2Width_m i)) 1)).b, c := ((spec_l9Const_m ((spec_l2Width_m i)) 1)).c, imm := ((spec_l9Const_m ((spec_l2Width_m i)) 1)).imm, args := ((spec_l9Const_m ((spec_l2Width_m i)) 1)).args } : GInst)))
 else
 (if ((i.op_ == 8) || (i.op_ == 9)) = true then
 (some (({ op_ := ((spec_l9Same_m ((spec_l2Width_m i)) i.a)).op_, w := ((spec_l9Same_m ((spec_l2Width_m i)) i.a)).w, a := ((spec_l9Same_m ((spec_l2Width_m i)) i.a)).a, b := ((spec_l9Same_m ((spec_l2Width_m i)) i.a)).b, c := ((spec_l9Same_m ((spec_l2Width_m i)) i.a)).c, imm := ((spec_l9Same_m ((spec_l2Width_m i)) i.a)).imm, args := ((spec_l9Same_m ((spec_l2Width_m i)) i.a)).args } : GInst)))
 else
 (Option.bind (spec_l2CopyInst_m i) fun x49 =>
 (some (({ op_ := x49.op_, w := x49.w, a := x49.a, b := x49.b, c := x49.c, imm := x49.imm, args := x49.args } : GInst)))))))))))))
theorem spec_l9Two_sim {i : GInst} {a : Int} {vx : Bool} {b : Int} {vy : Bool} {r : GInst} (hm : spec_l9Two_m i a vx b vy = some r) : Sim Tryz.prog 140 [.agg (eInst false i), .one (.int .i64 a), .one (.bool vx), .one (.int .i64 b), .one (.bool vy)] [] (.u (.agg (eInst false r))) [] := by
 refine fN 171 0 Tryz.func140 [.cell 10 29] fun B hB0 => ?_
 unfold spec_l9Two_m at hm
 refine yG ?_
 intro _ hm
 refine nO (kW ?_)
 refine nO (aopK_A (cB (spec_l2Width_sim i) ?_))
 refine nO (x_as rfl rfl ?_)
 refine o_end ?_
 refine Wp.seq ?_
 refine c_regS ?_
 refine yR ?_
 intro _ hm
 refine o_end ?_
 refine Wp.seq ?_
 refine Wp.block ?_
 refine Wp.seq ?_
 refine c_cut (St 171 [(1, vI a), (2, vB vx), (3, vI b), (4, vB vy), (5, vP 0), (10, vP 1), (11, vI ((spec_l2Width_m i))), (12, vI i.op_), (17, vB ((if vy = true then (if (b == 0) = true then ((i.op_ == 1) || ((i.op_ == 2) || ((i.op_ == 9) || ((i.op_ == 10) || (spec_l1In_m i.op_ 11 13))))) else false) else false)))] [(0, oL 7 (eInst false i)), (1, oL 7 [.int .i64 0, .int .i64 0, .int .i64 0, .int .i64 0, .int .i64 0, .int .i64 0, .nl])] 2) ?_ ?_
 refine yG ?_
 intro _ hm
 refine gO_s rfl rfl rfl (fun hb2 => ?_) (fun hb2 => ?_)
 refine yG ?_
 intro _ hm
 refine gO_s rfl rfl rfl (fun hb3 => ?_) (fun hb3 => ?_)
 refine yG ?_
 intro _ hm
 refine gO_s rfl rfl rfl (fun hb4 => ?_) (fun hb4 => ?_)
 refine yG ?_
 intro _ hm
 refine gO_s rfl rfl rfl (fun hb5 => ?_) (fun hb5 => ?_)
 refine yG ?_
 intro _ hm
 refine gO_s rfl rfl rfl (fun hb6 => ?_) (fun hb6 => ?_)
 refine yG ?_
 intro _ hm
 refine gO_s rfl rfl rfl (fun hb7 => ?_) (fun hb7 => ?_)
 refine yG ?_
 intro _ hm
 refine gO_t rfl rfl rfl (aopK_A (cB (spec_l1In_sim i.op_ 11 13) ?_))
 refine yG ?_
 intro _ hm
 exact w_ [0, 1] (.cons rfl rfl (.cons rfl rfl (.cons rfl rfl (.cons rfl rfl (.cons rfl rfl (.cons rfl rfl (.cons rfl rfl (.cons rfl rfl (.cons (by simp only [hb2, hb3, hb4, hb5, hb6, hb7, BO]; rfl) rfl .nil))))))))) (.lit rfl rfl (.lit rfl rfl .nil)) (by decide) (hB_0 hB0)
 refine yG ?_
 intro _ hm
 exact w_ [0, 1] (.cons rfl rfl (.cons rfl rfl (.cons rfl rfl (.cons rfl rfl (.cons rfl rfl (.cons rfl rfl (.cons rfl rfl (.cons rfl rfl (.cons (by simp only [hb2, hb3, hb4, hb5, hb6, hb7, BO]; rfl) rfl .nil))))))))) (.lit rfl rfl (.lit rfl rfl .nil)) (by decide) (hB_0 hB0)
 refine yG ?_
 intro _ hm
 exact w_ [0, 1] (.cons rfl rfl (.cons rfl rfl (.cons rfl rfl (.cons rfl rfl (.cons rfl rfl (.cons rfl rfl (.cons rfl rfl (.cons rfl rfl (.cons (by simp only [hb2, hb3, hb4, hb5, hb6, BO]; rfl) rfl .nil))))))))) (.lit rfl rfl (.lit rfl rfl .nil)) (by decide) (hB_0 hB0)
 refine yG ?_
 intro _ hm
 exact w_ [0, 1] (.cons rfl rfl (.cons rfl rfl (.cons rfl rfl (.cons rfl rfl (.cons rfl rfl (.cons rfl rfl (.cons rfl rfl (.cons rfl rfl (.cons (by simp only [hb2, hb3, hb4, hb5, BO]; rfl) rfl .nil))))))))) (.lit rfl rfl (.lit rfl rfl .nil)) (by decide) (hB_0 hB0)
 refine yG ?_
 intro _ hm
 exact w_ [0, 1] (.cons rfl rfl (.cons rfl rfl (.cons rfl rfl (.cons rfl rfl (.cons rfl rfl (.cons rfl rfl (.cons rfl rfl (.cons rfl rfl (.cons (by simp only [hb2, hb3, hb4, BO]; rfl) rfl .nil))))))))) (.lit rfl rfl (.lit rfl rfl .nil)) (by decide) (hB_0 hB0)
 refine yG ?_
 intro _ hm
 exact w_ [0, 1] (.cons rfl rfl (.cons rfl rfl (.cons rfl rfl (.cons rfl rfl (.cons rfl rfl (.cons rfl rfl (.cons rfl rfl (.cons rfl rfl (.cons (by simp only [hb2, hb3, BO]; rfl) rfl .nil))))))))) (.lit rfl rfl (.lit rfl rfl .nil)) (by decide) (hB_0 hB0)
 refine yG ?_
 intro _ hm
 exact w_ [0, 1] (.cons rfl rfl (.cons rfl rfl (.cons rfl rfl (.cons rfl rfl (.cons rfl rfl (.cons rfl rfl (.cons rfl rfl (.cons rfl rfl (.cons (by simp only [hb2, BO]; rfl) rfl .nil))))))))) (.lit rfl rfl (.lit rfl rfl .nil)) (by decide) (hB_0 hB0)
 refine bS hm (fun hb8 hm => ?_) fun hb8 hm => ?_
 refine yG ?_
 intro _ hm
 refine nO (cG [] (spec_l9Same_sim ((spec_l2Width_m i)) i.a) ?_)
 refine yG ?_
 intro _ hm
 cases hm
 exact rZ1
 refine Wp.seq ?_
 refine c_cut (St 171 [(1, vI a), (2, vB vx), (3, vI b), (4, vB vy), (5, vP 0), (10, vP 1), (11, vI ((spec_l2Width_m i))), (12, vI i.op_), (47, vB ((vx && ((a == 0) && ((i.op_ == 1) || ((i.op_ == 9) || (i.op_ == 10)))))))] [(0, oL 7 (eInst false i)), (1, oL 7 [.int .i64 0, .int .i64 0, .int .i64 0, .int .i64 0, .int .i64 0, .int .i64 0, .nl])] 2) ?_ ?_
 refine yG ?_
 intro _ hm
 refine gO_s rfl rfl rfl (fun hb10 => ?_) (fun hb10 => ?_)
 refine yG ?_
 intro _ hm
 refine gO_s rfl rfl rfl (fun hb11 => ?_) (fun hb11 => ?_)
 refine yG ?_
 intro _ hm
 refine gO_s rfl rfl rfl (fun hb12 => ?_) (fun hb12 => ?_)
 refine yG ?_
 intro _ hm
 refine gO_s rfl rfl rfl (fun hb13 => ?_) (fun hb13 => ?_)
 refine yG ?_
 intro _ hm
 exact w_ [0, 1] (.cons rfl rfl (.cons rfl rfl (.cons rfl rfl (.cons rfl rfl (.cons rfl rfl (.cons rfl rfl (.cons rfl rfl (.cons rfl rfl (.cons (by simp only [hb10, hb11, hb12, hb13, BO]; rfl) rfl .nil))))))))) (.lit rfl rfl (.lit rfl rfl .nil)) (by decide) (hB_0 hB0)
 refine yG ?_
 intro _ hm
 exact w_ [0, 1] (.cons rfl rfl (.cons rfl rfl (.cons rfl rfl (.cons rfl rfl (.cons rfl rfl (.cons rfl rfl (.cons rfl rfl (.cons rfl rfl (.cons (by simp only [hb10, hb11, hb12, hb13, BO]; rfl) rfl .nil))))))))) (.lit rfl rfl (.lit rfl rfl .nil)) (by decide) (hB_0 hB0)
 refine yG ?_
 intro _ hm
 exact w_ [0, 1] (.cons rfl rfl (.cons rfl rfl (.cons rfl rfl (.cons rfl rfl (.cons rfl rfl (.cons rfl rfl (.cons rfl rfl (.cons rfl rfl (.cons (by simp only [hb10, hb11, hb12, BO]; rfl) rfl .nil))))))))) (.lit rfl rfl (.lit rfl rfl .nil)) (by decide) (hB_0 hB0)
 refine yG ?_
 intro _ hm
 exact w_ [0, 1] (.cons rfl rfl (.cons rfl rfl (.cons rfl rfl (.cons rfl rfl (.cons rfl rfl (.cons rfl rfl (.cons rfl rfl (.cons rfl rfl (.cons (by simp only [hb10, hb11, BO]; rfl) rfl .nil))))))))) (.lit rfl rfl (.lit rfl rfl .nil)) (by decide) (hB_0 hB0)
 refine yG ?_
 intro _ hm
 exact w_ [0, 1] (.cons rfl rfl (.cons rfl rfl (.cons rfl rfl (.cons rfl rfl (.cons rfl rfl (.cons rfl rfl (.cons rfl rfl (.cons rfl rfl (.cons (by simp only [hb10, BO]; rfl) rfl .nil))))))))) (.lit rfl rfl (.lit rfl rfl .nil)) (by decide) (hB_0 hB0)
 refine bS hm (fun hb14 hm => ?_) fun hb14 hm => ?_
 refine yG ?_
 intro _ hm
 refine nO (cG [] (spec_l9Same_sim ((spec_l2Width_m i)) i.b) ?_)
 refine yG ?_
 intro _ hm
 cases hm
 exact rZ1
 refine Wp.seq ?_
 refine c_cut (St 171 [(1, vI a), (2, vB vx), (3, vI b), (4, vB vy), (5, vP 0), (10, vP 1), (11, vI ((spec_l2Width_m i))), (12, vI i.op_), (69, vB ((vy && ((b == 1) && ((i.op_ == 3) || (i.op_ == 4))))))] [(0, oL 7 (eInst false i)), (1, oL 7 [.int .i64 0, .int .i64 0, .int .i64 0, .int .i64 0, .int .i64 0, .int .i64 0, .nl])] 2) ?_ ?_
 refine yG ?_
 intro _ hm
 refine gO_s rfl rfl rfl (fun hb16 => ?_) (fun hb16 => ?_)
 refine yG ?_
 intro _ hm
 refine gO_s rfl rfl rfl (fun hb17 => ?_) (fun hb17 => ?_)
 refine yG ?_
 intro _ hm
 refine gO_s rfl rfl rfl (fun hb18 => ?_) (fun hb18 => ?_)
 refine yG ?_
 intro _ hm
 exact w_ [0, 1] (.cons rfl rfl (.cons rfl rfl (.cons rfl rfl (.cons rfl rfl (.cons rfl rfl (.cons rfl rfl (.cons rfl rfl (.cons rfl rfl (.cons (by simp only [hb16, hb17, hb18, BO]; rfl) rfl .nil))))))))) (.lit rfl rfl (.lit rfl rfl .nil)) (by decide) (hB_0 hB0)
 refine yG ?_
 intro _ hm
 exact w_ [0, 1] (.cons rfl rfl (.cons rfl rfl (.cons rfl rfl (.cons rfl rfl (.cons rfl rfl (.cons rfl rfl (.cons rfl rfl (.cons rfl rfl (.cons (by simp only [hb16, hb17, hb18, BO]; rfl) rfl .nil))))))))) (.lit rfl rfl (.lit rfl rfl .nil)) (by decide) (hB_0 hB0)
 refine yG ?_
 intro _ hm
 exact w_ [0, 1] (.cons rfl rfl (.cons rfl rfl (.cons rfl rfl (.cons rfl rfl (.cons rfl rfl (.cons rfl rfl (.cons rfl rfl (.cons rfl rfl (.cons (by simp only [hb16, hb17, BO]; rfl) rfl .nil))))))))) (.lit rfl rfl (.lit rfl rfl .nil)) (by decide) (hB_0 hB0)
 refine yG ?_
 intro _ hm
 exact w_ [0, 1] (.cons rfl rfl (.cons rfl rfl (.cons rfl rfl (.cons rfl rfl (.cons rfl rfl (.cons rfl rfl (.cons rfl rfl (.cons rfl rfl (.cons (by simp only [hb16, BO]; rfl) rfl .nil))))))))) (.lit rfl rfl (.lit rfl rfl .nil)) (by decide) (hB_0 hB0)
 refine bS hm (fun hb19 hm => ?_) fun hb19 hm => ?_
 refine yG ?_
 intro _ hm
 refine nO (cG [] (spec_l9Same_sim ((spec_l2Width_m i)) i.a) ?_)
 refine yG ?_
 intro _ hm
 cases hm
 exact rZ1
 refine Wp.seq ?_
 refine c_cut (St 171 [(1, vI a), (2, vB vx), (3, vI b), (4, vB vy), (5, vP 0), (10, vP 1), (11, vI ((spec_l2Width_m i))), (12, vI i.op_), (87, vB ((vx && ((a == 1) && (i.op_ == 3)))))] [(0, oL 7 (eInst false i)), (1, oL 7 [.int .i64 0, .int .i64 0, .int .i64 0, .int .i64 0, .int .i64 0, .int .i64 0, .nl])] 2) ?_ ?_
 refine yG ?_
 intro _ hm
 refine gO_s rfl rfl rfl (fun hb21 => ?_) (fun hb21 => ?_)
 refine yG ?_
 intro _ hm
 refine gO_s rfl rfl rfl (fun hb22 => ?_) (fun hb22 => ?_)
 refine yG ?_
 intro _ hm
 exact w_ [0, 1] (.cons rfl rfl (.cons rfl rfl (.cons rfl rfl (.cons rfl rfl (.cons rfl rfl (.cons rfl rfl (.cons rfl rfl (.cons rfl rfl (.cons (by simp only [hb21, hb22, BO]; rfl) rfl .nil))))))))) (.lit rfl rfl (.lit rfl rfl .nil)) (by decide) (hB_0 hB0)
 refine yG ?_
 intro _ hm
 exact w_ [0, 1] (.cons rfl rfl (.cons rfl rfl (.cons rfl rfl (.cons rfl rfl (.cons rfl rfl (.cons rfl rfl (.cons rfl rfl (.cons rfl rfl (.cons (by simp only [hb21, hb22, BO]; rfl) rfl .nil))))))))) (.lit rfl rfl (.lit rfl rfl .nil)) (by decide) (hB_0 hB0)
 refine yG ?_
 intro _ hm
 exact w_ [0, 1] (.cons rfl rfl (.cons rfl rfl (.cons rfl rfl (.cons rfl rfl (.cons rfl rfl (.cons rfl rfl (.cons rfl rfl (.cons rfl rfl (.cons (by simp only [hb21, BO]; rfl) rfl .nil))))))))) (.lit rfl rfl (.lit rfl rfl .nil)) (by decide) (hB_0 hB0)
 refine bS hm (fun hb23 hm => ?_) fun hb23 hm => ?_
 refine yG ?_
 intro _ hm
 refine nO (cG [] (spec_l9Same_sim ((spec_l2Width_m i)) i.b) ?_)
 refine yG ?_
 intro _ hm
 cases hm
 exact rZ1
 refine Wp.seq ?_
 refine c_cut (St 171 [(5, vP 0), (10, vP 1), (11, vI ((spec_l2Width_m i))), (12, vI i.op_), (101, vB ((if (i.op_ == 3) = true then (if vx = true then ((a == 0) || (vy && (b == 0))) else (vy && (b == 0))) else ((i.op_ == 8) && (if vx = true then ((a == 0) || (vy && (b == 0))) else (vy && (b == 0)))))))] [(0, oL 7 (eInst false i)), (1, oL 7 [.int .i64 0, .int .i64 0, .int .i64 0, .int .i64 0, .int .i64 0, .int .i64 0, .nl])] 2) ?_ ?_
 refine yG ?_
 intro _ hm
 refine gO_s rfl rfl rfl (fun hb25 => ?_) (fun hb25 => ?_)
 refine yG ?_
 intro _ hm
 refine gO_s rfl rfl rfl (fun hb30 => ?_) (fun hb30 => ?_)
 refine yG ?_
 intro _ hm
 refine gO_s rfl rfl rfl (fun hb31 => ?_) (fun hb31 => ?_)
 refine yG ?_
 intro _ hm
 refine gO_s rfl rfl rfl (fun hb32 => ?_) (fun hb32 => ?_)
 refine yG ?_
 intro _ hm
 refine gO_s rfl rfl rfl (fun hb33 => ?_) (fun hb33 => ?_)
 refine yG ?_
 intro _ hm
 exact w_ [0, 1] (.cons rfl rfl (.cons rfl rfl (.cons rfl rfl (.cons rfl rfl (.cons (by simp only [hb25, hb30, hb31, hb32, hb33, BO]; rfl) rfl .nil))))) (.lit rfl rfl (.lit rfl rfl .nil)) (by decide) (hB_0 hB0)
 refine yG ?_
 intro _ hm
 exact w_ [0, 1] (.cons rfl rfl (.cons rfl rfl (.cons rfl rfl (.cons rfl rfl (.cons (by simp only [hb25, hb30, hb31, hb32, hb33, BO]; rfl) rfl .nil))))) (.lit rfl rfl (.lit rfl rfl .nil)) (by decide) (hB_0 hB0)
 refine yG ?_
 intro _ hm
 exact w_ [0, 1] (.cons rfl rfl (.cons rfl rfl (.cons rfl rfl (.cons rfl rfl (.cons (by simp only [hb25, hb30, hb31, hb32, BO]; rfl) rfl .nil))))) (.lit rfl rfl (.lit rfl rfl .nil)) (by decide) (hB_0 hB0)
 refine yG ?_
 intro _ hm
 refine gO_s rfl rfl rfl (fun hb34 => ?_) (fun hb34 => ?_)
 refine yG ?_
 intro _ hm
 exact w_ [0, 1] (.cons rfl rfl (.cons rfl rfl (.cons rfl rfl (.cons rfl rfl (.cons (by simp only [hb25, hb30, hb31, hb34, BO]; rfl) rfl .nil))))) (.lit rfl rfl (.lit rfl rfl .nil)) (by decide) (hB_0 hB0)
 refine yG ?_
 intro _ hm
 exact w_ [0, 1] (.cons rfl rfl (.cons rfl rfl (.cons rfl rfl (.cons rfl rfl (.cons (by simp only [hb25, hb30, hb31, hb34, BO]; rfl) rfl .nil))))) (.lit rfl rfl (.lit rfl rfl .nil)) (by decide) (hB_0 hB0)
 refine yG ?_
 intro _ hm
 exact w_ [0, 1] (.cons rfl rfl (.cons rfl rfl (.cons rfl rfl (.cons rfl rfl (.cons (by simp only [hb25, hb30, BO]; rfl) rfl .nil))))) (.lit rfl rfl (.lit rfl rfl .nil)) (by decide) (hB_0 hB0)
 refine yG ?_
 intro _ hm
 refine gO_s rfl rfl rfl (fun hb26 => ?_) (fun hb26 => ?_)
 refine yG ?_
 intro _ hm
 refine gO_s rfl rfl rfl (fun hb27 => ?_) (fun hb27 => ?_)
 refine yG ?_
 intro _ hm
 refine gO_s rfl rfl rfl (fun hb28 => ?_) (fun hb28 => ?_)
 refine yG ?_
 intro _ hm
 exact w_ [0, 1] (.cons rfl rfl (.cons rfl rfl (.cons rfl rfl (.cons rfl rfl (.cons (by simp only [hb25, hb26, hb27, hb28, BO]; rfl) rfl .nil))))) (.lit rfl rfl (.lit rfl rfl .nil)) (by decide) (hB_0 hB0)
 refine yG ?_
 intro _ hm
 exact w_ [0, 1] (.cons rfl rfl (.cons rfl rfl (.cons rfl rfl (.cons rfl rfl (.cons (by simp only [hb25, hb26, hb27, hb28, BO]; rfl) rfl .nil))))) (.lit rfl rfl (.lit rfl rfl .nil)) (by decide) (hB_0 hB0)
 refine yG ?_
 intro _ hm
 exact w_ [0, 1] (.cons rfl rfl (.cons rfl rfl (.cons rfl rfl (.cons rfl rfl (.cons (by simp only [hb25, hb26, hb27, BO]; rfl) rfl .nil))))) (.lit rfl rfl (.lit rfl rfl .nil)) (by decide) (hB_0 hB0)
 refine yG ?_
 intro _ hm
 refine gO_s rfl rfl rfl (fun hb29 => ?_) (fun hb29 => ?_)
 refine yG ?_
 intro _ hm
 exact w_ [0, 1] (.cons rfl rfl (.cons rfl rfl (.cons rfl rfl (.cons rfl rfl (.cons (by simp only [hb25, hb26, hb29, BO]; rfl) rfl .nil))))) (.lit rfl rfl (.lit rfl rfl .nil)) (by decide) (hB_0 hB0)
 refine yG ?_
 intro _ hm
 exact w_ [0, 1] (.cons rfl rfl (.cons rfl rfl (.cons rfl rfl (.cons rfl rfl (.cons (by simp only [hb25, hb26, hb29, BO]; rfl) rfl .nil))))) (.lit rfl rfl (.lit rfl rfl .nil)) (by decide) (hB_0 hB0)
 refine bS hm (fun hb35 hm => ?_) fun hb35 hm => ?_
 refine yG ?_
 intro _ hm
 refine nO (cG [] (spec_l9Const_sim ((spec_l2Width_m i)) 0) ?_)
 refine yG ?_
 intro _ hm
 cases hm
 exact rZ1
 refine yG ?_
 intro _ hm
 refine bS hm (fun hb36 hm => ?_) fun hb36 hm => ?_
 refine Wp.seq ?_
 refine c_regS ?_
 refine nO (kW ?_)
 obtain ⟨x37, h38, hm⟩ := of_bind hm
 refine nO (cG [] (spec_l2CopyInst_sim h38) ?_)
 refine yG ?_
 intro _ hm
 cases hm
 exact rZ1
 refine Wp.seq ?_
 refine c_cut (St 171 [(5, vP 0), (10, vP 1), (11, vI ((spec_l2Width_m i))), (12, vI i.op_), (132, vB (((i.op_ == 2) || ((i.op_ == 10) || ((i.op_ == 15) || ((i.op_ == 16) || (i.op_ == 17)))))))] [(0, oL 7 (eInst false i)), (1, oL 7 [.int .i64 0, .int .i64 0, .int .i64 0, .int .i64 0, .int .i64 0, .int .i64 0, .nl])] 2) ?_ ?_
 refine yG ?_
 intro _ hm
 refine gO_s rfl rfl rfl (fun hb40 => ?_) (fun hb40 => ?_)
 refine yG ?_
 intro _ hm
 refine gO_s rfl rfl rfl (fun hb41 => ?_) (fun hb41 => ?_)
 refine yG ?_
 intro _ hm
 refine gO_s rfl rfl rfl (fun hb42 => ?_) (fun hb42 => ?_)
 refine yG ?_
 intro _ hm
 refine gO_s rfl rfl rfl (fun hb43 => ?_) (fun hb43 => ?_)
 refine yG ?_
 intro _ hm
 exact w_ [0, 1] (.cons rfl rfl (.cons rfl rfl (.cons rfl rfl (.cons rfl rfl (.cons (by simp only [hb40, hb41, hb42, hb43, BO]; rfl) rfl .nil))))) (.lit rfl rfl (.lit rfl rfl .nil)) (by decide) (hB_0 hB0)
 refine yG ?_
 intro _ hm
 exact w_ [0, 1] (.cons rfl rfl (.cons rfl rfl (.cons rfl rfl (.cons rfl rfl (.cons (by simp only [hb40, hb41, hb42, hb43, BO]; rfl) rfl .nil))))) (.lit rfl rfl (.lit rfl rfl .nil)) (by decide) (hB_0 hB0)
 refine yG ?_
 intro _ hm
 exact w_ [0, 1] (.cons rfl rfl (.cons rfl rfl (.cons rfl rfl (.cons rfl rfl (.cons (by simp only [hb40, hb41, hb42, BO]; rfl) rfl .nil))))) (.lit rfl rfl (.lit rfl rfl .nil)) (by decide) (hB_0 hB0)
 refine yG ?_
 intro _ hm
 exact w_ [0, 1] (.cons rfl rfl (.cons rfl rfl (.cons rfl rfl (.cons rfl rfl (.cons (by simp only [hb40, hb41, BO]; rfl) rfl .nil))))) (.lit rfl rfl (.lit rfl rfl .nil)) (by decide) (hB_0 hB0)
 refine yG ?_
 intro _ hm
 exact w_ [0, 1] (.cons rfl rfl (.cons rfl rfl (.cons rfl rfl (.cons rfl rfl (.cons (by simp only [hb40, BO]; rfl) rfl .nil))))) (.lit rfl rfl (.lit rfl rfl .nil)) (by decide) (hB_0 hB0)
 refine bS hm (fun hb44 hm => ?_) fun hb44 hm => ?_
 refine yG ?_
 intro _ hm
 refine nO (cG [] (spec_l9Const_sim ((spec_l2Width_m i)) 0) ?_)
 refine yG ?_
 intro _ hm
 cases hm
 exact rZ1
 refine yG ?_
 intro _ hm
 refine bS hm (fun hb45 hm => ?_) fun hb45 hm => ?_
 refine yG ?_
 intro _ hm
 refine nO (cG [] (spec_l9Const_sim ((spec_l2Width_m i)) 1) ?_)
 refine yG ?_
 intro _ hm
 cases hm
 exact rZ1
 refine Wp.seq ?_
 refine c_cut (St 171 [(5, vP 0), (10, vP 1), (11, vI ((spec_l2Width_m i))), (158, vB (((i.op_ == 8) || (i.op_ == 9))))] [(0, oL 7 (eInst false i)), (1, oL 7 [.int .i64 0, .int .i64 0, .int .i64 0, .int .i64 0, .int .i64 0, .int .i64 0, .nl])] 2) ?_ ?_
 refine yG ?_
 intro _ hm
 refine gO_s rfl rfl rfl (fun hb47 => ?_) (fun hb47 => ?_)
 refine yG ?_
 intro _ hm
 exact w_ [0, 1] (.cons rfl rfl (.cons rfl rfl (.cons rfl rfl (.cons (by simp only [hb47, BO]; rfl) rfl .nil)))) (.lit rfl rfl (.lit rfl rfl .nil)) (by decide) (hB_0 hB0)
 refine yG ?_
 intro _ hm
 exact w_ [0, 1] (.cons rfl rfl (.cons rfl rfl (.cons rfl rfl (.cons (by simp only [hb47, BO]; rfl) rfl .nil)))) (.lit rfl rfl (.lit rfl rfl .nil)) (by decide) (hB_0 hB0)
 refine bS hm (fun hb48 hm => ?_) fun hb48 hm => ?_
 refine yG ?_
 intro _ hm
 refine nO (cG [] (spec_l9Same_sim ((spec_l2Width_m i)) i.a) ?_)
 refine yG ?_
 intro _ hm
 cases hm
 exact rZ1
 refine yG ?_
 intro _ hm
 refine nO (kW ?_)
 obtain ⟨x49, h50, hm⟩ := of_bind hm
 refine nO (cG [] (spec_l2CopyInst_sim h50) ?_)
 refine yG ?_
 intro _ hm
 cases hm
 exact rZ1
/-- spec.TypeOf -/
noncomputable def spec_TypeOf_m (f : GFunc) (id : Int) : Option Int :=
 (Option.bind (spec_l2Place_m f id) fun x1 =>
 (if (x1.1 == ((-2))) = true then
 (some ((-1)))
 else
 (if (x1.1 == ((-1))) = true then
 (if 0 ≤ x1.2 ∧ x1.2 < (List.length f.params : Int) then
 (some (at_ f.params x1.2))
 else none)
 else
 (if 0 ≤ x1.1 ∧ x1.1 < (List.length f.blocks : Int) then
 (if decide (x1.2 < ((List.length ((at_ f.blocks x1.1).phis) : Int))) = true then
 (if 0 ≤ x1.2 ∧ x1.2 < (List.length ((at_ f.blocks x1.1).phis) : Int) then
 (some ((at_ ((at_ f.blocks x1.1).phis) x1.2).w))
 else none)
 else
 (if inI (x1.2 - ((List.length ((at_ f.blocks x1.1).phis) : Int))) then
 (if 0 ≤ (x1.2 - ((List.length ((at_ f.blocks x1.1).phis) : Int))) ∧ (x1.2 - ((List.length ((at_ f.blocks x1.1).phis) : Int))) < (List.length ((at_ f.blocks x1.1).insts) : Int) then
 (some ((spec_l2Width_m (at_ ((at_ f.blocks x1.1).insts) (x1.2 - ((List.length ((at_ f.blocks x1.1).phis) : Int)))))))
 else none)
 else none))
 else none))))
theorem spec_TypeOf_sim {f : GFunc} {id : Int} {r : Int} (hm : spec_TypeOf_m f id = some r) : Sim Tryz.prog 111 [.agg (eFunc false f), .one (.int .i64 id)] [] (.u (.one (.int .i64 r))) [] := by
 refine fN 51 0 Tryz.func111 [.tmp 4] fun B hB0 => ?_
 unfold spec_TypeOf_m at hm
 refine yG ?_
 intro _ hm
 refine nO (kW ?_)
 refine yG ?_
 intro _ hm
 obtain ⟨x1, h2, hm⟩ := of_bind hm
 refine nO (aopK_A (cB (spec_l2Place_sim h2) ?_))
 refine yG ?_
 intro _ hm
 refine bS hm (fun hb3 hm => ?_) fun hb3 hm => ?_
 refine yG ?_
 intro _ hm
 cases hm
 exact rZ1
 refine yG ?_
 intro _ hm
 refine bS hm (fun hb4 hm => ?_) fun hb4 hm => ?_
 refine yG ?_
 intro k1 hm
 cases hm
 exact rZ1
 refine yG ?_
 intro k2 hm
 refine nO (x_ldi T53 rfl (pk_all rfl rfl) rfl ?_)
 refine yG ?_
 intro k3 hm
 refine bS hm (fun hb8 hm => ?_) fun hb8 hm => ?_
 refine yG ?_
 intro k4 hm
 cases hm
 exact rZ1
 refine yG ?_
 intro k5 hm
 refine nO (x_ldi T29 rfl (pk_all rfl rfl) rfl ?_)
 refine nO (aopK_A (cB (spec_l2Width_sim (at_ ((at_ f.blocks x1.1).insts) (x1.2 - ((List.length ((at_ f.blocks x1.1).phis) : Int))))) ?_))
 refine yG ?_
 intro _ hm
 cases hm
 exact rZ1
/-- spec.Casted -/
noncomputable def spec_Casted_m (op_ : Int) (from_ : Int) (to : Int) (v : Int) : Option (Int × Bool) :=
 (Option.bind ((Option.bind (spec_l1Value_m from_ v) fun x2 =>
 (if (!x2) = true then
 (some true)
 else
 (some ((!((spec_WidthOk_m to)))))))) fun (j1 : Bool) =>
 (if j1 = true then
 (some ((0, false)))
 else
 (if ((op_ == 18) && decide (to > from_)) = true then
 (some ((v, true)))
 else
 (if ((op_ == 19) && decide (to > from_)) = true then
 (Option.bind (spec_l1Sign_m from_ v) fun x13 =>
 (Option.bind (spec_Masked_m to x13) fun x15 =>
 (some ((x15, true)))))
 else
 (if ((op_ == 20) && decide (to < from_)) = true then
 (Option.bind (spec_Masked_m to v) fun x20 =>
 (some ((x20, true))))
 else
 (some ((0, false))))))))
theorem spec_Casted_sim {op_ : Int} {from_ : Int} {to : Int} {v : Int} {r : Int × Bool} (hm : spec_Casted_m op_ from_ to v = some r) : Sim Tryz.prog 141 [.one (.int .i64 op_), .one (.int .i64 from_), .one (.int .i64 to), .one (.int .i64 v)] [] (.tup [.one (.int .i64 r.1), .one (.bool r.2)]) [] := by
 refine fN 52 0 Tryz.func141 [.tmp 8, .tmp 9] fun B hB0 => ?_
 unfold spec_Casted_m at hm
 refine Wp.seq ?_
 refine c_regS ?_
 refine yR ?_
 intro _ hm
 refine o_end ?_
 refine Wp.seq ?_
 refine Wp.seq ?_
 obtain ⟨j1, hj5, hm⟩ := of_bind hm
 refine c_cut (St 52 [(0, vI op_), (1, vI from_), (2, vI to), (3, vI v), (18, vB j1)] [] 0) ?_ ?_
 replace hm := hj5
 refine yG ?_
 intro _ hm
 obtain ⟨x2, h3, hm⟩ := of_bind hm
 refine nO (aopK_A (cB (spec_l1Value_sim h3) ?_))
 refine yG ?_
 intro _ hm
 refine bG0 hm (fun hb4 hm => ?_) fun hb4 hm => ?_
 refine yG ?_
 intro _ hm
 refine gO_t rfl rfl rfl (aopK_A (cB (spec_WidthOk_sim to) ?_))
 refine yG ?_
 intro _ hm
 cases hm
 exact vW []
 refine yG ?_
 intro _ hm
 cases hm
 exact vW []
 refine bS hm (fun hb6 hm => ?_) fun hb6 hm => ?_
 refine yG ?_
 intro _ hm
 cases hm
 exact rZt
 refine c_skip ?_
 refine Wp.seq ?_
 refine Wp.block ?_
 refine Wp.seq ?_
 refine c_cut (St 52 [(0, vI op_), (1, vI from_), (2, vI to), (3, vI v), (19, vB (((op_ == 18) && decide (to > from_))))] [] 0) ?_ ?_
 refine yG ?_
 intro _ hm
 refine gO_s rfl rfl rfl (fun hb8 => ?_) (fun hb8 => ?_)
 refine yG ?_
 intro _ hm
 exact w_ [] (.cons rfl rfl (.cons rfl rfl (.cons rfl rfl (.cons rfl rfl (.cons (by simp only [hb8, BO]; rfl) rfl .nil))))) .nil (by decide) (hB_0 hB0)
 refine yG ?_
 intro _ hm
 exact w_ [] (.cons rfl rfl (.cons rfl rfl (.cons rfl rfl (.cons rfl rfl (.cons (by simp only [hb8, BO]; rfl) rfl .nil))))) .nil (by decide) (hB_0 hB0)
 refine bS hm (fun hb9 hm => ?_) fun hb9 hm => ?_
 refine yG ?_
 intro _ hm
 cases hm
 exact rZt
 refine Wp.seq ?_
 refine c_cut (St 52 [(0, vI op_), (1, vI from_), (2, vI to), (3, vI v), (28, vB (((op_ == 19) && decide (to > from_))))] [] 0) ?_ ?_
 refine yG ?_
 intro _ hm
 refine gO_s rfl rfl rfl (fun hb11 => ?_) (fun hb11 => ?_)
 refine yG ?_
 intro _ hm
 exact w_ [] (.cons rfl rfl (.cons rfl rfl (.cons rfl rfl (.cons rfl rfl (.cons (by simp only [hb11, BO]; rfl) rfl .nil))))) .nil (by decide) (hB_0 hB0)
 refine yG ?_
 intro _ hm
 exact w_ [] (.cons rfl rfl (.cons rfl rfl (.cons rfl rfl (.cons rfl rfl (.cons (by simp only [hb11, BO]; rfl) rfl .nil))))) .nil (by decide) (hB_0 hB0)
 refine bS hm (fun hb12 hm => ?_) fun hb12 hm => ?_
 refine yG ?_
 intro _ hm
 obtain ⟨x13, h14, hm⟩ := of_bind hm
 refine nO (aopK_A (cB (spec_l1Sign_sim h14) ?_))
 obtain ⟨x15, h16, hm⟩ := of_bind hm
 refine nO (aopK_A (cB (spec_Masked_sim h16) ?_))
 refine yG ?_
 intro _ hm
 cases hm
 exact rZt
 refine Wp.seq ?_
 refine c_cut (St 52 [(2, vI to), (3, vI v), (41, vB (((op_ == 20) && decide (to < from_))))] [] 0) ?_ ?_
 refine yG ?_
 intro _ hm
 refine gO_s rfl rfl rfl (fun hb18 => ?_) (fun hb18 => ?_)
 refine yG ?_
 intro _ hm
 exact w_ [] (.cons rfl rfl (.cons rfl rfl (.cons (by simp only [hb18, BO]; rfl) rfl .nil))) .nil (by decide) (hB_0 hB0)
 refine yG ?_
 intro _ hm
 exact w_ [] (.cons rfl rfl (.cons rfl rfl (.cons (by simp only [hb18, BO]; rfl) rfl .nil))) .nil (by decide) (hB_0 hB0)
 refine bS hm (fun hb19 hm => ?_) fun hb19 hm => ?_
 refine yG ?_
 intro _ hm
 obtain ⟨x20, h21, hm⟩ := of_bind hm
 refine nO (aopK_A (cB (spec_Masked_sim h21) ?_))
 refine yG ?_
 intro _ hm
 cases hm
 exact rZt
 refine yG ?_
 intro _ hm
 cases hm
 exact rZt
/-- spec.l9Fold -/
noncomputable def spec_l9Fold_m (f : GFunc) (i : GInst) : Option GInst :=
 (Option.bind (spec_ConstOf_m f i.a) fun x1 =>
 (if (spec_l1In_m i.op_ 1 17) = true then
 (Option.bind (spec_ConstOf_m f i.b) fun x4 =>
 (if (x1.2 && x4.2) = true then
 (Option.bind (spec_Binary_m i.op_ i.w x1.1 x4.1) fun x9 =>
 (if (x9.2 == 0) = true then
 (some (({ op_ := ((spec_l9Const_m ((spec_l2Width_m i)) x9.1)).op_, w := ((spec_l9Const_m ((spec_l2Width_m i)) x9.1)).w, a := ((spec_l9Const_m ((spec_l2Width_m i)) x9.1)).a, b := ((spec_l9Const_m ((spec_l2Width_m i)) x9.1)).b, c := ((spec_l9Const_m ((spec_l2Width_m i)) x9.1)).c, imm := ((spec_l9Const_m ((spec_l2Width_m i)) x9.1)).imm, args := ((spec_l9Const_m ((spec_l2Width_m i)) x9.1)).args } : GInst)))
 else
 (Option.bind (spec_l2CopyInst_m i) fun x12 =>
 (some (({ op_ := x12.op_, w := x12.w, a := x12.a, b := x12.b, c := x12.c, imm := x12.imm, args := x12.args } : GInst))))))
 else
 (Option.bind (spec_l9Two_m i x1.1 x1.2 x4.1 x4.2) fun x14 =>
 (some (({ op_ := x14.op_, w := x14.w, a := x14.a, b := x14.b, c := x14.c, imm := x14.imm, args := x14.args } : GInst))))))
 else
 (if ((spec_l1In_m i.op_ 18 20) && x1.2) = true then
 (Option.bind (spec_TypeOf_m f i.a) fun x19 =>
 (Option.bind (spec_Casted_m i.op_ x19 i.w x1.1) fun x21 =>
 (if x21.2 = true then
 (some (({ op_ := ((spec_l9Const_m i.w x21.1)).op_, w := ((spec_l9Const_m i.w x21.1)).w, a := ((spec_l9Const_m i.w x21.1)).a, b := ((spec_l9Const_m i.w x21.1)).b, c := ((spec_l9Const_m i.w x21.1)).c, imm := ((spec_l9Const_m i.w x21.1)).imm, args := ((spec_l9Const_m i.w x21.1)).args } : GInst)))
 else
 (Option.bind (spec_l2CopyInst_m i) fun x24 =>
 (some (({ op_ := x24.op_, w := x24.w, a := x24.a, b := x24.b, c := x24.c, imm := x24.imm, args := x24.args } : GInst)))))))
 else
 (if (((i.op_ == 22) && (x1.2 && (x1.1 == 1))) || ((i.op_ == 22) && (i.b == i.c))) = true then
 (some (({ op_ := ((spec_l9Same_m i.w i.b)).op_, w := ((spec_l9Same_m i.w i.b)).w, a := ((spec_l9Same_m i.w i.b)).a, b := ((spec_l9Same_m i.w i.b)).b, c := ((spec_l9Same_m i.w i.b)).c, imm := ((spec_l9Same_m i.w i.b)).imm, args := ((spec_l9Same_m i.w i.b)).args } : GInst)))
 else
 (if ((i.op_ == 22) && x1.2) = true then
 (some (({ op_ := ((spec_l9Same_m i.w i.c)).op_, w := ((spec_l9Same_m i.w i.c)).w, a := ((spec_l9Same_m i.w i.c)).a, b := ((spec_l9Same_m i.w i.c)).b, c := ((spec_l9Same_m i.w i.c)).c, imm := ((spec_l9Same_m i.w i.c)).imm, args := ((spec_l9Same_m i.w i.c)).args } : GInst)))
 else
 (Option.bind ((if (i.op_ == 27) = true then
 (if x1.2 = true then
 (Option.bind (spec_l1Value_m i.w x1.1) fun x40 =>
 (some x40))
 else
 (some false))
 else
 (some false))) fun (j37 : Bool) =>
 (if j37 = true then
 (some (({ op_ := ((spec_l9Const_m i.w x1.1)).op_, w := ((spec_l9Const_m i.w x1.1)).w, a := ((spec_l9Const_m i.w x1.1)).a, b := ((spec_l9Const_m i.w x1.1)).b, c := ((spec_l9Const_m i.w x1.1)).c, imm := ((spec_l9Const_m i.w x1.1)).imm, args := ((spec_l9Const_m i.w x1.1)).args } : GInst)))
 else
 (Option.bind (spec_l2CopyInst_m i) fun x44 =>
 (some (({ op_ := x44.op_, w := x44.w, a := x44.a, b := x44.b, c := x44.c, imm := x44.imm, args := x44.args } : GInst)))))))))))
theorem spec_l9Fold_sim {f : GFunc} {i : GInst} {r : GInst} (hm : spec_l9Fold_m f i = some r) : Sim Tryz.prog 76 [.agg (eFunc false f), .agg (eInst false i)] [] (.u (.agg (eInst false r))) [] := by
 refine fN 141 0 Tryz.func76 [.cell 4 29] fun B hB0 => ?_
 unfold spec_l9Fold_m at hm
 refine yG ?_
 intro _ hm
 refine nO (kW ?_)
 refine yG ?_
 intro _ hm
 obtain ⟨x1, h2, hm⟩ := of_bind hm
 refine nO (aopK_A (cB (spec_ConstOf_sim h2) ?_))
 refine yG ?_
 intro _ hm
 refine nO (aopK_A (cB (spec_l1In_sim i.op_ 1 17) ?_))
 refine yG ?_
 intro _ hm
 refine bS hm (fun hb3 hm => ?_) fun hb3 hm => ?_
 refine Wp.seq ?_
 refine c_regS ?_
 refine nO (kW ?_)
 refine yG ?_
 intro _ hm
 obtain ⟨x4, h5, hm⟩ := of_bind hm
 refine nO (aopK_A (cB (spec_ConstOf_sim h5) ?_))
 refine yR ?_
 intro _ hm
 refine o_end ?_
 refine Wp.seq ?_
 refine Wp.seq ?_
 refine c_cut (St 141 [(3, vP 0), (4, vP 1), (5, vI x1.1), (6, vB x1.2), (7, vI x4.1), (8, vB x4.2), (34, vB ((x1.2 && x4.2)))] [(0, oL 7 (eInst false i)), (1, oL 7 [.int .i64 0, .int .i64 0, .int .i64 0, .int .i64 0, .int .i64 0, .int .i64 0, .nl])] 2) ?_ ?_
 refine yG ?_
 intro _ hm
 refine gO_s rfl rfl rfl (fun hb7 => ?_) (fun hb7 => ?_)
 refine yG ?_
 intro _ hm
 exact w_ [1, 2] (.cons rfl rfl (.cons rfl rfl (.cons rfl rfl (.cons rfl rfl (.cons rfl rfl (.cons rfl rfl (.cons (by simp only [hb7, BO]; rfl) rfl .nil))))))) (.lit rfl rfl (.lit rfl rfl .nil)) (by decide) (hB_0 hB0)
 refine yG ?_
 intro _ hm
 exact w_ [1, 2] (.cons rfl rfl (.cons rfl rfl (.cons rfl rfl (.cons rfl rfl (.cons rfl rfl (.cons rfl rfl (.cons (by simp only [hb7, BO]; rfl) rfl .nil))))))) (.lit rfl rfl (.lit rfl rfl .nil)) (by decide) (hB_0 hB0)
 refine bS hm (fun hb8 hm => ?_) fun hb8 hm => ?_
 refine yG ?_
 intro _ hm
 obtain ⟨x9, h10, hm⟩ := of_bind hm
 refine nO (aopK_A (cB (spec_Binary_sim h10) ?_))
 refine yG ?_
 intro _ hm
 refine bS hm (fun hb11 hm => ?_) fun hb11 hm => ?_
 refine Wp.seq ?_
 refine c_regS ?_
 refine nO (kW ?_)
 refine nO (aopK_A (cB (spec_l2Width_sim i) ?_))
 refine yG ?_
 intro _ hm
 refine nO (cG [] (spec_l9Const_sim ((spec_l2Width_m i)) x9.1) ?_)
 refine yG ?_
 intro _ hm
 cases hm
 exact rZ1
 refine yG ?_
 intro _ hm
 refine nO (kW ?_)
 obtain ⟨x12, h13, hm⟩ := of_bind hm
 refine nO (cG [] (spec_l2CopyInst_sim h13) ?_)
 refine yG ?_
 intro _ hm
 cases hm
 exact rZ1
 refine yG ?_
 intro _ hm
 refine nO (kW ?_)
 refine yG ?_
 intro _ hm
 obtain ⟨x14, h15, hm⟩ := of_bind hm
 refine nO (cG [] (spec_l9Two_sim h15) ?_)
 refine yG ?_
 intro _ hm
 cases hm
 exact rZ1
 refine Wp.seq ?_
 refine c_cut (St 141 [(2, vP 0), (3, vP 1), (4, vP 2), (5, vI x1.1), (6, vB x1.2), (59, vB (((spec_l1In_m i.op_ 18 20) && x1.2)))] [(0, oL 3 (eFunc false f)), (1, oL 7 (eInst false i)), (2, oL 7 [.int .i64 0, .int .i64 0, .int .i64 0, .int .i64 0, .int .i64 0, .int .i64 0, .nl])] 3) ?_ ?_
 refine yG ?_
 intro _ hm
 refine nO (aopK_A (cB (spec_l1In_sim i.op_ 18 20) ?_))
 refine yG ?_
 intro _ hm
 refine gO_s rfl rfl rfl (fun hb17 => ?_) (fun hb17 => ?_)
 refine yG ?_
 intro _ hm
 exact w_ [0, 1, 2] (.cons rfl rfl (.cons rfl rfl (.cons rfl rfl (.cons rfl rfl (.cons rfl rfl (.cons (by simp only [hb17, BO]; rfl) rfl .nil)))))) (.lit rfl rfl (.lit rfl rfl (.lit rfl rfl .nil))) (by decide) (hB_0 hB0)
 refine yG ?_
 intro _ hm
 exact w_ [0, 1, 2] (.cons rfl rfl (.cons rfl rfl (.cons rfl rfl (.cons rfl rfl (.cons rfl rfl (.cons (by simp only [hb17, BO]; rfl) rfl .nil)))))) (.lit rfl rfl (.lit rfl rfl (.lit rfl rfl .nil))) (by decide) (hB_0 hB0)
 refine bS hm (fun hb18 hm => ?_) fun hb18 hm => ?_
 refine Wp.seq ?_
 refine c_drw (Y := sysC _) mixed ?_
 refine tK 0 1 rfl (kF ?_)
 refine tK 1 1 rfl (kD ?_)
 refine tK 2 1 rfl (kW ?_)
 refine tK 3 1 rfl (kF ?_)
 refine tK 4 1 rfl (kD ?_)
 refine tK 6 1 rfl (kF ?_)
 refine tK 7 1 rfl (kD ?_)
 refine tK 8 0 rfl (kV ?_)
 obtain ⟨x19, h20, hm⟩ := of_bind hm
 refine oK 5 rfl (cB (spec_TypeOf_sim h20) ?_)
 obtain ⟨x21, h22, hm⟩ := of_bind hm
 refine oK 9 rfl (cB (spec_Casted_sim h22) ?_)
 refine tK 10 0 rfl (kV ?_)
 refine tK 11 0 rfl (x_ex rfl rfl rfl ?_)
 refine tK 12 0 rfl (x_ex rfl rfl rfl ?_)
 refine tK 13 0 rfl (x_as rfl rfl ?_)
 refine tK 14 0 rfl (x_as rfl rfl ?_)
 refine aN ?_
 refine yG ?_
 intro _ hm
 refine bS hm (fun hb23 hm => ?_) fun hb23 hm => ?_
 refine yG ?_
 intro _ hm
 refine nO (cG [] (spec_l9Const_sim i.w x21.1) ?_)
 refine yG ?_
 intro _ hm
 cases hm
 exact rZ1
 refine yG ?_
 intro _ hm
 refine nO (kW ?_)
 obtain ⟨x24, h25, hm⟩ := of_bind hm
 refine nO (cG [] (spec_l2CopyInst_sim h25) ?_)
 refine yG ?_
 intro _ hm
 cases hm
 exact rZ1
 refine Wp.seq ?_
 refine c_cut (St 141 [(3, vP 0), (4, vP 1), (5, vI x1.1), (6, vB x1.2), (84, vB ((((i.op_ == 22) && (x1.2 && (x1.1 == 1))) || ((i.op_ == 22) && (i.b == i.c)))))] [(0, oL 7 (eInst false i)), (1, oL 7 [.int .i64 0, .int .i64 0, .int .i64 0, .int .i64 0, .int .i64 0, .int .i64 0, .nl])] 2) ?_ ?_
 refine Wp.seq ?_
 refine c_cut (St 141 [(3, vP 0), (4, vP 1), (5, vI x1.1), (6, vB x1.2), (84, vB (((i.op_ == 22) && (x1.2 && (x1.1 == 1)))))] [(0, oL 7 (eInst false i)), (1, oL 7 [.int .i64 0, .int .i64 0, .int .i64 0, .int .i64 0, .int .i64 0, .int .i64 0, .nl])] 2) ?_ ?_
 refine yG ?_
 intro _ hm
 refine gO_s rfl rfl rfl (fun hb28 => ?_) (fun hb28 => ?_)
 refine yG ?_
 intro _ hm
 refine gO_s rfl rfl rfl (fun hb29 => ?_) (fun hb29 => ?_)
 refine yG ?_
 intro _ hm
 exact w_ [1, 2] (.cons rfl rfl (.cons rfl rfl (.cons rfl rfl (.cons rfl rfl (.cons (by simp only [hb28, hb29, BO]; rfl) rfl .nil))))) (.lit rfl rfl (.lit rfl rfl .nil)) (by decide) (hB_0 hB0)
 refine yG ?_
 intro _ hm
 exact w_ [1, 2] (.cons rfl rfl (.cons rfl rfl (.cons rfl rfl (.cons rfl rfl (.cons (by simp only [hb28, hb29, BO]; rfl) rfl .nil))))) (.lit rfl rfl (.lit rfl rfl .nil)) (by decide) (hB_0 hB0)
 refine yG ?_
 intro _ hm
 exact w_ [1, 2] (.cons rfl rfl (.cons rfl rfl (.cons rfl rfl (.cons rfl rfl (.cons (by simp only [hb28, BO]; rfl) rfl .nil))))) (.lit rfl rfl (.lit rfl rfl .nil)) (by decide) (hB_0 hB0)
 refine c_s rfl rfl (fun hb30 => ?_) (fun hb30 => ?_)
 refine c_skip ?_
 exact w_ [0, 1] (.cons rfl rfl (.cons rfl rfl (.cons rfl rfl (.cons rfl rfl (.cons (by simp only [hb30, BO]; rfl) rfl .nil))))) (.lit rfl rfl (.lit rfl rfl .nil)) (by decide) (hB_0 hB0)
 refine c_cut (St 141 [(3, vP 0), (4, vP 1), (5, vI x1.1), (6, vB x1.2), (84, vB (((i.op_ == 22) && (i.b == i.c))))] [(0, oL 7 (eInst false i)), (1, oL 7 [.int .i64 0, .int .i64 0, .int .i64 0, .int .i64 0, .int .i64 0, .int .i64 0, .nl])] 2) ?_ ?_
 refine yG ?_
 intro _ hm
 refine gO_s rfl rfl rfl (fun hb32 => ?_) (fun hb32 => ?_)
 refine yG ?_
 intro _ hm
 exact w_ [0, 1] (.cons rfl rfl (.cons rfl rfl (.cons rfl rfl (.cons rfl rfl (.cons (by simp only [hb32, BO]; rfl) rfl .nil))))) (.lit rfl rfl (.lit rfl rfl .nil)) (by decide) (hB_0 hB0)
 refine yG ?_
 intro _ hm
 exact w_ [0, 1] (.cons rfl rfl (.cons rfl rfl (.cons rfl rfl (.cons rfl rfl (.cons (by simp only [hb32, BO]; rfl) rfl .nil))))) (.lit rfl rfl (.lit rfl rfl .nil)) (by decide) (hB_0 hB0)
 exact w_ [0, 1] (.cons rfl rfl (.cons rfl rfl (.cons rfl rfl (.cons rfl rfl (.cons (by simp only [hb30, BO]; rfl) rfl .nil))))) (.lit rfl rfl (.lit rfl rfl .nil)) (by decide) (hB_0 hB0)
 refine bS hm (fun hb33 hm => ?_) fun hb33 hm => ?_
 refine yG ?_
 intro _ hm
 refine nO (cG [] (spec_l9Same_sim i.w i.b) ?_)
 refine yG ?_
 intro _ hm
 cases hm
 exact rZ1
 refine Wp.seq ?_
 refine c_cut (St 141 [(3, vP 0), (4, vP 1), (5, vI x1.1), (6, vB x1.2), (110, vB (((i.op_ == 22) && x1.2)))] [(0, oL 7 (eInst false i)), (1, oL 7 [.int .i64 0, .int .i64 0, .int .i64 0, .int .i64 0, .int .i64 0, .int .i64 0, .nl])] 2) ?_ ?_
 refine yG ?_
 intro _ hm
 refine gO_s rfl rfl rfl (fun hb35 => ?_) (fun hb35 => ?_)
 refine yG ?_
 intro _ hm
 exact w_ [0, 1] (.cons rfl rfl (.cons rfl rfl (.cons rfl rfl (.cons rfl rfl (.cons (by simp only [hb35, BO]; rfl) rfl .nil))))) (.lit rfl rfl (.lit rfl rfl .nil)) (by decide) (hB_0 hB0)
 refine yG ?_
 intro _ hm
 exact w_ [0, 1] (.cons rfl rfl (.cons rfl rfl (.cons rfl rfl (.cons rfl rfl (.cons (by simp only [hb35, BO]; rfl) rfl .nil))))) (.lit rfl rfl (.lit rfl rfl .nil)) (by decide) (hB_0 hB0)
 refine bS hm (fun hb36 hm => ?_) fun hb36 hm => ?_
 refine yG ?_
 intro _ hm
 refine nO (cG [] (spec_l9Same_sim i.w i.c) ?_)
 refine yG ?_
 intro _ hm
 cases hm
 exact rZ1
 refine Wp.seq ?_
 obtain ⟨j37, hj42, hm⟩ := of_bind hm
 refine c_cut (St 141 [(3, vP 0), (4, vP 1), (5, vI x1.1), (122, vB j37)] [(0, oL 7 (eInst false i)), (1, oL 7 [.int .i64 0, .int .i64 0, .int .i64 0, .int .i64 0, .int .i64 0, .int .i64 0, .nl])] 2) ?_ ?_
 replace hm := hj42
 refine yG ?_
 intro _ hm
 refine bG1 hm (fun hb38 hm => ?_) fun hb38 hm => ?_
 refine yG ?_
 intro _ hm
 refine bG1 hm (fun hb39 hm => ?_) fun hb39 hm => ?_
 refine yG ?_
 intro _ hm
 obtain ⟨x40, h41, hm⟩ := of_bind hm
 refine gO_t rfl rfl rfl (aopK_A (cB (spec_l1Value_sim h41) ?_))
 refine yG ?_
 intro _ hm
 cases hm
 exact vW [0, 1]
 refine yG ?_
 intro _ hm
 cases hm
 exact vW [0, 1]
 refine yG ?_
 intro _ hm
 cases hm
 exact vW [0, 1]
 refine bS hm (fun hb43 hm => ?_) fun hb43 hm => ?_
 refine yG ?_
 intro _ hm
 refine nO (cG [] (spec_l9Const_sim i.w x1.1) ?_)
 refine yG ?_
 intro _ hm
 cases hm
 exact rZ1
 refine yG ?_
 intro _ hm
 refine nO (kW ?_)
 obtain ⟨x44, h45, hm⟩ := of_bind hm
 refine nO (cG [] (spec_l2CopyInst_sim h45) ?_)
 refine yG ?_
 intro _ hm
 cases hm
 exact rZ1
/-- spec.FoldedInst -/
noncomputable def spec_FoldedInst_m (f : GFunc) (i : GInst) : Option GInst :=
 (Option.bind ((Option.bind (spec_l2Func_m f 3) fun x2 =>
 (if (!x2) = true then
 (some true)
 else
 (Option.bind (spec_CountOf_m f) fun x5 =>
 (Option.bind (spec_l2Inst_m i x5 3) fun x7 =>
 (some ((!x7)))))))) fun (j1 : Bool) =>
 (if j1 = true then
 (some (({ op_ := 0, w := 0, a := 0, b := 0, c := 0, imm := 0, args := [] } : GInst)))
 else
 (Option.bind (spec_l9Fold_m f i) fun x11 =>
 (some (({ op_ := x11.op_, w := x11.w, a := x11.a, b := x11.b, c := x11.c, imm := x11.imm, args := x11.args } : GInst))))))
theorem spec_FoldedInst_sim {f : GFunc} {i : GInst} {r : GInst} (hm : spec_FoldedInst_m f i = some r) : Sim Tryz.prog 20 [.agg (eFunc false f), .agg (eInst false i)] [] (.u (.agg (eInst false r))) [] := by
 refine fN 19 0 Tryz.func20 [.cell 4 29] fun B hB0 => ?_
 unfold spec_FoldedInst_m at hm
 refine Wp.seq ?_
 refine c_regS ?_
 refine yR ?_
 intro _ hm
 refine o_end ?_
 refine Wp.seq ?_
 refine Wp.seq ?_
 obtain ⟨j1, hj9, hm⟩ := of_bind hm
 refine c_cut (St 19 [(2, vP 0), (3, vP 1), (4, vP 2), (14, vB j1)] [(0, oL 3 (eFunc false f)), (1, oL 7 (eInst false i)), (2, oL 7 [.int .i64 0, .int .i64 0, .int .i64 0, .int .i64 0, .int .i64 0, .int .i64 0, .nl])] 3) ?_ ?_
 replace hm := hj9
 refine c_drw (Y := sysC _) mixed ?_
 refine tK 0 1 rfl (kW ?_)
 obtain ⟨x2, h3, hm⟩ := of_bind hm
 refine oK 1 rfl (cB (spec_l2Func_sim h3) ?_)
 refine tK 2 0 rfl (x_un rfl rfl ?_)
 refine tK 3 0 rfl (kV ?_)
 refine bT 8 hm (fun hb4 hm => ?_) fun hb4 hm => ?_
 refine tF 4 rfl ?_
 refine tF 5 rfl ?_
 refine tF 6 rfl ?_
 refine tF 7 rfl ?_
 refine tF 8 rfl ?_
 refine tK 9 0 rfl (x_pk rfl rfl rfl ?_)
 refine aN ?_
 cases hm
 exact vW [0, 1, 2]
 refine tG 4 1 rfl (kW ?_)
 refine tG 5 1 rfl (kW ?_)
 obtain ⟨x5, h6, hm⟩ := of_bind hm
 refine oG 6 rfl (cB (spec_CountOf_sim h6) ?_)
 obtain ⟨x7, h8, hm⟩ := of_bind hm
 refine oG 7 rfl (cB (spec_l2Inst_sim h8) ?_)
 refine tG 8 0 rfl (x_un rfl rfl ?_)
 refine tK 9 0 rfl (x_pk rfl rfl rfl ?_)
 refine aN ?_
 cases hm
 exact vW [0, 1, 2]
 refine bS hm (fun hb10 hm => ?_) fun hb10 hm => ?_
 refine yG ?_
 intro _ hm
 cases hm
 exact rZ1h (hg := f_nl 0 6 1 false rfl rfl rfl)
 refine yG ?_
 intro _ hm
 refine nO (kW ?_)
 refine nO (kW ?_)
 obtain ⟨x11, h12, hm⟩ := of_bind hm
 refine nO (cG [] (spec_l9Fold_sim h12) ?_)
 refine yG ?_
 intro _ hm
 cases hm
 exact rZ1
/-- laws.sameInts -/
noncomputable def laws_sameInts_m (a : List Int) (b : List Int) : Option Bool :=
 (if (((List.length a : Int)) != ((List.length b : Int))) = true then
 (some false)
 else
 (Option.bind (loopO (fun (st4 : Int) =>
 ((if decide (st4 < ((List.length a : Int))) = true then
 (if 0 ≤ st4 ∧ st4 < (List.length a : Int) then
 (if 0 ≤ st4 ∧ st4 < (List.length b : Int) then
 (if ((at_ a st4) != (at_ b st4)) = true then
 (some (Sum.inr ((Sum.inl (())))))
 else
 (if inI (st4 + 1) then
 (some (Sum.inl (st4 + 1)))
 else none))
 else none)
 else none)
 else
 (some (Sum.inr ((Sum.inr (())))))) : Option ((Int) ⊕ (Unit ⊕ Unit)))) 0) fun (y13 : Unit ⊕ Unit) => match y13 with
 | (Sum.inl j5) =>
 (some false)
 | (Sum.inr j6) =>
 (some true)))
theorem laws_sameInts_sim {a : List Int} {b : List Int} {r : Bool} (hm : laws_sameInts_m a b = some r) : Sim Tryz.prog 73 [.one (.bs () 1 (List.map iL a)), .one (.bs () 1 (List.map iL b))] [] (.u (.one (.bool r))) [] := by
 refine fN 26 0 Tryz.func73 [.tmp 4] fun B hB0 => ?_
 unfold laws_sameInts_m at hm
 refine yG ?_
 intro k1 hm
 refine bS hm (fun hb3 hm => ?_) fun hb3 hm => ?_
 refine yG ?_
 intro _ hm
 cases hm
 exact rZ1
 refine yG ?_
 intro _ hm
 obtain ⟨y13, hl14, hm⟩ := of_bind hm
 refine c_loop hl14 (fun (st4 : Int) => St 26 [(0, .u (.one (.bs () 1 (List.map iL a)))), (1, .u (.one (.bs () 1 (List.map iL b)))), (5, vI st4)] [] 0) (fun (y : Unit ⊕ Unit) => match y with | (Sum.inl j5) => (.ret, St 26 [(4, vB false)] [] 0) | (Sum.inr j6) => (.exit 0, St 26 [] [] 0)) (vW []) ?_ (by rintro (_ | _) <;> simp) ?_
 intro st4 x hm
 refine yG ?_
 intro k2 hm
 refine bS hm (fun hb8 hm => ?_) fun hb8 hm => ?_
 refine c_skip ?_
 refine Wp.seq ?_
 refine Wp.block ?_
 refine Wp.seq ?_
 refine c_drw (Y := sysC _) mixed ?_
 refine tK 0 0 rfl (kV ?_)
 refine tK 1 0 rfl (kV ?_)
 obtain ⟨h9, hm⟩ := of_ite hm
 refine tK 2 0 rfl (x_ixb E24 rfl rfl h9 ?_)
 refine tK 3 0 rfl (x_ldi T2 rfl rfl rfl ?_)
 refine tK 4 0 rfl (kV ?_)
 refine tK 5 0 rfl (kV ?_)
 obtain ⟨h10, hm⟩ := of_ite hm
 refine tK 6 0 rfl (x_ixb E24 rfl rfl h10 ?_)
 refine tK 7 0 rfl (x_ldi T2 rfl rfl rfl ?_)
 refine tK 8 0 rfl (x_bin T2 rfl rfl rfl ?_)
 refine aN ?_
 refine bS hm (fun hb11 hm => ?_) fun hb11 hm => ?_
 refine yG ?_
 intro _ hm
 cases hm
 exact ⟨rfl, vW []⟩
 refine yG ?_
 intro k3 hm
 cases hm
 exact ⟨rfl, vW []⟩
 refine c_exit ?_
 cases hm
 exact ⟨rfl, vW []⟩
 rcases y13 with j5 | j6 <;> simp only at hm
 cases hm
 exact rZ1
 refine yG ?_
 intro _ hm
 cases hm
 exact rZ1
end Go.Proofs.YtghdhjgoicnbcaaGreat.AM

namespace Go.Proofs.YtghdhjgoicnbcaaGreat.AM
open Go
set_option linter.unusedSimpArgs false
set_option linter.unusedVariables false
set_option maxHeartbeats 8000000
set_option maxRecDepth 100000
attribute [local irreducible] aopK awpOps Wp St WpO
/-- laws.sameInst -/
noncomputable def laws_sameInst_m (a : GInst) (b : GInst) : Option Bool :=
 (Option.bind ((if (a.op_ == b.op_) = true then
 (if (a.w == b.w) = true then
 (if (a.a == b.a) = true then
 (if (a.b == b.b) = true then
 (if (a.c == b.c) = true then
 (if (a.imm == b.imm) = true then
 (Option.bind (laws_sameInts_m a.args b.args) fun x8 =>
 (some x8))
 else
 (some false))
 else
 (some false))
 else
 (some false))
 else
 (some false))
 else
 (some false))
 else
 (some false))) fun (j1 : Bool) =>
 (some j1))
theorem laws_sameInst_sim {a : GInst} {b : GInst} {r : Bool} (hm : laws_sameInst_m a b = some r) : Sim Tryz.prog 19 [.agg (eInst false a), .agg (eInst false b)] [] (.u (.one (.bool r))) [] := by
 refine fN 52 0 Tryz.func19 [.tmp 4] fun B hB0 => ?_
 unfold laws_sameInst_m at hm
 refine Wp.seq ?_
 refine c_regS ?_
 refine yR ?_
 intro _ hm
 refine o_end ?_
 refine Wp.seq ?_
 obtain ⟨j1, hj10, hm⟩ := of_bind hm
 refine c_cut (St 52 [(4, vB j1)] [] 0) ?_ ?_
 replace hm := hj10
 refine yG ?_
 intro _ hm
 refine bG1 hm (fun hb2 hm => ?_) fun hb2 hm => ?_
 refine yG ?_
 intro _ hm
 refine bG1 hm (fun hb3 hm => ?_) fun hb3 hm => ?_
 refine yG ?_
 intro _ hm
 refine bG1 hm (fun hb4 hm => ?_) fun hb4 hm => ?_
 refine yG ?_
 intro _ hm
 refine bG1 hm (fun hb5 hm => ?_) fun hb5 hm => ?_
 refine yG ?_
 intro _ hm
 refine bG1 hm (fun hb6 hm => ?_) fun hb6 hm => ?_
 refine yG ?_
 intro _ hm
 refine bG1 hm (fun hb7 hm => ?_) fun hb7 hm => ?_
 refine yG ?_
 intro _ hm
 obtain ⟨x8, h9, hm⟩ := of_bind hm
 refine gO_t rfl rfl rfl (aopK_A (cB (laws_sameInts_sim h9) ?_))
 refine yG ?_
 intro _ hm
 cases hm
 exact vW []
 refine yG ?_
 intro _ hm
 cases hm
 exact vW []
 refine yG ?_
 intro _ hm
 cases hm
 exact vW []
 refine yG ?_
 intro _ hm
 cases hm
 exact vW []
 refine yG ?_
 intro _ hm
 cases hm
 exact vW []
 refine yG ?_
 intro _ hm
 cases hm
 exact vW []
 refine yG ?_
 intro _ hm
 cases hm
 exact vW []
 refine c_ret ?_
 cases hm
 exact rZ1
/-- laws.FnFoldedInst -/
noncomputable def laws_FnFoldedInst_m (code : List Int) : Option Bool :=
 (if (laws_big_m code) = true then
 (some true)
 else
 (Option.bind (spec_DrawFoldedInst_m code) fun x2 =>
 (Option.bind (impl_FoldedInst_m x2.1 x2.2) fun x4 =>
 (Option.bind (spec_DrawConstOf_m code) fun x6 =>
 (Option.bind (impl_ConstOf_m x6.1 x6.2) fun x8 =>
 (Option.bind (spec_ConstOf_m x6.1 x6.2) fun x10 =>
 (Option.bind ((Option.bind (spec_FoldedInst_m x2.1 x2.2) fun x13 =>
 (Option.bind (laws_sameInst_m x4 x13) fun x15 =>
 (if (!x15) = true then
 (some true)
 else
 (if (x8.1 != x10.1) = true then
 (some true)
 else
 (some ((!(x8.2 == x10.2))))))))) fun (j12 : Bool) =>
 (if j12 = true then
 (some false)
 else
 (Option.bind ((if (x4.op_ == 21) = true then
 (some true)
 else
 (if (x4.op_ == 27) = true then
 (some true)
 else
 (Option.bind (laws_sameInst_m x4 x2.2) fun x24 =>
 (if x24 = true then
 (some true)
 else
 (some ((x4.op_ == 0)))))))) fun (j21 : Bool) =>
 (some j21))))))))))
theorem laws_FnFoldedInst_sim {code : List Int} {r : Bool} (hm : laws_FnFoldedInst_m code = some r) : Sim Tryz.prog 3 [.one (.bs () 1 (List.map (iK .u8) code))] [] (.u (.one (.bool r))) [] := by
 refine fN 73 0 Tryz.func3 [.tmp 2] fun B hB0 => ?_
 unfold laws_FnFoldedInst_m at hm
 refine yG ?_
 intro _ hm
 refine nO (aopK_A (cB (laws_big_sim code) ?_))
 refine o_end ?_
 refine bS hm (fun hb1 hm => ?_) fun hb1 hm => ?_
 refine yG ?_
 intro _ hm
 cases hm
 exact rZ1
 refine yG ?_
 intro _ hm
 obtain ⟨x2, h3, hm⟩ := of_bind hm
 refine nO (cG [] (spec_DrawFoldedInst_sim h3) ?_)
 refine yG ?_
 intro _ hm
 refine nO (kW ?_)
 refine nO (kW ?_)
 obtain ⟨x4, h5, hm⟩ := of_bind hm
 refine nO (cG [] (impl_FoldedInst_sim h5) ?_)
 refine yG ?_
 intro _ hm
 obtain ⟨x6, h7, hm⟩ := of_bind hm
 refine nO (cG [] (spec_DrawConstOf_sim h7) ?_)
 refine yG ?_
 intro _ hm
 refine nO (kW ?_)
 refine yG ?_
 intro _ hm
 obtain ⟨x8, h9, hm⟩ := of_bind hm
 refine nO (aopK_A (cB (impl_ConstOf_sim h9) ?_))
 refine yG ?_
 intro _ hm
 refine nO (kW ?_)
 refine yG ?_
 intro _ hm
 obtain ⟨x10, h11, hm⟩ := of_bind hm
 refine nO (aopK_A (cB (spec_ConstOf_sim h11) ?_))
 refine yR ?_
 intro _ hm
 refine o_end ?_
 refine Wp.seq ?_
 refine Wp.seq ?_
 obtain ⟨j12, hj19, hm⟩ := of_bind hm
 refine c_cut (St 73 [(4, vP 0), (5, vP 1), (54, vB j12)] [(0, oL 7 (eInst false x2.2)), (1, oL 7 (eInst false x4))] 2) ?_ ?_
 replace hm := hj19
 refine c_drw (Y := sysG _) mixed ?_
 refine tD 1 1 [3, 4, 5, 6, 7, 8, 9, 10, 11, 12, 13, 14, 15] rfl (kW ?_)
 refine tD 2 1 [3, 4, 5, 6, 7, 8, 9, 10, 11, 12, 13, 14, 15] rfl (kW ?_)
 refine t_2 0 3 rfl rfl (by decide +kernel) ?_ ?_
 refine (kW ?_)
 obtain ⟨x13, h14, hm⟩ := of_bind hm
 refine oK 3 rfl (cgG [] (spec_FoldedInst_sim h14) ?_)
 obtain ⟨x15, h16, hm⟩ := of_bind hm
 refine oK 4 rfl (aopK_G (cB (laws_sameInst_sim h16) ?_))
 refine tK 5 0 rfl (x_un rfl rfl ?_)
 refine tK 6 0 rfl (kV ?_)
 refine bT 45 hm (fun hb17 hm => ?_) fun hb17 hm => ?_
 refine tF 7 rfl ?_
 refine tF 8 rfl ?_
 refine tF 9 rfl ?_
 refine tK 10 0 rfl (x_pk rfl rfl rfl ?_)
 refine tK 11 0 rfl (kV ?_)
 refine tF 12 rfl ?_
 refine tF 13 rfl ?_
 refine tF 14 rfl ?_
 refine tK 15 0 rfl (x_pk rfl rfl rfl ?_)
 refine aN ?_
 cases hm
 exact vW [1, 2]
 refine tG 7 0 rfl (kV ?_)
 refine tG 8 0 rfl (kV ?_)
 refine tG 9 0 rfl (x_bin T2 rfl rfl rfl ?_)
 refine tK 10 0 rfl (x_pk rfl rfl rfl ?_)
 refine tK 11 0 rfl (kV ?_)
 refine bT 50 hm (fun hb18 hm => ?_) fun hb18 hm => ?_
 refine tF 12 rfl ?_
 refine tF 13 rfl ?_
 refine tF 14 rfl ?_
 refine tK 15 0 rfl (x_pk rfl rfl rfl ?_)
 refine aN ?_
 cases hm
 exact vW [1, 2]
 refine tG 12 0 rfl (kV ?_)
 refine tG 13 0 rfl (kV ?_)
 refine tG 14 0 rfl (x_bin T4 rfl rfl rfl ?_)
 refine tK 15 0 rfl (x_pk rfl rfl rfl ?_)
 refine aN ?_
 cases hm
 exact vW [1, 2]
 obtain ⟨x13, h14, hm⟩ := of_bind hm
 refine (cgG [] (spec_FoldedInst_sim h14) ?_)
 refine tK 0 1 rfl (kW ?_)
 obtain ⟨x15, h16, hm⟩ := of_bind hm
 refine oK 4 rfl (aopK_G (cB (laws_sameInst_sim h16) ?_))
 refine tK 5 0 rfl (x_un rfl rfl ?_)
 refine tK 6 0 rfl (kV ?_)
 refine bT 45 hm (fun hb17 hm => ?_) fun hb17 hm => ?_
 refine tF 7 rfl ?_
 refine tF 8 rfl ?_
 refine tF 9 rfl ?_
 refine tK 10 0 rfl (x_pk rfl rfl rfl ?_)
 refine tK 11 0 rfl (kV ?_)
 refine tF 12 rfl ?_
 refine tF 13 rfl ?_
 refine tF 14 rfl ?_
 refine tK 15 0 rfl (x_pk rfl rfl rfl ?_)
 refine aN ?_
 cases hm
 exact vW [1, 2]
 refine tG 7 0 rfl (kV ?_)
 refine tG 8 0 rfl (kV ?_)
 refine tG 9 0 rfl (x_bin T2 rfl rfl rfl ?_)
 refine tK 10 0 rfl (x_pk rfl rfl rfl ?_)
 refine tK 11 0 rfl (kV ?_)
 refine bT 50 hm (fun hb18 hm => ?_) fun hb18 hm => ?_
 refine tF 12 rfl ?_
 refine tF 13 rfl ?_
 refine tF 14 rfl ?_
 refine tK 15 0 rfl (x_pk rfl rfl rfl ?_)
 refine aN ?_
 cases hm
 exact vW [1, 2]
 refine tG 12 0 rfl (kV ?_)
 refine tG 13 0 rfl (kV ?_)
 refine tG 14 0 rfl (x_bin T4 rfl rfl rfl ?_)
 refine tK 15 0 rfl (x_pk rfl rfl rfl ?_)
 refine aN ?_
 cases hm
 exact vW [1, 2]
 refine bS hm (fun hb20 hm => ?_) fun hb20 hm => ?_
 refine yG ?_
 intro _ hm
 cases hm
 exact rZ1
 refine c_skip ?_
 refine Wp.seq ?_
 obtain ⟨j21, hj27, hm⟩ := of_bind hm
 refine c_cut (St 73 [(2, vB j21)] [] 0) ?_ ?_
 replace hm := hj27
 refine yG ?_
 intro _ hm
 refine bG0 hm (fun hb22 hm => ?_) fun hb22 hm => ?_
 refine yG ?_
 intro _ hm
 refine bG0 hm (fun hb23 hm => ?_) fun hb23 hm => ?_
 refine gO_t rfl rfl rfl (kW ?_)
 refine gO_t rfl rfl rfl (kW ?_)
 obtain ⟨x24, h25, hm⟩ := of_bind hm
 refine gO_t rfl rfl rfl (aopK_A (cB (laws_sameInst_sim h25) ?_))
 refine yG ?_
 intro _ hm
 refine bG0 hm (fun hb26 hm => ?_) fun hb26 hm => ?_
 refine yG ?_
 intro _ hm
 cases hm
 exact vW []
 refine yG ?_
 intro _ hm
 cases hm
 exact vW []
 refine yG ?_
 intro _ hm
 cases hm
 exact vW []
 refine yG ?_
 intro _ hm
 cases hm
 exact vW []
 refine c_ret ?_
 cases hm
 exact rZ1
end Go.Proofs.YtghdhjgoicnbcaaGreat.AM

namespace Go.Proofs.YtghdhjgoicnbcaaGreat.AM
open Go

theorem loop_anyN {α : Type} {body : Int → Option (Int ⊕ (α ⊕ Unit))} (n : Nat) (c : Nat → Bool) (a : Nat → α) (h1 : ∀ k : Nat, k < n → body (k : Int) = some (if c k = true then .inr (.inl (a k)) else .inl ((k : Int) + 1)))
    (h2 : body (n : Int) = some (.inr (.inr ()))) :
    (∃ k, k < n ∧ c k = true ∧ (∀ j, j < k → c j = false) ∧ loopO body 0 = some (.inl (a k))) ∨ ((∀ k, k < n → c k = false) ∧ loopO body 0 = some (.inr ())) := by
  have key : ∀ m k : Nat, k + m = n → (∃ i, k ≤ i ∧ i < n ∧ c i = true ∧ (∀ j, k ≤ j → j < i → c j = false) ∧ loopO body (k : Int) = some (.inl (a i))) ∨ ((∀ i, k ≤ i → i < n → c i = false) ∧ loopO body (k : Int) = some (.inr ())) := by
    intro m
    induction m with
    | zero =>
      intro k hk
      obtain rfl : k = n := by omega
      exact .inr ⟨fun i h1 h2 => by omega, by rw [loopO_step, h2]; rfl⟩
    | succ m ih =>
      intro k hk
      by_cases hc : c k = true
      · exact .inl ⟨k, Nat.le_refl _, by omega, hc, fun j h1 h2 => by omega, by rw [loopO_step, h1 k (by omega), if_pos hc]; rfl⟩
      · have hc' : c k = false := by simpa using hc
        have e : loopO body (k : Int) = loopO body ((k + 1 : Nat) : Int) := by
          rw [loopO_step, h1 k (by omega), if_neg hc]
          simp
        rcases ih (k + 1) (by omega) with ⟨i, p1, p2, p3, p4, p5⟩ | ⟨p1, p2⟩
        · refine .inl ⟨i, by omega, p2, p3, fun j hj hji => ?_, by rw [e]; exact p5⟩
          rcases Nat.lt_or_ge k j with h | h
          · exact p4 j (by omega) hji
          · obtain rfl : j = k := by omega
            exact hc'
        · refine .inr ⟨fun i hi hin => ?_, by rw [e]; exact p2⟩
          rcases Nat.lt_or_ge k i with h | h
          · exact p1 i (by omega) hin
          · obtain rfl : i = k := by omega
            exact hc'
  rcases key n 0 (by omega) with ⟨k, _, p2, p3, p4, p5⟩ | ⟨p1, p2⟩
  · exact .inl ⟨k, p2, p3, fun j hj => p4 j (Nat.zero_le _) hj, p5⟩
  · exact .inr ⟨fun i hi => p1 i (Nat.zero_le _) hi, p2⟩
/-- Where only it matters that one is found. -/
theorem loop_any {α β : Type} [Inhabited β] {body : Int → Option (Int ⊕ (α ⊕ Unit))} (xs : List β) (c : β → Bool) (a : Nat → α) (h1 : ∀ k : Nat, k < xs.length → body (k : Int) = some (if c (at_ xs k) = true then .inr (.inl (a k)) else .inl ((k : Int) + 1)))
    (h2 : body (xs.length : Int) = some (.inr (.inr ()))) :
    (xs.any c = true ∧ ∃ k, k < xs.length ∧ loopO body 0 = some (.inl (a k))) ∨ (xs.any c = false ∧ loopO body 0 = some (.inr ())) := by
  have hat : ∀ k (h : k < xs.length), at_ xs (k : Int) = xs[k] := fun k h => by simp [at_, List.getD_eq_getElem?_getD, List.getElem?_eq_getElem h]
  rcases loop_anyN xs.length (fun k => c (at_ xs (k : Int))) a h1 h2 with ⟨k, p1, p2, _, p4⟩ | ⟨p1, p2⟩
  · exact .inl ⟨List.any_eq_true.2 ⟨xs[k], List.getElem_mem p1, by rw [← hat k p1]; exact p2⟩, k, p1, p4⟩
  · refine .inr ⟨?_, p2⟩
    rw [List.any_eq_false]
    intro x hx
    obtain ⟨k, hk, rfl⟩ := List.getElem_of_mem hx
    have := p1 k hk
    rw [hat k hk] at this
    simp [this]
theorem at_nat {β : Type} [Inhabited β] {xs : List β} {k : Nat} (h : k < xs.length) : at_ xs (k : Int) = xs[k] := by simp [at_, List.getD_eq_getElem?_getD, List.getElem?_eq_getElem h]
theorem loop_anyN' {α : Type} {body : Int → Option (Int ⊕ (α ⊕ Unit))} {L : Option (α ⊕ Unit)} (hB : loopO body 0 = L) (n : Nat) (c : Nat → Bool) (a : Nat → α)
    (h1 : ∀ k : Nat, k < n → body (k : Int) = some (if c k = true then .inr (.inl (a k)) else .inl ((k : Int) + 1))) (h2 : body (n : Int) = some (.inr (.inr ()))) :
    (∃ k, k < n ∧ c k = true ∧ (∀ j, j < k → c j = false) ∧ L = some (.inl (a k))) ∨ ((∀ k, k < n → c k = false) ∧ L = some (.inr ())) := by
  subst hB
  exact loop_anyN n c a h1 h2
theorem loop_any' {α β : Type} [Inhabited β] {body : Int → Option (Int ⊕ (α ⊕ Unit))} {L : Option (α ⊕ Unit)} (hB : loopO body 0 = L) (xs : List β) (c : β → Bool) (a : Nat → α)
    (h1 : ∀ k : Nat, k < xs.length → body (k : Int) = some (if c (at_ xs k) = true then .inr (.inl (a k)) else .inl ((k : Int) + 1))) (h2 : body (xs.length : Int) = some (.inr (.inr ()))) :
    (xs.any c = true ∧ ∃ k, k < xs.length ∧ L = some (.inl (a k))) ∨ (xs.any c = false ∧ L = some (.inr ())) := by
  subst hB
  exact loop_any xs c a h1 h2
end Go.Proofs.YtghdhjgoicnbcaaGreat.AM

namespace Go.Proofs.YtghdhjgoicnbcaaGreat.AM
open Go Go.WideShapes Go.ChangeShapes

/-- The form of a type of data. -/
inductive Ty : Type where
  | int (k : IntKind)
  | bool
  | str
  | sl (n b : Nat) (e : Ty)
  | st (fs : List Ty)
mutual
inductive TyP (P : Program) : TypeId → Ty → Prop
  | int {t k} : P.underlying t = some (.int k) → TyP P t (.int k)
  | bool {t} : P.underlying t = some .bool → TyP P t .bool
  | str {t} : P.underlying t = some .string → TyP P t .str
  | sl {t e n b ty} : P.underlying t = some (.slice e) → P.cellsOf e = n → P.bytesOf e = b → 0 < n → 0 < b → TyP P e ty → TyP P t (.sl n b ty)
  | st {t gs fs m} : P.underlying t = some (.struct gs) → P.cellsOf t = m → FsP P gs.toList fs 0 m → TyP P t (.st fs)
inductive FsP (P : Program) : List Field → List Ty → Nat → Nat → Prop
  | nil {m} : FsP P [] [] m m
  | cons {g gs ty tys o c m} : g.offset = o → P.cellsOf g.type = c → TyP P g.type ty → FsP P gs tys (o + c) m → FsP P (g :: gs) (ty :: tys) o m
end
def fsB (P : Program) (tb : TypeId → Ty → Bool) : List Field → List Ty → Nat → Nat → Bool
  | [], [], o, m => Nat.beq o m
  | g :: gs, ty :: tys, o, m => Nat.beq g.offset o && tb g.type ty && fsB P tb gs tys (o + P.cellsOf g.type) m
  | _, _, _, _ => false
def tyB (P : Program) : Nat → TypeId → Ty → Bool
  | 0, _, _ => false
  | _ + 1, t, .int k => match P.underlying t with
    | some (.int k') => decide (k' = k)
    | _ => false
  | _ + 1, t, .bool => match P.underlying t with
    | some .bool => true
    | _ => false
  | _ + 1, t, .str => match P.underlying t with
    | some .string => true
    | _ => false
  | f + 1, t, .sl n b e => match P.underlying t with
    | some (.slice t') => Nat.beq (P.cellsOf t') n && Nat.beq (P.bytesOf t') b && Nat.blt 0 n && Nat.blt 0 b && tyB P f t' e
    | _ => false
  | f + 1, t, .st fs => match P.underlying t with
    | some (.struct gs) => fsB P (tyB P f) gs.toList fs 0 (P.cellsOf t)
    | _ => false
theorem fsB_sound {P : Program} {tb : TypeId → Ty → Bool} (h : ∀ t ty, tb t ty = true → TyP P t ty) : ∀ {gs : List Field} {fs : List Ty} {o m : Nat}, fsB P tb gs fs o m = true → FsP P gs fs o m
  | [], [], o, m, hb => by
    have := Nat.eq_of_beq_eq_true hb
    subst this
    exact .nil
  | g :: gs, ty :: tys, o, m, hb => by
    simp only [fsB, Bool.and_eq_true] at hb
    obtain ⟨⟨h1, h2⟩, h3⟩ := hb
    exact .cons (Nat.eq_of_beq_eq_true h1) rfl (h _ _ h2) (fsB_sound h h3)
  | [], _ :: _, _, _, hb => by cases hb
  | _ :: _, [], _, _, hb => by cases hb
theorem tyB_sound {P : Program} : ∀ {f : Nat} {t : TypeId} {ty : Ty}, tyB P f t ty = true → TyP P t ty
  | 0, _, _, h => by simp [tyB] at h
  | f + 1, t, .int k, h => by
    unfold tyB at h
    split at h
    · rename_i k' hu
      have := of_decide_eq_true h
      subst this
      exact .int hu
    · cases h
  | f + 1, t, .bool, h => by
    unfold tyB at h
    split at h
    · rename_i hu; exact .bool hu
    · cases h
  | f + 1, t, .str, h => by
    unfold tyB at h
    split at h
    · rename_i hu; exact .str hu
    · cases h
  | f + 1, t, .sl n b e, h => by
    unfold tyB at h
    split at h
    · rename_i t' hu
      simp only [Bool.and_eq_true] at h
      obtain ⟨⟨⟨⟨h1, h2⟩, h3⟩, h4⟩, h5⟩ := h
      exact .sl hu (Nat.eq_of_beq_eq_true h1) (Nat.eq_of_beq_eq_true h2) (blt_lt h3) (blt_lt h4) (tyB_sound h5)
    · cases h
  | f + 1, t, .st fs, h => by
    unfold tyB at h
    split at h
    · rename_i gs hu
      exact .st hu rfl (fsB_sound (fun t ty ht => tyB_sound ht) h)
    · cases h
/-- The cells of a value of a form. -/
inductive Fits {δ : Type} : Ty → List (L δ) → Prop
  | int {k n} : (Lit.int k n).wf = true → Fits (.int k) [.int k n]
  | bool {b} : Fits .bool [.bool b]
  | str {s : ByteArray} : s.size ≤ reachBytes → Fits .str [.str s]
  | sl {n b e v rows} : rows.length * b ≤ reachBytes → (∀ r ∈ rows, Fits e r) → Fits (.sl n b e) [.bs v n rows]
  | st0 : Fits (.st []) []
  | st {t ts a b} : Fits t a → Fits (.st ts) b → Fits (.st (t :: ts)) (a ++ b)
theorem Fits.map {δ ε : Type} (g : δ → ε) : ∀ {ty : Ty} {ls : List (L δ)}, Fits ty ls → Fits ty (ls.map (mapL g)) := by
  intro ty ls h
  induction h with
  | int h => exact .int h
  | bool => exact .bool
  | str h => exact .str h
  | sl h _ ih =>
    simp only [List.map_cons, List.map_nil, mapL, mapR_eq]
    refine .sl (by simpa using h) fun r hr => ?_
    obtain ⟨r0, h0, rfl⟩ := List.mem_map.1 hr
    exact ih r0 h0
  | st0 => exact .st0
  | st _ _ h1 h2 => rw [List.map_append]; exact .st h1 h2
/-- A leaf that is only read. -/
structure Pl (w : World) (l : L Value) : Prop where
  wf : ∀ nest, wfL nest l
  ids : idsL l = []
  own : ownL l = []
  ref : ∀ ob, refOk ob l
  imm : ∀ q ∈ immL l, q.2 ≠ [] → ImmFact w q
theorem pl_int {w : World} {k n} : Pl w (.int k n) := ⟨fun _ => trivial, rfl, rfl, fun _ => trivial, fun q hq => by simp [immL] at hq⟩
theorem pl_bool {w : World} {b} : Pl w (.bool b) := ⟨fun _ => trivial, rfl, rfl, fun _ => trivial, fun q hq => by simp [immL] at hq⟩
theorem pl_str {w : World} {b} : Pl w (.str b) := ⟨fun _ => trivial, rfl, rfl, fun _ => trivial, fun q hq => by simp [immL] at hq⟩
theorem choose_rows {α : Type} {R : Nat → α → Prop} : ∀ n : Nat, (∀ i, i < n → ∃ r, R i r) → ∃ rows : List α, rows.length = n ∧ ∀ (i : Nat) r, rows[i]? = some r → R i r
  | 0, _ => ⟨[], rfl, fun i r h => by simp at h⟩
  | n + 1, h => by
    obtain ⟨rows, h1, h2⟩ := choose_rows n fun i hi => h i (by omega)
    obtain ⟨r, hr⟩ := h n (by omega)
    refine ⟨rows ++ [r], by simp [h1], fun i x hx => ?_⟩
    rcases Nat.lt_trichotomy i n with hi | hi | hi
    · rw [List.getElem?_append_left (by omega)] at hx
      exact h2 i x hx
    · subst hi
      rw [List.getElem?_append_right (by omega), h1, Nat.sub_self] at hx
      cases hx
      exact hr
    · rw [List.getElem?_eq_none (by simp; omega)] at hx
      cases hx
theorem weights_all {H : Type} {P : Program} {e : TypeId} : ∀ {ds : List (DataW H)} {i : Nat} {d : DataW H}, ds[i]? = some d → ∀ n ∈ d.weights P e, n ∈ DataW.weightsAll P e ds
  | d0 :: ds, 0, d, hd, n, hn => by
    simp only [List.getElem?_cons_zero, Option.some.injEq] at hd
    subst hd
    simp only [DataW.weightsAll, List.mem_append]
    exact .inl hn
  | d0 :: ds, i + 1, d, hd, n, hn => by
    simp only [List.getElem?_cons_succ] at hd
    simp only [DataW.weightsAll, List.mem_append]
    exact .inr (weights_all hd n hn)
theorem valR_at {n : Nat} {rows : List (List (L Value))} (hl : ∀ r ∈ rows, r.length = n) {j : Nat} {v : Value} (h : (valR rows)[j]? = some v) : ∃ r, rows[j / n]? = some r ∧ (r.map val)[j % n]? = some v ∧ 0 < n := by
  have hlt := (List.getElem?_eq_some_iff.1 h).1
  rw [valR_len hl] at hlt
  have hn : 0 < n := by
    rcases Nat.eq_zero_or_pos n with h0 | h0
    · subst h0; omega
    · exact h0
  have hi : j / n < rows.length := Nat.div_lt_of_lt_mul (by rw [Nat.mul_comm]; exact hlt)
  have hr := List.getElem?_eq_getElem hi
  have hm := Nat.mod_lt j hn
  have hlr := hl _ (List.mem_of_getElem? hr)
  have hx := List.getElem?_eq_getElem (l := rows[j / n]) (i := j % n) (by omega)
  have := valR_get hl hr hx
  refine ⟨_, hr, ?_, hn⟩
  have e : j / n * n + j % n = j := by rw [Nat.mul_comm]; exact Nat.div_add_mod j n
  rw [e] at this
  rw [List.getElem?_map, hx, ← h, this]
  rfl
section
variable {H : Type} {enc : TypeId × Value → H} {P : Program} {w : World} {base : Nat} {spare : Nat → Bool} {held : Bool}
/-- What a value reads as. -/
theorem reading : ∀ (fuel : Nat) {t : TypeId} {ty : Ty} {cs : List Value} {x : DataW H × List MemPlace}, TyP P t ty → DataW.trod enc P w base spare held fuel t cs = some x → (∀ n ∈ x.1.weights P t, n ≤ reachBytes) →
    ∃ ls : List (L Value), ls.map val = cs ∧ Fits ty ls ∧ (∀ l ∈ ls, Pl w l) ∧ (P.underlying t = P.underlying t) := by
  intro fuel
  induction fuel with
  | zero => intro t ty cs x _ h; simp [DataW.trod] at h
  | succ fuel ih =>
    intro t ty cs x hty h hw
    cases hty with
    | int hu =>
      obtain ⟨n, rfl, rfl, hwf⟩ := DataW.trod_int hu h
      exact ⟨[.int _ n], rfl, .int hwf, by simpa using pl_int, rfl⟩
    | bool hu =>
      obtain ⟨b, rfl, rfl⟩ := DataW.trod_bool hu h
      exact ⟨[.bool b], rfl, .bool, by simpa using pl_bool, rfl⟩
    | str hu =>
      obtain ⟨s, rfl, rfl, _⟩ := DataW.trod_string hu h
      refine ⟨[.str s], rfl, .str ?_, by simpa using pl_str, rfl⟩
      have := hw s.data.toList.length (by simp [DataW.weights])
      simpa using this
    | sl hu hn hb hn0 hb0 he =>
      rename_i e n b ty'
      rcases DataW.trod_slice hu h with ⟨rfl, rfl⟩ | ⟨a, len, cap, elems, rest, m, hm, rfl, rfl, hbs, hl, hm2, hlen, hel, _, _⟩
      · refine ⟨[.bs (.slice none 0 0) n []], rfl, .sl (by simp) (by simp), ?_, rfl⟩
        intro l hl
        simp only [List.mem_singleton] at hl
        subst hl
        exact ⟨fun _ => ⟨⟨none, 0, rfl, by simp, by simp [LIM], by simp⟩, by simp, by simp [wfR]⟩, rfl, rfl, fun _ => trivial, fun q hq => by simp [immL, hdrImm, immR] at hq⟩
      · obtain rfl : fuel = m := by omega
        have hlenb : (elems.length + rest.length) * b ≤ reachBytes := by
          have := hw ((elems.length + rest.length) * P.bytesOf e) (by simp [DataW.weights, hu])
          rwa [hb] at this
        obtain ⟨rows, hr1, hr2⟩ := choose_rows (R := fun i (r : List (L Value)) => (∃ c, w.cells? base (a.add (i * n)) n = some c ∧ r.map val = c) ∧ Fits ty' r ∧ (∀ l ∈ r, Pl w l)) len fun i hi => by
          have h1 := hel i hi
          have hie : i < elems.length := by omega
          rw [List.getElem?_eq_getElem hie, Option.bind_eq_some_iff, hn] at h1
          obtain ⟨c, hc, ht⟩ := h1
          obtain ⟨ls, e1, e2, e3, _⟩ := ih he ht fun k hk => hw k (by
            simp only [DataW.weights, hu, List.mem_cons, List.mem_append]
            refine .inr (.inl (weights_all (i := i) ?_ k hk))
            rw [List.getElem?_map, List.getElem?_eq_getElem hie]
            rfl)
          exact ⟨ls, ⟨c, hc, e1⟩, e2, e3⟩
        have hmem : ∀ r ∈ rows, Fits ty' r ∧ (∀ l ∈ r, Pl w l) ∧ r.length = n := fun r hr => by
          obtain ⟨i, hi⟩ := List.getElem?_of_mem hr
          obtain ⟨⟨c, hc, e1⟩, e2, e3⟩ := hr2 i r hi
          refine ⟨e2, e3, ?_⟩
          have := (World.cells?_some hc).2.1
          rw [← e1, List.length_map] at this
          exact this
        have hsp : rows ≠ [] → a = ⟨a.block, a.off, none⟩ := fun hne => by
          obtain ⟨r, hr⟩ : ∃ r, rows[0]? = some r := by
            cases rows with
            | nil => exact absurd rfl hne
            | cons r _ => exact ⟨r, rfl⟩
          obtain ⟨⟨c, hc, e1⟩, _⟩ := hr2 0 r hr
          obtain ⟨_, k1, k2⟩ := World.cells?_some hc
          have := k2 0 hn0
          rw [List.getElem?_eq_getElem (by omega), Nat.zero_mul] at this
          have h0 : (a.add 0).add 0 = a := by simp [Addr.add]
          rw [h0] at this
          have := World.cell?_spot this
          cases a
          simp only at this
          subst this
          rfl
        have hLen : rows.length ≤ LIM := by
          have h3 : len * b ≤ reachBytes := Nat.le_trans (Nat.mul_le_mul_right _ (by omega)) hlenb
          have h4 : len * 1 ≤ len * b := Nat.mul_le_mul_left _ hb0
          have h5 : reachBytes ≤ LIM := by decide
          omega
        refine ⟨[.bs (.slice (some a) len cap) n rows], rfl, .sl ?_ (fun r hr => (hmem r hr).1), ?_, rfl⟩
        · rw [hr1]
          exact Nat.le_trans (Nat.mul_le_mul_right _ (by omega)) hlenb
        · intro l hl'
          simp only [List.mem_singleton] at hl'
          subst hl'
          refine ⟨fun nest => ⟨⟨some a, cap, by rw [hr1], by omega, hLen, fun hne => ⟨a.block, a.off, by rw [← hsp hne]⟩⟩, fun r hr => (hmem r hr).2.2, ?_⟩, rfl, rfl, fun _ => trivial, fun q hq hne => ?_⟩
          · exact (wfR_iff true rows).2 fun r hr l hl => ((hmem r hr).2.1 l hl).wf true
          · simp only [immL, hdrImm, List.mem_append, List.mem_singleton] at hq
            rcases hq with rfl | hq
            · intro j v hj
              obtain ⟨r, k1, k2, _⟩ := valR_at (fun r hr => (hmem r hr).2.2) hj
              obtain ⟨⟨c, hc, e1⟩, _⟩ := hr2 _ r k1
              obtain ⟨_, k3, k4⟩ := World.cells?_some hc
              have hr0 : rows ≠ [] := fun h0 => by rw [h0] at k1; simp at k1
              have := k4 (j % n) (Nat.mod_lt _ hn0)
              rw [← e1, k2, hsp hr0, addr_add, addr_add] at this
              simp only at this ⊢
              rw [← this]
              congr 2
              have := Nat.div_add_mod j n
              rw [Nat.mul_comm] at this
              omega
            · rw [immR_eq] at hq
              obtain ⟨l, hl, hq⟩ := List.mem_flatMap.1 hq
              obtain ⟨r, hr, hl⟩ := List.mem_flatten.1 hl
              exact ((hmem r hr).2.1 l hl).imm q hq hne
    | st hu hm hfs =>
      rename_i gs fs m
      obtain ⟨xs, k, hk, rfl, hcs, hxl, hxs⟩ := DataW.trod_struct hu h
      obtain rfl : fuel = k := by omega
      rw [hm] at hcs
      have key : ∀ (gl : List Field) (fs : List Ty) (o i : Nat), FsP P gl fs o m → gs.toList.drop i = gl → o ≤ m → ∃ ls : List (L Value), ls.map val = cs.drop o ∧ Fits (.st fs) ls ∧ ∀ l ∈ ls, Pl w l := by
        intro gl
        induction gl with
        | nil =>
          intro fs o i hf _ ho
          cases hf
          exact ⟨[], by rw [List.drop_of_length_le (by omega)]; rfl, .st0, by simp⟩
        | cons g gl ihg =>
          intro fs o i hf hd ho
          cases hf with
          | cons h1 h2 h3 h4 =>
            rename_i ty1 tys c
            have hgi : gs[i]? = some g := by
              have : (gs.toList.drop i)[0]? = some g := by rw [hd]; rfl
              rw [List.getElem?_drop] at this
              simpa using this
            have h5 := hxs i g hgi
            have hi : i < xs.length := by
              rw [hxl]
              exact (Array.getElem?_eq_some_iff.1 hgi).1
            rw [List.getElem?_eq_getElem hi] at h5
            obtain ⟨ls1, a1, a2, a3, _⟩ := ih h3 h5 fun n hn => hw n (by
              simp only [DataW.weights, hu]
              refine DataW.weights_mem_each (j := i) (t := g.type) (d := (xs[i]'hi).1) ?_ ?_ n hn
              · rw [List.getElem?_map, Array.getElem?_toList, hgi]; rfl
              · rw [List.getElem?_map, List.getElem?_eq_getElem hi]; rfl)
            have hle : o + c ≤ m := by
              clear ihg
              have : ∀ {gl : List Field} {tys : List Ty} {o m : Nat}, FsP P gl tys o m → o ≤ m := by
                intro gl
                induction gl with
                | nil => intro tys o m h; cases h; omega
                | cons g gl ih =>
                  intro tys o m h
                  cases h with
                  | cons _ _ _ h => have := ih h; omega
              exact this h4
            obtain ⟨ls2, b1, b2, b3⟩ := ihg tys (o + c) (i + 1) h4 (by rw [← List.drop_drop, hd]; rfl) hle
            refine ⟨ls1 ++ ls2, ?_, .st a2 b2, fun l hl => (List.mem_append.1 hl).elim (a3 l) (b3 l)⟩
            rw [List.map_append, a1, b1, h1, h2]
            rw [← List.drop_drop]
            exact List.take_append_drop c _
      obtain ⟨ls, a1, a2, a3⟩ := key gs.toList fs 0 0 hfs rfl (Nat.zero_le _)
      exact ⟨ls, by simpa using a1, a2, a3, rfl⟩
end
end Go.Proofs.YtghdhjgoicnbcaaGreat.AM

namespace Go.Proofs.YtghdhjgoicnbcaaGreat.AM
open Go Go.WideShapes Go.ChangeShapes Go.RowKit

theorem dc_rows {α : Type} {ty : Ty} {enc : α → List (L Unit)} {ok : α → Prop} (hd : ∀ ls, Fits ty ls → ∃ x, ls = enc x ∧ ok x) : ∀ {rows : List (List (L Unit))}, (∀ r ∈ rows, Fits ty r) → ∃ xs : List α, rows = xs.map enc ∧ ∀ x ∈ xs, ok x
  | [], _ => ⟨[], rfl, by simp⟩
  | r :: rows, h => by
    obtain ⟨x, rfl, hx⟩ := hd r (h r (by simp))
    obtain ⟨xs, rfl, hxs⟩ := dc_rows hd (rows := rows) fun r hr => h r (by simp [hr])
    exact ⟨x :: xs, rfl, fun y hy => (List.mem_cons.1 hy).elim (fun e => e ▸ hx) (hxs y)⟩
theorem dc_list {α : Type} {n b : Nat} {ty : Ty} {enc : α → List (L Unit)} {ok : α → Prop} (hd : ∀ ls, Fits ty ls → ∃ x, ls = enc x ∧ ok x) {ls : List (L Unit)} (h : Fits (.sl n b ty) ls) :
    ∃ xs : List α, ls = lL false n enc xs ∧ xs.length * b ≤ reachBytes ∧ ∀ x ∈ xs, ok x := by
  cases h with
  | sl h1 h2 =>
    obtain ⟨xs, rfl, hxs⟩ := dc_rows hd h2
    exact ⟨xs, rfl, by simpa using h1, hxs⟩
/-- A value that is read, of one cell. -/
theorem read_one {H : Type} {enc : TypeId × Value → H} {P : Program} {w : World} {base : Nat} {spare : Nat → Bool} {held : Bool} {t : TypeId} {ty : Ty} {v : Value} {d : DataW H} {p : List MemPlace}
    (hty : TyP P t ty) (hv : v.cells = #[v]) (h : DataW.Trod enc P w base spare held t v d p) (hw : ∀ n ∈ d.weights P t, n ≤ reachBytes) :
    ∃ l : L Value, UR (.one l) v ∧ Fits ty [erL l] ∧ Pl w l := by
  obtain ⟨fuel, hf⟩ := h
  obtain ⟨ls, e1, e2, e3, _⟩ := reading fuel hty hf hw
  rw [hv] at e1
  match ls, e1, e2, e3 with
  | [l], e1, e2, e3 =>
    simp only [List.map_cons, List.map_nil, List.cons.injEq, and_true] at e1
    exact ⟨l, e1.symm, e2.map _, e3 l (by simp)⟩
/-- A call over arguments that are only read. -/
theorem enter_sim {P : Program} {f : FuncId} {W : World} {us : List (U Value)} {args : List (U Unit)} {vals : List Value} {r : V Unit} (hs : Sim P f args [] r []) (ha : us.map erU = args) (hus : All2 UR us vals) (hpl : ∀ u ∈ us, ∀ l ∈ leavesU u, Pl W l) :
    Calls P f vals.toArray W fun e W' => ∃ x rv, e = .returned x ∧ erV rv = r ∧ VR rv x ∧ Below W.heap.size W W' := by
  have htop : ∀ l ∈ tops (⟨us.map .u, [], 0⟩ : S Value), Pl W l := by
    intro l hl
    simp only [tops, obLeaves, List.flatMap_nil, List.append_nil, List.mem_flatMap, List.mem_map] at hl
    obtain ⟨_, ⟨u, hu, rfl⟩, hl⟩ := hl
    exact hpl u hu l hl
  have hown : ownS (⟨us.map .u, [], 0⟩ : S Value) = [] := by
    unfold ownS
    simp only [List.flatMap_nil, List.nil_append, List.flatMap_eq_nil_iff]
    exact fun l hl => (htop l hl).own
  refine (hs W ⟨us.map .u, [], 0⟩ us vals rfl ha hus rfl ?_ fun l hl i hi => ?_).mono fun e W' h => ?_
  · refine ⟨fun l hl => ⟨(htop l hl).wf false, (htop l hl).ref _⟩, fun p hp => by simp at hp, List.nodup_nil, fun p hp => ?_, ?_, fun p hp hne => ?_⟩
    · rw [hown] at hp; simp at hp
    · rw [hown]; exact List.nodup_nil
    · obtain ⟨l, hl, hp⟩ := List.mem_flatMap.1 hp
      exact ⟨(htop l hl).imm p hp hne, fun q hq => by rw [hown] at hq; simp at hq⟩
  · rw [(htop l hl).ids] at hi; simp at hi
  · obtain ⟨x, d', rv, h1, _, h3, _, h5, h6⟩ := h
    refine ⟨x, rv, h1, h3, h5, h6.fr.3.1, h6.fr.3.2.1, h6.fr.3.2.2, h6.fr.1, fun k hk => h6.fr.2 k hk fun ⟨p, hp, _⟩ => by rw [hown] at hp; simp at hp⟩
theorem res_bool {rv : V Value} {x : Value} {b : Bool} (h : erV rv = .u (.one (.bool b))) (hv : VR rv x) : x = .bool b := by
  cases rv with
  | u u =>
    cases u with
    | one l =>
      cases l <;> simp only [erV, mapV, mapU, mapL, V.u.injEq, U.one.injEq, reduceCtorEq] at h
      cases h
      exact hv
    | agg ls => simp [erV, mapV, mapU] at h
  | _ => simp [erV, mapV] at h
end Go.Proofs.YtghdhjgoicnbcaaGreat.AM

namespace Go.Proofs.YtghdhjgoicnbcaaGreat.AM
open Go
theorem inI_le {n : Int} (h1 : -9223372036854775808 ≤ n) (h2 : n ≤ 9223372036854775807) : inI n := ⟨h1, h2⟩
theorem wrap_in {n : Int} (h1 : -9223372036854775808 ≤ n) (h2 : n ≤ 9223372036854775807) : IntKind.i64.wrap n = n := IntWalk.i64_in n (by omega)
theorem at_mem {α : Type} [Inhabited α] {xs : List α} {n : Int} (h : 0 ≤ n ∧ n < (xs.length : Int)) : at_ xs n ∈ xs := List.mem_of_getElem? (at_get h)
/-- (Not by rfl: the kernel then need not compare great terms.) -/
theorem obs {α β : Type} (a : α) (f : α → Option β) : Option.bind (some a) f = f a := by
  have : ∀ o, o = some a → Option.bind o f = f a := fun o h => by subst h; rfl
  exact this _ rfl
/-- A loop with a measure that falls. -/
theorem loop_wf {σ ρ : Type} {body : σ → Option (σ ⊕ ρ)} {L : Option ρ} {s0 : σ} (hB : loopO body s0 = L) (I : σ → Prop) (m : σ → Nat) (Q : ρ → Prop)
    (h : ∀ s, I s → (∃ s', body s = some (.inl s') ∧ I s' ∧ m s' < m s) ∨ (∃ r, body s = some (.inr r) ∧ Q r)) (h0 : I s0) : ∃ r, L = some r ∧ Q r := by
  subst hB
  have key : ∀ n s, m s ≤ n → I s → ∃ r, loopO body s = some r ∧ Q r := by
    intro n
    induction n with
    | zero =>
      intro s hm hi
      rcases h s hi with ⟨s', e, hi', hlt⟩ | ⟨r, e, hq⟩
      · omega
      · exact ⟨r, by rw [loopO_step, e]; rfl, hq⟩
    | succ n ih =>
      intro s hm hi
      rcases h s hi with ⟨s', e, hi', hlt⟩ | ⟨r, e, hq⟩
      · obtain ⟨r, e2, hq⟩ := ih s' (by omega) hi'
        exact ⟨r, by rw [loopO_step, e]; exact e2, hq⟩
      · exact ⟨r, by rw [loopO_step, e]; rfl, hq⟩
  exact key _ s0 (Nat.le_refl _) h0
/-- A loop that counts from a to n, with a part that grows. -/
theorem loop_cnt {σ : Type} {ρ : Type} {body : σ → Option (σ ⊕ ρ)} {L : Option ρ} {s0 : σ} (hB : loopO body s0 = L) (st : Nat → σ) (n : Nat) (r : ρ) (e0 : s0 = st 0)
    (h : ∀ k, k < n → body (st k) = some (.inl (st (k + 1)))) (he : body (st n) = some (.inr r)) : L = some r := by
  subst hB e0
  have key : ∀ m k, k + m = n → loopO body (st k) = some r := by
    intro m
    induction m with
    | zero =>
      intro k hk
      obtain rfl : k = n := by omega
      rw [loopO_step, he]; rfl
    | succ m ih =>
      intro k hk
      rw [loopO_step, h k (by omega)]
      exact ih (k + 1) (by omega)
  exact key n 0 (by omega)
theorem dc_u8 {ls : List (L Unit)} (h : Fits (.int .u8) ls) : ∃ n, ls = iK .u8 n ∧ 0 ≤ n ∧ n ≤ 255 := by
  cases h with
  | int h =>
    refine ⟨_, rfl, ?_⟩
    simp [Lit.wf, IntKind.min, IntKind.max, IntKind.bits, IntKind.signed] at h
    exact h
end Go.Proofs.YtghdhjgoicnbcaaGreat.AM

namespace Go.Proofs.YtghdhjgoicnbcaaGreat.AM
open Go
set_option linter.unusedSimpArgs false
set_option linter.unusedVariables false
def okRd (r : Gl1Rd) : Prop := 0 ≤ r.p ∧ r.p ≤ (r.b.length : Int) ∧ r.b.length ≤ 140737488355328 ∧ ∀ x ∈ r.b, 0 ≤ x ∧ x ≤ 255
theorem next_ok {r : Gl1Rd} (h : okRd r) : ∃ x r', spec_l1Rd_next_m r = some (x, r') ∧ okRd r' ∧ 0 ≤ x ∧ x ≤ 255 := by
  obtain ⟨h1, h2, h3, h4⟩ := h
  unfold spec_l1Rd_next_m
  by_cases hp : r.p ≥ (r.b.length : Int)
  · rw [if_pos (by simpa using hp)]
    exact ⟨0, r, rfl, ⟨h1, h2, h3, h4⟩, by omega, by omega⟩
  · rw [if_neg (by simpa using hp), if_pos (inI_le (by omega) (by omega)), if_pos (inI_le (by simp only; omega) (by simp only; omega)), if_pos (by simp only; omega)]
    have hb := h4 (at_ r.b (r.p + 1 - 1)) (at_mem (by omega))
    refine ⟨_, _, rfl, ⟨by simp only; omega, by simp only; omega, h3, h4⟩, ?_⟩
    simp only
    rw [wrap_in (by omega) (by omega)]
    exact hb
theorem tmod_lt {a n : Int} (h : 0 ≤ a) (hn : 1 ≤ n) : 0 ≤ Int.tmod a n ∧ Int.tmod a n < n := by
  rw [Int.tmod_eq_emod_of_nonneg h]
  exact ⟨Int.emod_nonneg _ (by omega), Int.emod_lt_of_pos _ (by omega)⟩
theorem below_ok {r : Gl1Rd} (h : okRd r) (n : Int) : ∃ x r', spec_l1Rd_below_m r n = some (x, r') ∧ okRd r' ∧ 0 ≤ x ∧ (1 ≤ n → x < n) := by
  unfold spec_l1Rd_below_m
  by_cases hn : n ≤ 1
  · rw [if_pos (by simpa using hn)]
    exact ⟨0, r, rfl, h, by omega, by omega⟩
  · rw [if_neg (by simpa using hn)]
    obtain ⟨x, r', e, h', hx⟩ := next_ok h
    by_cases hn2 : n ≤ 256
    · rw [if_pos (by simpa using hn2), e]
      simp only [Option.bind_some]
      rw [if_pos (by omega)]
      exact ⟨_, _, rfl, h', (tmod_lt hx.1 (by omega)).1, fun _ => (tmod_lt hx.1 (by omega)).2⟩
    · rw [if_neg (by simpa using hn2), e]
      simp only [Option.bind_some]
      obtain ⟨y, r2, e2, h2, hy⟩ := next_ok h'
      rw [e2]
      simp only [Option.bind_some]
      rw [if_pos (by omega), wrap_in (n := x * 256) (by omega) (by omega), wrap_in (by omega) (by omega)]
      exact ⟨_, _, rfl, h2, (tmod_lt (by omega) (by omega)).1, fun _ => (tmod_lt (by omega) (by omega)).2⟩
theorem once_ok {r : Gl1Rd} (h : okRd r) (n : Int) (hn : inI (n - 1)) : ∃ x r', spec_l1Rd_once_m r n = some (x, r') ∧ okRd r' := by
  unfold spec_l1Rd_once_m
  obtain ⟨x, r', e, h', hx⟩ := below_ok h n
  rw [e]
  simp only [Option.bind_some]
  rw [if_pos hn]
  exact ⟨_, _, rfl, h'⟩
theorem u64_in {n : Int} (h : (Lit.int .u64 n).wf = true) : 0 ≤ n ∧ n ≤ 18446744073709551615 := by
  have h : IntKind.u64.min ≤ n ∧ n ≤ IntKind.u64.max := by simpa [Lit.wf] using h
  have e1 : IntKind.u64.min = 0 := by decide
  have e2 : IntKind.u64.max = 18446744073709551615 := by decide
  rw [e1, e2] at h
  exact h
theorem word_in {r : Gl1Rd} (h : okRd r) : ∃ x r', spec_l1Rd_word_m r = some (x, r') ∧ okRd r' ∧ 0 ≤ x ∧ x ≤ 18446744073709551615 := by
  unfold spec_l1Rd_word_m
  generalize hB : loopO _ _ = L
  obtain ⟨⟨r2, x⟩, e, h2⟩ := loop_wf hB (fun s => okRd s.1 ∧ 0 ≤ s.2.2 ∧ s.2.2 ≤ 8 ∧ 0 ≤ s.2.1 ∧ s.2.1 ≤ 18446744073709551615) (fun s => (8 - s.2.2).toNat) (fun s => okRd s.1 ∧ 0 ≤ s.2 ∧ s.2 ≤ 18446744073709551615) (by
    rintro ⟨r, a, i⟩ ⟨h1, h2, h3, h4, h5⟩
    simp only at h1 h2 h3 h4 h5 ⊢
    by_cases hi : i < 8
    · left
      rw [if_pos (by simpa using hi)]
      obtain ⟨x, r', e, h', hx⟩ := next_ok h1
      rw [e]
      simp only [Option.bind_some]
      rw [if_pos (inI_le (by omega) (by omega))]
      have hb := u64_in (wf_bits .or .u64 (IntKind.u64.wrap (a * 2 ^ min (Int.toNat 8) (IntKind.bits .u64))) (IntKind.u64.wrap x))
      exact ⟨_, rfl, ⟨h', by simp only; omega, by simp only; omega, hb.1, hb.2⟩, by simp only; omega⟩
    · right
      rw [if_neg (by simpa using hi)]
      exact ⟨_, rfl, h1, h4, h5⟩) ⟨h, by simp only; omega, by simp only; omega, by simp only; omega, by simp only; omega⟩
  subst e
  exact ⟨_, _, rfl, h2⟩
theorem word_ok {r : Gl1Rd} (h : okRd r) : ∃ x r', spec_l1Rd_word_m r = some (x, r') ∧ okRd r' := by
  obtain ⟨x, r', e, h1, _⟩ := word_in h
  exact ⟨x, r', e, h1⟩
theorem near_ok {r : Gl1Rd} (h : okRd r) (low high : Int) (h1 : ¬ high < low → inI (IntKind.i64.wrap (high - low) + 1) ∧ IntKind.u64.wrap (IntKind.i64.wrap (high - low) + 1) ≠ 0) : ∃ x r', spec_l1Rd_near_m r low high = some (x, r') ∧ okRd r' := by
  unfold spec_l1Rd_near_m
  obtain ⟨x, r', e, h', hx⟩ := below_ok h 8
  rw [e]
  simp only [Option.bind_some]
  split
  · exact ⟨_, _, rfl, h'⟩
  · split
    · exact ⟨_, _, rfl, h'⟩
    · split
      · exact ⟨_, _, rfl, h'⟩
      · rename_i hl
        obtain ⟨y, r2, e2, h2⟩ := word_ok h'
        rw [e2]
        simp only [Option.bind_some]
        have := h1 (by simpa using hl)
        rw [if_pos this.1, if_pos this.2]
        exact ⟨_, _, rfl, h2⟩
theorem off_ok {r : Gl1Rd} (h : okRd r) (low high : Int) (hl : inI (low - 1)) (hh : inI (high + 1)) (h1 : ¬ high < low → inI (IntKind.i64.wrap (high - low) + 1) ∧ IntKind.u64.wrap (IntKind.i64.wrap (high - low) + 1) ≠ 0) : ∃ x r', spec_l1Rd_off_m r low high = some (x, r') ∧ okRd r' := by
  unfold spec_l1Rd_off_m
  obtain ⟨x, r', e, h'⟩ := once_ok h 24 (inI_le (by omega) (by omega))
  rw [e]
  simp only [Option.bind_some]
  split
  · obtain ⟨y, r2, e2, h2, hy, hy2⟩ := below_ok h' 4
    have hy3 := hy2 (by omega)
    rw [e2]
    simp only [Option.bind_some]
    rw [if_pos ⟨hy, by simpa using hy3⟩]
    exact ⟨_, _, rfl, h2⟩
  · obtain ⟨y, r2, e2, h2⟩ := near_ok h' low high h1
    rw [e2]
    exact ⟨_, _, rfl, h2⟩
theorem open_ok {code : List Int} (hl : code.length ≤ 140737488355328) (h : ∀ x ∈ code, 0 ≤ x ∧ x ≤ 255) : okRd (spec_l1Open_m code) := ⟨Int.le_refl _, by simp only [spec_l1Open_m]; omega, hl, h⟩
end Go.Proofs.YtghdhjgoicnbcaaGreat.AM

namespace Go.Proofs.YtghdhjgoicnbcaaGreat.AM
open Go
def Run {β : Type} (o : Option β) (Q : β → Prop) : Prop := ∃ y, o = some y ∧ Q y
theorem Run.mk {β : Type} {y : β} {Q : β → Prop} (h : Q y) : Run (some y) Q := ⟨y, rfl, h⟩
theorem Run.bind {α β : Type} {o : Option α} {F : α → Option β} {R : α → Prop} {Q : β → Prop} (h : Run o R) (H : ∀ a, R a → Run (F a) Q) : Run (Option.bind o F) Q := by
  obtain ⟨a, e, ha⟩ := h
  rw [e, obs]
  exact H a ha
theorem Run.yes {β : Type} {c : Prop} [Decidable c] {a b : Option β} {Q : β → Prop} (hc : c) (h : Run a Q) : Run (if c then a else b) Q := by rw [if_pos hc]; exact h
theorem Run.no {β : Type} {c : Prop} [Decidable c] {a b : Option β} {Q : β → Prop} (hc : ¬ c) (h : Run b Q) : Run (if c then a else b) Q := by rw [if_neg hc]; exact h
theorem Run.if {β : Type} {c : Prop} [Decidable c] {a b : Option β} {Q : β → Prop} (h1 : c → Run a Q) (h2 : ¬ c → Run b Q) : Run (if c then a else b) Q := by
  by_cases h : c
  · exact .yes h (h1 h)
  · exact .no h (h2 h)
theorem Run.mono {β : Type} {o : Option β} {Q Q' : β → Prop} (h : Run o Q) (hq : ∀ y, Q y → Q' y) : Run o Q' := by
  obtain ⟨y, e, h⟩ := h
  exact ⟨y, e, hq y h⟩
def LoopQ {σ ρ : Type} (I : σ → Prop) (m : σ → Nat) (n : Nat) (Q : ρ → Prop) : σ ⊕ ρ → Prop
  | .inl s => I s ∧ m s < n
  | .inr r => Q r
theorem Run.nx {σ ρ : Type} {I : σ → Prop} {m : σ → Nat} {n : Nat} {Q : ρ → Prop} {s : σ} (h : I s ∧ m s < n) : Run (some (.inl s : σ ⊕ ρ)) (LoopQ I m n Q) := ⟨_, rfl, h⟩
theorem Run.out {σ ρ : Type} {I : σ → Prop} {m : σ → Nat} {n : Nat} {Q : ρ → Prop} {r : ρ} (h : Q r) : Run (some (.inr r : σ ⊕ ρ)) (LoopQ I m n Q) := ⟨_, rfl, h⟩
theorem Run.loop {σ ρ : Type} {body : σ → Option (σ ⊕ ρ)} {s0 : σ} {Q : ρ → Prop} (I : σ → Prop) (m : σ → Nat) (h0 : I s0) (h : ∀ s, I s → Run (body s) (LoopQ I m (m s) Q)) : Run (loopO body s0) Q := by
  refine loop_wf rfl I m Q (fun s hs => ?_) h0
  obtain ⟨x, e, hx⟩ := h s hs
  cases x with
  | inl s' => exact .inl ⟨s', e, hx⟩
  | inr r => exact .inr ⟨r, e, hx⟩
end Go.Proofs.YtghdhjgoicnbcaaGreat.AM
