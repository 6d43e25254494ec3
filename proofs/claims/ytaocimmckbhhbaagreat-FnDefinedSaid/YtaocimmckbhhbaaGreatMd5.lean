import Derived.Test.YtaocimmckbhhbaaGreatMd4
import Derived.SizedLaws
import Derived.WideShapes
import Derived.ChangeSlices
import Derived.OpenShut
import Derived.Below
set_option linter.unusedVariables false
set_option linter.unusedSimpArgs false
namespace Go.Proofs.YtaocimmckbhhbaaGreat.AM
open Go
section
set_option maxHeartbeats 8000000
set_option maxRecDepth 100000
attribute [local irreducible] aopK J8 Wp St WpO
noncomputable def Z2v (id : Int) (a : GFunc) (aq : GPhi) : Option Bool :=
 (Option.bind (Q4 a id) fun x1 =>
 (some ((x1 != aq.w))))
theorem Y4c {id : Int} {a : GFunc} {aq : GPhi} {r : Bool} (hm : Z2v id a aq = some r) : Sim Tryz.prog 76 [.one (.int .i64 id), .one (.ip () (Y1 false a)), .one (.ip () (ePhi false aq))] [] (.u (.one (.bool r))) [] := by
 refine fN 11 0 Tryz.func76 [.tmp 4] fun B hB0 => ?_
 unfold Z2v at hm
 refine Wp.seq ?_
 refine X7 ?_
 refine nO (x_as rfl rfl ?_)
 refine W5 ?_
 refine Wp.seq ?_
 refine Z4t (Y := sysC _) Z4j ?_
 refine tK 0 0 rfl (K7 T32 rfl (J0 rfl rfl) rfl ?_)
 refine tK 1 0 rfl (kV ?_)
 refine tK 3 0 rfl (Y5x F65_0 rfl ?_)
 refine tK 4 0 rfl (K7 T2 rfl rfl rfl ?_)
 obtain ⟨x1, h2, hm⟩ := Z0 hm
 refine oK 2 rfl (cB (Z1g h2) ?_)
 refine tK 5 0 rfl (Z6i T2 rfl rfl rfl ?_)
 refine tK 6 0 rfl (x_as rfl rfl ?_)
 refine aN ?_
 refine Z2d ?_
 cases hm
 exact rZ1
noncomputable def V0 (id : Int) (w : Int) (a : GFunc) : Option Bool :=
 (Option.bind (Q4 a id) fun x1 =>
 (some ((x1 == w))))
theorem U9 {id : Int} {w : Int} {a : GFunc} {r : Bool} (hm : V0 id w a = some r) : Sim Tryz.prog 112 [.one (.int .i64 id), .one (.int .i64 w), .one (.ip () (Y1 false a))] [] (.u (.one (.bool r))) [] := by
 refine fN 11 0 Tryz.func112 [.tmp 5] fun B hB0 => ?_
 unfold V0 at hm
 refine yG ?_
 intro _ hm
 refine nO (K7 T32 rfl (J0 rfl rfl) rfl ?_)
 refine yG ?_
 intro _ hm
 obtain ⟨x1, h2, hm⟩ := Z0 hm
 refine nO (Z5 (cB (Z1g h2) ?_))
 refine yG ?_
 intro _ hm
 cases hm
 exact ret0 (us' := [.one (.bool ((x1 == w)))]) rfl (Y9r rfl rfl rfl Y9s) X0p rfl rfl
noncomputable def Z4q (f : GFunc) (i : GInst) : Option Bool :=
 (Option.bind (Q4 f i.a) fun x1 =>
 (if (U3 i.op_) = true then
 (Option.bind ((Option.bind (V0 i.a i.w f) fun x5 =>
 (if x5 = true then
 (Option.bind (V0 i.b i.w f) fun x8 =>
 (some x8))
 else
 (some false)))) fun (j4 : Bool) =>
 (some j4))
 else
 (if (i.op_ == 27) = true then
 (Option.bind (V0 i.a i.w f) fun x12 =>
 (some x12))
 else
 (if ((i.op_ == 18) || (i.op_ == 19)) = true then
 (some (((x1 != 0) && decide (x1 < i.w))))
 else
 (if (i.op_ == 20) = true then
 (some (decide (x1 > i.w)))
 else
 (if (i.op_ == 22) = true then
 (Option.bind ((Option.bind (V0 i.a 1 f) fun x22 =>
 (if x22 = true then
 (Option.bind (V0 i.b i.w f) fun x25 =>
 (if x25 = true then
 (Option.bind (V0 i.c i.w f) fun x28 =>
 (some x28))
 else
 (some false)))
 else
 (some false)))) fun (j21 : Bool) =>
 (some j21))
 else
 (if (i.op_ == 23) = true then
 (Option.bind (V0 i.a 32 f) fun x32 =>
 (some x32))
 else
 (if (i.op_ == 24) = true then
 (Option.bind ((Option.bind (V0 i.a 32 f) fun x36 =>
 (if x36 = true then
 (Option.bind (V0 i.b 8 f) fun x39 =>
 (some x39))
 else
 (some false)))) fun (j35 : Bool) =>
 (some j35))
 else
 (if (i.op_ == 25) = true then
 (some ((x1 != 0)))
 else
 (some true))))))))))
theorem Y6w {f : GFunc} {i : GInst} {r : Bool} (hm : Z4q f i = some r) : Sim Tryz.prog 79 [.agg (Y1 false f), .agg (Q1 false i)] [] (.u (.one (.bool r))) [] := by
 refine fN 117 0 Tryz.func79 [.tmp 4] fun B hB0 => ?_
 unfold Z4q at hm
 refine yG ?_
 intro _ hm
 refine nO (x_mf (ls := [.ptr () 0 0 0]) rfl ?_)
 refine yG ?_
 intro _ hm
 refine nO (kW ?_)
 refine yG ?_
 intro _ hm
 obtain ⟨x1, h2, hm⟩ := Z0 hm
 refine nO (Z5 (cB (Z1g h2) ?_))
 refine yG ?_
 intro _ hm
 refine nO (Z5 (cB (Z5c i.op_) ?_))
 refine yG ?_
 intro _ hm
 refine bS hm (fun hb3 hm => ?_) fun hb3 hm => ?_
 refine Wp.seq ?_
 obtain ⟨j4, hj10, hm⟩ := Z0 hm
 refine V7 (St 117 [(4, vB j4)] [] 0) ?_ ?_
 replace hm := hj10
 refine yG ?_
 intro _ hm
 obtain ⟨x5, h6, hm⟩ := Z0 hm
 refine nO (Z5 (Z0b (v := .u (.one (.bool x5))) (nobs := []) (oa' := _) (nx' := 2) rfl (a_1 rfl (b_s rfl) (a_1 rfl (b_s rfl) a_n)) (c_c (b_p rfl (Z8w rfl) rfl) c_n) EntC.h (U9 h6) rfl rfl rfl rfl ?_))
 refine yG ?_
 intro _ hm
 refine bG1 hm (fun hb7 hm => ?_) fun hb7 hm => ?_
 refine yG ?_
 intro _ hm
 obtain ⟨x8, h9, hm⟩ := Z0 hm
 refine gO_t rfl rfl rfl (Z5 (Z0b (v := .u (.one (.bool x8))) (nobs := []) (oa' := _) (nx' := 2) rfl (a_1 rfl (b_s rfl) (a_1 rfl (b_s rfl) a_n)) (c_c (b_p rfl (Z8w rfl) rfl) c_n) EntC.h (U9 h9) rfl rfl rfl rfl ?_))
 refine yG ?_
 intro _ hm
 cases hm
 exact vW []
 refine yG ?_
 intro _ hm
 cases hm
 exact vW []
 refine Z2d ?_
 cases hm
 exact rZ1
 refine yG ?_
 intro _ hm
 refine bS hm (fun hb11 hm => ?_) fun hb11 hm => ?_
 refine yG ?_
 intro _ hm
 obtain ⟨x12, h13, hm⟩ := Z0 hm
 refine nO (Z5 (Z0b (v := .u (.one (.bool x12))) (nobs := []) (oa' := _) (nx' := 2) rfl (a_1 rfl (b_s rfl) (a_1 rfl (b_s rfl) a_n)) (c_c (b_p rfl (Z8w rfl) rfl) c_n) EntC.h (U9 h13) rfl rfl rfl rfl ?_))
 refine yG ?_
 intro _ hm
 cases hm
 exact rZ1
 refine Wp.seq ?_
 refine V7 (St 117 [(3, vP 0), (5, .u (.one (.fn () 112 [.ptr () 1 0 0]))), (6, vI x1), (40, vB (((i.op_ == 18) || (i.op_ == 19))))] [(0, oL 7 (Q1 false i)), (1, oL 3 (Y1 false f))] 2) ?_ ?_
 refine yG ?_
 intro _ hm
 refine gO_s rfl rfl rfl (fun hb15 => ?_) (fun hb15 => ?_)
 refine yG ?_
 intro _ hm
 exact w_ [1, 0] (.cons rfl rfl (.cons rfl rfl (.cons rfl rfl (.cons (by simp only [hb15, BO]; rfl) rfl .nil)))) (.lit rfl rfl (.lit rfl rfl .nil)) (by decide) (hB_0 hB0)
 refine yG ?_
 intro _ hm
 exact w_ [1, 0] (.cons rfl rfl (.cons rfl rfl (.cons rfl rfl (.cons (by simp only [hb15, BO]; rfl) rfl .nil)))) (.lit rfl rfl (.lit rfl rfl .nil)) (by decide) (hB_0 hB0)
 refine bS hm (fun hb16 hm => ?_) fun hb16 hm => ?_
 refine Wp.seq ?_
 refine V7 (St 117 [(4, vB (((x1 != 0) && decide (x1 < i.w))))] [] 0) ?_ ?_
 refine yG ?_
 intro _ hm
 refine gO_s rfl rfl rfl (fun hb18 => ?_) (fun hb18 => ?_)
 refine yG ?_
 intro _ hm
 exact w_ [] (.cons (by simp only [hb18, BO]; rfl) rfl .nil) .nil (by decide) (hB_0 hB0)
 refine yG ?_
 intro _ hm
 exact w_ [] (.cons (by simp only [hb18, BO]; rfl) rfl .nil) .nil (by decide) (hB_0 hB0)
 refine Z2d ?_
 cases hm
 exact rZ1
 refine yG ?_
 intro _ hm
 refine bS hm (fun hb19 hm => ?_) fun hb19 hm => ?_
 refine yG ?_
 intro _ hm
 cases hm
 exact rZ1
 refine yG ?_
 intro _ hm
 refine bS hm (fun hb20 hm => ?_) fun hb20 hm => ?_
 refine Wp.seq ?_
 obtain ⟨j21, hj30, hm⟩ := Z0 hm
 refine V7 (St 117 [(4, vB j21)] [] 0) ?_ ?_
 replace hm := hj30
 refine yG ?_
 intro _ hm
 obtain ⟨x22, h23, hm⟩ := Z0 hm
 refine nO (Z5 (Z0b (v := .u (.one (.bool x22))) (nobs := []) (oa' := _) (nx' := 2) rfl (a_1 rfl (b_s rfl) (a_1 rfl (b_s rfl) a_n)) (c_c (b_p rfl (Z8w rfl) rfl) c_n) EntC.h (U9 h23) rfl rfl rfl rfl ?_))
 refine yG ?_
 intro _ hm
 refine bG1 hm (fun hb24 hm => ?_) fun hb24 hm => ?_
 refine yG ?_
 intro _ hm
 obtain ⟨x25, h26, hm⟩ := Z0 hm
 refine gO_t rfl rfl rfl (Z5 (Z0b (v := .u (.one (.bool x25))) (nobs := []) (oa' := _) (nx' := 2) rfl (a_1 rfl (b_s rfl) (a_1 rfl (b_s rfl) a_n)) (c_c (b_p rfl (Z8w rfl) rfl) c_n) EntC.h (U9 h26) rfl rfl rfl rfl ?_))
 refine yG ?_
 intro _ hm
 refine bG1 hm (fun hb27 hm => ?_) fun hb27 hm => ?_
 refine yG ?_
 intro _ hm
 obtain ⟨x28, h29, hm⟩ := Z0 hm
 refine gO_t rfl rfl rfl (Z5 (Z0b (v := .u (.one (.bool x28))) (nobs := []) (oa' := _) (nx' := 2) rfl (a_1 rfl (b_s rfl) (a_1 rfl (b_s rfl) a_n)) (c_c (b_p rfl (Z8w rfl) rfl) c_n) EntC.h (U9 h29) rfl rfl rfl rfl ?_))
 refine yG ?_
 intro _ hm
 cases hm
 exact vW []
 refine yG ?_
 intro _ hm
 cases hm
 exact vW []
 refine yG ?_
 intro _ hm
 cases hm
 exact vW []
 refine Z2d ?_
 cases hm
 exact rZ1
 refine yG ?_
 intro _ hm
 refine bS hm (fun hb31 hm => ?_) fun hb31 hm => ?_
 refine yG ?_
 intro _ hm
 obtain ⟨x32, h33, hm⟩ := Z0 hm
 refine nO (Z5 (Z0b (v := .u (.one (.bool x32))) (nobs := []) (oa' := _) (nx' := 2) rfl (a_1 rfl (b_s rfl) (a_1 rfl (b_s rfl) a_n)) (c_c (b_p rfl (Z8w rfl) rfl) c_n) EntC.h (U9 h33) rfl rfl rfl rfl ?_))
 refine yG ?_
 intro _ hm
 cases hm
 exact rZ1
 refine yG ?_
 intro _ hm
 refine bS hm (fun hb34 hm => ?_) fun hb34 hm => ?_
 refine Wp.seq ?_
 obtain ⟨j35, hj41, hm⟩ := Z0 hm
 refine V7 (St 117 [(4, vB j35)] [] 0) ?_ ?_
 replace hm := hj41
 refine yG ?_
 intro _ hm
 obtain ⟨x36, h37, hm⟩ := Z0 hm
 refine nO (Z5 (Z0b (v := .u (.one (.bool x36))) (nobs := []) (oa' := _) (nx' := 2) rfl (a_1 rfl (b_s rfl) (a_1 rfl (b_s rfl) a_n)) (c_c (b_p rfl (Z8w rfl) rfl) c_n) EntC.h (U9 h37) rfl rfl rfl rfl ?_))
 refine yG ?_
 intro _ hm
 refine bG1 hm (fun hb38 hm => ?_) fun hb38 hm => ?_
 refine yG ?_
 intro _ hm
 obtain ⟨x39, h40, hm⟩ := Z0 hm
 refine gO_t rfl rfl rfl (Z5 (Z0b (v := .u (.one (.bool x39))) (nobs := []) (oa' := _) (nx' := 2) rfl (a_1 rfl (b_s rfl) (a_1 rfl (b_s rfl) a_n)) (c_c (b_p rfl (Z8w rfl) rfl) c_n) EntC.h (U9 h40) rfl rfl rfl rfl ?_))
 refine yG ?_
 intro _ hm
 cases hm
 exact vW []
 refine yG ?_
 intro _ hm
 cases hm
 exact vW []
 refine Z2d ?_
 cases hm
 exact rZ1
 refine yG ?_
 intro _ hm
 refine bS hm (fun hb42 hm => ?_) fun hb42 hm => ?_
 refine yG ?_
 intro _ hm
 cases hm
 exact rZ1
 refine yG ?_
 intro _ hm
 cases hm
 exact rZ1
noncomputable def Z2u (i : GInst) (a : GFunc) : Option Bool :=
 (Option.bind (Z4q a i) fun x1 =>
 (some ((!x1))))
theorem Y4b {i : GInst} {a : GFunc} {r : Bool} (hm : Z2u i a = some r) : Sim Tryz.prog 78 [.agg (Q1 false i), .one (.ip () (Y1 false a))] [] (.u (.one (.bool r))) [] := by
 refine fN 8 0 Tryz.func78 [.tmp 3] fun B hB0 => ?_
 unfold Z2u at hm
 refine yG ?_
 intro _ hm
 refine nO (K7 T32 rfl (J0 rfl rfl) rfl ?_)
 refine nO (kW ?_)
 obtain ⟨x1, h2, hm⟩ := Z0 hm
 refine nO (Z5 (cB (Y6w h2) ?_))
 refine yG ?_
 intro _ hm
 cases hm
 exact rZ1
noncomputable def Z4p (f : GFunc) : Option Bool :=
 (Option.bind (Y6 (fun (st2 : Int) =>
 ((if decide (st2 < ((List.length f.blocks : Int))) = true then
 (if 0 ≤ st2 ∧ st2 < (List.length f.blocks : Int) then
 (Option.bind (Y6 (fun (st8 : Int) =>
 ((if decide (st8 < ((List.length ((at_ f.blocks st2).phis) : Int))) = true then
 (if 0 ≤ st8 ∧ st8 < (List.length ((at_ f.blocks st2).phis) : Int) then
 (Option.bind (Z7 ((at_ ((at_ f.blocks st2).phis) st8).ins) ((fun z0 => Z2v z0 f (at_ ((at_ f.blocks st2).phis) st8)))) fun x13 =>
 (if x13 = true then
 (some (Sum.inr ((Sum.inl (())))))
 else
 (if inI (st8 + 1) then
 (some (Sum.inl (st8 + 1)))
 else none)))
 else none)
 else
 (some (Sum.inr ((Sum.inr (())))))) : Option ((Int) ⊕ (Unit ⊕ Unit)))) 0) fun (y17 : Unit ⊕ Unit) => match y17 with
 | (Sum.inl j9) =>
 (some (Sum.inr ((Sum.inl (())))))
 | (Sum.inr j10) =>
 (Option.bind (Y0 ((at_ f.blocks st2).insts) ((fun z0 => Z2u z0 f))) fun x19 =>
 (if x19 = true then
 (some (Sum.inr ((Sum.inl (())))))
 else
 (Option.bind ((if (((((at_ f.blocks st2).term)).kind) == 1) = true then
 (Option.bind (Q4 f ((((at_ f.blocks st2).term)).a)) fun x24 =>
 (if (x24 != f.ret) = true then
 (some true)
 else
 (if (((((at_ f.blocks st2).term)).kind) == 3) = true then
 (Option.bind (Q4 f ((((at_ f.blocks st2).term)).a)) fun x28 =>
 (some ((x28 != 1))))
 else
 (some false))))
 else
 (if (((((at_ f.blocks st2).term)).kind) == 3) = true then
 (Option.bind (Q4 f ((((at_ f.blocks st2).term)).a)) fun x31 =>
 (some ((x31 != 1))))
 else
 (some false)))) fun (j22 : Bool) =>
 (if j22 = true then
 (some (Sum.inr ((Sum.inl (())))))
 else
 (if inI (st2 + 1) then
 (some (Sum.inl (st2 + 1)))
 else none))))))
 else none)
 else
 (some (Sum.inr ((Sum.inr (())))))) : Option ((Int) ⊕ (Unit ⊕ Unit)))) 0) fun (y36 : Unit ⊕ Unit) => match y36 with
 | (Sum.inl j3) =>
 (some false)
 | (Sum.inr j4) =>
 (some true))
theorem Y6v {f : GFunc} {r : Bool} (hm : Z4p f = some r) : Sim Tryz.prog 40 [.agg (Y1 false f)] [] (.u (.one (.bool r))) [] := by
 refine fN 58 0 Tryz.func40 [.tmp 2] fun B hB0 => ?_
 unfold Z4p at hm
 refine yG ?_
 intro k1 hm
 obtain ⟨y36, hl37, hm⟩ := Z0 hm
 refine J7 hl37 (fun (st2 : Int) => St 58 [(1, vP 0), (9, .u (.one (.bs () 6 (List.map (W2 false) f.blocks)))), (10, vI ((List.length f.blocks : Int))), (11, vI st2)] [(0, oL 3 (Y1 false f))] 1) (fun (y : Unit ⊕ Unit) => match y with | (Sum.inl j3) => (.ret, St 58 [(2, vB false)] [] 0) | (Sum.inr j4) => (.exit 0, St 58 [] [] 0)) (vW [0]) ?_ (by rintro (_ | _) <;> simp) ?_
 intro st2 x hm
 refine yG ?_
 intro _ hm
 refine bS hm (fun hb5 hm => ?_) fun hb5 hm => ?_
 refine yG ?_
 intro k2 hm
 refine nO (K7 T41 rfl (J0 rfl rfl) rfl ?_)
 refine yG ?_
 intro k3 hm
 obtain ⟨y17, hl18, hm⟩ := Z0 hm
 refine J7 hl18 (fun (st8 : Int) => St 58 [(1, vP 0), (9, .u (.one (.bs () 6 (List.map (W2 false) f.blocks)))), (10, vI ((List.length f.blocks : Int))), (11, vI st2), (4, vP 1), (16, .u (.one (.bs () 2 (List.map (ePhi false) ((at_ f.blocks st2).phis))))), (17, vI ((List.length ((at_ f.blocks st2).phis) : Int))), (18, vI st8)] [(0, oL 3 (Y1 false f)), (1, oL 6 (W2 false (at_ f.blocks st2)))] 2) (fun (y : Unit ⊕ Unit) => match y with | (Sum.inl j9) => (.ret, St 58 [(2, vB false)] [] 0) | (Sum.inr j10) => (.exit 2, St 58 [(1, vP 0), (9, .u (.one (.bs () 6 (List.map (W2 false) f.blocks)))), (10, vI ((List.length f.blocks : Int))), (11, vI st2), (4, vP 1)] [(0, oL 3 (Y1 false f)), (1, oL 6 (W2 false (at_ f.blocks st2)))] 2)) (vW [0, 1]) ?_ (by rintro (_ | _) <;> simp) ?_
 intro st8 x hm
 refine yG ?_
 intro _ hm
 refine bS hm (fun hb11 hm => ?_) fun hb11 hm => ?_
 refine yG ?_
 intro k4 hm
 refine nO (K7 T65 rfl (J0 rfl rfl) rfl ?_)
 refine yG ?_
 intro _ hm
 refine nO (x_mf (ls := [.ptr () 0 0 0, .ptr () 2 0 0]) rfl ?_)
 obtain ⟨x13, h14, hm⟩ := Z0 hm
 refine nO (Z5 (Z0b (v := .u (.one (.bool x13))) (nobs := []) (oa' := _) (nx' := 3) rfl (a_1 rfl (b_s rfl) (a_1 rfl (b_f (c_c (b_p rfl (Z8w rfl) rfl) (c_c (b_p rfl (Z8w rfl) rfl) c_n))) a_n)) c_n EntC.h (X5 ((at_ ((at_ f.blocks st2).phis) st8).ins) 76 [.ip () (Y1 false f), .ip () (ePhi false (at_ ((at_ f.blocks st2).phis) st8))] (fun z0 => Z2v z0 f (at_ ((at_ f.blocks st2).phis) st8)) EntC.h rfl (fun z0 y hy => Y4c hy) h14) rfl rfl rfl rfl ?_))
 refine W5 ?_
 refine bS hm (fun hb15 hm => ?_) fun hb15 hm => ?_
 refine yG ?_
 intro _ hm
 cases hm
 exact ⟨rfl, vW []⟩
 refine yG ?_
 intro k5 hm
 cases hm
 exact ⟨rfl, vW [0, 1]⟩
 refine V2 ?_
 cases hm
 exact ⟨rfl, vW [0, 1]⟩
 rcases y17 with j9 | j10 <;> simp only at hm
 cases hm
 exact ⟨rfl, vW []⟩
 refine yG ?_
 intro _ hm
 refine nO (x_mf (ls := [.ptr () 0 0 0]) rfl ?_)
 obtain ⟨x19, h20, hm⟩ := Z0 hm
 refine nO (Z5 (Z0b (v := .u (.one (.bool x19))) (nobs := []) (oa' := _) (nx' := 2) rfl (a_1 rfl (b_s rfl) (a_1 rfl (b_f (c_c (b_p rfl (Z8w rfl) rfl) c_n)) a_n)) c_n EntC.h (U8 ((at_ f.blocks st2).insts) 78 [.ip () (Y1 false f)] (fun z0 => Z2u z0 f) EntC.h rfl (fun z0 y hy => Y4b hy) h20) rfl rfl rfl rfl ?_))
 refine W5 ?_
 refine bS hm (fun hb21 hm => ?_) fun hb21 hm => ?_
 refine yG ?_
 intro _ hm
 cases hm
 exact ⟨rfl, vW []⟩
 refine yG ?_
 intro _ hm
 refine nO (kL (.agg (Y3r (((at_ f.blocks st2).term)))) ?_)
 refine yR ?_
 intro _ hm
 refine W5 ?_
 refine Wp.seq ?_
 obtain ⟨j22, hj33, hm⟩ := Z0 hm
 refine V7 (St 58 [(1, vP 0), (9, .u (.one (.bs () 6 (List.map (W2 false) f.blocks)))), (10, vI ((List.length f.blocks : Int))), (11, vI st2), (56, vB j22)] [(0, oL 3 (Y1 false f))] 1) ?_ ?_
 replace hm := hj33
 refine Z4t (Y := sysC _) Z4j ?_
 refine tK 0 1 rfl (kF ?_)
 refine tK 1 1 rfl (kD ?_)
 refine tK 2 0 rfl (Z6i T2 rfl rfl rfl ?_)
 refine tK 3 0 rfl (kV ?_)
 refine bT 36 hm (fun hb23 hm => ?_) fun hb23 hm => ?_
 refine tG 4 1 rfl (kW ?_)
 refine tG 5 1 rfl (kF ?_)
 refine tG 6 1 rfl (kD ?_)
 refine tG 8 1 rfl (kF ?_)
 refine tG 9 1 rfl (kD ?_)
 obtain ⟨x24, h25, hm⟩ := Z0 hm
 refine oG 7 rfl (cB (Z1g h25) ?_)
 refine tG 10 0 rfl (Z6i T2 rfl rfl rfl ?_)
 refine tK 11 0 rfl (x_pk rfl rfl rfl ?_)
 refine tK 12 0 rfl (kV ?_)
 refine bT 45 hm (fun hb26 hm => ?_) fun hb26 hm => ?_
 refine tF 13 rfl ?_
 refine tF 14 rfl ?_
 refine tF 15 rfl ?_
 refine tF 16 rfl ?_
 refine t_u 17 rfl (by decide +kernel) rfl rfl rfl ?_
 refine t_u 18 rfl (by decide +kernel) rfl rfl rfl ?_
 refine t_u 19 rfl (by decide +kernel) rfl rfl rfl ?_
 refine t_u 20 rfl (by decide +kernel) rfl rfl rfl ?_
 refine t_u 21 rfl (by decide +kernel) rfl rfl rfl ?_
 refine tF 22 rfl ?_
 refine tK 23 0 rfl (x_pk rfl rfl rfl ?_)
 refine aN ?_
 cases hm
 exact vW [0]
 refine tG 13 1 rfl (kF ?_)
 refine tG 14 1 rfl (kD ?_)
 refine tG 15 0 rfl (Z6i T2 rfl rfl rfl ?_)
 refine tG 16 0 rfl (kV ?_)
 refine bT 49 hm (fun hb27 hm => ?_) fun hb27 hm => ?_
 refine tG 17 1 rfl (kW ?_)
 refine tG 18 1 rfl (kF ?_)
 refine tG 19 1 rfl (kD ?_)
 obtain ⟨x28, h29, hm⟩ := Z0 hm
 refine oG 20 rfl (cB (Z1g h29) ?_)
 refine tG 21 0 rfl (Z6i T2 rfl rfl rfl ?_)
 refine tG 22 0 rfl (x_pk rfl rfl rfl ?_)
 refine tK 23 0 rfl (x_pk rfl rfl rfl ?_)
 refine aN ?_
 cases hm
 exact vW [0]
 refine tF 17 rfl ?_
 refine tF 18 rfl ?_
 refine tF 19 rfl ?_
 refine tF 20 rfl ?_
 refine tF 21 rfl ?_
 refine tG 22 0 rfl (x_pk rfl rfl rfl ?_)
 refine tK 23 0 rfl (x_pk rfl rfl rfl ?_)
 refine aN ?_
 cases hm
 exact vW [0]
 refine tF 4 rfl ?_
 refine tF 5 rfl ?_
 refine tF 6 rfl ?_
 refine tF 7 rfl ?_
 refine tF 8 rfl ?_
 refine tF 9 rfl ?_
 refine tF 10 rfl ?_
 refine tK 11 0 rfl (x_pk rfl rfl rfl ?_)
 refine tK 12 0 rfl (kV ?_)
 refine tG 13 1 rfl (kF ?_)
 refine tG 14 1 rfl (kD ?_)
 refine tG 15 0 rfl (Z6i T2 rfl rfl rfl ?_)
 refine tG 16 0 rfl (kV ?_)
 refine bT 49 hm (fun hb30 hm => ?_) fun hb30 hm => ?_
 refine tG 17 1 rfl (kW ?_)
 refine tG 18 1 rfl (kF ?_)
 refine tG 19 1 rfl (kD ?_)
 obtain ⟨x31, h32, hm⟩ := Z0 hm
 refine oG 20 rfl (cB (Z1g h32) ?_)
 refine tG 21 0 rfl (Z6i T2 rfl rfl rfl ?_)
 refine tG 22 0 rfl (x_pk rfl rfl rfl ?_)
 refine tK 23 0 rfl (x_pk rfl rfl rfl ?_)
 refine aN ?_
 cases hm
 exact vW [0]
 refine tF 17 rfl ?_
 refine tF 18 rfl ?_
 refine tF 19 rfl ?_
 refine tF 20 rfl ?_
 refine tF 21 rfl ?_
 refine tG 22 0 rfl (x_pk rfl rfl rfl ?_)
 refine tK 23 0 rfl (x_pk rfl rfl rfl ?_)
 refine aN ?_
 cases hm
 exact vW [0]
 refine bS hm (fun hb34 hm => ?_) fun hb34 hm => ?_
 refine yG ?_
 intro _ hm
 cases hm
 exact ⟨rfl, vW []⟩
 refine yG ?_
 intro k6 hm
 cases hm
 exact ⟨rfl, vW [0]⟩
 refine V2 ?_
 cases hm
 exact ⟨rfl, vW []⟩
 rcases y36 with j3 | j4 <;> simp only at hm
 cases hm
 exact rZ1
 refine yG ?_
 intro _ hm
 cases hm
 exact rZ1
noncomputable def Z7j (m : GModule) (f : GFunc) (i : GInst) : Option Bool :=
 (if 0 ≤ i.imm ∧ i.imm < (List.length m.funcs : Int) then
 (if (if (i.w != ((at_ m.funcs i.imm).ret)) = true then true else (((List.length i.args : Int)) != ((List.length ((at_ m.funcs i.imm).params) : Int)))) = true then
 (some false)
 else
 (Option.bind (Y6 (fun (st8 : Int) =>
 ((if decide (st8 < ((List.length i.args : Int))) = true then
 (if 0 ≤ st8 ∧ st8 < (List.length i.args : Int) then
 (if 0 ≤ st8 ∧ st8 < (List.length ((at_ m.funcs i.imm).params) : Int) then
 (Option.bind (Q4 f (at_ i.args st8)) fun x14 =>
 (if (x14 != (at_ ((at_ m.funcs i.imm).params) st8)) = true then
 (some (Sum.inr ((Sum.inl (())))))
 else
 (if inI (st8 + 1) then
 (some (Sum.inl (st8 + 1)))
 else none)))
 else none)
 else none)
 else
 (some (Sum.inr ((Sum.inr (())))))) : Option ((Int) ⊕ (Unit ⊕ Unit)))) 0) fun (y18 : Unit ⊕ Unit) => match y18 with
 | (Sum.inl j9) =>
 (some false)
 | (Sum.inr j10) =>
 (some true)))
 else none)
theorem X0h {m : GModule} {f : GFunc} {i : GInst} {r : Bool} (hm : Z7j m f i = some r) : Sim Tryz.prog 43 [.agg (Z0f false m), .agg (Y1 false f), .agg (Q1 false i)] [] (.u (.one (.bool r))) [] := by
 refine fN 48 0 Tryz.func43 [.tmp 6] fun B hB0 => ?_
 unfold Z7j at hm
 refine yG ?_
 intro k1 hm
 refine nO (K7 T32 rfl (J0 rfl rfl) rfl ?_)
 refine yR ?_
 intro _ hm
 refine W5 ?_
 refine Wp.seq ?_
 refine Wp.seq ?_
 refine V7 (St 48 [(4, vP 0), (5, vP 1), (7, vP 2), (29, vB ((if (i.w != ((at_ m.funcs i.imm).ret)) = true then true else (((List.length i.args : Int)) != ((List.length ((at_ m.funcs i.imm).params) : Int))))))] [(0, oL 3 (Y1 false f)), (1, oL 7 (Q1 false i)), (2, oL 3 (Y1 false (at_ m.funcs i.imm)))] 3) ?_ ?_
 refine yG ?_
 intro _ hm
 refine gO_s rfl rfl rfl (fun hb3 => ?_) (fun hb3 => ?_)
 refine yG ?_
 intro k2 hm
 exact w_ [1, 2, 3] (.cons rfl rfl (.cons rfl rfl (.cons rfl rfl (.cons (by simp only [hb3, BO]; rfl) rfl .nil)))) (.lit rfl rfl (.lit rfl rfl (.lit rfl rfl .nil))) (by decide) (hB_0 hB0)
 refine yG ?_
 intro _ hm
 exact w_ [1, 2, 3] (.cons rfl rfl (.cons rfl rfl (.cons rfl rfl (.cons (by simp only [hb3, BO]; rfl) rfl .nil)))) (.lit rfl rfl (.lit rfl rfl (.lit rfl rfl .nil))) (by decide) (hB_0 hB0)
 refine bS hm (fun hb6 hm => ?_) fun hb6 hm => ?_
 refine yG ?_
 intro _ hm
 cases hm
 exact rZ1
 refine yG ?_
 intro k3 hm
 obtain ⟨y18, hl19, hm⟩ := Z0 hm
 refine J7 hl19 (fun (st8 : Int) => St 48 [(4, vP 0), (7, vP 1), (31, .u (.one (.bs () 1 (List.map iL i.args)))), (32, vI ((List.length i.args : Int))), (33, vI st8)] [(0, oL 3 (Y1 false f)), (1, oL 3 (Y1 false (at_ m.funcs i.imm)))] 2) (fun (y : Unit ⊕ Unit) => match y with | (Sum.inl j9) => (.ret, St 48 [(6, vB false)] [] 0) | (Sum.inr j10) => (.exit 0, St 48 [] [] 0)) (vW [0, 2]) ?_ (by rintro (_ | _) <;> simp) ?_
 intro st8 x hm
 refine yG ?_
 intro _ hm
 refine bS hm (fun hb11 hm => ?_) fun hb11 hm => ?_
 refine K5 ?_
 refine Wp.seq ?_
 refine Wp.block ?_
 refine Wp.seq ?_
 refine X7 ?_
 refine yR ?_
 intro k4 hm
 refine W5 ?_
 refine Wp.seq ?_
 refine Z4t (Y := sysC _) Z4j ?_
 refine tK 0 1 rfl (kW ?_)
 refine tK 1 0 rfl (kV ?_)
 refine tK 3 1 rfl (kF ?_)
 refine tK 4 1 rfl (kD ?_)
 refine tK 5 0 rfl (kV ?_)
 obtain ⟨h13, hm⟩ := Z9 hm
 refine tK 6 0 rfl (Z8m E29 rfl rfl h13 ?_)
 refine tK 7 0 rfl (K7 T2 rfl rfl rfl ?_)
 obtain ⟨x14, h15, hm⟩ := Z0 hm
 refine oK 2 rfl (cB (Z1g h15) ?_)
 refine tK 8 0 rfl (Z6i T2 rfl rfl rfl ?_)
 refine aN ?_
 refine bS hm (fun hb16 hm => ?_) fun hb16 hm => ?_
 refine yG ?_
 intro _ hm
 cases hm
 exact ⟨rfl, vW []⟩
 refine yG ?_
 intro k5 hm
 cases hm
 exact ⟨rfl, vW [0, 1]⟩
 refine V2 ?_
 cases hm
 exact ⟨rfl, vW []⟩
 rcases y18 with j9 | j10 <;> simp only at hm
 cases hm
 exact rZ1
 refine yG ?_
 intro _ hm
 cases hm
 exact rZ1
noncomputable def Z3m (i : GInst) (a : GModule) (aq : GFunc) : Option Bool :=
 (Option.bind ((if (i.op_ == 26) = true then
 (Option.bind (Z7j a aq i) fun x3 =>
 (some ((!x3))))
 else
 (some false))) fun (j1 : Bool) =>
 (some j1))
theorem Y5d {i : GInst} {a : GModule} {aq : GFunc} {r : Bool} (hm : Z3m i a aq = some r) : Sim Tryz.prog 42 [.agg (Q1 false i), .one (.ip () (Z0f false a)), .one (.ip () (Y1 false aq))] [] (.u (.one (.bool r))) [] := by
 refine fN 15 0 Tryz.func42 [.tmp 4] fun B hB0 => ?_
 unfold Z3m at hm
 refine Wp.seq ?_
 refine X7 ?_
 refine yR ?_
 intro _ hm
 refine W5 ?_
 refine Wp.seq ?_
 obtain ⟨j1, hj5, hm⟩ := Z0 hm
 refine V7 (St 15 [(4, vB j1)] [] 0) ?_ ?_
 replace hm := hj5
 refine yG ?_
 intro _ hm
 refine bG1 hm (fun hb2 hm => ?_) fun hb2 hm => ?_
 refine gO_t rfl rfl rfl (K7 T26 rfl (J0 rfl rfl) rfl ?_)
 refine gO_t rfl rfl rfl (K7 T32 rfl (J0 rfl rfl) rfl ?_)
 refine gO_t rfl rfl rfl (kW ?_)
 obtain ⟨x3, h4, hm⟩ := Z0 hm
 refine gO_t rfl rfl rfl (Z5 (cB (X0h h4) ?_))
 refine yG ?_
 intro _ hm
 cases hm
 exact vW []
 refine yG ?_
 intro _ hm
 cases hm
 exact vW []
 refine Z2d ?_
 cases hm
 exact rZ1
noncomputable def Z2y (f : GFunc) (without : Int) : Option (List Bool) :=
 (if 0 ≤ ((List.length f.blocks : Int)) ∧ ((List.length f.blocks : Int)) ≤ ((List.length f.blocks : Int)) ∧ ((List.length f.blocks : Int)) * (1 : Nat) ≤ 140737488355328 ∧ ((List.length f.blocks : Int)) ≤ 140737488355328 then
 (Option.bind (Y6 (fun (st3 : (List Bool) × (List Int)) =>
 ((if decide (((List.length st3.2 : Int)) > 0) = true then
 (if (0 : Int) ≤ 0 ∧ 0 < (List.length st3.2 : Int) then
 (if 1 ≤ (List.length st3.2) ∧ (List.length st3.2) ≤ List.length st3.2 then
 (Option.bind ((if ((at_ st3.2 0) == without) = true then
 (some true)
 else
 (if 0 ≤ (at_ st3.2 0) ∧ (at_ st3.2 0) < (List.length st3.1 : Int) then
 (some (at_ st3.1 (at_ st3.2 0)))
 else none))) fun (j9 : Bool) =>
 (if j9 = true then
 (some (Sum.inl ((st3.1, List.drop 1 st3.2))))
 else
 (if 0 ≤ (at_ st3.2 0) ∧ (at_ st3.2 0) < (List.length st3.1 : Int) then
 (if 0 ≤ (at_ st3.2 0) ∧ (at_ st3.2 0) < (List.length f.blocks : Int) then
 (if (List.length (List.drop 1 st3.2) + List.length ((W8 (((at_ f.blocks (at_ st3.2 0)).term))))) * 8 ≤ 140737488355328 ∧ List.length (List.drop 1 st3.2) + List.length ((W8 (((at_ f.blocks (at_ st3.2 0)).term)))) ≤ LIM then
 (some (Sum.inl ((List.set st3.1 (Int.toNat (at_ st3.2 0)) true, (List.drop 1 st3.2) ++ ((W8 (((at_ f.blocks (at_ st3.2 0)).term))))))))
 else none)
 else none)
 else none)))
 else none)
 else none)
 else
 (some (Sum.inr st3.1))) : Option (((List Bool) × (List Int)) ⊕ (((List Bool)))))) (List.replicate (Int.toNat ((List.length f.blocks : Int))) false, [0])) fun (j4 : (List Bool)) =>
 (some j4))
 else none)
theorem Z8c {f : GFunc} {without : Int} {r : List Bool} (hm : Z2y f without = some r) : Sim Tryz.prog 24 [.agg (Y1 false f), .one (.int .i64 without)] [] (.u (.one (.os () 1 (List.map bL r)))) [] := by
 refine fN 43 0 Tryz.func24 [.tmp 4] fun B hB0 => ?_
 unfold Z2y at hm
 refine yG ?_
 intro k1 hm
 obtain ⟨h2, hm⟩ := Z9 hm
 refine nO (x_mk (enc := bL) (d := false) A56 rfl rfl rfl h2 ?_)
 refine yG ?_
 intro _ hm
 refine nO (kM (iL) ([0]) ?_)
 refine yG ?_
 intro _ hm
 obtain ⟨j4, hl18, hm⟩ := Z0 hm
 refine lP hl18 (fun st3 => St 43 [(1, vI without), (2, vP 0), (5, vR 1 (List.length st3.1)), (6, vR 2 (List.length st3.2))] [(0, oL 3 (Y1 false f)), (1, oM 1 bL st3.1), (2, oM 1 iL st3.2)] 3) (fun j4 => (.exit 0, St 43 [(5, vR 0 (List.length j4))] [(0, oM 1 bL j4)] 1)) (vW [0, 1, 2]) ?_ ?_
 intro st3 x hm
 refine yG ?_
 intro k2 hm
 refine bS hm (fun hb6 hm => ?_) fun hb6 hm => ?_
 refine yG ?_
 intro k3 hm
 obtain ⟨h8, hm⟩ := Z9 hm
 refine nO (W4u (l := 1) (h := (List.length st3.2)) rfl E29 rfl rfl (bd_s (m := 1) rfl (by decide)) bd_n h8 ?_)
 refine WpO.ghb (W3x 20 st3.2 (List.drop 1 st3.2) rfl rfl rfl (by simp only [List.length_take, List.length_drop] <;> omega) (by first | rfl | (simp only [Nat.zero_add]; done) | (simp only [Nat.zero_add]; exact List.take_of_length_le (by first | (simp only [List.length_drop] <;> omega) | (simp <;> omega))) | exact List.take_of_length_le (by simp only [List.length_drop, Nat.zero_add] <;> omega))) ?_
 refine nO (x_as rfl rfl ?_)
 refine W5 ?_
 refine Wp.seq ?_
 refine Wp.seq ?_
 obtain ⟨j9, hj12, hm⟩ := Z0 hm
 refine V7 (St 43 [(1, vI without), (2, vP 0), (5, vR 1 (List.length st3.1)), (6, vR 2 (List.length (List.drop 1 st3.2))), (7, vI (at_ st3.2 0)), (29, vB j9)] [(0, oL 3 (Y1 false f)), (1, oM 1 bL st3.1), (2, oM 1 iL (List.drop 1 st3.2))] 3) ?_ ?_
 replace hm := hj12
 refine yG ?_
 intro _ hm
 refine bG0 hm (fun hb10 hm => ?_) fun hb10 hm => ?_
 refine yG ?_
 intro k4 hm
 cases hm
 exact vW [0, 1, 3]
 refine yG ?_
 intro _ hm
 cases hm
 exact vW [0, 1, 3]
 refine bS hm (fun hb13 hm => ?_) fun hb13 hm => ?_
 refine V2 ?_
 cases hm
 exact ⟨rfl, vW [0, 1, 2]⟩
 refine yG ?_
 intro k5 hm
 refine nO (Z9x true T4 rfl rfl rfl k5.2 rfl rfl rfl rfl ?_)
 refine yG ?_
 intro k6 hm
 refine nO (K7 T39 rfl (u := .agg (Y3r (((at_ f.blocks (at_ st3.2 0)).term)))) rfl rfl ?_)
 refine nO (Z5 (cB (Z8u (((at_ f.blocks (at_ st3.2 0)).term))) ?_))
 refine yG ?_
 intro k7 hm
 cases hm
 exact ⟨rfl, vW [0, 1, 4]⟩
 refine V2 ?_
 cases hm
 exact ⟨rfl, vW [1]⟩
 refine yG ?_
 intro _ hm
 cases hm
 exact rZ1h (hg := Z3s 0 0 rfl rfl rfl rfl)
noncomputable def Z1r (f : GFunc) (a : Int) (b : Int) : Option Bool :=
 (Option.bind ((Option.bind (Z2y f ((-1))) fun x2 =>
 (if 0 ≤ b ∧ b < (List.length x2 : Int) then
 (if at_ x2 b = true then
 (Option.bind (Z2y f a) fun x6 =>
 (if 0 ≤ b ∧ b < (List.length x6 : Int) then
 (some ((!(at_ x6 b))))
 else none))
 else
 (some false))
 else none))) fun (j1 : Bool) =>
 (some j1))
theorem Y0c {f : GFunc} {a : Int} {b : Int} {r : Bool} (hm : Z1r f a b = some r) : Sim Tryz.prog 29 [.agg (Y1 false f), .one (.int .i64 a), .one (.int .i64 b)] [] (.u (.one (.bool r))) [] := by
 refine fN 21 0 Tryz.func29 [.tmp 6] fun B hB0 => ?_
 unfold Z1r at hm
 refine Wp.seq ?_
 refine X7 ?_
 refine yR ?_
 intro _ hm
 refine W5 ?_
 refine Wp.seq ?_
 obtain ⟨j1, hj9, hm⟩ := Z0 hm
 refine V7 (St 21 [(6, vB j1)] [] 0) ?_ ?_
 replace hm := hj9
 refine X7 ?_
 refine nO (kW ?_)
 obtain ⟨x2, h3, hm⟩ := Z0 hm
 refine nO (Z5 (cB (Z8c h3) ?_))
 refine yG ?_
 intro k1 hm
 refine bG1 hm (fun hb5 hm => ?_) fun hb5 hm => ?_
 refine gO_t rfl rfl rfl (kW ?_)
 refine yG ?_
 intro _ hm
 obtain ⟨x6, h7, hm⟩ := Z0 hm
 refine gO_t rfl rfl rfl (Z5 (cB (Z8c h7) ?_))
 refine yG ?_
 intro k2 hm
 cases hm
 exact vW []
 refine yG ?_
 intro _ hm
 cases hm
 exact vW []
 refine Z2d ?_
 cases hm
 exact rZ1
noncomputable def Z3f (f : GFunc) (id : Int) (b : Int) (ahead : Int) : Option Bool :=
 (Option.bind (Z0i f id) fun x1 =>
 (if (x1.1 == ((-1))) = true then
 (some true)
 else
 (if (x1.1 == b) = true then
 (some (decide (id < ahead)))
 else
 (Option.bind (Z1r f x1.1 b) fun x5 =>
 (some x5)))))
theorem Z9t {f : GFunc} {id : Int} {b : Int} {ahead : Int} {r : Bool} (hm : Z3f f id b ahead = some r) : Sim Tryz.prog 81 [.agg (Y1 false f), .one (.int .i64 id), .one (.int .i64 b), .one (.int .i64 ahead)] [] (.u (.one (.bool r))) [] := by
 refine fN 30 0 Tryz.func81 [.tmp 8] fun B hB0 => ?_
 unfold Z3f at hm
 refine yG ?_
 intro _ hm
 refine nO (kW ?_)
 refine yG ?_
 intro _ hm
 obtain ⟨x1, h2, hm⟩ := Z0 hm
 refine nO (Z5 (cB (Z3q h2) ?_))
 refine yG ?_
 intro _ hm
 refine bS hm (fun hb3 hm => ?_) fun hb3 hm => ?_
 refine yG ?_
 intro _ hm
 cases hm
 exact rZ1
 refine yG ?_
 intro _ hm
 refine bS hm (fun hb4 hm => ?_) fun hb4 hm => ?_
 refine yG ?_
 intro _ hm
 cases hm
 exact rZ1
 refine yG ?_
 intro _ hm
 refine nO (kW ?_)
 refine yG ?_
 intro _ hm
 obtain ⟨x5, h6, hm⟩ := Z0 hm
 refine nO (Z5 (cB (Y0c h6) ?_))
 refine yG ?_
 intro _ hm
 cases hm
 exact rZ1
noncomputable def Z5v (f : GFunc) (b : Int) : Option Int :=
 (if 0 ≤ b ∧ 0 ≤ (Int.toNat b) ∧ (Int.toNat b) ≤ List.length f.blocks then
 (Option.bind (Y6 (fun (st4 : Int × Int) =>
 ((if decide (st4.1 < ((List.length (List.take ((Int.toNat b) - 0) (List.drop 0 f.blocks)) : Int))) = true then
 (if 0 ≤ st4.1 ∧ st4.1 < (List.length (List.take ((Int.toNat b) - 0) (List.drop 0 f.blocks)) : Int) then
 (if inI (st4.2 + (((List.length ((at_ (List.take ((Int.toNat b) - 0) (List.drop 0 f.blocks)) st4.1).phis) : Int)) + ((List.length ((at_ (List.take ((Int.toNat b) - 0) (List.drop 0 f.blocks)) st4.1).insts) : Int)))) then
 (if inI (st4.1 + 1) then
 (some (Sum.inl ((st4.1 + 1, st4.2 + (((List.length ((at_ (List.take ((Int.toNat b) - 0) (List.drop 0 f.blocks)) st4.1).phis) : Int)) + ((List.length ((at_ (List.take ((Int.toNat b) - 0) (List.drop 0 f.blocks)) st4.1).insts) : Int)))))))
 else none)
 else none)
 else none)
 else
 (some (Sum.inr st4.2))) : Option ((Int × Int) ⊕ (Int)))) (0, (List.length f.params : Int))) fun (j5 : Int) =>
 (some j5))
 else none)
theorem Y2d {f : GFunc} {b : Int} {r : Int} (hm : Z5v f b = some r) : Sim Tryz.prog 82 [.agg (Y1 false f), .one (.int .i64 b)] [] (.u (.one (.int .i64 r))) [] := by
 refine fN 31 0 Tryz.func82 [.tmp 4] fun B hB0 => ?_
 unfold Z5v at hm
 refine yG ?_
 intro k1 hm
 obtain ⟨h2, hm⟩ := Z9 hm
 refine nO (x_slb (enc := W2 false) (xs := f.blocks) (l := 0) (h := (Int.toNat b)) E30 rfl bd_n (bd_s rfl h2.1) h2.2 ?_)
 refine yG ?_
 intro k2 hm
 obtain ⟨j5, hl13, hm⟩ := Z0 hm
 refine lP hl13 (fun st4 => St 31 [(5, vI st4.2), (14, .u (.one (.bs () 6 (List.map (W2 false) (List.take ((Int.toNat b) - 0) (List.drop 0 f.blocks)))))), (15, vI ((List.length (List.take ((Int.toNat b) - 0) (List.drop 0 f.blocks)) : Int))), (16, vI st4.1)] [] 0) (fun j5 => (.exit 0, St 31 [(5, vI j5)] [] 0)) (vW []) ?_ ?_
 intro st4 x hm
 refine yG ?_
 intro _ hm
 refine bS hm (fun hb6 hm => ?_) fun hb6 hm => ?_
 refine yG ?_
 intro k3 hm
 refine nO (K7 T41 rfl (J0 rfl rfl) rfl ?_)
 refine yG ?_
 intro k4 hm
 cases hm
 exact ⟨rfl, vW []⟩
 refine V2 ?_
 cases hm
 exact ⟨rfl, vW []⟩
 refine yG ?_
 intro _ hm
 cases hm
 exact rZ1
noncomputable def Z3n (id : Int) (a : GFunc) (aq : Int) (aqq : Int) (aqqq : Int) : Option Bool :=
 (Option.bind (Z3f a id aq (IntKind.i64.wrap (aqq + aqqq))) fun x1 =>
 (some ((!x1))))
theorem Y5e {id : Int} {a : GFunc} {aq : Int} {aqq : Int} {aqqq : Int} {r : Bool} (hm : Z3n id a aq aqq aqqq = some r) : Sim Tryz.prog 83 [.one (.int .i64 id), .one (.ip () (Y1 false a)), .one (.ip () (iL aq)), .one (.ip () (iL aqq)), .one (.ip () (iL aqqq))] [] (.u (.one (.bool r))) [] := by
 refine fN 15 0 Tryz.func83 [.tmp 6] fun B hB0 => ?_
 have fW := trivial
 unfold Z3n at hm
 refine yG ?_
 intro _ hm
 refine nO (K7 T32 rfl (J0 rfl rfl) rfl ?_)
 refine yG ?_
 intro _ hm
 refine nO (Y2g T2 rfl rfl rfl ?_)
 obtain ⟨x1, h2, hm⟩ := Z0 hm
 refine nO (Z5 (cB (Z9t h2) ?_))
 refine yG ?_
 intro _ hm
 cases hm
 exact rZ1
end
section
set_option maxHeartbeats 8000000
set_option maxRecDepth 100000
attribute [local irreducible] aopK J8 Wp St WpO
noncomputable def Z5x (f : GFunc) (b : Int) (reached : List Bool) : Option Bool :=
 (if 0 ≤ b ∧ b < (List.length f.blocks : Int) then
 (Option.bind (Z2c f b) fun x2 =>
 (Option.bind (Y6 (fun (st5 : Int) =>
 ((if decide (st5 < ((List.length ((at_ f.blocks b).phis) : Int))) = true then
 (if 0 ≤ st5 ∧ st5 < (List.length ((at_ f.blocks b).phis) : Int) then
 (Option.bind (Y6 (fun (st11 : Int) =>
 ((if decide (st11 < ((List.length ((at_ ((at_ f.blocks b).phis) st5).ins) : Int))) = true then
 (if 0 ≤ st11 ∧ st11 < (List.length ((at_ ((at_ f.blocks b).phis) st5).ins) : Int) then
 (Option.bind ((if 0 ≤ st11 ∧ st11 < (List.length x2 : Int) then
 (if 0 ≤ (at_ x2 st11) ∧ (at_ x2 st11) < (List.length reached : Int) then
 (if at_ reached (at_ x2 st11) = true then
 (if 0 ≤ st11 ∧ st11 < (List.length x2 : Int) then
 (Option.bind (Z0j f) fun x21 =>
 (Option.bind (Z3f f (at_ ((at_ ((at_ f.blocks b).phis) st5).ins) st11) (at_ x2 st11) x21) fun x23 =>
 (some ((!x23)))))
 else none)
 else
 (some false))
 else none)
 else none)) fun (j16 : Bool) =>
 (if j16 = true then
 (some (Sum.inr ((Sum.inl (())))))
 else
 (if inI (st11 + 1) then
 (some (Sum.inl (st11 + 1)))
 else none)))
 else none)
 else
 (some (Sum.inr ((Sum.inr (())))))) : Option ((Int) ⊕ (Unit ⊕ Unit)))) 0) fun (y28 : Unit ⊕ Unit) => match y28 with
 | (Sum.inl j12) =>
 (some (Sum.inr ((Sum.inl (())))))
 | (Sum.inr j13) =>
 (if inI (st5 + 1) then
 (some (Sum.inl (st5 + 1)))
 else none))
 else none)
 else
 (some (Sum.inr ((Sum.inr (())))))) : Option ((Int) ⊕ (Unit ⊕ Unit)))) 0) fun (y31 : Unit ⊕ Unit) => match y31 with
 | (Sum.inl j6) =>
 (some false)
 | (Sum.inr j7) =>
 (Option.bind ((Option.bind (Z5v f b) fun x35 =>
 (if inI (x35 + ((List.length ((at_ f.blocks b).phis) : Int))) then
 (some (x35 + ((List.length ((at_ f.blocks b).phis) : Int))))
 else none))) fun (j33 : Int) =>
 (Option.bind (Y6 (fun (st40 : Int) =>
 ((if decide (st40 < ((List.length ((at_ f.blocks b).insts) : Int))) = true then
 (if 0 ≤ st40 ∧ st40 < (List.length ((at_ f.blocks b).insts) : Int) then
 (Option.bind (Z0e (at_ ((at_ f.blocks b).insts) st40)) fun x45 =>
 (Option.bind (Z7 x45 ((fun z0 => Z3n z0 f b j33 st40))) fun x47 =>
 (if x47 = true then
 (some (Sum.inr ((Sum.inl (())))))
 else
 (if inI (st40 + 1) then
 (some (Sum.inl (st40 + 1)))
 else none))))
 else none)
 else
 (some (Sum.inr ((Sum.inr (())))))) : Option ((Int) ⊕ (Unit ⊕ Unit)))) 0) fun (y51 : Unit ⊕ Unit) => match y51 with
 | (Sum.inl j41) =>
 (some false)
 | (Sum.inr j42) =>
 (Option.bind ((if (!((if ((((at_ f.blocks b).term).kind) == 1) = true then true else ((((at_ f.blocks b).term).kind) == 3)))) = true then
 (some true)
 else
 (Option.bind (Z0j f) fun x57 =>
 (Option.bind (Z3f f (((at_ f.blocks b).term).a) b x57) fun x59 =>
 (some x59))))) fun (j55 : Bool) =>
 (some j55))))))
 else none)
theorem Y7x {f : GFunc} {b : Int} {reached : List Bool} {r : Bool} (hm : Z5x f b reached = some r) : Sim Tryz.prog 44 [.agg (Y1 false f), .one (.int .i64 b), .one (.bs () 1 (List.map bL reached))] [] (.u (.one (.bool r))) [] := by
 refine fN 103 0 Tryz.func44 [.tmp 6] fun B hB0 => ?_
 unfold Z5x at hm
 refine yG ?_
 intro k1 hm
 refine nO (K7 T41 rfl (J0 rfl rfl) rfl ?_)
 refine yG ?_
 intro _ hm
 refine nO (kW ?_)
 refine yG ?_
 intro _ hm
 obtain ⟨x2, h3, hm⟩ := Z0 hm
 refine nO (Z5 (cB (Z8t h3) ?_))
 refine yG ?_
 intro k2 hm
 obtain ⟨y31, hl32, hm⟩ := Z0 hm
 refine J7 hl32 (fun (st5 : Int) => St 103 [(2, .u (.one (.bs () 1 (List.map bL reached)))), (3, vP 0), (4, vP 1), (7, vP 2), (8, vR 3 (List.length x2)), (26, .u (.one (.bs () 2 (List.map (ePhi false) ((at_ f.blocks b).phis))))), (27, vI ((List.length ((at_ f.blocks b).phis) : Int))), (28, vI st5)] [(0, oL 3 (Y1 false f)), (1, oL 1 [.int .i64 b]), (2, oL 6 (W2 false (at_ f.blocks b))), (3, oM 1 iL x2)] 4) (fun (y : Unit ⊕ Unit) => match y with | (Sum.inl j6) => (.ret, St 103 [(6, vB false)] [] 0) | (Sum.inr j7) => (.exit 0, St 103 [(3, vP 0), (4, vP 1), (7, vP 2)] [(0, oL 3 (Y1 false f)), (1, oL 1 [.int .i64 b]), (2, oL 6 (W2 false (at_ f.blocks b)))] 3)) (vW [0, 1, 2, 3]) ?_ (by rintro (_ | _) <;> simp) ?_
 intro st5 x hm
 refine yG ?_
 intro _ hm
 refine bS hm (fun hb8 hm => ?_) fun hb8 hm => ?_
 refine yG ?_
 intro k3 hm
 refine nO (K7 T65 rfl (J0 rfl rfl) rfl ?_)
 refine yG ?_
 intro k4 hm
 obtain ⟨y28, hl29, hm⟩ := Z0 hm
 refine J7 hl29 (fun (st11 : Int) => St 103 [(2, .u (.one (.bs () 1 (List.map bL reached)))), (3, vP 0), (4, vP 1), (7, vP 2), (8, vR 3 (List.length x2)), (26, .u (.one (.bs () 2 (List.map (ePhi false) ((at_ f.blocks b).phis))))), (27, vI ((List.length ((at_ f.blocks b).phis) : Int))), (28, vI st5), (33, .u (.one (.bs () 1 (List.map iL ((at_ ((at_ f.blocks b).phis) st5).ins))))), (34, vI ((List.length ((at_ ((at_ f.blocks b).phis) st5).ins) : Int))), (35, vI st11)] [(0, oL 3 (Y1 false f)), (1, oL 1 [.int .i64 b]), (2, oL 6 (W2 false (at_ f.blocks b))), (3, oM 1 iL x2)] 4) (fun (y : Unit ⊕ Unit) => match y with | (Sum.inl j12) => (.ret, St 103 [(6, vB false)] [] 0) | (Sum.inr j13) => (.exit 2, St 103 [(2, .u (.one (.bs () 1 (List.map bL reached)))), (3, vP 0), (4, vP 1), (7, vP 2), (8, vR 3 (List.length x2)), (26, .u (.one (.bs () 2 (List.map (ePhi false) ((at_ f.blocks b).phis))))), (27, vI ((List.length ((at_ f.blocks b).phis) : Int))), (28, vI st5)] [(0, oL 3 (Y1 false f)), (1, oL 1 [.int .i64 b]), (2, oL 6 (W2 false (at_ f.blocks b))), (3, oM 1 iL x2)] 4)) (vW [0, 1, 2, 3]) ?_ (by rintro (_ | _) <;> simp) ?_
 intro st11 x hm
 refine yG ?_
 intro _ hm
 refine bS hm (fun hb14 hm => ?_) fun hb14 hm => ?_
 refine K5 ?_
 refine Wp.seq ?_
 refine Wp.block ?_
 refine Wp.seq ?_
 refine X7 ?_
 refine yR ?_
 intro k5 hm
 refine W5 ?_
 refine Wp.seq ?_
 obtain ⟨j16, hj25, hm⟩ := Z0 hm
 refine V7 (St 103 [(2, .u (.one (.bs () 1 (List.map bL reached)))), (3, vP 0), (4, vP 1), (7, vP 2), (8, vR 3 (List.length x2)), (26, .u (.one (.bs () 2 (List.map (ePhi false) ((at_ f.blocks b).phis))))), (27, vI ((List.length ((at_ f.blocks b).phis) : Int))), (28, vI st5), (33, .u (.one (.bs () 1 (List.map iL ((at_ ((at_ f.blocks b).phis) st5).ins))))), (34, vI ((List.length ((at_ ((at_ f.blocks b).phis) st5).ins) : Int))), (35, vI st11), (58, vB j16)] [(0, oL 3 (Y1 false f)), (1, oL 1 [.int .i64 b]), (2, oL 6 (W2 false (at_ f.blocks b))), (3, oM 1 iL x2)] 4) ?_ ?_
 replace hm := hj25
 refine Z4t (Y := sysC _) Z4j ?_
 refine tK 0 0 rfl (kV ?_)
 refine tK 1 0 rfl (kV ?_)
 refine tK 2 0 rfl (kV ?_)
 obtain ⟨h17, hm⟩ := Z9 hm
 refine tK 3 1 rfl (K8 rfl E29 rfl rfl rfl h17 ?_)
 refine tK 4 1 rfl (Z5g rfl T2 rfl rfl h17 rfl rfl ?_)
 obtain ⟨h18, hm⟩ := Z9 hm
 refine tK 5 0 rfl (Z8m E56 rfl rfl h18 ?_)
 refine tK 6 0 rfl (K7 T4 rfl rfl rfl ?_)
 refine tK 7 0 rfl (kV ?_)
 refine bT 47 hm (fun hb19 hm => ?_) fun hb19 hm => ?_
 refine tG 8 1 rfl (kW ?_)
 refine tG 9 0 rfl (kV ?_)
 refine tG 10 0 rfl (kV ?_)
 refine tG 11 0 rfl (kV ?_)
 obtain ⟨h20, hm⟩ := Z9 hm
 refine tG 12 1 rfl (K8 rfl E29 rfl rfl rfl h20 ?_)
 refine tG 13 1 rfl (Z5g rfl T2 rfl rfl h20 rfl rfl ?_)
 refine tG 14 1 rfl (kW ?_)
 obtain ⟨x21, h22, hm⟩ := Z0 hm
 refine oG 15 rfl (cB (Z3r h22) ?_)
 obtain ⟨x23, h24, hm⟩ := Z0 hm
 refine oG 16 rfl (cB (Z9t h24) ?_)
 refine tG 17 0 rfl (x_un rfl rfl ?_)
 refine tK 18 0 rfl (x_pk rfl rfl rfl ?_)
 refine aN ?_
 cases hm
 exact vW [0, 1, 2, 3]
 refine tF 8 rfl ?_
 refine tF 9 rfl ?_
 refine tF 10 rfl ?_
 refine tF 11 rfl ?_
 refine tF 12 rfl ?_
 refine tF 13 rfl ?_
 refine tF 14 rfl ?_
 refine tF 15 rfl ?_
 refine tF 16 rfl ?_
 refine tF 17 rfl ?_
 refine tK 18 0 rfl (x_pk rfl rfl rfl ?_)
 refine aN ?_
 cases hm
 exact vW [0, 1, 2, 3]
 refine bS hm (fun hb26 hm => ?_) fun hb26 hm => ?_
 refine yG ?_
 intro _ hm
 cases hm
 exact ⟨rfl, vW []⟩
 refine yG ?_
 intro k6 hm
 cases hm
 exact ⟨rfl, vW [0, 1, 2, 3]⟩
 refine V2 ?_
 cases hm
 exact ⟨rfl, vW [0, 1, 2, 3]⟩
 rcases y28 with j12 | j13 <;> simp only at hm
 cases hm
 exact ⟨rfl, vW []⟩
 refine yG ?_
 intro k7 hm
 cases hm
 exact ⟨rfl, vW [0, 1, 2, 3]⟩
 refine V2 ?_
 cases hm
 exact ⟨rfl, vW [0, 1, 2]⟩
 rcases y31 with j6 | j7 <;> simp only at hm
 cases hm
 exact rZ1
 refine Wp.seq ?_
 obtain ⟨j33, hj38, hm⟩ := Z0 hm
 refine V7 (St 103 [(3, vP 0), (4, vP 1), (7, vP 2), (13, vP 3)] [(0, oL 3 (Y1 false f)), (1, oL 1 [.int .i64 b]), (2, oL 6 (W2 false (at_ f.blocks b))), (3, oL 1 [.int .i64 j33])] 4) ?_ ?_
 replace hm := hj38
 refine Z4t (Y := sysC _) Z4j ?_
 refine tK 0 1 rfl (kW ?_)
 refine tK 1 1 rfl (kD ?_)
 refine tK 3 1 rfl (kF ?_)
 refine tK 4 1 rfl (kD ?_)
 refine tK 5 0 rfl (Y5w N36 rfl fun hL34 => ?_)
 refine t_2 2 7 rfl rfl (by decide +kernel) ?_ ?_
 obtain ⟨x35, h36, hm⟩ := Z0 hm
 refine (cB (Y2d h36) ?_)
 obtain ⟨h37, hm⟩ := Z9 hm
 refine tK 6 0 rfl (Y3s T2 rfl rfl h37 ?_)
 refine oK 7 rfl (x_al T2 (r := [.int .i64 0]) rfl rfl ?_)
 refine oK 8 rfl (kS ?_)
 refine aN ?_
 cases hm
 exact vW [0, 1, 2, 3]
 refine (x_al T2 (r := [.int .i64 0]) rfl rfl ?_)
 obtain ⟨x35, h36, hm⟩ := Z0 hm
 refine oK 2 rfl (cB (Y2d h36) ?_)
 obtain ⟨h37, hm⟩ := Z9 hm
 refine tK 6 0 rfl (Y3s T2 rfl rfl h37 ?_)
 refine oK 8 rfl (kS ?_)
 refine aN ?_
 cases hm
 exact vW [0, 1, 2, 3]
 refine yG ?_
 intro k8 hm
 obtain ⟨y51, hl52, hm⟩ := Z0 hm
 refine J7 hl52 (fun (st40 : Int) => St 103 [(3, vP 0), (4, vP 1), (7, vP 2), (13, vP 3), (69, .u (.one (.bs () 7 (List.map (Q1 false) ((at_ f.blocks b).insts))))), (70, vI ((List.length ((at_ f.blocks b).insts) : Int))), (71, vI st40)] [(0, oL 3 (Y1 false f)), (1, oL 1 [.int .i64 b]), (2, oL 6 (W2 false (at_ f.blocks b))), (3, oL 1 [.int .i64 j33])] 4) (fun (y : Unit ⊕ Unit) => match y with | (Sum.inl j41) => (.ret, St 103 [(6, vB false)] [] 0) | (Sum.inr j42) => (.exit 4, St 103 [(3, vP 0), (4, vP 1), (7, vP 2)] [(0, oL 3 (Y1 false f)), (1, oL 1 [.int .i64 b]), (2, oL 6 (W2 false (at_ f.blocks b)))] 3)) (vW [0, 1, 2, 3]) ?_ (by rintro (_ | _) <;> simp) ?_
 intro st40 x hm
 refine yG ?_
 intro _ hm
 refine bS hm (fun hb43 hm => ?_) fun hb43 hm => ?_
 refine yG ?_
 intro k9 hm
 refine nO (K7 T46 rfl (J0 rfl rfl) rfl ?_)
 refine yG ?_
 intro _ hm
 refine nO (kW ?_)
 obtain ⟨x45, h46, hm⟩ := Z0 hm
 refine nO (Z5 (cB (Z6r h46) ?_))
 refine nO (x_mf (ls := [.ptr () 0 0 0, .ptr () 1 0 0, .ptr () 3 0 0, .ptr () 4 0 0]) rfl ?_)
 obtain ⟨x47, h48, hm⟩ := Z0 hm
 refine nO (Z5 (Z0b (v := .u (.one (.bool x47))) (nobs := []) (oa' := _) (nx' := 7) rfl (a_1 rfl (b_r rfl) (a_1 rfl (b_f (c_c (b_p rfl (Z8w rfl) rfl) (c_c (b_p (cs := [.int .i64 b]) rfl (c_c (b_s rfl) c_n) rfl) (c_c (b_p (cs := [.int .i64 j33]) rfl (c_c (b_s rfl) c_n) rfl) (c_c (b_p (cs := [.int .i64 st40]) rfl (c_c (b_s rfl) c_n) rfl) c_n))))) a_n)) c_n EntC.h (X5 x45 83 [.ip () (Y1 false f), .ip () [.int .i64 b], .ip () [.int .i64 j33], .ip () [.int .i64 st40]] (fun z0 => Z3n z0 f b j33 st40) EntC.h rfl (fun z0 y hy => Y5e hy) h48) rfl rfl rfl rfl ?_))
 refine W5 ?_
 refine bS hm (fun hb49 hm => ?_) fun hb49 hm => ?_
 refine yG ?_
 intro _ hm
 cases hm
 exact ⟨rfl, vW []⟩
 refine yG ?_
 intro k10 hm
 cases hm
 exact ⟨rfl, vW [0, 1, 2, 3]⟩
 refine V2 ?_
 cases hm
 exact ⟨rfl, vW [0, 1, 2]⟩
 rcases y51 with j41 | j42 <;> simp only at hm
 cases hm
 exact rZ1
 refine Wp.seq ?_
 refine V7 (St 103 [(3, vP 0), (4, vP 1), (7, vP 2), (16, vB ((if ((((at_ f.blocks b).term).kind) == 1) = true then true else ((((at_ f.blocks b).term).kind) == 3))))] [(0, oL 3 (Y1 false f)), (1, oL 1 [.int .i64 b]), (2, oL 6 (W2 false (at_ f.blocks b)))] 3) ?_ ?_
 refine yG ?_
 intro _ hm
 refine gO_s rfl rfl rfl (fun hb54 => ?_) (fun hb54 => ?_)
 refine yG ?_
 intro _ hm
 exact w_ [0, 1, 2] (.cons rfl rfl (.cons rfl rfl (.cons rfl rfl (.cons (by simp only [hb54, BO]; rfl) rfl .nil)))) (.lit rfl rfl (.lit rfl rfl (.lit rfl rfl .nil))) (by decide) (hB_0 hB0)
 refine yG ?_
 intro _ hm
 exact w_ [0, 1, 2] (.cons rfl rfl (.cons rfl rfl (.cons rfl rfl (.cons (by simp only [hb54, BO]; rfl) rfl .nil)))) (.lit rfl rfl (.lit rfl rfl (.lit rfl rfl .nil))) (by decide) (hB_0 hB0)
 refine Wp.seq ?_
 obtain ⟨j55, hj61, hm⟩ := Z0 hm
 refine V7 (St 103 [(6, vB j55)] [] 0) ?_ ?_
 replace hm := hj61
 refine Z4t (Y := sysC _) Z4j ?_
 refine tK 0 0 rfl (kV ?_)
 refine tK 1 0 rfl (x_un rfl rfl ?_)
 refine tK 2 0 rfl (kV ?_)
 refine bT 93 hm (fun hb56 hm => ?_) fun hb56 hm => ?_
 refine tF 3 rfl ?_
 refine tF 4 rfl ?_
 refine tF 5 rfl ?_
 refine tF 6 rfl ?_
 refine tF 7 rfl ?_
 refine tF 8 rfl ?_
 refine tF 9 rfl ?_
 refine tF 10 rfl ?_
 refine tK 11 0 rfl (x_pk rfl rfl rfl ?_)
 refine tK 12 0 rfl (x_as rfl rfl ?_)
 refine aN ?_
 cases hm
 exact vW []
 refine tG 3 1 rfl (kW ?_)
 refine tG 4 1 rfl (kF ?_)
 refine tG 5 1 rfl (kF ?_)
 refine tG 6 1 rfl (kD ?_)
 refine tG 7 1 rfl (kD ?_)
 refine tG 8 1 rfl (kW ?_)
 obtain ⟨x57, h58, hm⟩ := Z0 hm
 refine oG 9 rfl (cB (Z3r h58) ?_)
 obtain ⟨x59, h60, hm⟩ := Z0 hm
 refine oG 10 rfl (cB (Z9t h60) ?_)
 refine tK 11 0 rfl (x_pk rfl rfl rfl ?_)
 refine tK 12 0 rfl (x_as rfl rfl ?_)
 refine aN ?_
 cases hm
 exact vW []
 refine Z2d ?_
 cases hm
 exact rZ1
noncomputable def Z5w (m : GModule) (f : GFunc) : Option Int :=
 (Option.bind (Z5u f) fun x1 =>
 (if (!x1) = true then
 (some 2)
 else
 (Option.bind (Z5y f) fun x4 =>
 (if (!x4) = true then
 (some 3)
 else
 (Option.bind (Z4p f) fun x7 =>
 (if (!x7) = true then
 (some 4)
 else
 (Option.bind (Y6 (fun (st11 : Int) =>
 ((if decide (st11 < ((List.length f.blocks : Int))) = true then
 (if 0 ≤ st11 ∧ st11 < (List.length f.blocks : Int) then
 (Option.bind (Y0 ((at_ f.blocks st11).insts) ((fun z0 => Z3m z0 m f))) fun x16 =>
 (if x16 = true then
 (some (Sum.inr ((Sum.inl (())))))
 else
 (if inI (st11 + 1) then
 (some (Sum.inl (st11 + 1)))
 else none)))
 else none)
 else
 (some (Sum.inr ((Sum.inr (())))))) : Option ((Int) ⊕ (Unit ⊕ Unit)))) 0) fun (y20 : Unit ⊕ Unit) => match y20 with
 | (Sum.inl j12) =>
 (some 5)
 | (Sum.inr j13) =>
 (Option.bind (Z2y f ((-1))) fun x22 =>
 (Option.bind (Y6 (fun (st25 : Int) =>
 ((if decide (st25 < ((List.length x22 : Int))) = true then
 (if 0 ≤ st25 ∧ st25 < (List.length x22 : Int) then
 (Option.bind ((if at_ x22 st25 = true then
 (Option.bind (Z5x f st25 x22) fun x32 =>
 (some ((!x32))))
 else
 (some false))) fun (j30 : Bool) =>
 (if j30 = true then
 (some (Sum.inr ((Sum.inl (())))))
 else
 (if inI (st25 + 1) then
 (some (Sum.inl (st25 + 1)))
 else none)))
 else none)
 else
 (some (Sum.inr ((Sum.inr (())))))) : Option ((Int) ⊕ (Unit ⊕ Unit)))) 0) fun (y37 : Unit ⊕ Unit) => match y37 with
 | (Sum.inl j26) =>
 (some 6)
 | (Sum.inr j27) =>
 (some 0))))))))))
theorem Y7w {m : GModule} {f : GFunc} {r : Int} (hm : Z5w m f = some r) : Sim Tryz.prog 19 [.agg (Z0f false m), .agg (Y1 false f)] [] (.u (.one (.int .i64 r))) [] := by
 refine fN 52 0 Tryz.func19 [.tmp 4] fun B hB0 => ?_
 unfold Z5w at hm
 refine yG ?_
 intro _ hm
 refine nO (kW ?_)
 obtain ⟨x1, h2, hm⟩ := Z0 hm
 refine nO (Z5 (cB (Y7v h2) ?_))
 refine yG ?_
 intro _ hm
 refine bS hm (fun hb3 hm => ?_) fun hb3 hm => ?_
 refine yG ?_
 intro _ hm
 cases hm
 exact rZ1
 refine Wp.seq ?_
 refine X7 ?_
 refine nO (kW ?_)
 obtain ⟨x4, h5, hm⟩ := Z0 hm
 refine nO (Z5 (cB (Y7y h5) ?_))
 refine yG ?_
 intro _ hm
 refine bS hm (fun hb6 hm => ?_) fun hb6 hm => ?_
 refine yG ?_
 intro _ hm
 cases hm
 exact rZ1
 refine Wp.seq ?_
 refine X7 ?_
 refine nO (kW ?_)
 obtain ⟨x7, h8, hm⟩ := Z0 hm
 refine nO (Z5 (cB (Y6v h8) ?_))
 refine yG ?_
 intro _ hm
 refine bS hm (fun hb9 hm => ?_) fun hb9 hm => ?_
 refine yG ?_
 intro _ hm
 cases hm
 exact rZ1
 refine yG ?_
 intro k1 hm
 obtain ⟨y20, hl21, hm⟩ := Z0 hm
 refine J7 hl21 (fun (st11 : Int) => St 52 [(2, vP 0), (3, vP 1), (23, .u (.one (.bs () 6 (List.map (W2 false) f.blocks)))), (24, vI ((List.length f.blocks : Int))), (25, vI st11)] [(0, oL 1 (Z0f false m)), (1, oL 3 (Y1 false f))] 2) (fun (y : Unit ⊕ Unit) => match y with | (Sum.inl j12) => (.ret, St 52 [(4, vI 5)] [] 0) | (Sum.inr j13) => (.exit 1, St 52 [(3, vP 0)] [(0, oL 3 (Y1 false f))] 1)) (vW [0, 1]) ?_ (by rintro (_ | _) <;> simp) ?_
 intro st11 x hm
 refine yG ?_
 intro _ hm
 refine bS hm (fun hb14 hm => ?_) fun hb14 hm => ?_
 refine yG ?_
 intro k2 hm
 refine nO (K7 T41 rfl (J0 rfl rfl) rfl ?_)
 refine yG ?_
 intro _ hm
 refine nO (x_mf (ls := [.ptr () 0 0 0, .ptr () 1 0 0]) rfl ?_)
 obtain ⟨x16, h17, hm⟩ := Z0 hm
 refine nO (Z5 (Z0b (v := .u (.one (.bool x16))) (nobs := []) (oa' := _) (nx' := 3) rfl (a_1 rfl (b_s rfl) (a_1 rfl (b_f (c_c (b_p rfl (Z8w rfl) rfl) (c_c (b_p rfl (Z8w rfl) rfl) c_n))) a_n)) c_n EntC.h (U8 ((at_ f.blocks st11).insts) 42 [.ip () (Z0f false m), .ip () (Y1 false f)] (fun z0 => Z3m z0 m f) EntC.h rfl (fun z0 y hy => Y5d hy) h17) rfl rfl rfl rfl ?_))
 refine W5 ?_
 refine bS hm (fun hb18 hm => ?_) fun hb18 hm => ?_
 refine yG ?_
 intro _ hm
 cases hm
 exact ⟨rfl, vW []⟩
 refine yG ?_
 intro k3 hm
 cases hm
 exact ⟨rfl, vW [0, 1]⟩
 refine V2 ?_
 cases hm
 exact ⟨rfl, vW [1]⟩
 rcases y20 with j12 | j13 <;> simp only at hm
 cases hm
 exact rZ1
 refine Wp.seq ?_
 refine X7 ?_
 refine nO (kW ?_)
 obtain ⟨x22, h23, hm⟩ := Z0 hm
 refine nO (Z5 (cB (Z8c h23) ?_))
 refine yG ?_
 intro k4 hm
 obtain ⟨y37, hl38, hm⟩ := Z0 hm
 refine J7 hl38 (fun (st25 : Int) => St 52 [(3, vP 0), (7, vR 1 (List.length x22)), (36, vR 1 (List.length x22)), (37, vI ((List.length x22 : Int))), (38, vI st25)] [(0, oL 3 (Y1 false f)), (1, oM 1 bL x22)] 2) (fun (y : Unit ⊕ Unit) => match y with | (Sum.inl j26) => (.ret, St 52 [(4, vI 6)] [] 0) | (Sum.inr j27) => (.exit 3, St 52 [] [] 0)) (vW [0, 1]) ?_ (by rintro (_ | _) <;> simp) ?_
 intro st25 x hm
 refine yG ?_
 intro _ hm
 refine bS hm (fun hb28 hm => ?_) fun hb28 hm => ?_
 refine K5 ?_
 refine Wp.seq ?_
 refine Wp.block ?_
 refine Wp.seq ?_
 refine X7 ?_
 refine yR ?_
 intro k5 hm
 refine W5 ?_
 refine Wp.seq ?_
 obtain ⟨j30, hj34, hm⟩ := Z0 hm
 refine V7 (St 52 [(3, vP 0), (7, vR 1 (List.length x22)), (36, vR 1 (List.length x22)), (37, vI ((List.length x22 : Int))), (38, vI st25), (50, vB j30)] [(0, oL 3 (Y1 false f)), (1, oM 1 bL x22)] 2) ?_ ?_
 replace hm := hj34
 refine yG ?_
 intro _ hm
 refine bG1 hm (fun hb31 hm => ?_) fun hb31 hm => ?_
 refine gO_t rfl rfl rfl (kW ?_)
 refine yG ?_
 intro _ hm
 obtain ⟨x32, h33, hm⟩ := Z0 hm
 refine gO_t rfl rfl rfl (Z5 (cB (Y7x h33) ?_))
 refine yG ?_
 intro _ hm
 cases hm
 exact vW [0, 1]
 refine yG ?_
 intro _ hm
 cases hm
 exact vW [0, 1]
 refine bS hm (fun hb35 hm => ?_) fun hb35 hm => ?_
 refine yG ?_
 intro _ hm
 cases hm
 exact ⟨rfl, vW []⟩
 refine yG ?_
 intro k6 hm
 cases hm
 exact ⟨rfl, vW [0, 1]⟩
 refine V2 ?_
 cases hm
 exact ⟨rfl, vW []⟩
 rcases y37 with j26 | j27 <;> simp only at hm
 cases hm
 exact rZ1
 refine yG ?_
 intro _ hm
 cases hm
 exact rZ1
noncomputable def Z6b (m : GModule) : Option Int :=
 (Option.bind (Z5z m) fun x1 =>
 (if (!x1) = true then
 (some 1)
 else
 (Option.bind (Y6 (fun (st5 : Int) =>
 ((if decide (st5 < ((List.length m.funcs : Int))) = true then
 (if 0 ≤ st5 ∧ st5 < (List.length m.funcs : Int) then
 (Option.bind (Z5w m (at_ m.funcs st5)) fun x10 =>
 (if (x10 != 0) = true then
 (some (Sum.inr ((Sum.inl x10))))
 else
 (if inI (st5 + 1) then
 (some (Sum.inl (st5 + 1)))
 else none)))
 else none)
 else
 (some (Sum.inr ((Sum.inr (())))))) : Option ((Int) ⊕ (Int ⊕ Unit)))) 0) fun (y14 : Int ⊕ Unit) => match y14 with
 | (Sum.inl j6) =>
 (some j6)
 | (Sum.inr j7) =>
 (some 0))))
theorem Y8b {m : GModule} {r : Int} (hm : Z6b m = some r) : Sim Tryz.prog 6 [.agg (Z0f false m)] [] (.u (.one (.int .i64 r))) [] := by
 refine fN 23 0 Tryz.func6 [.tmp 2] fun B hB0 => ?_
 unfold Z6b at hm
 refine yG ?_
 intro _ hm
 refine nO (kW ?_)
 obtain ⟨x1, h2, hm⟩ := Z0 hm
 refine nO (Z5 (cB (Y7z h2) ?_))
 refine yG ?_
 intro _ hm
 refine bS hm (fun hb3 hm => ?_) fun hb3 hm => ?_
 refine yG ?_
 intro _ hm
 cases hm
 exact rZ1
 refine yG ?_
 intro k1 hm
 obtain ⟨y14, hl15, hm⟩ := Z0 hm
 refine J7 hl15 (fun (st5 : Int) => St 23 [(1, vP 0), (10, .u (.one (.bs () 3 (List.map (Y1 false) m.funcs)))), (11, vI ((List.length m.funcs : Int))), (12, vI st5)] [(0, oL 1 (Z0f false m))] 1) (fun (y : Int ⊕ Unit) => match y with | (Sum.inl j6) => (.ret, St 23 [(2, vI j6)] [] 0) | (Sum.inr j7) => (.exit 0, St 23 [] [] 0)) (vW [0]) ?_ (by rintro (_ | _) <;> simp) ?_
 intro st5 x hm
 refine yG ?_
 intro _ hm
 refine bS hm (fun hb8 hm => ?_) fun hb8 hm => ?_
 refine yG ?_
 intro k2 hm
 refine nO (K7 T32 rfl (J0 rfl rfl) rfl ?_)
 refine yG ?_
 intro _ hm
 refine nO (kW ?_)
 refine nO (kW ?_)
 obtain ⟨x10, h11, hm⟩ := Z0 hm
 refine nO (Z5 (cB (Y7w h11) ?_))
 refine yG ?_
 intro _ hm
 refine bS hm (fun hb12 hm => ?_) fun hb12 hm => ?_
 refine yG ?_
 intro _ hm
 cases hm
 exact ⟨rfl, vW []⟩
 refine yG ?_
 intro k3 hm
 cases hm
 exact ⟨rfl, vW [0]⟩
 refine V2 ?_
 cases hm
 exact ⟨rfl, vW []⟩
 rcases y14 with j6 | j7 <;> simp only at hm
 cases hm
 exact rZ1
 refine yG ?_
 intro _ hm
 cases hm
 exact rZ1
noncomputable def Z2z (l : List Int) : Option (List Int) :=
 (if (List.length (([] : List Int)) + List.length l) * 8 ≤ 140737488355328 ∧ List.length (([] : List Int)) + List.length l ≤ LIM then
 (some ((([] : List Int)) ++ l))
 else none)
theorem Y2k {l : List Int} {r : List Int} (hm : Z2z l = some r) : Sim Tryz.prog 116 [.one (.bs () 1 (List.map iL l))] [] (.u (.one (.os () 1 (List.map iL r)))) [] := by
 refine fN 6 0 Tryz.func116 [.tmp 2] fun B hB0 => ?_
 unfold Z2z at hm
 refine yG ?_
 intro _ hm
 refine nO (kM (iL) (([] : List Int)) ?_)
 refine yG ?_
 intro k1 hm
 cases hm
 exact rZ1h (hg := Z3s 0 0 rfl rfl rfl rfl)
noncomputable def Z0z (i : GInst) : Option (List Int) :=
 (if ((Z8 i.op_ 1 17) || (i.op_ == 24)) = true then
 (some ([i.a, i.b]))
 else
 (if ((Z8 i.op_ 18 20) || ((i.op_ == 23) || ((i.op_ == 25) || (i.op_ == 27)))) = true then
 (some ([i.a]))
 else
 (if (i.op_ == 22) = true then
 (some ([i.a, i.b, i.c]))
 else
 (if (i.op_ == 26) = true then
 (Option.bind (Z2z i.args) fun x11 =>
 (some x11))
 else
 (some (([] : List Int)))))))
theorem Z9j {i : GInst} {r : List Int} (hm : Z0z i = some r) : Sim Tryz.prog 93 [.agg (Q1 false i)] [] (.u (.one (.os () 1 (List.map iL r)))) [] := by
 refine fN 50 0 Tryz.func93 [.tmp 2] fun B hB0 => ?_
 unfold Z0z at hm
 refine Wp.seq ?_
 refine X7 ?_
 refine yR ?_
 intro _ hm
 refine W5 ?_
 refine Wp.seq ?_
 refine Wp.block ?_
 refine Wp.seq ?_
 refine V7 (St 50 [(1, vP 0), (3, vB (((Z8 i.op_ 1 17) || (i.op_ == 24))))] [(0, oL 7 (Q1 false i))] 1) ?_ ?_
 refine yG ?_
 intro _ hm
 refine nO (Z5 (cB (V5 i.op_ 1 17) ?_))
 refine yG ?_
 intro _ hm
 refine c_s rfl rfl (fun hb2 => ?_) (fun hb2 => ?_)
 refine K5 ?_
 exact w_ [0] (.cons rfl rfl (.cons (by simp only [hb2, BO]; rfl) rfl .nil)) (.lit rfl rfl .nil) (by decide) (hB_0 hB0)
 refine yG ?_
 intro _ hm
 exact w_ [0] (.cons rfl rfl (.cons (by simp only [hb2, BO]; rfl) rfl .nil)) (.lit rfl rfl .nil) (by decide) (hB_0 hB0)
 refine bS hm (fun hb3 hm => ?_) fun hb3 hm => ?_
 refine yG ?_
 intro _ hm
 refine nO (kM (iL) ([i.a, i.b]) ?_)
 refine yG ?_
 intro _ hm
 cases hm
 exact rZ1h (hg := Z3s 0 0 rfl rfl rfl rfl)
 refine Wp.seq ?_
 refine V7 (St 50 [(1, vP 0), (15, vB (((Z8 i.op_ 18 20) || ((i.op_ == 23) || ((i.op_ == 25) || (i.op_ == 27))))))] [(0, oL 7 (Q1 false i))] 1) ?_ ?_
 refine yG ?_
 intro _ hm
 refine nO (Z5 (cB (V5 i.op_ 18 20) ?_))
 refine yG ?_
 intro _ hm
 refine c_s rfl rfl (fun hb5 => ?_) (fun hb5 => ?_)
 refine K5 ?_
 exact w_ [0] (.cons rfl rfl (.cons (by simp only [hb5, BO]; rfl) rfl .nil)) (.lit rfl rfl .nil) (by decide) (hB_0 hB0)
 refine yG ?_
 intro _ hm
 refine c_s rfl rfl (fun hb6 => ?_) (fun hb6 => ?_)
 refine K5 ?_
 exact w_ [0] (.cons rfl rfl (.cons (by simp only [hb5, hb6, BO]; rfl) rfl .nil)) (.lit rfl rfl .nil) (by decide) (hB_0 hB0)
 refine yG ?_
 intro _ hm
 refine c_s rfl rfl (fun hb7 => ?_) (fun hb7 => ?_)
 refine K5 ?_
 exact w_ [0] (.cons rfl rfl (.cons (by simp only [hb5, hb6, hb7, BO]; rfl) rfl .nil)) (.lit rfl rfl .nil) (by decide) (hB_0 hB0)
 refine yG ?_
 intro _ hm
 exact w_ [0] (.cons rfl rfl (.cons (by simp only [hb5, hb6, hb7, BO]; rfl) rfl .nil)) (.lit rfl rfl .nil) (by decide) (hB_0 hB0)
 refine bS hm (fun hb8 hm => ?_) fun hb8 hm => ?_
 refine yG ?_
 intro _ hm
 refine nO (kM (iL) ([i.a]) ?_)
 refine yG ?_
 intro _ hm
 cases hm
 exact rZ1h (hg := Z3s 0 0 rfl rfl rfl rfl)
 refine yG ?_
 intro _ hm
 refine bS hm (fun hb9 hm => ?_) fun hb9 hm => ?_
 refine yG ?_
 intro _ hm
 refine nO (kM (iL) ([i.a, i.b, i.c]) ?_)
 refine yG ?_
 intro _ hm
 cases hm
 exact rZ1h (hg := Z3s 0 0 rfl rfl rfl rfl)
 refine yG ?_
 intro _ hm
 refine bS hm (fun hb10 hm => ?_) fun hb10 hm => ?_
 refine yG ?_
 intro _ hm
 obtain ⟨x11, h12, hm⟩ := Z0 hm
 refine nO (Z5 (cB (Y2k h12) ?_))
 refine yG ?_
 intro _ hm
 cases hm
 exact rZ1h (hg := Z3s 0 0 rfl rfl rfl rfl)
 refine yG ?_
 intro _ hm
 refine nO (kM (iL) (([] : List Int)) ?_)
 refine yG ?_
 intro _ hm
 cases hm
 exact rZ1h (hg := Z3s 0 0 rfl rfl rfl rfl)
noncomputable def Z9z (w : Int) : Option Int :=
 (if 0 ≤ (IntKind.u64.wrap w) then
 (some (IntKind.i64.wrap (1 * 2 ^ min (Int.toNat (IntKind.u64.wrap w)) (IntKind.bits .i64))))
 else none)
theorem X1f {w : Int} {r : Int} (hm : Z9z w = some r) : Sim Tryz.prog 122 [.one (.int .i64 w)] [] (.u (.one (.int .i64 r))) [] := by
 refine fN 6 0 Tryz.func122 [.tmp 2] fun B hB0 => ?_
 unfold Z9z at hm
 refine yG ?_
 intro k1 hm
 cases hm
 exact rZ1
noncomputable def Z5m (w : Int) (v : Int) : Option Bool :=
 (Option.bind ((if (Y4 w) = true then
 (Option.bind (Z9z w) fun x3 =>
 (if inI (x3 - 1) then
 (some ((Z8 v 0 (x3 - 1))))
 else none))
 else
 (some false))) fun (j1 : Bool) =>
 (some j1))
theorem Y7n {w : Int} {v : Int} {r : Bool} (hm : Z5m w v = some r) : Sim Tryz.prog 113 [.one (.int .i64 w), .one (.int .i64 v)] [] (.u (.one (.bool r))) [] := by
 refine fN 14 0 Tryz.func113 [.tmp 4] fun B hB0 => ?_
 unfold Z5m at hm
 refine Wp.seq ?_
 refine X7 ?_
 refine nO (x_as rfl rfl ?_)
 refine W5 ?_
 refine Wp.seq ?_
 obtain ⟨j1, hj6, hm⟩ := Z0 hm
 refine V7 (St 14 [(4, vB j1)] [] 0) ?_ ?_
 replace hm := hj6
 refine yG ?_
 intro _ hm
 refine nO (Z5 (cB (Z1n w) ?_))
 refine yG ?_
 intro _ hm
 refine bG1 hm (fun hb2 hm => ?_) fun hb2 hm => ?_
 refine yG ?_
 intro _ hm
 obtain ⟨x3, h4, hm⟩ := Z0 hm
 refine gO_t rfl rfl rfl (Z5 (cB (X1f h4) ?_))
 refine yG ?_
 intro k1 hm
 refine gO_t rfl rfl rfl (Z5 (cB (V5 v 0 (x3 - 1)) ?_))
 refine yG ?_
 intro _ hm
 cases hm
 exact vW []
 refine yG ?_
 intro _ hm
 cases hm
 exact vW []
 refine Z2d ?_
 cases hm
 exact rZ1
noncomputable def Z0h (i : GInst) (count : Int) (funcs : Int) : Option Bool :=
 (if ((!((Z8 i.op_ 1 27))) || ((i.op_ != 26) && decide (((List.length i.args : Int)) > 0))) = true then
 (some false)
 else
 (Option.bind (Z0z i) fun x6 =>
 (Option.bind (Y6 (fun (st8 : Int) =>
 ((if decide (st8 < ((List.length x6 : Int))) = true then
 (if 0 ≤ st8 ∧ st8 < (List.length x6 : Int) then
 (if inI (count - 1) then
 (if (!((Z8 (at_ x6 st8) 0 (count - 1)))) = true then
 (some (Sum.inr ((Sum.inl (())))))
 else
 (if inI (st8 + 1) then
 (some (Sum.inl (st8 + 1)))
 else none))
 else none)
 else none)
 else
 (some (Sum.inr ((Sum.inr (())))))) : Option ((Int) ⊕ (Unit ⊕ Unit)))) 0) fun (y17 : Unit ⊕ Unit) => match y17 with
 | (Sum.inl j9) =>
 (some false)
 | (Sum.inr j10) =>
 (if (if (!((((i.op_ == 24) || (i.op_ == 25))) == ((i.w == 0)))) = true then true else (if (!(((i.op_ == 24) || (i.op_ == 25)))) = true then ((!((Y4 i.w))) || decide (((List.length i.args : Int)) > 4)) else decide (((List.length i.args : Int)) > 4))) = true then
 (some false)
 else
 (if (if decide (((if (i.op_ == 26) = true then 0 else (List.length x6 : Int))) < 1) = true then (if (i.a != 0) = true then true else (if decide (((if (i.op_ == 26) = true then 0 else (List.length x6 : Int))) < 2) = true then (if (i.b != 0) = true then true else (if decide (((if (i.op_ == 26) = true then 0 else (List.length x6 : Int))) < 3) = true then (i.c != 0) else false)) else (if decide (((if (i.op_ == 26) = true then 0 else (List.length x6 : Int))) < 3) = true then (i.c != 0) else false))) else (if decide (((if (i.op_ == 26) = true then 0 else (List.length x6 : Int))) < 2) = true then (if (i.b != 0) = true then true else (if decide (((if (i.op_ == 26) = true then 0 else (List.length x6 : Int))) < 3) = true then (i.c != 0) else false)) else (if decide (((if (i.op_ == 26) = true then 0 else (List.length x6 : Int))) < 3) = true then (i.c != 0) else false))) = true then
 (some false)
 else
 (if (i.op_ == 21) = true then
 (Option.bind (Z5m i.w i.imm) fun x44 =>
 (some x44))
 else
 (if (i.op_ == 26) = true then
 (if inI (funcs - 1) then
 (some ((Z8 i.imm 0 (funcs - 1))))
 else none)
 else
 (if (i.op_ == 23) = true then
 (some (((i.w == 8) && (i.imm == 0))))
 else
 (some ((i.imm == 0)))))))))))
theorem Y9h {i : GInst} {count : Int} {funcs : Int} {r : Bool} (hm : Z0h i count funcs = some r) : Sim Tryz.prog 85 [.agg (Q1 false i), .one (.int .i64 count), .one (.int .i64 funcs)] [] (.u (.one (.bool r))) [] := by
 refine fN 130 0 Tryz.func85 [.tmp 6] fun B hB0 => ?_
 unfold Z0h at hm
 refine Wp.seq ?_
 refine X7 ?_
 refine yR ?_
 intro _ hm
 refine W5 ?_
 refine Wp.seq ?_
 refine Wp.seq ?_
 refine V7 (St 130 [(1, vI count), (2, vI funcs), (3, vP 0), (25, vB (((!((Z8 i.op_ 1 27))) || ((i.op_ != 26) && decide (((List.length i.args : Int)) > 0)))))] [(0, oL 7 (Q1 false i))] 1) ?_ ?_
 refine yG ?_
 intro _ hm
 refine nO (Z5 (cB (V5 i.op_ 1 27) ?_))
 refine yG ?_
 intro _ hm
 refine gO_s rfl rfl rfl (fun hb2 => ?_) (fun hb2 => ?_)
 refine yG ?_
 intro _ hm
 refine gO_s rfl rfl rfl (fun hb3 => ?_) (fun hb3 => ?_)
 refine yG ?_
 intro k1 hm
 exact w_ [0] (.cons rfl rfl (.cons rfl rfl (.cons rfl rfl (.cons (by simp only [hb2, hb3, BO]; rfl) rfl .nil)))) (.lit rfl rfl .nil) (by decide) (hB_0 hB0)
 refine yG ?_
 intro _ hm
 exact w_ [0] (.cons rfl rfl (.cons rfl rfl (.cons rfl rfl (.cons (by simp only [hb2, hb3, BO]; rfl) rfl .nil)))) (.lit rfl rfl .nil) (by decide) (hB_0 hB0)
 refine yG ?_
 intro _ hm
 exact w_ [0] (.cons rfl rfl (.cons rfl rfl (.cons rfl rfl (.cons (by simp only [hb2, BO]; rfl) rfl .nil)))) (.lit rfl rfl .nil) (by decide) (hB_0 hB0)
 refine bS hm (fun hb5 hm => ?_) fun hb5 hm => ?_
 refine yG ?_
 intro _ hm
 cases hm
 exact rZ1
 refine yG ?_
 intro _ hm
 refine nO (kW ?_)
 obtain ⟨x6, h7, hm⟩ := Z0 hm
 refine nO (Z5 (cB (Z9j h7) ?_))
 refine yG ?_
 intro _ hm
 obtain ⟨y17, hl18, hm⟩ := Z0 hm
 refine J7 hl18 (fun (st8 : Int) => St 130 [(1, vI count), (2, vI funcs), (3, vP 0), (7, vR 1 (List.length x6)), (8, vI st8)] [(0, oL 7 (Q1 false i)), (1, oM 1 iL x6)] 2) (fun (y : Unit ⊕ Unit) => match y with | (Sum.inl j9) => (.ret, St 130 [(6, vB false)] [] 0) | (Sum.inr j10) => (.exit 0, St 130 [(2, vI funcs), (3, vP 0), (7, vR 1 (List.length x6))] [(0, oL 7 (Q1 false i)), (1, oM 1 iL x6)] 2)) (vW [0, 1]) ?_ (by rintro (_ | _) <;> simp) ?_
 intro st8 x hm
 refine yG ?_
 intro k2 hm
 refine bS hm (fun hb12 hm => ?_) fun hb12 hm => ?_
 refine yG ?_
 intro k3 hm
 refine nO (Z5 (cB (V5 (at_ x6 st8) 0 (count - 1)) ?_))
 refine yG ?_
 intro _ hm
 refine bS hm (fun hb15 hm => ?_) fun hb15 hm => ?_
 refine yG ?_
 intro _ hm
 cases hm
 exact ⟨rfl, vW []⟩
 refine yG ?_
 intro k4 hm
 cases hm
 exact ⟨rfl, vW [0, 1]⟩
 refine V2 ?_
 cases hm
 exact ⟨rfl, vW [0, 1]⟩
 rcases y17 with j9 | j10 <;> simp only at hm
 cases hm
 exact rZ1
 refine Wp.seq ?_
 refine V7 (St 130 [(2, vI funcs), (3, vP 0), (7, vR 1 (List.length x6)), (9, vB (((i.op_ == 24) || (i.op_ == 25))))] [(0, oL 7 (Q1 false i)), (1, oM 1 iL x6)] 2) ?_ ?_
 refine yG ?_
 intro _ hm
 refine gO_s rfl rfl rfl (fun hb20 => ?_) (fun hb20 => ?_)
 refine yG ?_
 intro _ hm
 exact w_ [0, 1] (.cons rfl rfl (.cons rfl rfl (.cons rfl rfl (.cons (by simp only [hb20, BO]; rfl) rfl .nil)))) (.lit rfl rfl (.map rfl .nil)) (by decide) (hB_0 hB0)
 refine yG ?_
 intro _ hm
 exact w_ [0, 1] (.cons rfl rfl (.cons rfl rfl (.cons rfl rfl (.cons (by simp only [hb20, BO]; rfl) rfl .nil)))) (.lit rfl rfl (.map rfl .nil)) (by decide) (hB_0 hB0)
 refine Wp.seq ?_
 refine Wp.seq ?_
 refine V7 (St 130 [(2, vI funcs), (3, vP 0), (7, vR 1 (List.length x6)), (70, vB ((if (!((((i.op_ == 24) || (i.op_ == 25))) == ((i.w == 0)))) = true then true else (if (!(((i.op_ == 24) || (i.op_ == 25)))) = true then ((!((Y4 i.w))) || decide (((List.length i.args : Int)) > 4)) else decide (((List.length i.args : Int)) > 4)))))] [(0, oL 7 (Q1 false i)), (1, oM 1 iL x6)] 2) ?_ ?_
 refine yG ?_
 intro _ hm
 refine gO_s rfl rfl rfl (fun hb22 => ?_) (fun hb22 => ?_)
 refine yG ?_
 intro _ hm
 refine gO_s rfl rfl rfl (fun hb23 => ?_) (fun hb23 => ?_)
 refine yG ?_
 intro _ hm
 refine gO_t rfl rfl rfl (Z5 (cB (Z1n i.w) ?_))
 refine yG ?_
 intro _ hm
 refine gO_s rfl rfl rfl (fun hb24 => ?_) (fun hb24 => ?_)
 refine yG ?_
 intro k5 hm
 exact w_ [0, 1] (.cons rfl rfl (.cons rfl rfl (.cons rfl rfl (.cons (by simp only [hb22, hb23, hb24, BO]; rfl) rfl .nil)))) (.lit rfl rfl (.map rfl .nil)) (by decide) (hB_0 hB0)
 refine yG ?_
 intro _ hm
 exact w_ [0, 1] (.cons rfl rfl (.cons rfl rfl (.cons rfl rfl (.cons (by simp only [hb22, hb23, hb24, BO]; rfl) rfl .nil)))) (.lit rfl rfl (.map rfl .nil)) (by decide) (hB_0 hB0)
 refine yG ?_
 intro k6 hm
 exact w_ [0, 1] (.cons rfl rfl (.cons rfl rfl (.cons rfl rfl (.cons (by simp only [hb22, hb23, BO]; rfl) rfl .nil)))) (.lit rfl rfl (.map rfl .nil)) (by decide) (hB_0 hB0)
 refine yG ?_
 intro _ hm
 exact w_ [0, 1] (.cons rfl rfl (.cons rfl rfl (.cons rfl rfl (.cons (by simp only [hb22, BO]; rfl) rfl .nil)))) (.lit rfl rfl (.map rfl .nil)) (by decide) (hB_0 hB0)
 refine bS hm (fun hb27 hm => ?_) fun hb27 hm => ?_
 refine yG ?_
 intro _ hm
 cases hm
 exact rZ1
 refine K5 ?_
 refine Wp.seq ?_
 refine X7 ?_
 refine yR ?_
 intro k7 hm
 refine W5 ?_
 refine Wp.seq ?_
 refine V7 (St 130 [(2, vI funcs), (3, vP 0), (10, vI ((if (i.op_ == 26) = true then 0 else (List.length x6 : Int))))] [(0, oL 7 (Q1 false i))] 1) ?_ ?_
 refine yG ?_
 intro _ hm
 refine c_s rfl rfl (fun hb30 => ?_) (fun hb30 => ?_)
 refine yG ?_
 intro _ hm
 exact w_ [0] (.cons rfl rfl (.cons rfl rfl (.cons (by simp only [hb30, BO]; rfl) rfl .nil))) (.lit rfl rfl .nil) (by decide) (hB_0 hB0)
 refine K5 ?_
 exact w_ [0] (.cons rfl rfl (.cons rfl rfl (.cons (by simp only [hb30, BO]; rfl) rfl .nil))) (.lit rfl rfl .nil) (by decide) (hB_0 hB0)
 refine Wp.seq ?_
 refine Wp.seq ?_
 refine V7 (St 130 [(2, vI funcs), (3, vP 0), (100, vB ((if decide (((if (i.op_ == 26) = true then 0 else (List.length x6 : Int))) < 1) = true then (if (i.a != 0) = true then true else (if decide (((if (i.op_ == 26) = true then 0 else (List.length x6 : Int))) < 2) = true then (if (i.b != 0) = true then true else (if decide (((if (i.op_ == 26) = true then 0 else (List.length x6 : Int))) < 3) = true then (i.c != 0) else false)) else (if decide (((if (i.op_ == 26) = true then 0 else (List.length x6 : Int))) < 3) = true then (i.c != 0) else false))) else (if decide (((if (i.op_ == 26) = true then 0 else (List.length x6 : Int))) < 2) = true then (if (i.b != 0) = true then true else (if decide (((if (i.op_ == 26) = true then 0 else (List.length x6 : Int))) < 3) = true then (i.c != 0) else false)) else (if decide (((if (i.op_ == 26) = true then 0 else (List.length x6 : Int))) < 3) = true then (i.c != 0) else false)))))] [(0, oL 7 (Q1 false i))] 1) ?_ ?_
 refine yG ?_
 intro _ hm
 refine gO_s rfl rfl rfl (fun hb32 => ?_) (fun hb32 => ?_)
 refine yG ?_
 intro _ hm
 refine gO_s rfl rfl rfl (fun hb33 => ?_) (fun hb33 => ?_)
 refine yG ?_
 intro _ hm
 refine gO_s rfl rfl rfl (fun hb34 => ?_) (fun hb34 => ?_)
 refine yG ?_
 intro _ hm
 refine gO_s rfl rfl rfl (fun hb35 => ?_) (fun hb35 => ?_)
 refine yG ?_
 intro _ hm
 refine gO_s rfl rfl rfl (fun hb36 => ?_) (fun hb36 => ?_)
 refine yG ?_
 intro _ hm
 exact w_ [0] (.cons rfl rfl (.cons rfl rfl (.cons (by simp only [hb32, hb33, hb34, hb35, hb36, BO]; rfl) rfl .nil))) (.lit rfl rfl .nil) (by decide) (hB_0 hB0)
 refine yG ?_
 intro _ hm
 exact w_ [0] (.cons rfl rfl (.cons rfl rfl (.cons (by simp only [hb32, hb33, hb34, hb35, hb36, BO]; rfl) rfl .nil))) (.lit rfl rfl .nil) (by decide) (hB_0 hB0)
 refine yG ?_
 intro _ hm
 exact w_ [0] (.cons rfl rfl (.cons rfl rfl (.cons (by simp only [hb32, hb33, hb34, hb35, BO]; rfl) rfl .nil))) (.lit rfl rfl .nil) (by decide) (hB_0 hB0)
 refine yG ?_
 intro _ hm
 refine gO_s rfl rfl rfl (fun hb37 => ?_) (fun hb37 => ?_)
 refine yG ?_
 intro _ hm
 exact w_ [0] (.cons rfl rfl (.cons rfl rfl (.cons (by simp only [hb32, hb33, hb34, hb37, BO]; rfl) rfl .nil))) (.lit rfl rfl .nil) (by decide) (hB_0 hB0)
 refine yG ?_
 intro _ hm
 exact w_ [0] (.cons rfl rfl (.cons rfl rfl (.cons (by simp only [hb32, hb33, hb34, hb37, BO]; rfl) rfl .nil))) (.lit rfl rfl .nil) (by decide) (hB_0 hB0)
 refine yG ?_
 intro _ hm
 exact w_ [0] (.cons rfl rfl (.cons rfl rfl (.cons (by simp only [hb32, hb33, BO]; rfl) rfl .nil))) (.lit rfl rfl .nil) (by decide) (hB_0 hB0)
 refine yG ?_
 intro _ hm
 refine gO_s rfl rfl rfl (fun hb38 => ?_) (fun hb38 => ?_)
 refine yG ?_
 intro _ hm
 refine gO_s rfl rfl rfl (fun hb39 => ?_) (fun hb39 => ?_)
 refine yG ?_
 intro _ hm
 refine gO_s rfl rfl rfl (fun hb40 => ?_) (fun hb40 => ?_)
 refine yG ?_
 intro _ hm
 exact w_ [0] (.cons rfl rfl (.cons rfl rfl (.cons (by simp only [hb32, hb38, hb39, hb40, BO]; rfl) rfl .nil))) (.lit rfl rfl .nil) (by decide) (hB_0 hB0)
 refine yG ?_
 intro _ hm
 exact w_ [0] (.cons rfl rfl (.cons rfl rfl (.cons (by simp only [hb32, hb38, hb39, hb40, BO]; rfl) rfl .nil))) (.lit rfl rfl .nil) (by decide) (hB_0 hB0)
 refine yG ?_
 intro _ hm
 exact w_ [0] (.cons rfl rfl (.cons rfl rfl (.cons (by simp only [hb32, hb38, hb39, BO]; rfl) rfl .nil))) (.lit rfl rfl .nil) (by decide) (hB_0 hB0)
 refine yG ?_
 intro _ hm
 refine gO_s rfl rfl rfl (fun hb41 => ?_) (fun hb41 => ?_)
 refine yG ?_
 intro _ hm
 exact w_ [0] (.cons rfl rfl (.cons rfl rfl (.cons (by simp only [hb32, hb38, hb41, BO]; rfl) rfl .nil))) (.lit rfl rfl .nil) (by decide) (hB_0 hB0)
 refine yG ?_
 intro _ hm
 exact w_ [0] (.cons rfl rfl (.cons rfl rfl (.cons (by simp only [hb32, hb38, hb41, BO]; rfl) rfl .nil))) (.lit rfl rfl .nil) (by decide) (hB_0 hB0)
 refine bS hm (fun hb42 hm => ?_) fun hb42 hm => ?_
 refine yG ?_
 intro _ hm
 cases hm
 exact rZ1
 refine yG ?_
 intro _ hm
 refine bS hm (fun hb43 hm => ?_) fun hb43 hm => ?_
 refine yG ?_
 intro _ hm
 obtain ⟨x44, h45, hm⟩ := Z0 hm
 refine nO (Z5 (cB (Y7n h45) ?_))
 refine yG ?_
 intro _ hm
 cases hm
 exact rZ1
 refine yG ?_
 intro _ hm
 refine bS hm (fun hb46 hm => ?_) fun hb46 hm => ?_
 refine yG ?_
 intro k8 hm
 refine nO (Z5 (cB (V5 i.imm 0 (funcs - 1)) ?_))
 refine yG ?_
 intro _ hm
 cases hm
 exact rZ1
 refine yG ?_
 intro _ hm
 refine bS hm (fun hb48 hm => ?_) fun hb48 hm => ?_
 refine Wp.seq ?_
 refine V7 (St 130 [(6, vB (((i.w == 8) && (i.imm == 0))))] [] 0) ?_ ?_
 refine yG ?_
 intro _ hm
 refine gO_s rfl rfl rfl (fun hb50 => ?_) (fun hb50 => ?_)
 refine yG ?_
 intro _ hm
 exact w_ [] (.cons (by simp only [hb50, BO]; rfl) rfl .nil) .nil (by decide) (hB_0 hB0)
 refine yG ?_
 intro _ hm
 exact w_ [] (.cons (by simp only [hb50, BO]; rfl) rfl .nil) .nil (by decide) (hB_0 hB0)
 refine Z2d ?_
 cases hm
 exact rZ1
 refine yG ?_
 intro _ hm
 cases hm
 exact rZ1
end
section
set_option maxHeartbeats 8000000
set_option maxRecDepth 100000
attribute [local irreducible] aopK J8 Wp St WpO
noncomputable def Z4v (t : GTerm) (count : Int) (blocks : Int) : Option Bool :=
 (if (t.kind == 1) = true then
 (Option.bind ((if inI (count - 1) then
 (if (Z8 t.a 0 (count - 1)) = true then
 (if (t.x == 0) = true then
 (some ((t.y == 0)))
 else
 (some false))
 else
 (some false))
 else none)) fun (j2 : Bool) =>
 (some j2))
 else
 (if (t.kind == 2) = true then
 (Option.bind ((if (t.a == 0) = true then
 (if inI (blocks - 1) then
 (if (Z8 t.x 0 (blocks - 1)) = true then
 (some ((t.y == 0)))
 else
 (some false))
 else none)
 else
 (some false))) fun (j8 : Bool) =>
 (some j8))
 else
 (if (t.kind == 3) = true then
 (Option.bind ((if inI (count - 1) then
 (if (Z8 t.a 0 (count - 1)) = true then
 (if inI (blocks - 1) then
 (if (Z8 t.x 0 (blocks - 1)) = true then
 (if inI (blocks - 1) then
 (if (Z8 t.y 0 (blocks - 1)) = true then
 (some ((t.x != t.y)))
 else
 (some false))
 else none)
 else
 (some false))
 else none)
 else
 (some false))
 else none)) fun (j14 : Bool) =>
 (some j14))
 else
 (some (((t.kind == 4) && ((t.a == 0) && ((t.x == 0) && (t.y == 0)))))))))
theorem Y9g {t : GTerm} {count : Int} {blocks : Int} {r : Bool} (hm : Z4v t count blocks = some r) : Sim Tryz.prog 86 [.agg (Y3r t), .one (.int .i64 count), .one (.int .i64 blocks)] [] (.u (.one (.bool r))) [] := by
 refine fN 89 0 Tryz.func86 [.tmp 6] fun B hB0 => ?_
 unfold Z4v at hm
 refine yG ?_
 intro _ hm
 refine bS hm (fun hb1 hm => ?_) fun hb1 hm => ?_
 refine Wp.seq ?_
 obtain ⟨j2, hj6, hm⟩ := Z0 hm
 refine V7 (St 89 [(6, vB j2)] [] 0) ?_ ?_
 replace hm := hj6
 refine yG ?_
 intro k1 hm
 refine nO (Z5 (cB (V5 t.a 0 (count - 1)) ?_))
 refine yG ?_
 intro _ hm
 refine bG1 hm (fun hb4 hm => ?_) fun hb4 hm => ?_
 refine yG ?_
 intro _ hm
 refine bG1 hm (fun hb5 hm => ?_) fun hb5 hm => ?_
 refine yG ?_
 intro _ hm
 cases hm
 exact vW []
 refine yG ?_
 intro _ hm
 cases hm
 exact vW []
 refine yG ?_
 intro _ hm
 cases hm
 exact vW []
 refine Z2d ?_
 cases hm
 exact rZ1
 refine yG ?_
 intro _ hm
 refine bS hm (fun hb7 hm => ?_) fun hb7 hm => ?_
 refine Wp.seq ?_
 obtain ⟨j8, hj12, hm⟩ := Z0 hm
 refine V7 (St 89 [(6, vB j8)] [] 0) ?_ ?_
 replace hm := hj12
 refine yG ?_
 intro _ hm
 refine bG1 hm (fun hb9 hm => ?_) fun hb9 hm => ?_
 refine yG ?_
 intro k2 hm
 refine gO_t rfl rfl rfl (Z5 (cB (V5 t.x 0 (blocks - 1)) ?_))
 refine yG ?_
 intro _ hm
 refine bG1 hm (fun hb11 hm => ?_) fun hb11 hm => ?_
 refine yG ?_
 intro _ hm
 cases hm
 exact vW []
 refine yG ?_
 intro _ hm
 cases hm
 exact vW []
 refine yG ?_
 intro _ hm
 cases hm
 exact vW []
 refine Z2d ?_
 cases hm
 exact rZ1
 refine yG ?_
 intro _ hm
 refine bS hm (fun hb13 hm => ?_) fun hb13 hm => ?_
 refine Wp.seq ?_
 obtain ⟨j14, hj21, hm⟩ := Z0 hm
 refine V7 (St 89 [(6, vB j14)] [] 0) ?_ ?_
 replace hm := hj21
 refine yG ?_
 intro k3 hm
 refine nO (Z5 (cB (V5 t.a 0 (count - 1)) ?_))
 refine yG ?_
 intro _ hm
 refine bG1 hm (fun hb16 hm => ?_) fun hb16 hm => ?_
 refine yG ?_
 intro k4 hm
 refine gO_t rfl rfl rfl (Z5 (cB (V5 t.x 0 (blocks - 1)) ?_))
 refine yG ?_
 intro _ hm
 refine bG1 hm (fun hb18 hm => ?_) fun hb18 hm => ?_
 refine yG ?_
 intro k5 hm
 refine gO_t rfl rfl rfl (Z5 (cB (V5 t.y 0 (blocks - 1)) ?_))
 refine yG ?_
 intro _ hm
 refine bG1 hm (fun hb20 hm => ?_) fun hb20 hm => ?_
 refine yG ?_
 intro _ hm
 cases hm
 exact vW []
 refine yG ?_
 intro _ hm
 cases hm
 exact vW []
 refine yG ?_
 intro _ hm
 cases hm
 exact vW []
 refine yG ?_
 intro _ hm
 cases hm
 exact vW []
 refine Z2d ?_
 cases hm
 exact rZ1
 refine K5 ?_
 refine Wp.seq ?_
 refine V7 (St 89 [(6, vB (((t.kind == 4) && ((t.a == 0) && ((t.x == 0) && (t.y == 0))))))] [] 0) ?_ ?_
 refine yG ?_
 intro _ hm
 refine gO_s rfl rfl rfl (fun hb23 => ?_) (fun hb23 => ?_)
 refine yG ?_
 intro _ hm
 refine gO_s rfl rfl rfl (fun hb24 => ?_) (fun hb24 => ?_)
 refine yG ?_
 intro _ hm
 refine gO_s rfl rfl rfl (fun hb25 => ?_) (fun hb25 => ?_)
 refine yG ?_
 intro _ hm
 exact w_ [] (.cons (by simp only [hb23, hb24, hb25, BO]; rfl) rfl .nil) .nil (by decide) (hB_0 hB0)
 refine yG ?_
 intro _ hm
 exact w_ [] (.cons (by simp only [hb23, hb24, hb25, BO]; rfl) rfl .nil) .nil (by decide) (hB_0 hB0)
 refine yG ?_
 intro _ hm
 exact w_ [] (.cons (by simp only [hb23, hb24, BO]; rfl) rfl .nil) .nil (by decide) (hB_0 hB0)
 refine yG ?_
 intro _ hm
 exact w_ [] (.cons (by simp only [hb23, BO]; rfl) rfl .nil) .nil (by decide) (hB_0 hB0)
 refine Z2d ?_
 cases hm
 exact rZ1
noncomputable def Z7b (f : GFunc) (funcs : Int) : Option Bool :=
 (Option.bind (Z0y f) fun x1 =>
 (if (if decide (((List.length f.params : Int)) > 4) = true then true else (if (!((Y4 f.ret))) = true then true else (if (!((Z8 ((List.length f.blocks : Int)) 1 10))) = true then true else decide (x1 > 60)))) = true then
 (some false)
 else
 (Option.bind (Y6 (fun (st10 : Int) =>
 ((if decide (st10 < ((List.length f.params : Int))) = true then
 (if 0 ≤ st10 ∧ st10 < (List.length f.params : Int) then
 (if (!((Y4 (at_ f.params st10)))) = true then
 (some (Sum.inr ((Sum.inl (())))))
 else
 (if inI (st10 + 1) then
 (some (Sum.inl (st10 + 1)))
 else none))
 else none)
 else
 (some (Sum.inr ((Sum.inr (())))))) : Option ((Int) ⊕ (Unit ⊕ Unit)))) 0) fun (y18 : Unit ⊕ Unit) => match y18 with
 | (Sum.inl j11) =>
 (some false)
 | (Sum.inr j12) =>
 (Option.bind (Y6 (fun (st20 : Int) =>
 ((if decide (st20 < ((List.length f.blocks : Int))) = true then
 (if 0 ≤ st20 ∧ st20 < (List.length f.blocks : Int) then
 (Option.bind (Y6 (fun (st26 : Int) =>
 ((if decide (st26 < ((List.length ((at_ f.blocks st20).phis) : Int))) = true then
 (Option.bind ((if 0 ≤ st26 ∧ st26 < (List.length ((at_ f.blocks st20).phis) : Int) then
 (if (!((Y4 ((at_ ((at_ f.blocks st20).phis) st26).w)))) = true then
 (some true)
 else
 (if 0 ≤ st26 ∧ st26 < (List.length ((at_ f.blocks st20).phis) : Int) then
 (some (decide (((List.length ((at_ ((at_ f.blocks st20).phis) st26).ins) : Int)) > 10)))
 else none))
 else none)) fun (j31 : Bool) =>
 (if j31 = true then
 (some (Sum.inr ((Sum.inl (())))))
 else
 (Option.bind (Y6 (fun (st38 : Int) =>
 ((if 0 ≤ st26 ∧ st26 < (List.length ((at_ f.blocks st20).phis) : Int) then
 (if decide (st38 < ((List.length ((at_ ((at_ f.blocks st20).phis) st26).ins) : Int))) = true then
 (if 0 ≤ st26 ∧ st26 < (List.length ((at_ f.blocks st20).phis) : Int) then
 (if 0 ≤ st38 ∧ st38 < (List.length ((at_ ((at_ f.blocks st20).phis) st26).ins) : Int) then
 (if inI (x1 - 1) then
 (if (!((Z8 (at_ ((at_ ((at_ f.blocks st20).phis) st26).ins) st38) 0 (x1 - 1)))) = true then
 (some (Sum.inr ((Sum.inl (())))))
 else
 (if inI (st38 + 1) then
 (some (Sum.inl (st38 + 1)))
 else none))
 else none)
 else none)
 else none)
 else
 (some (Sum.inr ((Sum.inr (()))))))
 else none) : Option ((Int) ⊕ (Unit ⊕ Unit)))) 0) fun (y49 : Unit ⊕ Unit) => match y49 with
 | (Sum.inl j39) =>
 (some (Sum.inr ((Sum.inl (())))))
 | (Sum.inr j40) =>
 (if inI (st26 + 1) then
 (some (Sum.inl (st26 + 1)))
 else none))))
 else
 (some (Sum.inr ((Sum.inr (())))))) : Option ((Int) ⊕ (Unit ⊕ Unit)))) 0) fun (y52 : Unit ⊕ Unit) => match y52 with
 | (Sum.inl j27) =>
 (some (Sum.inr ((Sum.inl (())))))
 | (Sum.inr j28) =>
 (Option.bind (Y6 (fun (st54 : Int) =>
 ((if decide (st54 < ((List.length ((at_ f.blocks st20).insts) : Int))) = true then
 (if 0 ≤ st54 ∧ st54 < (List.length ((at_ f.blocks st20).insts) : Int) then
 (Option.bind (Z0h (at_ ((at_ f.blocks st20).insts) st54) x1 funcs) fun x60 =>
 (if (!x60) = true then
 (some (Sum.inr ((Sum.inl (())))))
 else
 (if inI (st54 + 1) then
 (some (Sum.inl (st54 + 1)))
 else none)))
 else none)
 else
 (some (Sum.inr ((Sum.inr (())))))) : Option ((Int) ⊕ (Unit ⊕ Unit)))) 0) fun (y64 : Unit ⊕ Unit) => match y64 with
 | (Sum.inl j55) =>
 (some (Sum.inr ((Sum.inl (())))))
 | (Sum.inr j56) =>
 (Option.bind (Z4v (((at_ f.blocks st20).term)) x1 ((List.length f.blocks : Int))) fun x66 =>
 (if (!x66) = true then
 (some (Sum.inr ((Sum.inl (())))))
 else
 (if inI (st20 + 1) then
 (some (Sum.inl (st20 + 1)))
 else none)))))
 else none)
 else
 (some (Sum.inr ((Sum.inr (())))))) : Option ((Int) ⊕ (Unit ⊕ Unit)))) 0) fun (y70 : Unit ⊕ Unit) => match y70 with
 | (Sum.inl j21) =>
 (some false)
 | (Sum.inr j22) =>
 (some true)))))
theorem Y9i {f : GFunc} {funcs : Int} {r : Bool} (hm : Z7b f funcs = some r) : Sim Tryz.prog 46 [.agg (Y1 false f), .one (.int .i64 funcs)] [] (.u (.one (.bool r))) [] := by
 refine fN 134 0 Tryz.func46 [.tmp 4] fun B hB0 => ?_
 unfold Z7b at hm
 refine yG ?_
 intro _ hm
 refine nO (kW ?_)
 obtain ⟨x1, h2, hm⟩ := Z0 hm
 refine nO (Z5 (cB (Y1z h2) ?_))
 refine nO (x_as rfl rfl ?_)
 refine W5 ?_
 refine Wp.seq ?_
 refine X7 ?_
 refine yR ?_
 intro k1 hm
 refine W5 ?_
 refine Wp.seq ?_
 refine Wp.seq ?_
 refine V7 (St 134 [(1, vI funcs), (2, vP 0), (5, vI x1), (6, vI ((List.length f.blocks : Int))), (36, vB ((if decide (((List.length f.params : Int)) > 4) = true then true else (if (!((Y4 f.ret))) = true then true else (if (!((Z8 ((List.length f.blocks : Int)) 1 10))) = true then true else decide (x1 > 60))))))] [(0, oL 3 (Y1 false f))] 1) ?_ ?_
 refine yG ?_
 intro k2 hm
 refine gO_s rfl rfl rfl (fun hb6 => ?_) (fun hb6 => ?_)
 refine yG ?_
 intro _ hm
 refine gO_t rfl rfl rfl (Z5 (cB (Z1n f.ret) ?_))
 refine yG ?_
 intro _ hm
 refine gO_s rfl rfl rfl (fun hb7 => ?_) (fun hb7 => ?_)
 refine yG ?_
 intro _ hm
 refine gO_t rfl rfl rfl (Z5 (cB (V5 ((List.length f.blocks : Int)) 1 10) ?_))
 refine yG ?_
 intro _ hm
 refine gO_s rfl rfl rfl (fun hb8 => ?_) (fun hb8 => ?_)
 refine yG ?_
 intro _ hm
 exact w_ [0] (.cons rfl rfl (.cons rfl rfl (.cons rfl rfl (.cons rfl rfl (.cons (by simp only [hb6, hb7, hb8, BO]; rfl) rfl .nil))))) (.lit rfl rfl .nil) (by decide) (hB_0 hB0)
 refine yG ?_
 intro _ hm
 exact w_ [0] (.cons rfl rfl (.cons rfl rfl (.cons rfl rfl (.cons rfl rfl (.cons (by simp only [hb6, hb7, hb8, BO]; rfl) rfl .nil))))) (.lit rfl rfl .nil) (by decide) (hB_0 hB0)
 refine yG ?_
 intro _ hm
 exact w_ [0] (.cons rfl rfl (.cons rfl rfl (.cons rfl rfl (.cons rfl rfl (.cons (by simp only [hb6, hb7, BO]; rfl) rfl .nil))))) (.lit rfl rfl .nil) (by decide) (hB_0 hB0)
 refine yG ?_
 intro _ hm
 exact w_ [0] (.cons rfl rfl (.cons rfl rfl (.cons rfl rfl (.cons rfl rfl (.cons (by simp only [hb6, BO]; rfl) rfl .nil))))) (.lit rfl rfl .nil) (by decide) (hB_0 hB0)
 refine bS hm (fun hb9 hm => ?_) fun hb9 hm => ?_
 refine yG ?_
 intro _ hm
 cases hm
 exact rZ1
 refine yG ?_
 intro _ hm
 obtain ⟨y18, hl19, hm⟩ := Z0 hm
 refine J7 hl19 (fun (st10 : Int) => St 134 [(1, vI funcs), (2, vP 0), (5, vI x1), (6, vI ((List.length f.blocks : Int))), (7, vI st10)] [(0, oL 3 (Y1 false f))] 1) (fun (y : Unit ⊕ Unit) => match y with | (Sum.inl j11) => (.ret, St 134 [(4, vB false)] [] 0) | (Sum.inr j12) => (.exit 0, St 134 [(1, vI funcs), (2, vP 0), (5, vI x1), (6, vI ((List.length f.blocks : Int)))] [(0, oL 3 (Y1 false f))] 1)) (vW [0]) ?_ (by rintro (_ | _) <;> simp) ?_
 intro st10 x hm
 refine yG ?_
 intro k3 hm
 refine bS hm (fun hb14 hm => ?_) fun hb14 hm => ?_
 refine yG ?_
 intro k4 hm
 refine nO (Z5 (cB (Z1n (at_ f.params st10)) ?_))
 refine yG ?_
 intro _ hm
 refine bS hm (fun hb16 hm => ?_) fun hb16 hm => ?_
 refine yG ?_
 intro _ hm
 cases hm
 exact ⟨rfl, vW []⟩
 refine yG ?_
 intro k5 hm
 cases hm
 exact ⟨rfl, vW [0]⟩
 refine V2 ?_
 cases hm
 exact ⟨rfl, vW [0]⟩
 rcases y18 with j11 | j12 <;> simp only at hm
 cases hm
 exact rZ1
 refine yG ?_
 intro _ hm
 obtain ⟨y70, hl71, hm⟩ := Z0 hm
 refine J7 hl71 (fun (st20 : Int) => St 134 [(1, vI funcs), (2, vP 0), (5, vI x1), (6, vI ((List.length f.blocks : Int))), (8, vI st20)] [(0, oL 3 (Y1 false f))] 1) (fun (y : Unit ⊕ Unit) => match y with | (Sum.inl j21) => (.ret, St 134 [(4, vB false)] [] 0) | (Sum.inr j22) => (.exit 2, St 134 [] [] 0)) (vW [0]) ?_ (by rintro (_ | _) <;> simp) ?_
 intro st20 x hm
 refine yG ?_
 intro k6 hm
 refine bS hm (fun hb24 hm => ?_) fun hb24 hm => ?_
 refine yG ?_
 intro k7 hm
 refine nO (K7 T41 rfl (J0 rfl rfl) rfl ?_)
 refine yG ?_
 intro _ hm
 obtain ⟨y52, hl53, hm⟩ := Z0 hm
 refine J7 hl53 (fun (st26 : Int) => St 134 [(1, vI funcs), (2, vP 0), (5, vI x1), (6, vI ((List.length f.blocks : Int))), (8, vI st20), (9, vP 1), (10, vI st26)] [(0, oL 3 (Y1 false f)), (1, oL 6 (W2 false (at_ f.blocks st20)))] 2) (fun (y : Unit ⊕ Unit) => match y with | (Sum.inl j27) => (.ret, St 134 [(4, vB false)] [] 0) | (Sum.inr j28) => (.exit 4, St 134 [(1, vI funcs), (2, vP 0), (5, vI x1), (6, vI ((List.length f.blocks : Int))), (8, vI st20), (9, vP 1)] [(0, oL 3 (Y1 false f)), (1, oL 6 (W2 false (at_ f.blocks st20)))] 2)) (vW [0, 1]) ?_ (by rintro (_ | _) <;> simp) ?_
 intro st26 x hm
 refine yG ?_
 intro k8 hm
 refine bS hm (fun hb30 hm => ?_) fun hb30 hm => ?_
 refine K5 ?_
 refine Wp.seq ?_
 refine Wp.block ?_
 refine Wp.seq ?_
 refine Wp.seq ?_
 obtain ⟨j31, hj36, hm⟩ := Z0 hm
 refine V7 (St 134 [(1, vI funcs), (2, vP 0), (5, vI x1), (6, vI ((List.length f.blocks : Int))), (8, vI st20), (9, vP 1), (10, vI st26), (87, vB j31)] [(0, oL 3 (Y1 false f)), (1, oL 6 (W2 false (at_ f.blocks st20)))] 2) ?_ ?_
 replace hm := hj36
 refine yG ?_
 intro k9 hm
 refine nO (Z5 (cB (Z1n ((at_ ((at_ f.blocks st20).phis) st26).w)) ?_))
 refine yG ?_
 intro _ hm
 refine bG0 hm (fun hb33 hm => ?_) fun hb33 hm => ?_
 refine yG ?_
 intro k10 hm
 cases hm
 exact vW [0, 1]
 refine yG ?_
 intro _ hm
 cases hm
 exact vW [0, 1]
 refine bS hm (fun hb37 hm => ?_) fun hb37 hm => ?_
 refine yG ?_
 intro _ hm
 cases hm
 exact ⟨rfl, vW []⟩
 refine yG ?_
 intro _ hm
 obtain ⟨y49, hl50, hm⟩ := Z0 hm
 refine J7 hl50 (fun (st38 : Int) => St 134 [(1, vI funcs), (2, vP 0), (5, vI x1), (6, vI ((List.length f.blocks : Int))), (8, vI st20), (9, vP 1), (10, vI st26), (11, vI st38)] [(0, oL 3 (Y1 false f)), (1, oL 6 (W2 false (at_ f.blocks st20)))] 2) (fun (y : Unit ⊕ Unit) => match y with | (Sum.inl j39) => (.ret, St 134 [(4, vB false)] [] 0) | (Sum.inr j40) => (.exit 6, St 134 [(1, vI funcs), (2, vP 0), (5, vI x1), (6, vI ((List.length f.blocks : Int))), (8, vI st20), (9, vP 1), (10, vI st26)] [(0, oL 3 (Y1 false f)), (1, oL 6 (W2 false (at_ f.blocks st20)))] 2)) (vW [0, 1]) ?_ (by rintro (_ | _) <;> simp) ?_
 intro st38 x hm
 refine yG ?_
 intro k11 hm
 refine bS hm (fun hb43 hm => ?_) fun hb43 hm => ?_
 refine yG ?_
 intro k12 hm
 refine nO (Z5 (cB (V5 (at_ ((at_ ((at_ f.blocks st20).phis) st26).ins) st38) 0 (x1 - 1)) ?_))
 refine yG ?_
 intro _ hm
 refine bS hm (fun hb47 hm => ?_) fun hb47 hm => ?_
 refine yG ?_
 intro _ hm
 cases hm
 exact ⟨rfl, vW []⟩
 refine yG ?_
 intro k13 hm
 cases hm
 exact ⟨rfl, vW [0, 1]⟩
 refine V2 ?_
 cases hm
 exact ⟨rfl, vW [0, 1]⟩
 rcases y49 with j39 | j40 <;> simp only at hm
 cases hm
 exact ⟨rfl, vW []⟩
 refine yG ?_
 intro k14 hm
 cases hm
 exact ⟨rfl, vW [0, 1]⟩
 refine V2 ?_
 cases hm
 exact ⟨rfl, vW [0, 1]⟩
 rcases y52 with j27 | j28 <;> simp only at hm
 cases hm
 exact ⟨rfl, vW []⟩
 refine yG ?_
 intro _ hm
 obtain ⟨y64, hl65, hm⟩ := Z0 hm
 refine J7 hl65 (fun (st54 : Int) => St 134 [(1, vI funcs), (2, vP 0), (5, vI x1), (6, vI ((List.length f.blocks : Int))), (8, vI st20), (9, vP 1), (12, vI st54)] [(0, oL 3 (Y1 false f)), (1, oL 6 (W2 false (at_ f.blocks st20)))] 2) (fun (y : Unit ⊕ Unit) => match y with | (Sum.inl j55) => (.ret, St 134 [(4, vB false)] [] 0) | (Sum.inr j56) => (.exit 8, St 134 [(1, vI funcs), (2, vP 0), (5, vI x1), (6, vI ((List.length f.blocks : Int))), (8, vI st20), (9, vP 1)] [(0, oL 3 (Y1 false f)), (1, oL 6 (W2 false (at_ f.blocks st20)))] 2)) (vW [0, 1]) ?_ (by rintro (_ | _) <;> simp) ?_
 intro st54 x hm
 refine yG ?_
 intro k15 hm
 refine bS hm (fun hb58 hm => ?_) fun hb58 hm => ?_
 refine yG ?_
 intro k16 hm
 refine nO (K7 T46 rfl (J0 rfl rfl) rfl ?_)
 refine yG ?_
 intro _ hm
 obtain ⟨x60, h61, hm⟩ := Z0 hm
 refine nO (Z5 (cB (Y9h h61) ?_))
 refine yG ?_
 intro _ hm
 refine bS hm (fun hb62 hm => ?_) fun hb62 hm => ?_
 refine yG ?_
 intro _ hm
 cases hm
 exact ⟨rfl, vW []⟩
 refine yG ?_
 intro k17 hm
 cases hm
 exact ⟨rfl, vW [0, 1]⟩
 refine V2 ?_
 cases hm
 exact ⟨rfl, vW [0, 1]⟩
 rcases y64 with j55 | j56 <;> simp only at hm
 cases hm
 exact ⟨rfl, vW []⟩
 refine yG ?_
 intro _ hm
 refine nO (kL (.agg (Y3r (((at_ f.blocks st20).term)))) ?_)
 refine yG ?_
 intro _ hm
 obtain ⟨x66, h67, hm⟩ := Z0 hm
 refine nO (Z5 (cB (Y9g h67) ?_))
 refine yG ?_
 intro _ hm
 refine bS hm (fun hb68 hm => ?_) fun hb68 hm => ?_
 refine yG ?_
 intro _ hm
 cases hm
 exact ⟨rfl, vW []⟩
 refine yG ?_
 intro k18 hm
 cases hm
 exact ⟨rfl, vW [0]⟩
 refine V2 ?_
 cases hm
 exact ⟨rfl, vW []⟩
 rcases y70 with j21 | j22 <;> simp only at hm
 cases hm
 exact rZ1
 refine yG ?_
 intro _ hm
 cases hm
 exact rZ1
noncomputable def Z5q (m : GModule) : Option Bool :=
 (if (!((Z8 ((List.length m.funcs : Int)) 1 3))) = true then
 (some false)
 else
 (Option.bind (Y6 (fun (st3 : Int) =>
 ((if decide (st3 < ((List.length m.funcs : Int))) = true then
 (if 0 ≤ st3 ∧ st3 < (List.length m.funcs : Int) then
 (Option.bind (Z7b (at_ m.funcs st3) ((List.length m.funcs : Int))) fun x10 =>
 (if (!x10) = true then
 (some (Sum.inr ((Sum.inl (())))))
 else
 (if inI (st3 + 1) then
 (some (Sum.inl (st3 + 1)))
 else none)))
 else none)
 else
 (some (Sum.inr ((Sum.inr (())))))) : Option ((Int) ⊕ (Unit ⊕ Unit)))) 0) fun (y14 : Unit ⊕ Unit) => match y14 with
 | (Sum.inl j4) =>
 (some false)
 | (Sum.inr j5) =>
 (some true)))
theorem Y7q {m : GModule} {r : Bool} (hm : Z5q m = some r) : Sim Tryz.prog 20 [.agg (Z0f false m)] [] (.u (.one (.bool r))) [] := by
 refine fN 26 0 Tryz.func20 [.tmp 2] fun B hB0 => ?_
 unfold Z5q at hm
 refine yG ?_
 intro k1 hm
 refine nO (Z5 (cB (V5 ((List.length m.funcs : Int)) 1 3) ?_))
 refine yG ?_
 intro _ hm
 refine bS hm (fun hb2 hm => ?_) fun hb2 hm => ?_
 refine yG ?_
 intro _ hm
 cases hm
 exact rZ1
 refine yG ?_
 intro _ hm
 obtain ⟨y14, hl15, hm⟩ := Z0 hm
 refine J7 hl15 (fun (st3 : Int) => St 26 [(1, vP 0), (3, vI st3)] [(0, oL 1 (Z0f false m))] 1) (fun (y : Unit ⊕ Unit) => match y with | (Sum.inl j4) => (.ret, St 26 [(2, vB false)] [] 0) | (Sum.inr j5) => (.exit 0, St 26 [] [] 0)) (vW [0]) ?_ (by rintro (_ | _) <;> simp) ?_
 intro st3 x hm
 refine yG ?_
 intro k2 hm
 refine bS hm (fun hb7 hm => ?_) fun hb7 hm => ?_
 refine K5 ?_
 refine Wp.seq ?_
 refine Wp.block ?_
 refine Wp.seq ?_
 refine Z4t (Y := sysC _) Z4j ?_
 refine tK 0 1 rfl (kF ?_)
 refine tK 1 1 rfl (kD ?_)
 refine tK 2 0 rfl (kV ?_)
 obtain ⟨h8, hm⟩ := Z9 hm
 refine tK 3 0 rfl (Z8m E24 rfl rfl h8 ?_)
 refine tK 4 0 rfl (K7 T32 rfl (J0 rfl rfl) rfl ?_)
 refine tK 5 1 rfl (kF ?_)
 refine tK 6 1 rfl (kD ?_)
 refine tK 7 0 rfl (Y5w N24 rfl fun hL9 => ?_)
 obtain ⟨x10, h11, hm⟩ := Z0 hm
 refine oK 8 rfl (cB (Y9i h11) ?_)
 refine tK 9 0 rfl (x_un rfl rfl ?_)
 refine aN ?_
 refine bS hm (fun hb12 hm => ?_) fun hb12 hm => ?_
 refine yG ?_
 intro _ hm
 cases hm
 exact ⟨rfl, vW []⟩
 refine yG ?_
 intro k3 hm
 cases hm
 exact ⟨rfl, vW [0]⟩
 refine V2 ?_
 cases hm
 exact ⟨rfl, vW []⟩
 rcases y14 with j4 | j5 <;> simp only at hm
 cases hm
 exact rZ1
 refine yG ?_
 intro _ hm
 cases hm
 exact rZ1
noncomputable def Z3u (f : GFunc) (b : Int) : Option (List Int) :=
 (if 0 ≤ b ∧ b < (List.length f.blocks : Int) then
 (if (((((at_ f.blocks b).term)).kind) == 2) = true then
 (some ([(((at_ f.blocks b).term)).x]))
 else
 (if (((((at_ f.blocks b).term)).kind) == 3) = true then
 (some ([(((at_ f.blocks b).term)).x, (((at_ f.blocks b).term)).y]))
 else
 (some (([] : List Int)))))
 else none)
theorem Y1w {f : GFunc} {b : Int} {r : List Int} (hm : Z3u f b = some r) : Sim Tryz.prog 88 [.agg (Y1 false f), .one (.int .i64 b)] [] (.u (.one (.os () 1 (List.map iL r)))) [] := by
 refine fN 27 0 Tryz.func88 [.tmp 4] fun B hB0 => ?_
 unfold Z3u at hm
 refine yG ?_
 intro k1 hm
 refine nO (K7 T39 rfl (u := .agg (Y3r (((at_ f.blocks b).term)))) rfl rfl ?_)
 refine yG ?_
 intro _ hm
 refine bS hm (fun hb2 hm => ?_) fun hb2 hm => ?_
 refine yG ?_
 intro _ hm
 refine nO (kM (iL) ([(((at_ f.blocks b).term)).x]) ?_)
 refine yG ?_
 intro _ hm
 cases hm
 exact rZ1h (hg := Z3s 0 0 rfl rfl rfl rfl)
 refine yG ?_
 intro _ hm
 refine bS hm (fun hb3 hm => ?_) fun hb3 hm => ?_
 refine yG ?_
 intro _ hm
 refine nO (kM (iL) ([(((at_ f.blocks b).term)).x, (((at_ f.blocks b).term)).y]) ?_)
 refine yG ?_
 intro _ hm
 cases hm
 exact rZ1h (hg := Z3s 0 0 rfl rfl rfl rfl)
 refine yG ?_
 intro _ hm
 refine nO (kM (iL) (([] : List Int)) ?_)
 refine yG ?_
 intro _ hm
 cases hm
 exact rZ1h (hg := Z3s 0 0 rfl rfl rfl rfl)
noncomputable def Z0x (l : List Int) (n : Int) : Option Bool :=
 (Option.bind (Y6 (fun (st1 : Int) =>
 ((if decide (st1 < ((List.length l : Int))) = true then
 (if 0 ≤ st1 ∧ st1 < (List.length l : Int) then
 (if ((at_ l st1) == n) = true then
 (some (Sum.inr ((Sum.inl (())))))
 else
 (if inI (st1 + 1) then
 (some (Sum.inl (st1 + 1)))
 else none))
 else none)
 else
 (some (Sum.inr ((Sum.inr (())))))) : Option ((Int) ⊕ (Unit ⊕ Unit)))) 0) fun (y9 : Unit ⊕ Unit) => match y9 with
 | (Sum.inl j2) =>
 (some true)
 | (Sum.inr j3) =>
 (some false))
theorem Z5p {l : List Int} {n : Int} {r : Bool} (hm : Z0x l n = some r) : Sim Tryz.prog 87 [.one (.bs () 1 (List.map iL l)), .one (.int .i64 n)] [] (.u (.one (.bool r))) [] := by
 refine fN 18 0 Tryz.func87 [.tmp 4] fun B hB0 => ?_
 unfold Z0x at hm
 refine yG ?_
 intro _ hm
 obtain ⟨y9, hl10, hm⟩ := Z0 hm
 refine J7 hl10 (fun (st1 : Int) => St 18 [(0, .u (.one (.bs () 1 (List.map iL l)))), (1, vI n), (5, vI st1)] [] 0) (fun (y : Unit ⊕ Unit) => match y with | (Sum.inl j2) => (.ret, St 18 [(4, vB true)] [] 0) | (Sum.inr j3) => (.exit 0, St 18 [] [] 0)) (vW []) ?_ (by rintro (_ | _) <;> simp) ?_
 intro st1 x hm
 refine yG ?_
 intro k1 hm
 refine bS hm (fun hb5 hm => ?_) fun hb5 hm => ?_
 refine yG ?_
 intro k2 hm
 refine bS hm (fun hb7 hm => ?_) fun hb7 hm => ?_
 refine yG ?_
 intro _ hm
 cases hm
 exact ⟨rfl, vW []⟩
 refine yG ?_
 intro k3 hm
 cases hm
 exact ⟨rfl, vW []⟩
 refine V2 ?_
 cases hm
 exact ⟨rfl, vW []⟩
 rcases y9 with j2 | j3 <;> simp only at hm
 cases hm
 exact rZ1
 refine yG ?_
 intro _ hm
 cases hm
 exact rZ1
noncomputable def Z0v (f : GFunc) (b : Int) : Option (List Int) :=
 (Option.bind (Y6 (fun (st1 : (List Int) × Int) =>
 ((if decide (st1.2 < ((List.length f.blocks : Int))) = true then
 (Option.bind (Z3u f st1.2) fun x5 =>
 (Option.bind (Z0x x5 b) fun x7 =>
 (if x7 = true then
 (if (List.length st1.1 + List.length ([st1.2])) * 8 ≤ 140737488355328 ∧ List.length st1.1 + List.length ([st1.2]) ≤ LIM then
 (if inI (st1.2 + 1) then
 (some (Sum.inl ((st1.1 ++ ([st1.2]), st1.2 + 1))))
 else none)
 else none)
 else
 (if inI (st1.2 + 1) then
 (some (Sum.inl ((st1.1, st1.2 + 1))))
 else none))))
 else
 (some (Sum.inr st1.1))) : Option (((List Int) × Int) ⊕ (((List Int)))))) (([] : List Int), 0)) fun (j2 : (List Int)) =>
 (some j2))
theorem Z8q {f : GFunc} {b : Int} {r : List Int} (hm : Z0v f b = some r) : Sim Tryz.prog 47 [.agg (Y1 false f), .one (.int .i64 b)] [] (.u (.one (.os () 1 (List.map iL r)))) [] := by
 refine fN 25 0 Tryz.func47 [.tmp 4] fun B hB0 => ?_
 unfold Z0v at hm
 refine yG ?_
 intro _ hm
 refine nO (kM (iL) (([] : List Int)) ?_)
 refine yG ?_
 intro _ hm
 obtain ⟨j2, hl14, hm⟩ := Z0 hm
 refine lP hl14 (fun st1 => St 25 [(1, vI b), (2, vP 0), (5, vR 1 (List.length st1.1)), (6, vI st1.2)] [(0, oL 3 (Y1 false f)), (1, oM 1 iL st1.1)] 2) (fun j2 => (.exit 0, St 25 [(5, vR 0 (List.length j2))] [(0, oM 1 iL j2)] 1)) (vW [0, 1]) ?_ ?_
 intro st1 x hm
 refine yG ?_
 intro k1 hm
 refine bS hm (fun hb4 hm => ?_) fun hb4 hm => ?_
 refine yG ?_
 intro _ hm
 refine nO (kW ?_)
 refine yG ?_
 intro _ hm
 obtain ⟨x5, h6, hm⟩ := Z0 hm
 refine nO (Z5 (cB (Y1w h6) ?_))
 refine yG ?_
 intro _ hm
 obtain ⟨x7, h8, hm⟩ := Z0 hm
 refine nO (Z5 (cB (Z5p h8) ?_))
 refine W5 ?_
 refine bS hm (fun hb9 hm => ?_) fun hb9 hm => ?_
 refine yG ?_
 intro _ hm
 refine nO (kM (iL) ([st1.2]) ?_)
 refine yG ?_
 intro k2 hm
 cases hm
 exact ⟨rfl, vW [0, 4]⟩
 refine yG ?_
 intro k3 hm
 cases hm
 exact ⟨rfl, vW [0, 1]⟩
 refine V2 ?_
 cases hm
 exact ⟨rfl, vW [1]⟩
 refine yG ?_
 intro _ hm
 cases hm
 exact rZ1h (hg := Z3s 0 0 rfl rfl rfl rfl)
noncomputable def Z6x (f : GFunc) : Option Bool :=
 (Option.bind (Y6 (fun (st1 : Int) =>
 ((if decide (st1 < ((List.length f.blocks : Int))) = true then
 (Option.bind (Z0v f st1) fun x6 =>
 (Option.bind (Y6 (fun (st9 : Int) =>
 ((if 0 ≤ st1 ∧ st1 < (List.length f.blocks : Int) then
 (if decide (st9 < ((List.length ((at_ f.blocks st1).phis) : Int))) = true then
 (if 0 ≤ st1 ∧ st1 < (List.length f.blocks : Int) then
 (if 0 ≤ st9 ∧ st9 < (List.length ((at_ f.blocks st1).phis) : Int) then
 (if (((List.length ((at_ ((at_ f.blocks st1).phis) st9).ins) : Int)) != ((List.length x6 : Int))) = true then
 (some (Sum.inr ((Sum.inl (())))))
 else
 (if inI (st9 + 1) then
 (some (Sum.inl (st9 + 1)))
 else none))
 else none)
 else none)
 else
 (some (Sum.inr ((Sum.inr (()))))))
 else none) : Option ((Int) ⊕ (Unit ⊕ Unit)))) 0) fun (y20 : Unit ⊕ Unit) => match y20 with
 | (Sum.inl j10) =>
 (some (Sum.inr ((Sum.inl (())))))
 | (Sum.inr j11) =>
 (if inI (st1 + 1) then
 (some (Sum.inl (st1 + 1)))
 else none)))
 else
 (some (Sum.inr ((Sum.inr (())))))) : Option ((Int) ⊕ (Unit ⊕ Unit)))) 0) fun (y23 : Unit ⊕ Unit) => match y23 with
 | (Sum.inl j2) =>
 (some false)
 | (Sum.inr j3) =>
 (some true))
theorem Y9c {f : GFunc} {r : Bool} (hm : Z6x f = some r) : Sim Tryz.prog 48 [.agg (Y1 false f)] [] (.u (.one (.bool r))) [] := by
 refine fN 41 0 Tryz.func48 [.tmp 2] fun B hB0 => ?_
 unfold Z6x at hm
 refine yG ?_
 intro _ hm
 obtain ⟨y23, hl24, hm⟩ := Z0 hm
 refine J7 hl24 (fun (st1 : Int) => St 41 [(1, vP 0), (3, vI st1)] [(0, oL 3 (Y1 false f))] 1) (fun (y : Unit ⊕ Unit) => match y with | (Sum.inl j2) => (.ret, St 41 [(2, vB false)] [] 0) | (Sum.inr j3) => (.exit 0, St 41 [] [] 0)) (vW [0]) ?_ (by rintro (_ | _) <;> simp) ?_
 intro st1 x hm
 refine yG ?_
 intro k1 hm
 refine bS hm (fun hb5 hm => ?_) fun hb5 hm => ?_
 refine yG ?_
 intro _ hm
 refine nO (kW ?_)
 refine yG ?_
 intro _ hm
 obtain ⟨x6, h7, hm⟩ := Z0 hm
 refine nO (Z5 (cB (Z8q h7) ?_))
 refine yG ?_
 intro k2 hm
 obtain ⟨y20, hl21, hm⟩ := Z0 hm
 refine J7 hl21 (fun (st9 : Int) => St 41 [(1, vP 0), (3, vI st1), (4, vI ((List.length x6 : Int))), (5, vI st9)] [(0, oL 3 (Y1 false f))] 1) (fun (y : Unit ⊕ Unit) => match y with | (Sum.inl j10) => (.ret, St 41 [(2, vB false)] [] 0) | (Sum.inr j11) => (.exit 2, St 41 [(1, vP 0), (3, vI st1)] [(0, oL 3 (Y1 false f))] 1)) (vW [0]) ?_ (by rintro (_ | _) <;> simp) ?_
 intro st9 x hm
 refine yG ?_
 intro k3 hm
 refine bS hm (fun hb14 hm => ?_) fun hb14 hm => ?_
 refine yG ?_
 intro k4 hm
 refine bS hm (fun hb18 hm => ?_) fun hb18 hm => ?_
 refine yG ?_
 intro _ hm
 cases hm
 exact ⟨rfl, vW []⟩
 refine yG ?_
 intro k5 hm
 cases hm
 exact ⟨rfl, vW [0]⟩
 refine V2 ?_
 cases hm
 exact ⟨rfl, vW [0]⟩
 rcases y20 with j10 | j11 <;> simp only at hm
 cases hm
 exact ⟨rfl, vW []⟩
 refine yG ?_
 intro k6 hm
 cases hm
 exact ⟨rfl, vW [0]⟩
 refine V2 ?_
 cases hm
 exact ⟨rfl, vW []⟩
 rcases y23 with j2 | j3 <;> simp only at hm
 cases hm
 exact rZ1
 refine yG ?_
 intro _ hm
 cases hm
 exact rZ1
noncomputable def Z3v (f : GFunc) (id : Int) : Option (Int × Int) :=
 (if decide (id < 0) = true then
 (some (((-2), 0)))
 else
 (if decide (id < ((List.length f.params : Int))) = true then
 (some (((-1), id)))
 else
 (if inI (id - ((List.length f.params : Int))) then
 (Option.bind (Y6 (fun (st6 : Int × Int) =>
 ((if decide (st6.2 < ((List.length f.blocks : Int))) = true then
 (if 0 ≤ st6.2 ∧ st6.2 < (List.length f.blocks : Int) then
 (if 0 ≤ st6.2 ∧ st6.2 < (List.length f.blocks : Int) then
 (if decide (st6.1 < (IntKind.i64.wrap (((List.length ((at_ f.blocks st6.2).phis) : Int)) + ((List.length ((at_ f.blocks st6.2).insts) : Int))))) = true then
 (some (Sum.inr ((Sum.inl ((st6.2, st6.1))))))
 else
 (if inI (st6.2 + 1) then
 (some (Sum.inl ((IntKind.i64.wrap (st6.1 - (IntKind.i64.wrap (((List.length ((at_ f.blocks st6.2).phis) : Int)) + ((List.length ((at_ f.blocks st6.2).insts) : Int))))), st6.2 + 1))))
 else none))
 else none)
 else none)
 else
 (some (Sum.inr ((Sum.inr (())))))) : Option ((Int × Int) ⊕ ((Int × Int) ⊕ Unit)))) (id - ((List.length f.params : Int)), 0)) fun (y17 : (Int × Int) ⊕ Unit) => match y17 with
 | (Sum.inl j7) =>
 (some ((j7.1, j7.2)))
 | (Sum.inr j8) =>
 (some (((-2), 0))))
 else none)))
theorem Y1y {f : GFunc} {id : Int} {r : Int × Int} (hm : Z3v f id = some r) : Sim Tryz.prog 114 [.agg (Y1 false f), .one (.int .i64 id)] [] (.tup [.one (.int .i64 r.1), .one (.int .i64 r.2)]) [] := by
 refine fN 51 0 Tryz.func114 [.tmp 4, .tmp 5] fun B hB0 => ?_
 have fW := trivial
 unfold Z3v at hm
 refine yG ?_
 intro _ hm
 refine bS hm (fun hb1 hm => ?_) fun hb1 hm => ?_
 refine yG ?_
 intro _ hm
 cases hm
 exact rZt
 refine yG ?_
 intro k1 hm
 refine bS hm (fun hb3 hm => ?_) fun hb3 hm => ?_
 refine yG ?_
 intro _ hm
 cases hm
 exact rZt
 refine yG ?_
 intro k2 hm
 obtain ⟨y17, hl18, hm⟩ := Z0 hm
 refine J7 hl18 (fun (st6 : Int × Int) => St 51 [(1, vI st6.1), (2, vP 0), (6, vI st6.2)] [(0, oL 3 (Y1 false f))] 1) (fun (y : (Int × Int) ⊕ Unit) => match y with | (Sum.inl j7) => (.ret, St 51 [(4, vI j7.1), (5, vI j7.2)] [] 0) | (Sum.inr j8) => (.exit 0, St 51 [] [] 0)) (vW [0]) ?_ (by rintro (_ | _) <;> simp) ?_
 intro st6 x hm
 refine yG ?_
 intro k3 hm
 refine bS hm (fun hb10 hm => ?_) fun hb10 hm => ?_
 refine K5 ?_
 refine Wp.seq ?_
 refine Wp.block ?_
 refine Wp.seq ?_
 refine Z4t (Y := sysC _) Z4j ?_
 refine tK 0 1 rfl (kF ?_)
 refine tK 1 1 rfl (kD ?_)
 refine tK 2 0 rfl (kV ?_)
 obtain ⟨h11, hm⟩ := Z9 hm
 refine tK 3 0 rfl (Z8m E30 rfl rfl h11 ?_)
 refine tK 4 0 rfl (Y5x X7q rfl ?_)
 refine tK 5 0 rfl (K7 T36 rfl rfl rfl ?_)
 refine tK 6 0 rfl (Y5w N36 rfl fun hL12 => ?_)
 refine tK 7 1 rfl (kF ?_)
 refine tK 8 1 rfl (kD ?_)
 refine tK 9 0 rfl (kV ?_)
 obtain ⟨h13, hm⟩ := Z9 hm
 refine tK 10 0 rfl (Z8m E30 rfl rfl h13 ?_)
 refine tK 11 0 rfl (Y5x W6y rfl ?_)
 refine tK 12 0 rfl (K7 T37 rfl rfl rfl ?_)
 refine tK 13 0 rfl (Y5w N37 rfl fun hL14 => ?_)
 refine tK 14 0 rfl (Y2g T3 rfl rfl rfl ?_)
 refine tK 15 0 rfl (x_as rfl rfl ?_)
 refine aN ?_
 refine yG ?_
 intro _ hm
 refine bS hm (fun hb15 hm => ?_) fun hb15 hm => ?_
 refine yG ?_
 intro _ hm
 cases hm
 exact ⟨rfl, vW []⟩
 refine yG ?_
 intro _ hm
 refine nO (Y2g T2 rfl rfl rfl ?_)
 refine yG ?_
 intro k4 hm
 cases hm
 exact ⟨rfl, vW [0]⟩
 refine V2 ?_
 cases hm
 exact ⟨rfl, vW []⟩
 rcases y17 with j7 | j8 <;> simp only at hm
 cases hm
 exact rZt
 refine yG ?_
 intro _ hm
 cases hm
 exact rZt
noncomputable def V6 (f : GFunc) (id : Int) : Option Int :=
 (Option.bind (Z3v f id) fun x1 =>
 (if (x1.1 == ((-2))) = true then
 (some ((-1)))
 else
 (if (x1.1 == ((-1))) = true then
 (if 0 ≤ x1.2 ∧ x1.2 < (List.length f.params : Int) then
 (some (at_ f.params x1.2))
 else none)
 else
 (if 0 ≤ x1.1 ∧ x1.1 < (List.length f.blocks : Int) then
 (if decide (x1.2 < ((List.length ((at_ f.blocks x1.1).phis) : Int))) = true then
 (if 0 ≤ x1.2 ∧ x1.2 < (List.length ((at_ f.blocks x1.1).phis) : Int) then
 (some ((at_ ((at_ f.blocks x1.1).phis) x1.2).w))
 else none)
 else
 (if inI (x1.2 - ((List.length ((at_ f.blocks x1.1).phis) : Int))) then
 (if 0 ≤ (x1.2 - ((List.length ((at_ f.blocks x1.1).phis) : Int))) ∧ (x1.2 - ((List.length ((at_ f.blocks x1.1).phis) : Int))) < (List.length ((at_ f.blocks x1.1).insts) : Int) then
 (some ((W3 (at_ ((at_ f.blocks x1.1).insts) (x1.2 - ((List.length ((at_ f.blocks x1.1).phis) : Int)))))))
 else none)
 else none))
 else none))))
theorem K4 {f : GFunc} {id : Int} {r : Int} (hm : V6 f id = some r) : Sim Tryz.prog 89 [.agg (Y1 false f), .one (.int .i64 id)] [] (.u (.one (.int .i64 r))) [] := by
 refine fN 51 0 Tryz.func89 [.tmp 4] fun B hB0 => ?_
 unfold V6 at hm
 refine yG ?_
 intro _ hm
 refine nO (kW ?_)
 refine yG ?_
 intro _ hm
 obtain ⟨x1, h2, hm⟩ := Z0 hm
 refine nO (Z5 (cB (Y1y h2) ?_))
 refine yG ?_
 intro _ hm
 refine bS hm (fun hb3 hm => ?_) fun hb3 hm => ?_
 refine yG ?_
 intro _ hm
 cases hm
 exact rZ1
 refine yG ?_
 intro _ hm
 refine bS hm (fun hb4 hm => ?_) fun hb4 hm => ?_
 refine yG ?_
 intro k1 hm
 cases hm
 exact rZ1
 refine yG ?_
 intro k2 hm
 refine nO (K7 T41 rfl (J0 rfl rfl) rfl ?_)
 refine yG ?_
 intro k3 hm
 refine bS hm (fun hb8 hm => ?_) fun hb8 hm => ?_
 refine yG ?_
 intro k4 hm
 cases hm
 exact rZ1
 refine yG ?_
 intro k5 hm
 refine nO (K7 T46 rfl (J0 rfl rfl) rfl ?_)
 refine nO (Z5 (cB (Y1x (at_ ((at_ f.blocks x1.1).insts) (x1.2 - ((List.length ((at_ f.blocks x1.1).phis) : Int))))) ?_))
 refine yG ?_
 intro _ hm
 cases hm
 exact rZ1
noncomputable def Z7a (f : GFunc) (i : GInst) : Option Bool :=
 (Option.bind (V6 f i.a) fun x1 =>
 (if (Z8 i.op_ 1 17) = true then
 (Option.bind ((if (x1 == i.w) = true then
 (Option.bind (V6 f i.b) fun x6 =>
 (some ((x6 == i.w))))
 else
 (some false))) fun (j4 : Bool) =>
 (some j4))
 else
 (if ((i.op_ == 18) || (i.op_ == 19)) = true then
 (some ((decide (x1 > 0) && decide (x1 < i.w))))
 else
 (if (i.op_ == 20) = true then
 (some (decide (x1 > i.w)))
 else
 (if (i.op_ == 22) = true then
 (Option.bind ((if (x1 == 1) = true then
 (Option.bind (V6 f i.b) fun x18 =>
 (if (x18 == i.w) = true then
 (Option.bind (V6 f i.c) fun x21 =>
 (some ((x21 == i.w))))
 else
 (some false)))
 else
 (some false))) fun (j16 : Bool) =>
 (some j16))
 else
 (if (i.op_ == 23) = true then
 (some ((x1 == 32)))
 else
 (if (i.op_ == 24) = true then
 (Option.bind ((if (x1 == 32) = true then
 (Option.bind (V6 f i.b) fun x28 =>
 (some ((x28 == 8))))
 else
 (some false))) fun (j26 : Bool) =>
 (some j26))
 else
 (if (i.op_ == 25) = true then
 (some (decide (x1 > 0)))
 else
 (if (i.op_ == 27) = true then
 (some ((x1 == i.w)))
 else
 (some true))))))))))
theorem Y9f {f : GFunc} {i : GInst} {r : Bool} (hm : Z7a f i = some r) : Sim Tryz.prog 90 [.agg (Y1 false f), .agg (Q1 false i)] [] (.u (.one (.bool r))) [] := by
 refine fN 109 0 Tryz.func90 [.tmp 4] fun B hB0 => ?_
 unfold Z7a at hm
 refine yG ?_
 intro _ hm
 refine nO (kW ?_)
 refine yG ?_
 intro _ hm
 obtain ⟨x1, h2, hm⟩ := Z0 hm
 refine nO (Z5 (cB (K4 h2) ?_))
 refine yG ?_
 intro _ hm
 refine nO (Z5 (cB (V5 i.op_ 1 17) ?_))
 refine yG ?_
 intro _ hm
 refine bS hm (fun hb3 hm => ?_) fun hb3 hm => ?_
 refine Wp.seq ?_
 obtain ⟨j4, hj8, hm⟩ := Z0 hm
 refine V7 (St 109 [(4, vB j4)] [] 0) ?_ ?_
 replace hm := hj8
 refine Z4t (Y := sysC _) Z4j ?_
 refine tK 0 0 rfl (kV ?_)
 refine tK 1 1 rfl (kF ?_)
 refine tK 2 1 rfl (kD ?_)
 refine tK 3 0 rfl (Z6i T2 rfl rfl rfl ?_)
 refine tK 4 0 rfl (kV ?_)
 refine bT 18 hm (fun hb5 hm => ?_) fun hb5 hm => ?_
 refine tG 5 1 rfl (kW ?_)
 refine tG 6 1 rfl (kF ?_)
 refine tG 7 1 rfl (kD ?_)
 refine tG 9 1 rfl (kF ?_)
 refine tG 10 1 rfl (kD ?_)
 obtain ⟨x6, h7, hm⟩ := Z0 hm
 refine oG 8 rfl (cB (K4 h7) ?_)
 refine tG 11 0 rfl (Z6i T2 rfl rfl rfl ?_)
 refine tK 12 0 rfl (x_pk rfl rfl rfl ?_)
 refine tK 13 0 rfl (x_as rfl rfl ?_)
 refine aN ?_
 cases hm
 exact vW []
 refine tF 5 rfl ?_
 refine tF 6 rfl ?_
 refine tF 7 rfl ?_
 refine tF 8 rfl ?_
 refine tF 9 rfl ?_
 refine tF 10 rfl ?_
 refine tF 11 rfl ?_
 refine tK 12 0 rfl (x_pk rfl rfl rfl ?_)
 refine tK 13 0 rfl (x_as rfl rfl ?_)
 refine aN ?_
 cases hm
 exact vW []
 refine Z2d ?_
 cases hm
 exact rZ1
 refine Wp.seq ?_
 refine V7 (St 109 [(2, vP 0), (3, vP 1), (5, vI x1), (27, vB (((i.op_ == 18) || (i.op_ == 19))))] [(0, oL 3 (Y1 false f)), (1, oL 7 (Q1 false i))] 2) ?_ ?_
 refine yG ?_
 intro _ hm
 refine gO_s rfl rfl rfl (fun hb10 => ?_) (fun hb10 => ?_)
 refine yG ?_
 intro _ hm
 exact w_ [0, 1] (.cons rfl rfl (.cons rfl rfl (.cons rfl rfl (.cons (by simp only [hb10, BO]; rfl) rfl .nil)))) (.lit rfl rfl (.lit rfl rfl .nil)) (by decide) (hB_0 hB0)
 refine yG ?_
 intro _ hm
 exact w_ [0, 1] (.cons rfl rfl (.cons rfl rfl (.cons rfl rfl (.cons (by simp only [hb10, BO]; rfl) rfl .nil)))) (.lit rfl rfl (.lit rfl rfl .nil)) (by decide) (hB_0 hB0)
 refine bS hm (fun hb11 hm => ?_) fun hb11 hm => ?_
 refine Wp.seq ?_
 refine V7 (St 109 [(4, vB ((decide (x1 > 0) && decide (x1 < i.w))))] [] 0) ?_ ?_
 refine yG ?_
 intro _ hm
 refine gO_s rfl rfl rfl (fun hb13 => ?_) (fun hb13 => ?_)
 refine yG ?_
 intro _ hm
 exact w_ [] (.cons (by simp only [hb13, BO]; rfl) rfl .nil) .nil (by decide) (hB_0 hB0)
 refine yG ?_
 intro _ hm
 exact w_ [] (.cons (by simp only [hb13, BO]; rfl) rfl .nil) .nil (by decide) (hB_0 hB0)
 refine Z2d ?_
 cases hm
 exact rZ1
 refine yG ?_
 intro _ hm
 refine bS hm (fun hb14 hm => ?_) fun hb14 hm => ?_
 refine yG ?_
 intro _ hm
 cases hm
 exact rZ1
 refine yG ?_
 intro _ hm
 refine bS hm (fun hb15 hm => ?_) fun hb15 hm => ?_
 refine Wp.seq ?_
 obtain ⟨j16, hj23, hm⟩ := Z0 hm
 refine V7 (St 109 [(4, vB j16)] [] 0) ?_ ?_
 replace hm := hj23
 refine Z4t (Y := sysC _) Z4j ?_
 refine tK 0 0 rfl (kV ?_)
 refine tK 1 0 rfl (Z6i T2 rfl rfl rfl ?_)
 refine tK 2 0 rfl (kV ?_)
 refine bT 58 hm (fun hb17 hm => ?_) fun hb17 hm => ?_
 refine tG 3 1 rfl (kW ?_)
 refine tG 4 1 rfl (kF ?_)
 refine tG 5 1 rfl (kD ?_)
 refine tG 7 1 rfl (kF ?_)
 refine tG 8 1 rfl (kD ?_)
 obtain ⟨x18, h19, hm⟩ := Z0 hm
 refine oG 6 rfl (cB (K4 h19) ?_)
 refine tG 9 0 rfl (Z6i T2 rfl rfl rfl ?_)
 refine tK 10 0 rfl (x_pk rfl rfl rfl ?_)
 refine tK 11 0 rfl (kV ?_)
 refine bT 67 hm (fun hb20 hm => ?_) fun hb20 hm => ?_
 refine tG 12 1 rfl (kW ?_)
 refine tG 13 1 rfl (kF ?_)
 refine tG 14 1 rfl (kD ?_)
 refine tG 16 1 rfl (kF ?_)
 refine tG 17 1 rfl (kD ?_)
 obtain ⟨x21, h22, hm⟩ := Z0 hm
 refine oG 15 rfl (cB (K4 h22) ?_)
 refine tG 18 0 rfl (Z6i T2 rfl rfl rfl ?_)
 refine tK 19 0 rfl (x_pk rfl rfl rfl ?_)
 refine tK 20 0 rfl (x_as rfl rfl ?_)
 refine aN ?_
 cases hm
 exact vW []
 refine tF 12 rfl ?_
 refine tF 13 rfl ?_
 refine tF 14 rfl ?_
 refine tF 15 rfl ?_
 refine tF 16 rfl ?_
 refine tF 17 rfl ?_
 refine tF 18 rfl ?_
 refine tK 19 0 rfl (x_pk rfl rfl rfl ?_)
 refine tK 20 0 rfl (x_as rfl rfl ?_)
 refine aN ?_
 cases hm
 exact vW []
 refine tF 3 rfl ?_
 refine tF 4 rfl ?_
 refine tF 5 rfl ?_
 refine tF 6 rfl ?_
 refine tF 7 rfl ?_
 refine tF 8 rfl ?_
 refine tF 9 rfl ?_
 refine tK 10 0 rfl (x_pk rfl rfl rfl ?_)
 refine tK 11 0 rfl (kV ?_)
 refine tF 12 rfl ?_
 refine tF 13 rfl ?_
 refine tF 14 rfl ?_
 refine tF 15 rfl ?_
 refine tF 16 rfl ?_
 refine tF 17 rfl ?_
 refine tF 18 rfl ?_
 refine tK 19 0 rfl (x_pk rfl rfl rfl ?_)
 refine tK 20 0 rfl (x_as rfl rfl ?_)
 refine aN ?_
 cases hm
 exact vW []
 refine Z2d ?_
 cases hm
 exact rZ1
 refine yG ?_
 intro _ hm
 refine bS hm (fun hb24 hm => ?_) fun hb24 hm => ?_
 refine yG ?_
 intro _ hm
 cases hm
 exact rZ1
 refine yG ?_
 intro _ hm
 refine bS hm (fun hb25 hm => ?_) fun hb25 hm => ?_
 refine Wp.seq ?_
 obtain ⟨j26, hj30, hm⟩ := Z0 hm
 refine V7 (St 109 [(4, vB j26)] [] 0) ?_ ?_
 replace hm := hj30
 refine yG ?_
 intro _ hm
 refine bG1 hm (fun hb27 hm => ?_) fun hb27 hm => ?_
 refine gO_t rfl rfl rfl (kW ?_)
 refine yG ?_
 intro _ hm
 obtain ⟨x28, h29, hm⟩ := Z0 hm
 refine gO_t rfl rfl rfl (Z5 (cB (K4 h29) ?_))
 refine yG ?_
 intro _ hm
 cases hm
 exact vW []
 refine yG ?_
 intro _ hm
 cases hm
 exact vW []
 refine Z2d ?_
 cases hm
 exact rZ1
 refine yG ?_
 intro _ hm
 refine bS hm (fun hb31 hm => ?_) fun hb31 hm => ?_
 refine yG ?_
 intro _ hm
 cases hm
 exact rZ1
 refine yG ?_
 intro _ hm
 refine bS hm (fun hb32 hm => ?_) fun hb32 hm => ?_
 refine yG ?_
 intro _ hm
 cases hm
 exact rZ1
 refine yG ?_
 intro _ hm
 cases hm
 exact rZ1
end
section
set_option maxHeartbeats 8000000
set_option maxRecDepth 100000
attribute [local irreducible] aopK J8 Wp St WpO
noncomputable def Z5j (f : GFunc) : Option Bool :=
 (Option.bind (Y6 (fun (st1 : Int) =>
 ((if decide (st1 < ((List.length f.blocks : Int))) = true then
 (if 0 ≤ st1 ∧ st1 < (List.length f.blocks : Int) then
 (Option.bind (Y6 (fun (st7 : Int) =>
 ((if decide (st7 < ((List.length ((at_ f.blocks st1).phis) : Int))) = true then
 (Option.bind (Y6 (fun (st12 : Int) =>
 ((if 0 ≤ st7 ∧ st7 < (List.length ((at_ f.blocks st1).phis) : Int) then
 (if decide (st12 < ((List.length ((at_ ((at_ f.blocks st1).phis) st7).ins) : Int))) = true then
 (if 0 ≤ st7 ∧ st7 < (List.length ((at_ f.blocks st1).phis) : Int) then
 (if 0 ≤ st12 ∧ st12 < (List.length ((at_ ((at_ f.blocks st1).phis) st7).ins) : Int) then
 (if 0 ≤ st7 ∧ st7 < (List.length ((at_ f.blocks st1).phis) : Int) then
 (Option.bind (V6 f (at_ ((at_ ((at_ f.blocks st1).phis) st7).ins) st12)) fun x21 =>
 (if (x21 != ((at_ ((at_ f.blocks st1).phis) st7).w)) = true then
 (some (Sum.inr ((Sum.inl (())))))
 else
 (if inI (st12 + 1) then
 (some (Sum.inl (st12 + 1)))
 else none)))
 else none)
 else none)
 else none)
 else
 (some (Sum.inr ((Sum.inr (()))))))
 else none) : Option ((Int) ⊕ (Unit ⊕ Unit)))) 0) fun (y25 : Unit ⊕ Unit) => match y25 with
 | (Sum.inl j13) =>
 (some (Sum.inr ((Sum.inl (())))))
 | (Sum.inr j14) =>
 (if inI (st7 + 1) then
 (some (Sum.inl (st7 + 1)))
 else none))
 else
 (some (Sum.inr ((Sum.inr (())))))) : Option ((Int) ⊕ (Unit ⊕ Unit)))) 0) fun (y28 : Unit ⊕ Unit) => match y28 with
 | (Sum.inl j8) =>
 (some (Sum.inr ((Sum.inl (())))))
 | (Sum.inr j9) =>
 (Option.bind (Y6 (fun (st30 : Int) =>
 ((if decide (st30 < ((List.length ((at_ f.blocks st1).insts) : Int))) = true then
 (if 0 ≤ st30 ∧ st30 < (List.length ((at_ f.blocks st1).insts) : Int) then
 (Option.bind (Z7a f (at_ ((at_ f.blocks st1).insts) st30)) fun x36 =>
 (if (!x36) = true then
 (some (Sum.inr ((Sum.inl (())))))
 else
 (if inI (st30 + 1) then
 (some (Sum.inl (st30 + 1)))
 else none)))
 else none)
 else
 (some (Sum.inr ((Sum.inr (())))))) : Option ((Int) ⊕ (Unit ⊕ Unit)))) 0) fun (y40 : Unit ⊕ Unit) => match y40 with
 | (Sum.inl j31) =>
 (some (Sum.inr ((Sum.inl (())))))
 | (Sum.inr j32) =>
 (Option.bind ((if ((((at_ f.blocks st1).term).kind) == 1) = true then
 (Option.bind (V6 f (((at_ f.blocks st1).term).a)) fun x44 =>
 (if (x44 != f.ret) = true then
 (some true)
 else
 (if ((((at_ f.blocks st1).term).kind) == 3) = true then
 (Option.bind (V6 f (((at_ f.blocks st1).term).a)) fun x48 =>
 (some ((x48 != 1))))
 else
 (some false))))
 else
 (if ((((at_ f.blocks st1).term).kind) == 3) = true then
 (Option.bind (V6 f (((at_ f.blocks st1).term).a)) fun x51 =>
 (some ((x51 != 1))))
 else
 (some false)))) fun (j42 : Bool) =>
 (if j42 = true then
 (some (Sum.inr ((Sum.inl (())))))
 else
 (if inI (st1 + 1) then
 (some (Sum.inl (st1 + 1)))
 else none)))))
 else none)
 else
 (some (Sum.inr ((Sum.inr (())))))) : Option ((Int) ⊕ (Unit ⊕ Unit)))) 0) fun (y56 : Unit ⊕ Unit) => match y56 with
 | (Sum.inl j2) =>
 (some false)
 | (Sum.inr j3) =>
 (some true))
theorem Y7k {f : GFunc} {r : Bool} (hm : Z5j f = some r) : Sim Tryz.prog 49 [.agg (Y1 false f)] [] (.u (.one (.bool r))) [] := by
 refine fN 99 0 Tryz.func49 [.tmp 2] fun B hB0 => ?_
 unfold Z5j at hm
 refine yG ?_
 intro _ hm
 obtain ⟨y56, hl57, hm⟩ := Z0 hm
 refine J7 hl57 (fun (st1 : Int) => St 99 [(1, vP 0), (3, vI st1)] [(0, oL 3 (Y1 false f))] 1) (fun (y : Unit ⊕ Unit) => match y with | (Sum.inl j2) => (.ret, St 99 [(2, vB false)] [] 0) | (Sum.inr j3) => (.exit 0, St 99 [] [] 0)) (vW [0]) ?_ (by rintro (_ | _) <;> simp) ?_
 intro st1 x hm
 refine yG ?_
 intro k1 hm
 refine bS hm (fun hb5 hm => ?_) fun hb5 hm => ?_
 refine yG ?_
 intro k2 hm
 refine nO (K7 T41 rfl (J0 rfl rfl) rfl ?_)
 refine yG ?_
 intro _ hm
 obtain ⟨y28, hl29, hm⟩ := Z0 hm
 refine J7 hl29 (fun (st7 : Int) => St 99 [(1, vP 0), (3, vI st1), (4, vP 1), (5, vI st7)] [(0, oL 3 (Y1 false f)), (1, oL 6 (W2 false (at_ f.blocks st1)))] 2) (fun (y : Unit ⊕ Unit) => match y with | (Sum.inl j8) => (.ret, St 99 [(2, vB false)] [] 0) | (Sum.inr j9) => (.exit 2, St 99 [(1, vP 0), (3, vI st1), (4, vP 1)] [(0, oL 3 (Y1 false f)), (1, oL 6 (W2 false (at_ f.blocks st1)))] 2)) (vW [0, 1]) ?_ (by rintro (_ | _) <;> simp) ?_
 intro st7 x hm
 refine yG ?_
 intro k3 hm
 refine bS hm (fun hb11 hm => ?_) fun hb11 hm => ?_
 refine yG ?_
 intro _ hm
 obtain ⟨y25, hl26, hm⟩ := Z0 hm
 refine J7 hl26 (fun (st12 : Int) => St 99 [(1, vP 0), (3, vI st1), (4, vP 1), (5, vI st7), (6, vI st12)] [(0, oL 3 (Y1 false f)), (1, oL 6 (W2 false (at_ f.blocks st1)))] 2) (fun (y : Unit ⊕ Unit) => match y with | (Sum.inl j13) => (.ret, St 99 [(2, vB false)] [] 0) | (Sum.inr j14) => (.exit 4, St 99 [(1, vP 0), (3, vI st1), (4, vP 1), (5, vI st7)] [(0, oL 3 (Y1 false f)), (1, oL 6 (W2 false (at_ f.blocks st1)))] 2)) (vW [0, 1]) ?_ (by rintro (_ | _) <;> simp) ?_
 intro st12 x hm
 refine yG ?_
 intro k4 hm
 refine bS hm (fun hb17 hm => ?_) fun hb17 hm => ?_
 refine K5 ?_
 refine Wp.seq ?_
 refine Wp.block ?_
 refine Wp.seq ?_
 refine Z4t (Y := sysC _) Z4j ?_
 refine tK 0 1 rfl (kW ?_)
 refine tK 1 1 rfl (kF ?_)
 refine tK 2 1 rfl (kD ?_)
 refine tK 3 0 rfl (kV ?_)
 obtain ⟨h18, hm⟩ := Z9 hm
 refine tK 4 0 rfl (Z8m E36 rfl rfl h18 ?_)
 refine tK 5 0 rfl (Y5x W6x rfl ?_)
 refine tK 6 0 rfl (K7 T29 rfl rfl rfl ?_)
 refine tK 7 0 rfl (kV ?_)
 obtain ⟨h19, hm⟩ := Z9 hm
 refine tK 8 0 rfl (Z8m E29 rfl rfl h19 ?_)
 refine tK 9 0 rfl (K7 T2 rfl rfl rfl ?_)
 refine tK 11 1 rfl (kF ?_)
 refine tK 12 1 rfl (kD ?_)
 refine tK 13 0 rfl (kV ?_)
 obtain ⟨h20, hm⟩ := Z9 hm
 refine tK 14 0 rfl (Z8m E36 rfl rfl h20 ?_)
 refine tK 15 0 rfl (Y5x F65_0 rfl ?_)
 refine tK 16 0 rfl (K7 T2 rfl rfl rfl ?_)
 obtain ⟨x21, h22, hm⟩ := Z0 hm
 refine oK 10 rfl (cB (K4 h22) ?_)
 refine tK 17 0 rfl (Z6i T2 rfl rfl rfl ?_)
 refine aN ?_
 refine bS hm (fun hb23 hm => ?_) fun hb23 hm => ?_
 refine yG ?_
 intro _ hm
 cases hm
 exact ⟨rfl, vW []⟩
 refine yG ?_
 intro k5 hm
 cases hm
 exact ⟨rfl, vW [0, 1]⟩
 refine V2 ?_
 cases hm
 exact ⟨rfl, vW [0, 1]⟩
 rcases y25 with j13 | j14 <;> simp only at hm
 cases hm
 exact ⟨rfl, vW []⟩
 refine yG ?_
 intro k6 hm
 cases hm
 exact ⟨rfl, vW [0, 1]⟩
 refine V2 ?_
 cases hm
 exact ⟨rfl, vW [0, 1]⟩
 rcases y28 with j8 | j9 <;> simp only at hm
 cases hm
 exact ⟨rfl, vW []⟩
 refine yG ?_
 intro _ hm
 obtain ⟨y40, hl41, hm⟩ := Z0 hm
 refine J7 hl41 (fun (st30 : Int) => St 99 [(1, vP 0), (3, vI st1), (4, vP 1), (7, vI st30)] [(0, oL 3 (Y1 false f)), (1, oL 6 (W2 false (at_ f.blocks st1)))] 2) (fun (y : Unit ⊕ Unit) => match y with | (Sum.inl j31) => (.ret, St 99 [(2, vB false)] [] 0) | (Sum.inr j32) => (.exit 6, St 99 [(1, vP 0), (3, vI st1), (4, vP 1)] [(0, oL 3 (Y1 false f)), (1, oL 6 (W2 false (at_ f.blocks st1)))] 2)) (vW [0, 1]) ?_ (by rintro (_ | _) <;> simp) ?_
 intro st30 x hm
 refine yG ?_
 intro k7 hm
 refine bS hm (fun hb34 hm => ?_) fun hb34 hm => ?_
 refine K5 ?_
 refine Wp.seq ?_
 refine Wp.block ?_
 refine Wp.seq ?_
 refine Z4t (Y := sysC _) Z4j ?_
 refine tK 0 1 rfl (kW ?_)
 refine tK 1 1 rfl (kF ?_)
 refine tK 2 1 rfl (kD ?_)
 refine tK 3 0 rfl (kV ?_)
 obtain ⟨h35, hm⟩ := Z9 hm
 refine tK 4 0 rfl (Z8m E37 rfl rfl h35 ?_)
 refine tK 5 0 rfl (K7 T46 rfl (J0 rfl rfl) rfl ?_)
 obtain ⟨x36, h37, hm⟩ := Z0 hm
 refine oK 6 rfl (cB (Y9f h37) ?_)
 refine tK 7 0 rfl (x_un rfl rfl ?_)
 refine aN ?_
 refine bS hm (fun hb38 hm => ?_) fun hb38 hm => ?_
 refine yG ?_
 intro _ hm
 cases hm
 exact ⟨rfl, vW []⟩
 refine yG ?_
 intro k8 hm
 cases hm
 exact ⟨rfl, vW [0, 1]⟩
 refine V2 ?_
 cases hm
 exact ⟨rfl, vW [0, 1]⟩
 rcases y40 with j31 | j32 <;> simp only at hm
 cases hm
 exact ⟨rfl, vW []⟩
 refine Wp.seq ?_
 obtain ⟨j42, hj53, hm⟩ := Z0 hm
 refine V7 (St 99 [(1, vP 0), (3, vI st1), (98, vB j42)] [(0, oL 3 (Y1 false f))] 1) ?_ ?_
 replace hm := hj53
 refine Z4t (Y := sysC _) Z4j ?_
 refine tK 0 1 rfl (kF ?_)
 refine tK 1 1 rfl (kF ?_)
 refine tK 2 1 rfl (kD ?_)
 refine tK 3 0 rfl (Z6i T2 rfl rfl rfl ?_)
 refine tK 4 0 rfl (kV ?_)
 refine bT 75 hm (fun hb43 hm => ?_) fun hb43 hm => ?_
 refine tG 5 1 rfl (kW ?_)
 refine tG 6 1 rfl (kF ?_)
 refine tG 7 1 rfl (kF ?_)
 refine tG 8 1 rfl (kD ?_)
 refine tG 10 1 rfl (kF ?_)
 refine tG 11 1 rfl (kD ?_)
 obtain ⟨x44, h45, hm⟩ := Z0 hm
 refine oG 9 rfl (cB (K4 h45) ?_)
 refine tG 12 0 rfl (Z6i T2 rfl rfl rfl ?_)
 refine tK 13 0 rfl (x_pk rfl rfl rfl ?_)
 refine tK 14 0 rfl (kV ?_)
 refine bT 85 hm (fun hb46 hm => ?_) fun hb46 hm => ?_
 refine tF 15 rfl ?_
 refine tF 16 rfl ?_
 refine tF 17 rfl ?_
 refine tF 18 rfl ?_
 refine tF 19 rfl ?_
 refine t_u 20 rfl (by decide +kernel) rfl rfl rfl ?_
 refine t_u 21 rfl (by decide +kernel) rfl rfl rfl ?_
 refine t_u 22 rfl (by decide +kernel) rfl rfl rfl ?_
 refine t_u 23 rfl (by decide +kernel) rfl rfl rfl ?_
 refine t_u 24 rfl (by decide +kernel) rfl rfl rfl ?_
 refine t_u 25 rfl (by decide +kernel) rfl rfl rfl ?_
 refine tF 26 rfl ?_
 refine tK 27 0 rfl (x_pk rfl rfl rfl ?_)
 refine aN ?_
 cases hm
 exact vW [0]
 refine tG 15 1 rfl (kF ?_)
 refine tG 16 1 rfl (kF ?_)
 refine tG 17 1 rfl (kD ?_)
 refine tG 18 0 rfl (Z6i T2 rfl rfl rfl ?_)
 refine tG 19 0 rfl (kV ?_)
 refine bT 90 hm (fun hb47 hm => ?_) fun hb47 hm => ?_
 refine tG 20 1 rfl (kW ?_)
 refine tG 21 1 rfl (kF ?_)
 refine tG 22 1 rfl (kF ?_)
 refine tG 23 1 rfl (kD ?_)
 obtain ⟨x48, h49, hm⟩ := Z0 hm
 refine oG 24 rfl (cB (K4 h49) ?_)
 refine tG 25 0 rfl (Z6i T2 rfl rfl rfl ?_)
 refine tG 26 0 rfl (x_pk rfl rfl rfl ?_)
 refine tK 27 0 rfl (x_pk rfl rfl rfl ?_)
 refine aN ?_
 cases hm
 exact vW [0]
 refine tF 20 rfl ?_
 refine tF 21 rfl ?_
 refine tF 22 rfl ?_
 refine tF 23 rfl ?_
 refine tF 24 rfl ?_
 refine tF 25 rfl ?_
 refine tG 26 0 rfl (x_pk rfl rfl rfl ?_)
 refine tK 27 0 rfl (x_pk rfl rfl rfl ?_)
 refine aN ?_
 cases hm
 exact vW [0]
 refine tF 5 rfl ?_
 refine tF 6 rfl ?_
 refine tF 7 rfl ?_
 refine tF 8 rfl ?_
 refine tF 9 rfl ?_
 refine tF 10 rfl ?_
 refine tF 11 rfl ?_
 refine tF 12 rfl ?_
 refine tK 13 0 rfl (x_pk rfl rfl rfl ?_)
 refine tK 14 0 rfl (kV ?_)
 refine tG 15 1 rfl (kF ?_)
 refine tG 16 1 rfl (kF ?_)
 refine tG 17 1 rfl (kD ?_)
 refine tG 18 0 rfl (Z6i T2 rfl rfl rfl ?_)
 refine tG 19 0 rfl (kV ?_)
 refine bT 90 hm (fun hb50 hm => ?_) fun hb50 hm => ?_
 refine tG 20 1 rfl (kW ?_)
 refine tG 21 1 rfl (kF ?_)
 refine tG 22 1 rfl (kF ?_)
 refine tG 23 1 rfl (kD ?_)
 obtain ⟨x51, h52, hm⟩ := Z0 hm
 refine oG 24 rfl (cB (K4 h52) ?_)
 refine tG 25 0 rfl (Z6i T2 rfl rfl rfl ?_)
 refine tG 26 0 rfl (x_pk rfl rfl rfl ?_)
 refine tK 27 0 rfl (x_pk rfl rfl rfl ?_)
 refine aN ?_
 cases hm
 exact vW [0]
 refine tF 20 rfl ?_
 refine tF 21 rfl ?_
 refine tF 22 rfl ?_
 refine tF 23 rfl ?_
 refine tF 24 rfl ?_
 refine tF 25 rfl ?_
 refine tG 26 0 rfl (x_pk rfl rfl rfl ?_)
 refine tK 27 0 rfl (x_pk rfl rfl rfl ?_)
 refine aN ?_
 cases hm
 exact vW [0]
 refine bS hm (fun hb54 hm => ?_) fun hb54 hm => ?_
 refine yG ?_
 intro _ hm
 cases hm
 exact ⟨rfl, vW []⟩
 refine yG ?_
 intro k9 hm
 cases hm
 exact ⟨rfl, vW [0]⟩
 refine V2 ?_
 cases hm
 exact ⟨rfl, vW []⟩
 rcases y56 with j2 | j3 <;> simp only at hm
 cases hm
 exact rZ1
 refine yG ?_
 intro _ hm
 cases hm
 exact rZ1
noncomputable def Z5k (m : GModule) (f : GFunc) : Option Bool :=
 (Option.bind (Y6 (fun (st1 : Int) =>
 ((if decide (st1 < ((List.length f.blocks : Int))) = true then
 (Option.bind (Y6 (fun (st6 : Int) =>
 ((if 0 ≤ st1 ∧ st1 < (List.length f.blocks : Int) then
 (if decide (st6 < ((List.length ((at_ f.blocks st1).insts) : Int))) = true then
 (if 0 ≤ st1 ∧ st1 < (List.length f.blocks : Int) then
 (if 0 ≤ st6 ∧ st6 < (List.length ((at_ f.blocks st1).insts) : Int) then
 (if (((at_ ((at_ f.blocks st1).insts) st6).op_) != 26) = true then
 (if inI (st6 + 1) then
 (some (Sum.inl (st6 + 1)))
 else none)
 else
 (if 0 ≤ ((at_ ((at_ f.blocks st1).insts) st6).imm) ∧ ((at_ ((at_ f.blocks st1).insts) st6).imm) < (List.length m.funcs : Int) then
 (if (if (((at_ ((at_ f.blocks st1).insts) st6).w) != ((at_ m.funcs ((at_ ((at_ f.blocks st1).insts) st6).imm)).ret)) = true then true else (((List.length ((at_ ((at_ f.blocks st1).insts) st6).args) : Int)) != ((List.length ((at_ m.funcs ((at_ ((at_ f.blocks st1).insts) st6).imm)).params) : Int)))) = true then
 (some (Sum.inr ((Sum.inl (())))))
 else
 (Option.bind (Y6 (fun (st22 : Int) =>
 ((if decide (st22 < ((List.length ((at_ ((at_ f.blocks st1).insts) st6).args) : Int))) = true then
 (if 0 ≤ st22 ∧ st22 < (List.length ((at_ ((at_ f.blocks st1).insts) st6).args) : Int) then
 (if 0 ≤ st22 ∧ st22 < (List.length ((at_ m.funcs ((at_ ((at_ f.blocks st1).insts) st6).imm)).params) : Int) then
 (Option.bind (V6 f (at_ ((at_ ((at_ f.blocks st1).insts) st6).args) st22)) fun x29 =>
 (if (x29 != (at_ ((at_ m.funcs ((at_ ((at_ f.blocks st1).insts) st6).imm)).params) st22)) = true then
 (some (Sum.inr ((Sum.inl (())))))
 else
 (if inI (st22 + 1) then
 (some (Sum.inl (st22 + 1)))
 else none)))
 else none)
 else none)
 else
 (some (Sum.inr ((Sum.inr (())))))) : Option ((Int) ⊕ (Unit ⊕ Unit)))) 0) fun (y33 : Unit ⊕ Unit) => match y33 with
 | (Sum.inl j23) =>
 (some (Sum.inr ((Sum.inl (())))))
 | (Sum.inr j24) =>
 (if inI (st6 + 1) then
 (some (Sum.inl (st6 + 1)))
 else none)))
 else none))
 else none)
 else none)
 else
 (some (Sum.inr ((Sum.inr (()))))))
 else none) : Option ((Int) ⊕ (Unit ⊕ Unit)))) 0) fun (y36 : Unit ⊕ Unit) => match y36 with
 | (Sum.inl j7) =>
 (some (Sum.inr ((Sum.inl (())))))
 | (Sum.inr j8) =>
 (if inI (st1 + 1) then
 (some (Sum.inl (st1 + 1)))
 else none))
 else
 (some (Sum.inr ((Sum.inr (())))))) : Option ((Int) ⊕ (Unit ⊕ Unit)))) 0) fun (y39 : Unit ⊕ Unit) => match y39 with
 | (Sum.inl j2) =>
 (some false)
 | (Sum.inr j3) =>
 (some true))
theorem Y7m {m : GModule} {f : GFunc} {r : Bool} (hm : Z5k m f = some r) : Sim Tryz.prog 50 [.agg (Z0f false m), .agg (Y1 false f)] [] (.u (.one (.bool r))) [] := by
 refine fN 80 0 Tryz.func50 [.tmp 4] fun B hB0 => ?_
 unfold Z5k at hm
 refine yG ?_
 intro _ hm
 obtain ⟨y39, hl40, hm⟩ := Z0 hm
 refine J7 hl40 (fun (st1 : Int) => St 80 [(2, vP 0), (3, vP 1), (5, vI st1)] [(0, oL 1 (Z0f false m)), (1, oL 3 (Y1 false f))] 2) (fun (y : Unit ⊕ Unit) => match y with | (Sum.inl j2) => (.ret, St 80 [(4, vB false)] [] 0) | (Sum.inr j3) => (.exit 0, St 80 [] [] 0)) (vW [0, 1]) ?_ (by rintro (_ | _) <;> simp) ?_
 intro st1 x hm
 refine yG ?_
 intro k1 hm
 refine bS hm (fun hb5 hm => ?_) fun hb5 hm => ?_
 refine yG ?_
 intro _ hm
 obtain ⟨y36, hl37, hm⟩ := Z0 hm
 refine J7 hl37 (fun (st6 : Int) => St 80 [(2, vP 0), (3, vP 1), (5, vI st1), (6, vI st6)] [(0, oL 1 (Z0f false m)), (1, oL 3 (Y1 false f))] 2) (fun (y : Unit ⊕ Unit) => match y with | (Sum.inl j7) => (.ret, St 80 [(4, vB false)] [] 0) | (Sum.inr j8) => (.exit 2, St 80 [(2, vP 0), (3, vP 1), (5, vI st1)] [(0, oL 1 (Z0f false m)), (1, oL 3 (Y1 false f))] 2)) (vW [0, 1]) ?_ (by rintro (_ | _) <;> simp) ?_
 intro st6 x hm
 refine yG ?_
 intro k2 hm
 refine bS hm (fun hb11 hm => ?_) fun hb11 hm => ?_
 refine yG ?_
 intro k3 hm
 refine nO (K7 T46 rfl (J0 rfl rfl) rfl ?_)
 refine yG ?_
 intro _ hm
 refine bS hm (fun hb14 hm => ?_) fun hb14 hm => ?_
 refine yG ?_
 intro k4 hm
 cases hm
 exact ⟨rfl, vW [0, 1]⟩
 refine yG ?_
 intro k5 hm
 refine nO (K7 T32 rfl (J0 rfl rfl) rfl ?_)
 refine yR ?_
 intro _ hm
 refine W5 ?_
 refine Wp.seq ?_
 refine Wp.seq ?_
 refine V7 (St 80 [(2, vP 0), (3, vP 1), (5, vI st1), (6, vI st6), (7, vP 2), (8, vP 3), (59, vB ((if (((at_ ((at_ f.blocks st1).insts) st6).w) != ((at_ m.funcs ((at_ ((at_ f.blocks st1).insts) st6).imm)).ret)) = true then true else (((List.length ((at_ ((at_ f.blocks st1).insts) st6).args) : Int)) != ((List.length ((at_ m.funcs ((at_ ((at_ f.blocks st1).insts) st6).imm)).params) : Int))))))] [(0, oL 1 (Z0f false m)), (1, oL 3 (Y1 false f)), (2, oL 7 (Q1 false (at_ ((at_ f.blocks st1).insts) st6))), (3, oL 3 (Y1 false (at_ m.funcs ((at_ ((at_ f.blocks st1).insts) st6).imm))))] 4) ?_ ?_
 refine yG ?_
 intro _ hm
 refine gO_s rfl rfl rfl (fun hb18 => ?_) (fun hb18 => ?_)
 refine yG ?_
 intro k6 hm
 exact w_ [0, 1, 2, 3] (.cons rfl rfl (.cons rfl rfl (.cons rfl rfl (.cons rfl rfl (.cons rfl rfl (.cons rfl rfl (.cons (by simp only [hb18, BO]; rfl) rfl .nil))))))) (.lit rfl rfl (.lit rfl rfl (.lit rfl rfl (.lit rfl rfl .nil)))) (by decide) (hB_0 hB0)
 refine yG ?_
 intro _ hm
 exact w_ [0, 1, 2, 3] (.cons rfl rfl (.cons rfl rfl (.cons rfl rfl (.cons rfl rfl (.cons rfl rfl (.cons rfl rfl (.cons (by simp only [hb18, BO]; rfl) rfl .nil))))))) (.lit rfl rfl (.lit rfl rfl (.lit rfl rfl (.lit rfl rfl .nil)))) (by decide) (hB_0 hB0)
 refine bS hm (fun hb21 hm => ?_) fun hb21 hm => ?_
 refine yG ?_
 intro _ hm
 cases hm
 exact ⟨rfl, vW []⟩
 refine yG ?_
 intro _ hm
 obtain ⟨y33, hl34, hm⟩ := Z0 hm
 refine J7 hl34 (fun (st22 : Int) => St 80 [(2, vP 0), (3, vP 1), (5, vI st1), (6, vI st6), (7, vP 2), (8, vP 3), (9, vI st22)] [(0, oL 1 (Z0f false m)), (1, oL 3 (Y1 false f)), (2, oL 7 (Q1 false (at_ ((at_ f.blocks st1).insts) st6))), (3, oL 3 (Y1 false (at_ m.funcs ((at_ ((at_ f.blocks st1).insts) st6).imm))))] 4) (fun (y : Unit ⊕ Unit) => match y with | (Sum.inl j23) => (.ret, St 80 [(4, vB false)] [] 0) | (Sum.inr j24) => (.exit 4, St 80 [(2, vP 0), (3, vP 1), (5, vI st1), (6, vI st6)] [(0, oL 1 (Z0f false m)), (1, oL 3 (Y1 false f))] 2)) (vW [0, 1, 2, 3]) ?_ (by rintro (_ | _) <;> simp) ?_
 intro st22 x hm
 refine yG ?_
 intro k7 hm
 refine bS hm (fun hb26 hm => ?_) fun hb26 hm => ?_
 refine K5 ?_
 refine Wp.seq ?_
 refine Wp.block ?_
 refine Wp.seq ?_
 refine Z4t (Y := sysC _) Z4j ?_
 refine tK 0 1 rfl (kW ?_)
 refine tK 1 1 rfl (kF ?_)
 refine tK 2 1 rfl (kD ?_)
 refine tK 3 0 rfl (kV ?_)
 obtain ⟨h27, hm⟩ := Z9 hm
 refine tK 4 0 rfl (Z8m E29 rfl rfl h27 ?_)
 refine tK 5 0 rfl (K7 T2 rfl rfl rfl ?_)
 refine tK 7 1 rfl (kF ?_)
 refine tK 8 1 rfl (kD ?_)
 refine tK 9 0 rfl (kV ?_)
 obtain ⟨h28, hm⟩ := Z9 hm
 refine tK 10 0 rfl (Z8m E29 rfl rfl h28 ?_)
 refine tK 11 0 rfl (K7 T2 rfl rfl rfl ?_)
 obtain ⟨x29, h30, hm⟩ := Z0 hm
 refine oK 6 rfl (cB (K4 h30) ?_)
 refine tK 12 0 rfl (Z6i T2 rfl rfl rfl ?_)
 refine aN ?_
 refine bS hm (fun hb31 hm => ?_) fun hb31 hm => ?_
 refine yG ?_
 intro _ hm
 cases hm
 exact ⟨rfl, vW []⟩
 refine yG ?_
 intro k8 hm
 cases hm
 exact ⟨rfl, vW [0, 1, 2, 3]⟩
 refine V2 ?_
 cases hm
 exact ⟨rfl, vW [0, 1]⟩
 rcases y33 with j23 | j24 <;> simp only at hm
 cases hm
 exact ⟨rfl, vW []⟩
 refine yG ?_
 intro k9 hm
 cases hm
 exact ⟨rfl, vW [0, 1]⟩
 refine V2 ?_
 cases hm
 exact ⟨rfl, vW [0, 1]⟩
 rcases y36 with j7 | j8 <;> simp only at hm
 cases hm
 exact ⟨rfl, vW []⟩
 refine yG ?_
 intro k10 hm
 cases hm
 exact ⟨rfl, vW [0, 1]⟩
 refine V2 ?_
 cases hm
 exact ⟨rfl, vW []⟩
 rcases y39 with j2 | j3 <;> simp only at hm
 cases hm
 exact rZ1
 refine yG ?_
 intro _ hm
 cases hm
 exact rZ1
noncomputable def Z8f (l : List Int) (n : Int) : Option (List Int) :=
 (Option.bind (Y6 (fun (st1 : Int) =>
 ((Option.bind ((if decide (st1 < ((List.length l : Int))) = true then
 (if 0 ≤ st1 ∧ st1 < (List.length l : Int) then
 (some (decide ((at_ l st1) < n)))
 else none)
 else
 (some false))) fun (j3 : Bool) =>
 (if j3 = true then
 (if inI (st1 + 1) then
 (some (Sum.inl (st1 + 1)))
 else none)
 else
 (some (Sum.inr st1)))) : Option ((Int) ⊕ (Int)))) 0) fun (j2 : Int) =>
 (Option.bind ((if decide (j2 < ((List.length l : Int))) = true then
 (if 0 ≤ j2 ∧ j2 < (List.length l : Int) then
 (some (((at_ l j2) == n)))
 else none)
 else
 (some false))) fun (j12 : Bool) =>
 (if j12 = true then
 (some l)
 else
 (if 0 ≤ j2 ∧ 0 ≤ (Int.toNat j2) ∧ (Int.toNat j2) ≤ List.length l then
 (if (List.length (([] : List Int)) + List.length (List.take ((Int.toNat j2) - 0) (List.drop 0 l))) * 8 ≤ 140737488355328 ∧ List.length (([] : List Int)) + List.length (List.take ((Int.toNat j2) - 0) (List.drop 0 l)) ≤ LIM then
 (if (List.length ((([] : List Int)) ++ (List.take ((Int.toNat j2) - 0) (List.drop 0 l))) + List.length ([n])) * 8 ≤ 140737488355328 ∧ List.length ((([] : List Int)) ++ (List.take ((Int.toNat j2) - 0) (List.drop 0 l))) + List.length ([n]) ≤ LIM then
 (if 0 ≤ j2 ∧ (Int.toNat j2) ≤ (List.length l) ∧ (List.length l) ≤ List.length l then
 (if (List.length (((([] : List Int)) ++ (List.take ((Int.toNat j2) - 0) (List.drop 0 l))) ++ ([n])) + List.length (List.take ((List.length l) - (Int.toNat j2)) (List.drop (Int.toNat j2) l))) * 8 ≤ 140737488355328 ∧ List.length (((([] : List Int)) ++ (List.take ((Int.toNat j2) - 0) (List.drop 0 l))) ++ ([n])) + List.length (List.take ((List.length l) - (Int.toNat j2)) (List.drop (Int.toNat j2) l)) ≤ LIM then
 (some ((((([] : List Int)) ++ (List.take ((Int.toNat j2) - 0) (List.drop 0 l))) ++ ([n])) ++ (List.take ((List.length l) - (Int.toNat j2)) (List.drop (Int.toNat j2) l))))
 else none)
 else none)
 else none)
 else none)
 else none))))
theorem X1g {l : List Int} {n : Int} {r : List Int} (hm : Z8f l n = some r) : Sim Tryz.prog 117 [.one (.bs () 1 (List.map iL l)), .one (.int .i64 n)] [] (.u (.one (.bs () 1 (List.map iL r)))) [] := by
 refine fN 48 0 Tryz.func117 [.tmp 4] fun B hB0 => ?_
 unfold Z8f at hm
 refine yG ?_
 intro _ hm
 obtain ⟨j2, hl11, hm⟩ := Z0 hm
 refine lP hl11 (fun st1 => St 48 [(0, .u (.one (.bs () 1 (List.map iL l)))), (1, vI n), (5, vI st1)] [] 0) (fun j2 => (.exit 0, St 48 [(0, .u (.one (.bs () 1 (List.map iL l)))), (1, vI n), (5, vI j2)] [] 0)) (vW []) ?_ ?_
 intro st1 x hm
 refine Wp.seq ?_
 refine Wp.seq ?_
 obtain ⟨j3, hj7, hm⟩ := Z0 hm
 refine V7 (St 48 [(0, .u (.one (.bs () 1 (List.map iL l)))), (1, vI n), (5, vI st1), (18, vB j3)] [] 0) ?_ ?_
 replace hm := hj7
 refine yG ?_
 intro k1 hm
 refine bG1 hm (fun hb5 hm => ?_) fun hb5 hm => ?_
 refine yG ?_
 intro k2 hm
 cases hm
 exact vW []
 refine yG ?_
 intro _ hm
 cases hm
 exact vW []
 refine bS hm (fun hb8 hm => ?_) fun hb8 hm => ?_
 refine yG ?_
 intro k3 hm
 cases hm
 exact ⟨rfl, vW []⟩
 refine V2 ?_
 cases hm
 exact ⟨rfl, vW []⟩
 refine Wp.seq ?_
 refine Wp.seq ?_
 obtain ⟨j12, hj16, hm⟩ := Z0 hm
 refine V7 (St 48 [(0, .u (.one (.bs () 1 (List.map iL l)))), (1, vI n), (5, vI j2), (32, vB j12)] [] 0) ?_ ?_
 replace hm := hj16
 refine yG ?_
 intro k4 hm
 refine bG1 hm (fun hb14 hm => ?_) fun hb14 hm => ?_
 refine yG ?_
 intro k5 hm
 cases hm
 exact vW []
 refine yG ?_
 intro _ hm
 cases hm
 exact vW []
 refine bS hm (fun hb17 hm => ?_) fun hb17 hm => ?_
 refine yG ?_
 intro _ hm
 cases hm
 exact rZ1
 refine yG ?_
 intro _ hm
 refine nO (kM (iL) (([] : List Int)) ?_)
 refine yG ?_
 intro _ hm
 obtain ⟨h18, hm⟩ := Z9 hm
 refine nO (x_slb (enc := iL) (xs := l) (l := 0) (h := (Int.toNat j2)) E29 rfl bd_n (bd_s rfl h18.1) h18.2 ?_)
 refine yG ?_
 intro k6 hm
 refine nO (kM (iL) ([n]) ?_)
 refine yG ?_
 intro k7 hm
 obtain ⟨h21, hm⟩ := Z9 hm
 refine nO (x_slb (enc := iL) (xs := l) (l := (Int.toNat j2)) (h := (List.length l)) E29 rfl (bd_s rfl h21.1) bd_n h21.2 ?_)
 refine yG ?_
 intro k8 hm
 cases hm
 exact rZ1h (hg := f_frR 0 0 rfl rfl rfl (by first | rfl | simp) rfl rfl)
noncomputable def Z2a (f : GFunc) (without : Int) : Option (List Int) :=
 (if (without == 0) = true then
 (some (([] : List Int)))
 else
 (Option.bind (Y6 (fun (st3 : (List Int) × (List Int)) =>
 ((if decide (((List.length st3.1 : Int)) > 0) = true then
 (if (0 : Int) ≤ 0 ∧ 0 < (List.length st3.1 : Int) then
 (if 1 ≤ (List.length st3.1) ∧ (List.length st3.1) ≤ List.length st3.1 then
 (Option.bind (Z2z (List.drop 1 st3.1)) fun x9 =>
 (Option.bind ((if ((at_ st3.1 0) == without) = true then
 (some true)
 else
 (Option.bind (Z0x st3.2 (at_ st3.1 0)) fun x13 =>
 (some x13)))) fun (j11 : Bool) =>
 (if j11 = true then
 (some (Sum.inl ((x9, st3.2))))
 else
 (Option.bind (Z8f st3.2 (at_ st3.1 0)) fun x17 =>
 (Option.bind (Z3u f (at_ st3.1 0)) fun x19 =>
 (if (List.length x9 + List.length x19) * 8 ≤ 140737488355328 ∧ List.length x9 + List.length x19 ≤ LIM then
 (some (Sum.inl ((x9 ++ x19, x17))))
 else none))))))
 else none)
 else none)
 else
 (some (Sum.inr st3.2))) : Option (((List Int) × (List Int)) ⊕ (((List Int)))))) ([0], ([] : List Int))) fun (j4 : (List Int)) =>
 (some j4)))
theorem Z8p {f : GFunc} {without : Int} {r : List Int} (hm : Z2a f without = some r) : Sim Tryz.prog 91 [.agg (Y1 false f), .one (.int .i64 without)] [] (.u (.one (.bs () 1 (List.map iL r)))) [] := by
 refine fN 39 0 Tryz.func91 [.tmp 4] fun B hB0 => ?_
 unfold Z2a at hm
 refine yG ?_
 intro _ hm
 refine nO (kM (iL) (([] : List Int)) ?_)
 refine yG ?_
 intro _ hm
 refine bS hm (fun hb1 hm => ?_) fun hb1 hm => ?_
 refine yG ?_
 intro _ hm
 cases hm
 exact rZ1h (hg := f_frR 0 0 rfl rfl rfl (by first | rfl | simp) rfl rfl)
 refine yG ?_
 intro _ hm
 refine nO (kM (iL) ([0]) ?_)
 refine nO (x_as rfl rfl ?_)
 refine W5 ?_
 refine Wp.seq ?_
 refine Wp.block ?_
 refine gH (f_frz 1 [8, 5] rfl (Z9e _) (.cons rfl (by simp) (.cons rfl (by simp) .nil)) rfl) ?_
 obtain ⟨j4, hl23, hm⟩ := Z0 hm
 refine lP hl23 (fun st3 => St 39 [(1, vI without), (2, vP 0), (5, .u (.one (.bs () 1 (List.map iL st3.2)))), (6, vR 1 (List.length st3.1))] [(0, oL 3 (Y1 false f)), (1, oM 1 iL st3.1)] 2) (fun j4 => (.exit 0, St 39 [(5, .u (.one (.bs () 1 (List.map iL j4))))] [] 0)) (vW [0, 2]) ?_ ?_
 intro st3 x hm
 refine yG ?_
 intro k1 hm
 refine bS hm (fun hb6 hm => ?_) fun hb6 hm => ?_
 refine yG ?_
 intro k2 hm
 obtain ⟨h8, hm⟩ := Z9 hm
 refine nO (W4u (l := 1) (h := (List.length st3.1)) rfl E29 rfl rfl (bd_s (m := 1) rfl (by decide)) bd_n h8 ?_)
 refine WpO.ghb (W3x 20 st3.1 (List.drop 1 st3.1) rfl rfl rfl (by simp only [List.length_take, List.length_drop] <;> omega) (by first | rfl | (simp only [Nat.zero_add]; done) | (simp only [Nat.zero_add]; exact List.take_of_length_le (by first | (simp only [List.length_drop] <;> omega) | (simp <;> omega))) | exact List.take_of_length_le (by simp only [List.length_drop, Nat.zero_add] <;> omega))) ?_
 obtain ⟨x9, h10, hm⟩ := Z0 hm
 refine nO (Z5 (cB (Y2k h10) ?_))
 refine nO (x_as rfl rfl ?_)
 refine W5 ?_
 refine Wp.seq ?_
 refine Wp.seq ?_
 obtain ⟨j11, hj15, hm⟩ := Z0 hm
 refine V7 (St 39 [(1, vI without), (2, vP 0), (5, .u (.one (.bs () 1 (List.map iL st3.2)))), (6, vR 1 (List.length x9)), (7, vI (at_ st3.1 0)), (29, vB j11)] [(0, oL 3 (Y1 false f)), (1, oM 1 iL x9)] 2) ?_ ?_
 replace hm := hj15
 refine yG ?_
 intro _ hm
 refine bG0 hm (fun hb12 hm => ?_) fun hb12 hm => ?_
 refine yG ?_
 intro _ hm
 obtain ⟨x13, h14, hm⟩ := Z0 hm
 refine gO_t rfl rfl rfl (Z5 (cB (Z5p h14) ?_))
 refine yG ?_
 intro _ hm
 cases hm
 exact vW [0, 3]
 refine yG ?_
 intro _ hm
 cases hm
 exact vW [0, 3]
 refine bS hm (fun hb16 hm => ?_) fun hb16 hm => ?_
 refine V2 ?_
 cases hm
 exact ⟨rfl, vW [0, 1]⟩
 refine yG ?_
 intro _ hm
 obtain ⟨x17, h18, hm⟩ := Z0 hm
 refine nO (cG [] (X1g h18) ?_)
 refine yG ?_
 intro _ hm
 refine nO (kW ?_)
 refine yG ?_
 intro _ hm
 obtain ⟨x19, h20, hm⟩ := Z0 hm
 refine nO (Z5 (cB (Y1w h20) ?_))
 refine yG ?_
 intro k3 hm
 cases hm
 exact ⟨rfl, vW [0, 3]⟩
 refine V2 ?_
 cases hm
 exact ⟨rfl, vW []⟩
 refine yG ?_
 intro _ hm
 cases hm
 exact rZ1
noncomputable def Z8e (f : GFunc) (a : Int) (b : Int) : Option Bool :=
 (Option.bind ((Option.bind (Z2a f ((-1))) fun x2 =>
 (Option.bind (Z0x x2 b) fun x4 =>
 (if x4 = true then
 (Option.bind (Z2a f a) fun x7 =>
 (Option.bind (Z0x x7 b) fun x9 =>
 (some ((!x9)))))
 else
 (some false))))) fun (j1 : Bool) =>
 (some j1))
theorem X1e {f : GFunc} {a : Int} {b : Int} {r : Bool} (hm : Z8e f a b = some r) : Sim Tryz.prog 118 [.agg (Y1 false f), .one (.int .i64 a), .one (.int .i64 b)] [] (.u (.one (.bool r))) [] := by
 refine fN 19 0 Tryz.func118 [.tmp 6] fun B hB0 => ?_
 unfold Z8e at hm
 refine Wp.seq ?_
 refine X7 ?_
 refine yR ?_
 intro _ hm
 refine W5 ?_
 refine Wp.seq ?_
 obtain ⟨j1, hj11, hm⟩ := Z0 hm
 refine V7 (St 19 [(6, vB j1)] [] 0) ?_ ?_
 replace hm := hj11
 refine X7 ?_
 refine nO (kW ?_)
 obtain ⟨x2, h3, hm⟩ := Z0 hm
 refine nO (cG [] (Z8p h3) ?_)
 refine yG ?_
 intro _ hm
 obtain ⟨x4, h5, hm⟩ := Z0 hm
 refine nO (Z5 (cB (Z5p h5) ?_))
 refine yG ?_
 intro _ hm
 refine bG1 hm (fun hb6 hm => ?_) fun hb6 hm => ?_
 refine gO_t rfl rfl rfl (kW ?_)
 refine yG ?_
 intro _ hm
 obtain ⟨x7, h8, hm⟩ := Z0 hm
 refine gO_t rfl rfl rfl (cG [] (Z8p h8) ?_)
 refine yG ?_
 intro _ hm
 obtain ⟨x9, h10, hm⟩ := Z0 hm
 refine gO_t rfl rfl rfl (Z5 (cB (Z5p h10) ?_))
 refine yG ?_
 intro _ hm
 cases hm
 exact vW []
 refine yG ?_
 intro _ hm
 cases hm
 exact vW []
 refine Z2d ?_
 cases hm
 exact rZ1
noncomputable def Z0g (f : GFunc) (id : Int) (b : Int) (at_ : Int) : Option Bool :=
 (Option.bind (Z3v f id) fun x1 =>
 (if (x1.1 == ((-1))) = true then
 (some true)
 else
 (if (x1.1 == b) = true then
 (some (decide (x1.2 < at_)))
 else
 (Option.bind ((if decide (x1.1 ≥ 0) = true then
 (Option.bind (Z8e f x1.1 b) fun x7 =>
 (some x7))
 else
 (some false))) fun (j5 : Bool) =>
 (some j5)))))
theorem Z6w {f : GFunc} {id : Int} {b : Int} {at_ : Int} {r : Bool} (hm : Z0g f id b at_ = some r) : Sim Tryz.prog 92 [.agg (Y1 false f), .one (.int .i64 id), .one (.int .i64 b), .one (.int .i64 at_)] [] (.u (.one (.bool r))) [] := by
 refine fN 35 0 Tryz.func92 [.tmp 8] fun B hB0 => ?_
 unfold Z0g at hm
 refine yG ?_
 intro _ hm
 refine nO (kW ?_)
 refine yG ?_
 intro _ hm
 obtain ⟨x1, h2, hm⟩ := Z0 hm
 refine nO (Z5 (cB (Y1y h2) ?_))
 refine yG ?_
 intro _ hm
 refine bS hm (fun hb3 hm => ?_) fun hb3 hm => ?_
 refine yG ?_
 intro _ hm
 cases hm
 exact rZ1
 refine yG ?_
 intro _ hm
 refine bS hm (fun hb4 hm => ?_) fun hb4 hm => ?_
 refine yG ?_
 intro _ hm
 cases hm
 exact rZ1
 refine K5 ?_
 refine Wp.seq ?_
 obtain ⟨j5, hj9, hm⟩ := Z0 hm
 refine V7 (St 35 [(8, vB j5)] [] 0) ?_ ?_
 replace hm := hj9
 refine yG ?_
 intro _ hm
 refine bG1 hm (fun hb6 hm => ?_) fun hb6 hm => ?_
 refine gO_t rfl rfl rfl (kW ?_)
 refine yG ?_
 intro _ hm
 obtain ⟨x7, h8, hm⟩ := Z0 hm
 refine gO_t rfl rfl rfl (Z5 (cB (X1e h8) ?_))
 refine yG ?_
 intro _ hm
 cases hm
 exact vW []
 refine yG ?_
 intro _ hm
 cases hm
 exact vW []
 refine Z2d ?_
 cases hm
 exact rZ1
end
section
set_option maxHeartbeats 8000000
set_option maxRecDepth 100000
attribute [local irreducible] aopK J8 Wp St WpO
noncomputable def Z6z (f : GFunc) : Option Bool :=
 (Option.bind (Z2a f ((-1))) fun x1 =>
 (Option.bind (Y6 (fun (st3 : Int) =>
 ((if decide (st3 < ((List.length x1 : Int))) = true then
 (if 0 ≤ st3 ∧ st3 < (List.length x1 : Int) then
 (if 0 ≤ (at_ x1 st3) ∧ (at_ x1 st3) < (List.length f.blocks : Int) then
 (Option.bind (Z0v f (at_ x1 st3)) fun x10 =>
 (Option.bind (Y6 (fun (st14 : Int) =>
 ((if decide (st14 < ((List.length ((at_ f.blocks (at_ x1 st3)).phis) : Int))) = true then
 (Option.bind (Y6 (fun (st19 : Int) =>
 ((if decide (st19 < ((List.length x10 : Int))) = true then
 (if 0 ≤ st19 ∧ st19 < (List.length x10 : Int) then
 (if 0 ≤ (at_ x10 st19) ∧ (at_ x10 st19) < (List.length f.blocks : Int) then
 (Option.bind ((if 0 ≤ st19 ∧ st19 < (List.length x10 : Int) then
 (Option.bind (Z0x x1 (at_ x10 st19)) fun x28 =>
 (if x28 = true then
 (if 0 ≤ st14 ∧ st14 < (List.length ((at_ f.blocks (at_ x1 st3)).phis) : Int) then
 (if 0 ≤ st19 ∧ st19 < (List.length ((at_ ((at_ f.blocks (at_ x1 st3)).phis) st14).ins) : Int) then
 (if 0 ≤ st19 ∧ st19 < (List.length x10 : Int) then
 (Option.bind (Z0g f (at_ ((at_ ((at_ f.blocks (at_ x1 st3)).phis) st14).ins) st19) (at_ x10 st19) (IntKind.i64.wrap (((List.length ((at_ f.blocks (at_ x10 st19)).phis) : Int)) + ((List.length ((at_ f.blocks (at_ x10 st19)).insts) : Int))))) fun x36 =>
 (some ((!x36))))
 else none)
 else none)
 else none)
 else
 (some false)))
 else none)) fun (j26 : Bool) =>
 (if j26 = true then
 (some (Sum.inr ((Sum.inl (())))))
 else
 (if inI (st19 + 1) then
 (some (Sum.inl (st19 + 1)))
 else none)))
 else none)
 else none)
 else
 (some (Sum.inr ((Sum.inr (())))))) : Option ((Int) ⊕ (Unit ⊕ Unit)))) 0) fun (y41 : Unit ⊕ Unit) => match y41 with
 | (Sum.inl j20) =>
 (some (Sum.inr ((Sum.inl (())))))
 | (Sum.inr j21) =>
 (if inI (st14 + 1) then
 (some (Sum.inl (st14 + 1)))
 else none))
 else
 (some (Sum.inr ((Sum.inr (())))))) : Option ((Int) ⊕ (Unit ⊕ Unit)))) 0) fun (y44 : Unit ⊕ Unit) => match y44 with
 | (Sum.inl j15) =>
 (some (Sum.inr ((Sum.inl (())))))
 | (Sum.inr j16) =>
 (Option.bind (Y6 (fun (st46 : Int) =>
 ((if decide (st46 < ((List.length ((at_ f.blocks (at_ x1 st3)).insts) : Int))) = true then
 (if 0 ≤ st46 ∧ st46 < (List.length ((at_ f.blocks (at_ x1 st3)).insts) : Int) then
 (Option.bind (Z0z (at_ ((at_ f.blocks (at_ x1 st3)).insts) st46)) fun x52 =>
 (Option.bind (Y6 (fun (st54 : Int) =>
 ((if decide (st54 < ((List.length x52 : Int))) = true then
 (if 0 ≤ st54 ∧ st54 < (List.length x52 : Int) then
 (if inI (((List.length ((at_ f.blocks (at_ x1 st3)).phis) : Int)) + st46) then
 (Option.bind (Z0g f (at_ x52 st54) (at_ x1 st3) (((List.length ((at_ f.blocks (at_ x1 st3)).phis) : Int)) + st46)) fun x62 =>
 (if (!x62) = true then
 (some (Sum.inr ((Sum.inl (())))))
 else
 (if inI (st54 + 1) then
 (some (Sum.inl (st54 + 1)))
 else none)))
 else none)
 else none)
 else
 (some (Sum.inr ((Sum.inr (())))))) : Option ((Int) ⊕ (Unit ⊕ Unit)))) 0) fun (y66 : Unit ⊕ Unit) => match y66 with
 | (Sum.inl j55) =>
 (some (Sum.inr ((Sum.inl (())))))
 | (Sum.inr j56) =>
 (if inI (st46 + 1) then
 (some (Sum.inl (st46 + 1)))
 else none)))
 else none)
 else
 (some (Sum.inr ((Sum.inr (())))))) : Option ((Int) ⊕ (Unit ⊕ Unit)))) 0) fun (y69 : Unit ⊕ Unit) => match y69 with
 | (Sum.inl j47) =>
 (some (Sum.inr ((Sum.inl (())))))
 | (Sum.inr j48) =>
 (Option.bind ((if ((((at_ f.blocks (at_ x1 st3)).term).kind) == 1) = true then
 (Option.bind (Z0g f (((at_ f.blocks (at_ x1 st3)).term).a) (at_ x1 st3) (((List.length ((at_ f.blocks (at_ x1 st3)).phis) : Int)) + ((List.length ((at_ f.blocks (at_ x1 st3)).insts) : Int)))) fun x73 =>
 (some ((!x73))))
 else
 (if ((((at_ f.blocks (at_ x1 st3)).term).kind) == 3) = true then
 (Option.bind (Z0g f (((at_ f.blocks (at_ x1 st3)).term).a) (at_ x1 st3) (((List.length ((at_ f.blocks (at_ x1 st3)).phis) : Int)) + ((List.length ((at_ f.blocks (at_ x1 st3)).insts) : Int)))) fun x76 =>
 (some ((!x76))))
 else
 (some false)))) fun (j71 : Bool) =>
 (if j71 = true then
 (some (Sum.inr ((Sum.inl (())))))
 else
 (if inI (st3 + 1) then
 (some (Sum.inl (st3 + 1)))
 else none))))))
 else none)
 else none)
 else
 (some (Sum.inr ((Sum.inr (())))))) : Option ((Int) ⊕ (Unit ⊕ Unit)))) 0) fun (y81 : Unit ⊕ Unit) => match y81 with
 | (Sum.inl j4) =>
 (some false)
 | (Sum.inr j5) =>
 (some true)))
theorem Y9e {f : GFunc} {r : Bool} (hm : Z6z f = some r) : Sim Tryz.prog 51 [.agg (Y1 false f)] [] (.u (.one (.bool r))) [] := by
 refine fN 146 0 Tryz.func51 [.tmp 2] fun B hB0 => ?_
 have fW := trivial
 unfold Z6z at hm
 refine yG ?_
 intro _ hm
 refine nO (kW ?_)
 obtain ⟨x1, h2, hm⟩ := Z0 hm
 refine nO (cG [] (Z8p h2) ?_)
 refine yG ?_
 intro _ hm
 obtain ⟨y81, hl82, hm⟩ := Z0 hm
 refine J7 hl82 (fun (st3 : Int) => St 146 [(1, vP 0), (3, .u (.one (.bs () 1 (List.map iL x1)))), (4, vI st3)] [(0, oL 3 (Y1 false f))] 1) (fun (y : Unit ⊕ Unit) => match y with | (Sum.inl j4) => (.ret, St 146 [(2, vB false)] [] 0) | (Sum.inr j5) => (.exit 0, St 146 [] [] 0)) (vW [0]) ?_ (by rintro (_ | _) <;> simp) ?_
 intro st3 x hm
 refine yG ?_
 intro k1 hm
 refine bS hm (fun hb7 hm => ?_) fun hb7 hm => ?_
 refine yG ?_
 intro k2 hm
 refine nO (K7 T41 rfl (J0 rfl rfl) rfl ?_)
 refine yG ?_
 intro _ hm
 refine nO (kW ?_)
 refine yG ?_
 intro _ hm
 obtain ⟨x10, h11, hm⟩ := Z0 hm
 refine nO (Z5 (cB (Z8q h11) ?_))
 refine yG ?_
 intro k3 hm
 refine nO (Y3s T3 rfl rfl (by unfold inI; omega) ?_)
 refine yG ?_
 intro _ hm
 obtain ⟨y44, hl45, hm⟩ := Z0 hm
 refine J7 hl45 (fun (st14 : Int) => St 146 [(1, vP 0), (3, .u (.one (.bs () 1 (List.map iL x1)))), (4, vI st3), (5, vI (at_ x1 st3)), (6, vP 1), (7, vR 2 (List.length x10)), (8, vI (((List.length ((at_ f.blocks (at_ x1 st3)).phis) : Int)) + ((List.length ((at_ f.blocks (at_ x1 st3)).insts) : Int)))), (9, vI st14)] [(0, oL 3 (Y1 false f)), (1, oL 6 (W2 false (at_ f.blocks (at_ x1 st3)))), (2, oM 1 iL x10)] 3) (fun (y : Unit ⊕ Unit) => match y with | (Sum.inl j15) => (.ret, St 146 [(2, vB false)] [] 0) | (Sum.inr j16) => (.exit 2, St 146 [(1, vP 0), (3, .u (.one (.bs () 1 (List.map iL x1)))), (4, vI st3), (5, vI (at_ x1 st3)), (6, vP 1), (8, vI (((List.length ((at_ f.blocks (at_ x1 st3)).phis) : Int)) + ((List.length ((at_ f.blocks (at_ x1 st3)).insts) : Int))))] [(0, oL 3 (Y1 false f)), (1, oL 6 (W2 false (at_ f.blocks (at_ x1 st3))))] 2)) (vW [0, 1, 2]) ?_ (by rintro (_ | _) <;> simp) ?_
 intro st14 x hm
 refine yG ?_
 intro k4 hm
 refine bS hm (fun hb18 hm => ?_) fun hb18 hm => ?_
 refine yG ?_
 intro _ hm
 obtain ⟨y41, hl42, hm⟩ := Z0 hm
 refine J7 hl42 (fun (st19 : Int) => St 146 [(1, vP 0), (3, .u (.one (.bs () 1 (List.map iL x1)))), (4, vI st3), (5, vI (at_ x1 st3)), (6, vP 1), (7, vR 2 (List.length x10)), (8, vI (((List.length ((at_ f.blocks (at_ x1 st3)).phis) : Int)) + ((List.length ((at_ f.blocks (at_ x1 st3)).insts) : Int)))), (9, vI st14), (10, vI st19)] [(0, oL 3 (Y1 false f)), (1, oL 6 (W2 false (at_ f.blocks (at_ x1 st3)))), (2, oM 1 iL x10)] 3) (fun (y : Unit ⊕ Unit) => match y with | (Sum.inl j20) => (.ret, St 146 [(2, vB false)] [] 0) | (Sum.inr j21) => (.exit 4, St 146 [(1, vP 0), (3, .u (.one (.bs () 1 (List.map iL x1)))), (4, vI st3), (5, vI (at_ x1 st3)), (6, vP 1), (7, vR 2 (List.length x10)), (8, vI (((List.length ((at_ f.blocks (at_ x1 st3)).phis) : Int)) + ((List.length ((at_ f.blocks (at_ x1 st3)).insts) : Int)))), (9, vI st14)] [(0, oL 3 (Y1 false f)), (1, oL 6 (W2 false (at_ f.blocks (at_ x1 st3)))), (2, oM 1 iL x10)] 3)) (vW [0, 1, 2]) ?_ (by rintro (_ | _) <;> simp) ?_
 intro st19 x hm
 refine yG ?_
 intro k5 hm
 refine bS hm (fun hb23 hm => ?_) fun hb23 hm => ?_
 refine K5 ?_
 refine Wp.seq ?_
 refine Wp.block ?_
 refine Wp.seq ?_
 refine Z4t (Y := sysC _) Z4j ?_
 refine tK 0 1 rfl (kF ?_)
 refine tK 1 1 rfl (kD ?_)
 refine tK 2 0 rfl (kV ?_)
 refine tK 3 0 rfl (kV ?_)
 obtain ⟨h24, hm⟩ := Z9 hm
 refine tK 4 1 rfl (K8 rfl E29 rfl rfl rfl h24 ?_)
 refine tK 5 1 rfl (Z5g rfl T2 rfl rfl h24 rfl rfl ?_)
 obtain ⟨h25, hm⟩ := Z9 hm
 refine tK 6 0 rfl (Z8m E30 rfl rfl h25 ?_)
 refine tK 7 0 rfl (K7 T41 rfl (J0 rfl rfl) rfl ?_)
 refine oK 8 rfl (x_al T41 (r := [.nl, .nl, .int .i64 0, .int .i64 0, .int .i64 0, .int .i64 0]) rfl rfl ?_)
 refine oK 9 rfl (kS ?_)
 refine aN ?_
 refine Wp.seq ?_
 obtain ⟨j26, hj38, hm⟩ := Z0 hm
 refine V7 (St 146 [(1, vP 0), (3, .u (.one (.bs () 1 (List.map iL x1)))), (4, vI st3), (5, vI (at_ x1 st3)), (6, vP 1), (7, vR 2 (List.length x10)), (8, vI (((List.length ((at_ f.blocks (at_ x1 st3)).phis) : Int)) + ((List.length ((at_ f.blocks (at_ x1 st3)).insts) : Int)))), (9, vI st14), (10, vI st19), (93, vB j26)] [(0, oL 3 (Y1 false f)), (1, oL 6 (W2 false (at_ f.blocks (at_ x1 st3)))), (2, oM 1 iL x10)] 3) ?_ ?_
 replace hm := hj38
 refine Z4t (Y := sysC _) Z4j ?_
 refine tK 0 0 rfl (kV ?_)
 refine tK 1 0 rfl (kV ?_)
 refine tK 2 0 rfl (kV ?_)
 obtain ⟨h27, hm⟩ := Z9 hm
 refine tK 3 1 rfl (K8 rfl E29 rfl rfl rfl h27 ?_)
 refine tK 4 1 rfl (Z5g rfl T2 rfl rfl h27 rfl rfl ?_)
 obtain ⟨x28, h29, hm⟩ := Z0 hm
 refine oK 5 rfl (cB (Z5p h29) ?_)
 refine tK 6 0 rfl (kV ?_)
 refine bT 69 hm (fun hb30 hm => ?_) fun hb30 hm => ?_
 refine tG 7 1 rfl (kW ?_)
 refine tG 8 1 rfl (kF ?_)
 refine tG 9 1 rfl (kD ?_)
 refine tG 10 0 rfl (kV ?_)
 obtain ⟨h31, hm⟩ := Z9 hm
 refine tG 11 0 rfl (Z8m E36 rfl rfl h31 ?_)
 refine tG 12 0 rfl (Y5x W6x rfl ?_)
 refine tG 13 0 rfl (K7 T29 rfl rfl rfl ?_)
 refine tG 14 0 rfl (kV ?_)
 obtain ⟨h32, hm⟩ := Z9 hm
 refine tG 15 0 rfl (Z8m E29 rfl rfl h32 ?_)
 refine tG 16 0 rfl (K7 T2 rfl rfl rfl ?_)
 refine tG 17 0 rfl (kV ?_)
 refine tG 18 0 rfl (kV ?_)
 obtain ⟨h33, hm⟩ := Z9 hm
 refine tG 19 1 rfl (K8 rfl E29 rfl rfl rfl h33 ?_)
 refine tG 20 1 rfl (Z5g rfl T2 rfl rfl h33 rfl rfl ?_)
 refine tG 21 1 rfl (kF ?_)
 refine tG 22 1 rfl (kD ?_)
 refine tG 23 0 rfl (Y5w N36 rfl fun hL34 => ?_)
 refine tG 24 1 rfl (kF ?_)
 refine tG 25 1 rfl (kD ?_)
 refine tG 26 0 rfl (Y5w N37 rfl fun hL35 => ?_)
 refine tG 27 0 rfl (Y2g T3 rfl rfl rfl ?_)
 obtain ⟨x36, h37, hm⟩ := Z0 hm
 refine oG 28 rfl (cB (Z6w h37) ?_)
 refine tG 29 0 rfl (x_un rfl rfl ?_)
 refine tK 30 0 rfl (x_pk rfl rfl rfl ?_)
 refine aN ?_
 cases hm
 exact vW [0, 1, 2]
 refine tF 7 rfl ?_
 refine tF 8 rfl ?_
 refine tF 9 rfl ?_
 refine tF 10 rfl ?_
 refine tF 11 rfl ?_
 refine tF 12 rfl ?_
 refine tF 13 rfl ?_
 refine tF 14 rfl ?_
 refine tF 15 rfl ?_
 refine tF 16 rfl ?_
 refine tF 17 rfl ?_
 refine tF 18 rfl ?_
 refine tF 19 rfl ?_
 refine tF 20 rfl ?_
 refine tF 21 rfl ?_
 refine tF 22 rfl ?_
 refine tF 23 rfl ?_
 refine tF 24 rfl ?_
 refine tF 25 rfl ?_
 refine tF 26 rfl ?_
 refine tF 27 rfl ?_
 refine tF 28 rfl ?_
 refine tF 29 rfl ?_
 refine tK 30 0 rfl (x_pk rfl rfl rfl ?_)
 refine aN ?_
 cases hm
 exact vW [0, 1, 2]
 refine bS hm (fun hb39 hm => ?_) fun hb39 hm => ?_
 refine yG ?_
 intro _ hm
 cases hm
 exact ⟨rfl, vW []⟩
 refine yG ?_
 intro k6 hm
 cases hm
 exact ⟨rfl, vW [0, 1, 2]⟩
 refine V2 ?_
 cases hm
 exact ⟨rfl, vW [0, 1, 2]⟩
 rcases y41 with j20 | j21 <;> simp only at hm
 cases hm
 exact ⟨rfl, vW []⟩
 refine yG ?_
 intro k7 hm
 cases hm
 exact ⟨rfl, vW [0, 1, 2]⟩
 refine V2 ?_
 cases hm
 exact ⟨rfl, vW [0, 1]⟩
 rcases y44 with j15 | j16 <;> simp only at hm
 cases hm
 exact ⟨rfl, vW []⟩
 refine yG ?_
 intro _ hm
 obtain ⟨y69, hl70, hm⟩ := Z0 hm
 refine J7 hl70 (fun (st46 : Int) => St 146 [(1, vP 0), (3, .u (.one (.bs () 1 (List.map iL x1)))), (4, vI st3), (5, vI (at_ x1 st3)), (6, vP 1), (8, vI (((List.length ((at_ f.blocks (at_ x1 st3)).phis) : Int)) + ((List.length ((at_ f.blocks (at_ x1 st3)).insts) : Int)))), (12, vI st46)] [(0, oL 3 (Y1 false f)), (1, oL 6 (W2 false (at_ f.blocks (at_ x1 st3))))] 2) (fun (y : Unit ⊕ Unit) => match y with | (Sum.inl j47) => (.ret, St 146 [(2, vB false)] [] 0) | (Sum.inr j48) => (.exit 6, St 146 [(1, vP 0), (3, .u (.one (.bs () 1 (List.map iL x1)))), (4, vI st3), (5, vI (at_ x1 st3)), (6, vP 1), (8, vI (((List.length ((at_ f.blocks (at_ x1 st3)).phis) : Int)) + ((List.length ((at_ f.blocks (at_ x1 st3)).insts) : Int))))] [(0, oL 3 (Y1 false f)), (1, oL 6 (W2 false (at_ f.blocks (at_ x1 st3))))] 2)) (vW [0, 1]) ?_ (by rintro (_ | _) <;> simp) ?_
 intro st46 x hm
 refine yG ?_
 intro k8 hm
 refine bS hm (fun hb50 hm => ?_) fun hb50 hm => ?_
 refine yG ?_
 intro k9 hm
 refine nO (K7 T46 rfl (J0 rfl rfl) rfl ?_)
 obtain ⟨x52, h53, hm⟩ := Z0 hm
 refine nO (Z5 (cB (Z9j h53) ?_))
 refine yG ?_
 intro _ hm
 obtain ⟨y66, hl67, hm⟩ := Z0 hm
 refine J7 hl67 (fun (st54 : Int) => St 146 [(1, vP 0), (3, .u (.one (.bs () 1 (List.map iL x1)))), (4, vI st3), (5, vI (at_ x1 st3)), (6, vP 1), (8, vI (((List.length ((at_ f.blocks (at_ x1 st3)).phis) : Int)) + ((List.length ((at_ f.blocks (at_ x1 st3)).insts) : Int)))), (12, vI st46), (13, vR 2 (List.length x52)), (14, vI st54)] [(0, oL 3 (Y1 false f)), (1, oL 6 (W2 false (at_ f.blocks (at_ x1 st3)))), (2, oM 1 iL x52)] 3) (fun (y : Unit ⊕ Unit) => match y with | (Sum.inl j55) => (.ret, St 146 [(2, vB false)] [] 0) | (Sum.inr j56) => (.exit 8, St 146 [(1, vP 0), (3, .u (.one (.bs () 1 (List.map iL x1)))), (4, vI st3), (5, vI (at_ x1 st3)), (6, vP 1), (8, vI (((List.length ((at_ f.blocks (at_ x1 st3)).phis) : Int)) + ((List.length ((at_ f.blocks (at_ x1 st3)).insts) : Int)))), (12, vI st46)] [(0, oL 3 (Y1 false f)), (1, oL 6 (W2 false (at_ f.blocks (at_ x1 st3))))] 2)) (vW [0, 1, 2]) ?_ (by rintro (_ | _) <;> simp) ?_
 intro st54 x hm
 refine yG ?_
 intro k10 hm
 refine bS hm (fun hb58 hm => ?_) fun hb58 hm => ?_
 refine K5 ?_
 refine Wp.seq ?_
 refine Wp.block ?_
 refine Wp.seq ?_
 refine Z4t (Y := sysC _) Z4j ?_
 refine tK 0 1 rfl (kW ?_)
 refine tK 1 0 rfl (kV ?_)
 refine tK 2 0 rfl (kV ?_)
 obtain ⟨h59, hm⟩ := Z9 hm
 refine tK 3 1 rfl (K8 rfl E29 rfl rfl rfl h59 ?_)
 refine tK 4 1 rfl (Z5g rfl T2 rfl rfl h59 rfl rfl ?_)
 refine tK 5 0 rfl (kV ?_)
 refine tK 6 1 rfl (kF ?_)
 refine tK 7 1 rfl (kD ?_)
 refine tK 8 0 rfl (Y5w N36 rfl fun hL60 => ?_)
 refine tK 9 0 rfl (kV ?_)
 obtain ⟨h61, hm⟩ := Z9 hm
 refine tK 10 0 rfl (Y3s T3 rfl rfl h61 ?_)
 obtain ⟨x62, h63, hm⟩ := Z0 hm
 refine oK 11 rfl (cB (Z6w h63) ?_)
 refine tK 12 0 rfl (x_un rfl rfl ?_)
 refine aN ?_
 refine bS hm (fun hb64 hm => ?_) fun hb64 hm => ?_
 refine yG ?_
 intro _ hm
 cases hm
 exact ⟨rfl, vW []⟩
 refine yG ?_
 intro k11 hm
 cases hm
 exact ⟨rfl, vW [0, 1, 2]⟩
 refine V2 ?_
 cases hm
 exact ⟨rfl, vW [0, 1]⟩
 rcases y66 with j55 | j56 <;> simp only at hm
 cases hm
 exact ⟨rfl, vW []⟩
 refine yG ?_
 intro k12 hm
 cases hm
 exact ⟨rfl, vW [0, 1]⟩
 refine V2 ?_
 cases hm
 exact ⟨rfl, vW [0, 1]⟩
 rcases y69 with j47 | j48 <;> simp only at hm
 cases hm
 exact ⟨rfl, vW []⟩
 refine Wp.seq ?_
 obtain ⟨j71, hj78, hm⟩ := Z0 hm
 refine V7 (St 146 [(1, vP 0), (3, .u (.one (.bs () 1 (List.map iL x1)))), (4, vI st3), (145, vB j71)] [(0, oL 3 (Y1 false f))] 1) ?_ ?_
 replace hm := hj78
 refine yG ?_
 intro _ hm
 refine bG0 hm (fun hb72 hm => ?_) fun hb72 hm => ?_
 refine yG ?_
 intro _ hm
 refine bG1 hm (fun hb75 hm => ?_) fun hb75 hm => ?_
 refine gO_t rfl rfl rfl (kW ?_)
 refine yG ?_
 intro _ hm
 obtain ⟨x76, h77, hm⟩ := Z0 hm
 refine gO_t rfl rfl rfl (Z5 (cB (Z6w h77) ?_))
 refine yG ?_
 intro _ hm
 cases hm
 exact vW [0]
 refine yG ?_
 intro _ hm
 cases hm
 exact vW [0]
 refine yG ?_
 intro _ hm
 refine gO_t rfl rfl rfl (kW ?_)
 refine yG ?_
 intro _ hm
 obtain ⟨x73, h74, hm⟩ := Z0 hm
 refine gO_t rfl rfl rfl (Z5 (cB (Z6w h74) ?_))
 refine yG ?_
 intro _ hm
 cases hm
 exact vW [0]
 refine bS hm (fun hb79 hm => ?_) fun hb79 hm => ?_
 refine yG ?_
 intro _ hm
 cases hm
 exact ⟨rfl, vW []⟩
 refine yG ?_
 intro k13 hm
 cases hm
 exact ⟨rfl, vW [0]⟩
 refine V2 ?_
 cases hm
 exact ⟨rfl, vW []⟩
 rcases y81 with j4 | j5 <;> simp only at hm
 cases hm
 exact rZ1
 refine yG ?_
 intro _ hm
 cases hm
 exact rZ1
noncomputable def Z6y (m : GModule) (f : GFunc) : Option Int :=
 (Option.bind ((Option.bind (Z0v f 0) fun x2 =>
 (if decide (((List.length x2 : Int)) > 0) = true then
 (some true)
 else
 (if (0 : Int) ≤ 0 ∧ 0 < (List.length f.blocks : Int) then
 (some (decide (((List.length ((at_ f.blocks 0).phis) : Int)) > 0)))
 else none)))) fun (j1 : Bool) =>
 (if j1 = true then
 (some 2)
 else
 (Option.bind (Z6x f) fun x10 =>
 (if (!x10) = true then
 (some 3)
 else
 (Option.bind (Z5j f) fun x13 =>
 (if (!x13) = true then
 (some 4)
 else
 (Option.bind (Z5k m f) fun x16 =>
 (if (!x16) = true then
 (some 5)
 else
 (Option.bind (Z6z f) fun x19 =>
 (if (!x19) = true then
 (some 6)
 else
 (some 0)))))))))))
theorem Y9d {m : GModule} {f : GFunc} {r : Int} (hm : Z6y m f = some r) : Sim Tryz.prog 21 [.agg (Z0f false m), .agg (Y1 false f)] [] (.u (.one (.int .i64 r))) [] := by
 refine fN 36 0 Tryz.func21 [.tmp 4] fun B hB0 => ?_
 unfold Z6y at hm
 refine Wp.seq ?_
 refine X7 ?_
 refine yR ?_
 intro _ hm
 refine W5 ?_
 refine Wp.seq ?_
 refine Wp.block ?_
 refine Wp.seq ?_
 obtain ⟨j1, hj8, hm⟩ := Z0 hm
 refine V7 (St 36 [(2, vP 0), (3, vP 1), (5, vB j1)] [(0, oL 1 (Z0f false m)), (1, oL 3 (Y1 false f))] 2) ?_ ?_
 replace hm := hj8
 refine X7 ?_
 refine nO (kW ?_)
 obtain ⟨x2, h3, hm⟩ := Z0 hm
 refine nO (Z5 (cB (Z8q h3) ?_))
 refine yG ?_
 intro k1 hm
 refine bG0 hm (fun hb5 hm => ?_) fun hb5 hm => ?_
 refine yG ?_
 intro k2 hm
 cases hm
 exact vW [0, 1]
 refine yG ?_
 intro _ hm
 cases hm
 exact vW [0, 1]
 refine bS hm (fun hb9 hm => ?_) fun hb9 hm => ?_
 refine yG ?_
 intro _ hm
 cases hm
 exact rZ1
 refine Wp.seq ?_
 refine X7 ?_
 refine nO (kW ?_)
 obtain ⟨x10, h11, hm⟩ := Z0 hm
 refine nO (Z5 (cB (Y9c h11) ?_))
 refine yG ?_
 intro _ hm
 refine bS hm (fun hb12 hm => ?_) fun hb12 hm => ?_
 refine yG ?_
 intro _ hm
 cases hm
 exact rZ1
 refine Wp.seq ?_
 refine X7 ?_
 refine nO (kW ?_)
 obtain ⟨x13, h14, hm⟩ := Z0 hm
 refine nO (Z5 (cB (Y7k h14) ?_))
 refine yG ?_
 intro _ hm
 refine bS hm (fun hb15 hm => ?_) fun hb15 hm => ?_
 refine yG ?_
 intro _ hm
 cases hm
 exact rZ1
 refine Wp.seq ?_
 refine X7 ?_
 refine nO (kW ?_)
 refine nO (kW ?_)
 obtain ⟨x16, h17, hm⟩ := Z0 hm
 refine nO (Z5 (cB (Y7m h17) ?_))
 refine yG ?_
 intro _ hm
 refine bS hm (fun hb18 hm => ?_) fun hb18 hm => ?_
 refine yG ?_
 intro _ hm
 cases hm
 exact rZ1
 refine Wp.seq ?_
 refine X7 ?_
 refine nO (kW ?_)
 obtain ⟨x19, h20, hm⟩ := Z0 hm
 refine nO (Z5 (cB (Y9e h20) ?_))
 refine yG ?_
 intro _ hm
 refine bS hm (fun hb21 hm => ?_) fun hb21 hm => ?_
 refine yG ?_
 intro _ hm
 cases hm
 exact rZ1
 refine yG ?_
 intro _ hm
 cases hm
 exact rZ1
noncomputable def Z3w (m : GModule) : Option Int :=
 (Option.bind (Z5q m) fun x1 =>
 (if (!x1) = true then
 (some 1)
 else
 (Option.bind (Y6 (fun (st4 : Int) =>
 ((if decide (st4 < ((List.length m.funcs : Int))) = true then
 (if 0 ≤ st4 ∧ st4 < (List.length m.funcs : Int) then
 (Option.bind (Z6y m (at_ m.funcs st4)) fun x10 =>
 (if (x10 != 0) = true then
 (some (Sum.inr ((Sum.inl x10))))
 else
 (if inI (st4 + 1) then
 (some (Sum.inl (st4 + 1)))
 else none)))
 else none)
 else
 (some (Sum.inr ((Sum.inr (())))))) : Option ((Int) ⊕ (Int ⊕ Unit)))) 0) fun (y14 : Int ⊕ Unit) => match y14 with
 | (Sum.inl j5) =>
 (some j5)
 | (Sum.inr j6) =>
 (some 0))))
theorem Y2a {m : GModule} {r : Int} (hm : Z3w m = some r) : Sim Tryz.prog 7 [.agg (Z0f false m)] [] (.u (.one (.int .i64 r))) [] := by
 refine fN 25 0 Tryz.func7 [.tmp 2] fun B hB0 => ?_
 unfold Z3w at hm
 refine yG ?_
 intro _ hm
 refine nO (kW ?_)
 obtain ⟨x1, h2, hm⟩ := Z0 hm
 refine nO (Z5 (cB (Y7q h2) ?_))
 refine yG ?_
 intro _ hm
 refine bS hm (fun hb3 hm => ?_) fun hb3 hm => ?_
 refine yG ?_
 intro _ hm
 cases hm
 exact rZ1
 refine yG ?_
 intro _ hm
 obtain ⟨y14, hl15, hm⟩ := Z0 hm
 refine J7 hl15 (fun (st4 : Int) => St 25 [(1, vP 0), (3, vI st4)] [(0, oL 1 (Z0f false m))] 1) (fun (y : Int ⊕ Unit) => match y with | (Sum.inl j5) => (.ret, St 25 [(2, vI j5)] [] 0) | (Sum.inr j6) => (.exit 0, St 25 [] [] 0)) (vW [0]) ?_ (by rintro (_ | _) <;> simp) ?_
 intro st4 x hm
 refine yG ?_
 intro k1 hm
 refine bS hm (fun hb8 hm => ?_) fun hb8 hm => ?_
 refine K5 ?_
 refine Wp.seq ?_
 refine Wp.block ?_
 refine Wp.seq ?_
 refine Z4t (Y := sysC _) Z4j ?_
 refine tK 0 1 rfl (kW ?_)
 refine tK 1 1 rfl (kF ?_)
 refine tK 2 1 rfl (kD ?_)
 refine tK 3 0 rfl (kV ?_)
 obtain ⟨h9, hm⟩ := Z9 hm
 refine tK 4 0 rfl (Z8m E24 rfl rfl h9 ?_)
 refine tK 5 0 rfl (K7 T32 rfl (J0 rfl rfl) rfl ?_)
 obtain ⟨x10, h11, hm⟩ := Z0 hm
 refine oK 6 rfl (cB (Y9d h11) ?_)
 refine tK 7 0 rfl (x_as rfl rfl ?_)
 refine aN ?_
 refine yG ?_
 intro _ hm
 refine bS hm (fun hb12 hm => ?_) fun hb12 hm => ?_
 refine yG ?_
 intro _ hm
 cases hm
 exact ⟨rfl, vW []⟩
 refine yG ?_
 intro k2 hm
 cases hm
 exact ⟨rfl, vW [0]⟩
 refine V2 ?_
 cases hm
 exact ⟨rfl, vW []⟩
 rcases y14 with j5 | j6 <;> simp only at hm
 cases hm
 exact rZ1
 refine yG ?_
 intro _ hm
 cases hm
 exact rZ1
noncomputable def Z1y (to : Int) (a : Int) : Option Bool :=
 (if inI (a - 1) then
 (some ((!((Z4 to 0 (a - 1))))))
 else none)
theorem Y3p {to : Int} {a : Int} {r : Bool} (hm : Z1y to a = some r) : Sim Tryz.prog 56 [.one (.int .i64 to), .one (.ip () (iL a))] [] (.u (.one (.bool r))) [] := by
 refine fN 9 0 Tryz.func56 [.tmp 3] fun B hB0 => ?_
 unfold Z1y at hm
 refine yG ?_
 intro k1 hm
 refine nO (Z5 (cB (W9 to 0 (a - 1)) ?_))
 refine yG ?_
 intro _ hm
 cases hm
 exact rZ1
noncomputable def Z3k (b : GBlock) (a : Int) : Option Bool :=
 (Option.bind (Z7 ((W8 b.term)) ((fun z0 => Z1y z0 a))) fun x1 =>
 (some x1))
theorem Y5c {b : GBlock} {a : Int} {r : Bool} (hm : Z3k b a = some r) : Sim Tryz.prog 53 [.agg (W2 false b), .one (.ip () (iL a))] [] (.u (.one (.bool r))) [] := by
 refine fN 9 0 Tryz.func53 [.tmp 3] fun B hB0 => ?_
 unfold Z3k at hm
 refine yG ?_
 intro _ hm
 refine nO (kL (.agg (Y3r b.term)) ?_)
 refine nO (Z5 (cB (Z8u b.term) ?_))
 refine nO (x_mf (ls := [.ip () (iL a)]) rfl ?_)
 obtain ⟨x1, h2, hm⟩ := Z0 hm
 refine nO (Z5 (Z0b (v := .u (.one (.bool x1))) (nobs := []) (oa' := _) (nx' := 2) rfl (a_1 rfl (b_r rfl) (a_1 rfl (b_f (c_c b_ip c_n)) a_n)) c_n EntC.h (X5 ((W8 b.term)) 56 [.ip () (iL a)] (fun z0 => Z1y z0 a) EntC.h rfl (fun z0 y hy => Y3p hy) h2) rfl rfl rfl rfl ?_))
 refine yG ?_
 intro _ hm
 cases hm
 exact rZ1
noncomputable def V4 (s : List GBlock) (f : GBlock → Option Bool) : Option Int :=
 (Option.bind (Y6 (fun (st2 : Int) =>
 ((if decide (st2 < ((List.length s : Int))) = true then
 (if 0 ≤ st2 ∧ st2 < (List.length s : Int) then
 (Option.bind (f (at_ s st2)) fun x7 =>
 (if x7 = true then
 (some (Sum.inr ((Sum.inl st2))))
 else
 (if inI (st2 + 1) then
 (some (Sum.inl (st2 + 1)))
 else none)))
 else none)
 else
 (some (Sum.inr ((Sum.inr (())))))) : Option ((Int) ⊕ (Int ⊕ Unit)))) 0) fun (y11 : Int ⊕ Unit) => match y11 with
 | (Sum.inl j3) =>
 (some j3)
 | (Sum.inr j4) =>
 (some ((-1))))
theorem Z3i (s : List GBlock) (fi : FuncId) (fc : List (L Unit)) (f : GBlock → Option Bool) (hef : Ent Tryz.prog fi) (hcf : CapOk fc) (hsf : ∀ z0 y, f z0 = some y → Sim Tryz.prog fi ([.agg (W2 false z0)] ++ List.map .one fc) [] (.u (.one (.bool y))) []) {r : Int} (hm : V4 s f = some r) : Sim Tryz.prog 94 [.one (.bs () 6 (List.map (W2 false) s)), .one (.fn () fi fc)] [] (.u (.one (.int .i64 r))) [] := by
 refine Y2b (N := 19) (k0 := 0) Tryz.func94 rfl rfl rfl rfl (rs := [.tmp 4]) rfl (by simp [Z1, idsL, List.all_cons, hcf.ids]) rfl fun B hB0 => ?_
 unfold V4 at hm
 refine yG ?_
 intro k1 hm
 obtain ⟨y11, hl12, hm⟩ := Z0 hm
 refine J7 hl12 (fun (st2 : Int) => St 19 [(0, .u (.one (.bs () 6 (List.map (W2 false) s)))), (1, .u (.one (.fn () fi fc))), (7, vI ((List.length s : Int))), (8, vI st2)] [] 0) (fun (y : Int ⊕ Unit) => match y with | (Sum.inl j3) => (.ret, St 19 [(4, vI j3)] [] 0) | (Sum.inr j4) => (.exit 0, St 19 [] [] 0)) (w_ [] (.cons rfl rfl (.cons (by rw [Y0p hcf]; rfl) (Z6c hcf _ _) (.cons rfl rfl (.cons rfl rfl .nil)))) .nil (by decide) (hB_0 hB0)) ?_ (by rintro (_ | _) <;> simp) ?_
 intro st2 x hm
 refine yG ?_
 intro _ hm
 refine bS hm (fun hb5 hm => ?_) fun hb5 hm => ?_
 refine yG ?_
 intro k2 hm
 refine nO (K7 T41 rfl (J0 rfl rfl) rfl ?_)
 obtain ⟨x7, h8, hm⟩ := Z0 hm
 refine nO (Z5 (Z0b (v := .u (.one (.bool x7))) (nobs := []) (oa' := _) (nx' := 0) rfl (a_a rfl (Z8w rfl) a_n) hcf.bor hef (hsf (at_ s st2) x7 h8) rfl rfl rfl rfl ?_))
 refine W5 ?_
 refine bS hm (fun hb9 hm => ?_) fun hb9 hm => ?_
 refine yG ?_
 intro _ hm
 cases hm
 exact ⟨rfl, vW []⟩
 refine yG ?_
 intro k3 hm
 cases hm
 exact ⟨rfl, w_ [] (.cons rfl rfl (.cons (by rw [Y0p hcf]; rfl) (Z6c hcf _ _) (.cons rfl rfl (.cons rfl rfl .nil)))) .nil (by decide) (hB_0 hB0)⟩
 refine V2 ?_
 cases hm
 exact ⟨rfl, vW []⟩
 rcases y11 with j3 | j4 <;> simp only at hm
 cases hm
 exact rZ1
 refine yG ?_
 intro _ hm
 cases hm
 exact rZ1
noncomputable def X9 (s : List GBlock) (f : GBlock → Option Bool) : Option Bool :=
 (Option.bind (V4 s f) fun x1 =>
 (some (decide (x1 ≥ 0))))
theorem Z2n (s : List GBlock) (fi : FuncId) (fc : List (L Unit)) (f : GBlock → Option Bool) (hef : Ent Tryz.prog fi) (hcf : CapOk fc) (hsf : ∀ z0 y, f z0 = some y → Sim Tryz.prog fi ([.agg (W2 false z0)] ++ List.map .one fc) [] (.u (.one (.bool y))) []) {r : Bool} (hm : X9 s f = some r) : Sim Tryz.prog 52 [.one (.bs () 6 (List.map (W2 false) s)), .one (.fn () fi fc)] [] (.u (.one (.bool r))) [] := by
 refine Y2b (N := 9) (k0 := 0) Tryz.func52 rfl rfl rfl rfl (rs := [.tmp 4]) rfl (by simp [Z1, idsL, List.all_cons, hcf.ids]) rfl fun B hB0 => ?_
 unfold X9 at hm
 refine yG ?_
 intro _ hm
 obtain ⟨x1, h2, hm⟩ := Z0 hm
 refine nO (Z5 (Z0b (v := .u (.one (.int .i64 x1))) (nobs := []) (oa' := _) (nx' := 0) rfl (a_1 rfl (b_s rfl) (a_1 rfl (b_f hcf.bor) a_n)) c_n EntC.h (Z3i s fi fc f hef hcf hsf h2) rfl rfl rfl rfl ?_))
 refine yG ?_
 intro _ hm
 cases hm
 exact rZ1
noncomputable def Z3z (f : GFunc) : Option Bool :=
 (Option.bind ((if (Z4 ((List.length f.blocks : Int)) 1 10) = true then
 (Option.bind (X9 f.blocks ((fun z0 => Z3k z0 ((List.length f.blocks : Int))))) fun x4 =>
 (some ((!x4))))
 else
 (some false))) fun (j2 : Bool) =>
 (some j2))
theorem Y2c {f : GFunc} {r : Bool} (hm : Z3z f = some r) : Sim Tryz.prog 23 [.agg (Y1 false f)] [] (.u (.one (.bool r))) [] := by
 refine fN 16 0 Tryz.func23 [.tmp 2] fun B hB0 => ?_
 unfold Z3z at hm
 refine Wp.seq ?_
 refine X7 ?_
 refine yR ?_
 intro _ hm
 refine W5 ?_
 refine Wp.seq ?_
 refine X7 ?_
 refine yR ?_
 intro k1 hm
 refine W5 ?_
 refine Wp.seq ?_
 obtain ⟨j2, hj6, hm⟩ := Z0 hm
 refine V7 (St 16 [(2, vB j2)] [] 0) ?_ ?_
 replace hm := hj6
 refine yG ?_
 intro _ hm
 refine nO (Z5 (cB (W9 ((List.length f.blocks : Int)) 1 10) ?_))
 refine yG ?_
 intro _ hm
 refine bG1 hm (fun hb3 hm => ?_) fun hb3 hm => ?_
 refine yG ?_
 intro _ hm
 refine gO_t rfl rfl rfl (x_mf (ls := [.ptr () 1 0 0]) rfl ?_)
 obtain ⟨x4, h5, hm⟩ := Z0 hm
 refine gO_t rfl rfl rfl (Z5 (Z0b (v := .u (.one (.bool x4))) (nobs := []) (oa' := _) (nx' := 2) rfl (a_1 rfl (b_s rfl) (a_1 rfl (b_f (c_c (b_p (cs := [.int .i64 ((List.length f.blocks : Int))]) rfl (c_c (b_s rfl) c_n) rfl) c_n)) a_n)) c_n EntC.h (Z2n f.blocks 53 [.ip () [.int .i64 ((List.length f.blocks : Int))]] (fun z0 => Z3k z0 ((List.length f.blocks : Int))) EntC.h rfl (fun z0 y hy => Y5c hy) h5) rfl rfl rfl rfl ?_))
 refine yG ?_
 intro _ hm
 cases hm
 exact vW []
 refine yG ?_
 intro _ hm
 cases hm
 exact vW []
 refine Z2d ?_
 cases hm
 exact rZ1
noncomputable def Z6a (f : GFunc) : Option (List Int) :=
 (Option.bind (Z3z f) fun x1 =>
 (if (!x1) = true then
 (some ([]))
 else
 (Option.bind (Z2y f ((-1))) fun x4 =>
 (Option.bind (Y6 (fun (st7 : (List Int) × Int) =>
 ((if decide (st7.2 < ((List.length x4 : Int))) = true then
 (if 0 ≤ st7.2 ∧ st7.2 < (List.length x4 : Int) then
 (if at_ x4 st7.2 = true then
 (if (List.length st7.1 + List.length ([st7.2])) * 8 ≤ 140737488355328 ∧ List.length st7.1 + List.length ([st7.2]) ≤ LIM then
 (if inI (st7.2 + 1) then
 (some (Sum.inl ((st7.1 ++ ([st7.2]), st7.2 + 1))))
 else none)
 else none)
 else
 (if inI (st7.2 + 1) then
 (some (Sum.inl ((st7.1, st7.2 + 1))))
 else none))
 else none)
 else
 (some (Sum.inr st7.1))) : Option (((List Int) × Int) ⊕ (((List Int)))))) (([] : List Int), 0)) fun (j8 : (List Int)) =>
 (some j8)))))
theorem Y8a {f : GFunc} {r : List Int} (hm : Z6a f = some r) : Sim Tryz.prog 11 [.agg (Y1 false f)] [] (.u (.one (.os () 1 (List.map iL r)))) [] := by
 refine fN 25 0 Tryz.func11 [.tmp 2] fun B hB0 => ?_
 unfold Z6a at hm
 refine yG ?_
 intro _ hm
 refine nO (kW ?_)
 obtain ⟨x1, h2, hm⟩ := Z0 hm
 refine nO (Z5 (cB (Y2c h2) ?_))
 refine yG ?_
 intro _ hm
 refine bS hm (fun hb3 hm => ?_) fun hb3 hm => ?_
 refine yG ?_
 intro _ hm
 cases hm
 exact rZ1h (hg := f_nl 0 0 1 true rfl rfl rfl)
 refine yG ?_
 intro _ hm
 refine nO (kM (iL) (([] : List Int)) ?_)
 refine yG ?_
 intro _ hm
 refine nO (kW ?_)
 obtain ⟨x4, h5, hm⟩ := Z0 hm
 refine nO (Z5 (cB (Z8c h5) ?_))
 refine yG ?_
 intro k1 hm
 obtain ⟨j8, hl16, hm⟩ := Z0 hm
 refine lP hl16 (fun st7 => St 25 [(3, vR 0 (List.length st7.1)), (11, vR 1 (List.length x4)), (12, vI ((List.length x4 : Int))), (13, vI st7.2)] [(0, oM 1 iL st7.1), (1, oM 1 bL x4)] 2) (fun j8 => (.exit 0, St 25 [(3, vR 0 (List.length j8))] [(0, oM 1 iL j8)] 1)) (vW [1, 2]) ?_ ?_
 intro st7 x hm
 refine yG ?_
 intro _ hm
 refine bS hm (fun hb9 hm => ?_) fun hb9 hm => ?_
 refine yG ?_
 intro k2 hm
 refine bS hm (fun hb11 hm => ?_) fun hb11 hm => ?_
 refine yG ?_
 intro _ hm
 refine nO (kM (iL) ([st7.2]) ?_)
 refine yG ?_
 intro k3 hm
 cases hm
 exact ⟨rfl, vW [3, 1]⟩
 refine yG ?_
 intro k4 hm
 cases hm
 exact ⟨rfl, vW [0, 1]⟩
 refine V2 ?_
 cases hm
 exact ⟨rfl, vW [0]⟩
 refine yG ?_
 intro _ hm
 cases hm
 exact rZ1h (hg := Z3s 0 0 rfl rfl rfl rfl)
noncomputable def Y0v (l : List Int) (n : Int) : Option Bool :=
 (Option.bind (Y6 (fun (st1 : Int) =>
 ((if decide (st1 < ((List.length l : Int))) = true then
 (if 0 ≤ st1 ∧ st1 < (List.length l : Int) then
 (if ((at_ l st1) == n) = true then
 (some (Sum.inr ((Sum.inl (())))))
 else
 (if inI (st1 + 1) then
 (some (Sum.inl (st1 + 1)))
 else none))
 else none)
 else
 (some (Sum.inr ((Sum.inr (())))))) : Option ((Int) ⊕ (Unit ⊕ Unit)))) 0) fun (y9 : Unit ⊕ Unit) => match y9 with
 | (Sum.inl j2) =>
 (some true)
 | (Sum.inr j3) =>
 (some false))
theorem X5q {l : List Int} {n : Int} {r : Bool} (hm : Y0v l n = some r) : Sim Tryz.prog 10 [.one (.bs () 1 (List.map iL l)), .one (.int .i64 n)] [] (.u (.one (.bool r))) [] := by
 refine fN 18 0 Tryz.func10 [.tmp 4] fun B hB0 => ?_
 unfold Y0v at hm
 refine yG ?_
 intro _ hm
 obtain ⟨y9, hl10, hm⟩ := Z0 hm
 refine J7 hl10 (fun (st1 : Int) => St 18 [(0, .u (.one (.bs () 1 (List.map iL l)))), (1, vI n), (5, vI st1)] [] 0) (fun (y : Unit ⊕ Unit) => match y with | (Sum.inl j2) => (.ret, St 18 [(4, vB true)] [] 0) | (Sum.inr j3) => (.exit 0, St 18 [] [] 0)) (vW []) ?_ (by rintro (_ | _) <;> simp) ?_
 intro st1 x hm
 refine yG ?_
 intro k1 hm
 refine bS hm (fun hb5 hm => ?_) fun hb5 hm => ?_
 refine yG ?_
 intro k2 hm
 refine bS hm (fun hb7 hm => ?_) fun hb7 hm => ?_
 refine yG ?_
 intro _ hm
 cases hm
 exact ⟨rfl, vW []⟩
 refine yG ?_
 intro k3 hm
 cases hm
 exact ⟨rfl, vW []⟩
 refine V2 ?_
 cases hm
 exact ⟨rfl, vW []⟩
 rcases y9 with j2 | j3 <;> simp only at hm
 cases hm
 exact rZ1
 refine yG ?_
 intro _ hm
 cases hm
 exact rZ1
noncomputable def Z1q (f : GFunc) (b : Int) : Option Bool :=
 (Option.bind ((Option.bind (Z3z f) fun x2 =>
 (if x2 = true then
 (some ((Z4 b 0 (((List.length f.blocks : Int)) - 1))))
 else
 (some false)))) fun (j1 : Bool) =>
 (some j1))
theorem Y0b {f : GFunc} {b : Int} {r : Bool} (hm : Z1q f b = some r) : Sim Tryz.prog 28 [.agg (Y1 false f), .one (.int .i64 b)] [] (.u (.one (.bool r))) [] := by
 refine fN 15 0 Tryz.func28 [.tmp 4] fun B hB0 => ?_
 unfold Z1q at hm
 refine Wp.seq ?_
 refine X7 ?_
 refine yR ?_
 intro _ hm
 refine W5 ?_
 refine Wp.seq ?_
 obtain ⟨j1, hj6, hm⟩ := Z0 hm
 refine V7 (St 15 [(4, vB j1)] [] 0) ?_ ?_
 replace hm := hj6
 refine X7 ?_
 refine nO (kW ?_)
 obtain ⟨x2, h3, hm⟩ := Z0 hm
 refine nO (Z5 (cB (Y2c h3) ?_))
 refine yG ?_
 intro _ hm
 refine bG1 hm (fun hb4 hm => ?_) fun hb4 hm => ?_
 refine yG ?_
 intro k1 hm
 refine gO_t rfl rfl rfl (Z5 (cB (W9 b 0 (((List.length f.blocks : Int)) - 1)) ?_))
 refine yG ?_
 intro _ hm
 cases hm
 exact vW []
 refine yG ?_
 intro _ hm
 cases hm
 exact vW []
 refine Z2d ?_
 cases hm
 exact rZ1
noncomputable def Z1u (f : GFunc) (a : Int) (b : Int) : Option Bool :=
 (Option.bind ((Option.bind (Z1q f a) fun x2 =>
 (if x2 = true then
 (Option.bind (Z1q f b) fun x5 =>
 (if x5 = true then
 (Option.bind (Z1r f a b) fun x8 =>
 (some x8))
 else
 (some false)))
 else
 (some false)))) fun (j1 : Bool) =>
 (some j1))
theorem Y0d {f : GFunc} {a : Int} {b : Int} {r : Bool} (hm : Z1u f a b = some r) : Sim Tryz.prog 13 [.agg (Y1 false f), .one (.int .i64 a), .one (.int .i64 b)] [] (.u (.one (.bool r))) [] := by
 refine fN 21 0 Tryz.func13 [.tmp 6] fun B hB0 => ?_
 unfold Z1u at hm
 refine Wp.seq ?_
 refine X7 ?_
 refine yR ?_
 intro _ hm
 refine W5 ?_
 refine Wp.seq ?_
 obtain ⟨j1, hj10, hm⟩ := Z0 hm
 refine V7 (St 21 [(6, vB j1)] [] 0) ?_ ?_
 replace hm := hj10
 refine X7 ?_
 refine nO (kW ?_)
 refine yG ?_
 intro _ hm
 obtain ⟨x2, h3, hm⟩ := Z0 hm
 refine nO (Z5 (cB (Y0b h3) ?_))
 refine yG ?_
 intro _ hm
 refine bG1 hm (fun hb4 hm => ?_) fun hb4 hm => ?_
 refine gO_t rfl rfl rfl (kW ?_)
 refine yG ?_
 intro _ hm
 obtain ⟨x5, h6, hm⟩ := Z0 hm
 refine gO_t rfl rfl rfl (Z5 (cB (Y0b h6) ?_))
 refine yG ?_
 intro _ hm
 refine bG1 hm (fun hb7 hm => ?_) fun hb7 hm => ?_
 refine gO_t rfl rfl rfl (kW ?_)
 refine yG ?_
 intro _ hm
 obtain ⟨x8, h9, hm⟩ := Z0 hm
 refine gO_t rfl rfl rfl (Z5 (cB (Y0c h9) ?_))
 refine yG ?_
 intro _ hm
 cases hm
 exact vW []
 refine yG ?_
 intro _ hm
 cases hm
 exact vW []
 refine yG ?_
 intro _ hm
 cases hm
 exact vW []
 refine Z2d ?_
 cases hm
 exact rZ1
end
section
set_option maxHeartbeats 8000000
set_option maxRecDepth 100000
attribute [local irreducible] aopK J8 Wp St WpO
noncomputable def Z6f (code : List Int) : Option Bool :=
 (if (Y0w code) = true then
 (some true)
 else
 (Option.bind (Z2m code) fun x2 =>
 (Option.bind (Z6b x2) fun x4 =>
 (Option.bind ((Option.bind (Z3w x2) fun x7 =>
 (if (x4 != x7) = true then
 (some true)
 else
 (some ((x4 != 0)))))) fun (j6 : Bool) =>
 (if j6 = true then
 (Option.bind (Z3w x2) fun x12 =>
 (some ((x4 == x12))))
 else
 (if 0 ≤ (((List.length x2.funcs : Int)) - 1) ∧ (((List.length x2.funcs : Int)) - 1) < (List.length x2.funcs : Int) then
 (Option.bind (Y6 (fun (st17 : Int) =>
 ((Option.bind (Z0j (at_ x2.funcs (((List.length x2.funcs : Int)) - 1))) fun x20 =>
 (if decide (st17 < x20) = true then
 (Option.bind (Z0i (at_ x2.funcs (((List.length x2.funcs : Int)) - 1)) st17) fun x23 =>
 (Option.bind ((if 0 ≤ x23.1 ∧ x23.1 < (List.length ((at_ x2.funcs (((List.length x2.funcs : Int)) - 1)).blocks) : Int) then
 (if decide (x23.2 < ((List.length ((at_ ((at_ x2.funcs (((List.length x2.funcs : Int)) - 1)).blocks) x23.1).phis) : Int))) = true then
 (some true)
 else
 (Option.bind (Z6a (at_ x2.funcs (((List.length x2.funcs : Int)) - 1))) fun x29 =>
 (Option.bind (Y0v x29 x23.1) fun x31 =>
 (some ((!x31))))))
 else none)) fun (j25 : Bool) =>
 (if j25 = true then
 (if inI (st17 + 1) then
 (some (Sum.inl (st17 + 1)))
 else none)
 else
 (if 0 ≤ x23.1 ∧ x23.1 < (List.length ((at_ x2.funcs (((List.length x2.funcs : Int)) - 1)).blocks) : Int) then
 (if 0 ≤ x23.1 ∧ x23.1 < (List.length ((at_ x2.funcs (((List.length x2.funcs : Int)) - 1)).blocks) : Int) then
 (if inI (x23.2 - ((List.length ((at_ ((at_ x2.funcs (((List.length x2.funcs : Int)) - 1)).blocks) x23.1).phis) : Int))) then
 (if 0 ≤ (x23.2 - ((List.length ((at_ ((at_ x2.funcs (((List.length x2.funcs : Int)) - 1)).blocks) x23.1).phis) : Int))) ∧ (x23.2 - ((List.length ((at_ ((at_ x2.funcs (((List.length x2.funcs : Int)) - 1)).blocks) x23.1).phis) : Int))) < (List.length ((at_ ((at_ x2.funcs (((List.length x2.funcs : Int)) - 1)).blocks) x23.1).insts) : Int) then
 (Option.bind (Z0e (at_ ((at_ ((at_ x2.funcs (((List.length x2.funcs : Int)) - 1)).blocks) x23.1).insts) (x23.2 - ((List.length ((at_ ((at_ x2.funcs (((List.length x2.funcs : Int)) - 1)).blocks) x23.1).phis) : Int))))) fun x41 =>
 (Option.bind (Y6 (fun (st43 : Int) =>
 ((if decide (st43 < ((List.length x41 : Int))) = true then
 (if 0 ≤ st43 ∧ st43 < (List.length x41 : Int) then
 (Option.bind (Z0i (at_ x2.funcs (((List.length x2.funcs : Int)) - 1)) (at_ x41 st43)) fun x49 =>
 (Option.bind ((if (x49.1 != ((-1))) = true then
 (if (x49.1 == x23.1) = true then
 (if (!(decide (x49.2 < x23.2))) = true then
 (if (x49.1 != x23.1) = true then
 (Option.bind (Z1u (at_ x2.funcs (((List.length x2.funcs : Int)) - 1)) x49.1 x23.1) fun x56 =>
 (some ((!x56))))
 else
 (some true))
 else
 (some false))
 else
 (if (x49.1 != x23.1) = true then
 (Option.bind (Z1u (at_ x2.funcs (((List.length x2.funcs : Int)) - 1)) x49.1 x23.1) fun x59 =>
 (some ((!x59))))
 else
 (some true)))
 else
 (some false))) fun (j51 : Bool) =>
 (if j51 = true then
 (some (Sum.inr ((Sum.inl (())))))
 else
 (if inI (st43 + 1) then
 (some (Sum.inl (st43 + 1)))
 else none))))
 else none)
 else
 (some (Sum.inr ((Sum.inr (())))))) : Option ((Int) ⊕ (Unit ⊕ Unit)))) 0) fun (y64 : Unit ⊕ Unit) => match y64 with
 | (Sum.inl j44) =>
 (some (Sum.inr ((Sum.inl (())))))
 | (Sum.inr j45) =>
 (if inI (st17 + 1) then
 (some (Sum.inl (st17 + 1)))
 else none)))
 else none)
 else none)
 else none)
 else none))))
 else
 (some (Sum.inr ((Sum.inr (()))))))) : Option ((Int) ⊕ (Unit ⊕ Unit)))) (List.length ((at_ x2.funcs (((List.length x2.funcs : Int)) - 1)).params) : Int)) fun (y67 : Unit ⊕ Unit) => match y67 with
 | (Sum.inl j18) =>
 (some false)
 | (Sum.inr j19) =>
 (some true))
 else none))))))
theorem Y4y {code : List Int} {r : Bool} (hm : Z6f code = some r) : Sim Tryz.prog 3 [.one (.bs () 1 (List.map (iK .u8) code))] [] (.u (.one (.bool r))) [] := by
 refine fN 128 0 Tryz.func3 [.tmp 2] fun B hB0 => ?_
 unfold Z6f at hm
 refine yG ?_
 intro _ hm
 refine nO (Z5 (cB (X5r code) ?_))
 refine W5 ?_
 refine bS hm (fun hb1 hm => ?_) fun hb1 hm => ?_
 refine yG ?_
 intro _ hm
 cases hm
 exact rZ1
 refine yG ?_
 intro _ hm
 obtain ⟨x2, h3, hm⟩ := Z0 hm
 refine nO (cG [] (Y3y h3) ?_)
 refine yG ?_
 intro _ hm
 refine nO (kW ?_)
 obtain ⟨x4, h5, hm⟩ := Z0 hm
 refine nO (Z5 (cB (Y8b h5) ?_))
 refine nO (x_as rfl rfl ?_)
 refine W5 ?_
 refine Wp.seq ?_
 refine Wp.seq ?_
 obtain ⟨j6, hj10, hm⟩ := Z0 hm
 refine V7 (St 128 [(3, vP 0), (4, vI x4), (26, vB j6)] [(0, oL 1 [.ref () 1 0 (List.length x2.funcs)]), (1, oM 3 (Y1 false) x2.funcs)] 2) ?_ ?_
 replace hm := hj10
 refine yG ?_
 intro _ hm
 refine nO (kW ?_)
 obtain ⟨x7, h8, hm⟩ := Z0 hm
 refine nO (Z5 (cB (Y2a h8) ?_))
 refine yG ?_
 intro _ hm
 refine bG0 hm (fun hb9 hm => ?_) fun hb9 hm => ?_
 refine yG ?_
 intro _ hm
 cases hm
 exact vW [1, 0]
 refine yG ?_
 intro _ hm
 cases hm
 exact vW [1, 0]
 refine bS hm (fun hb11 hm => ?_) fun hb11 hm => ?_
 refine yG ?_
 intro _ hm
 refine nO (kW ?_)
 obtain ⟨x12, h13, hm⟩ := Z0 hm
 refine nO (Z5 (cB (Y2a h13) ?_))
 refine yG ?_
 intro _ hm
 cases hm
 exact rZ1
 refine yG ?_
 intro k1 hm
 refine nO (Z5g rfl T32 rfl rfl k1.2 (J0 rfl rfl) rfl ?_)
 refine yG ?_
 intro k2 hm
 obtain ⟨y67, hl68, hm⟩ := Z0 hm
 refine J7 hl68 (fun (st17 : Int) => St 128 [(5, vP 0), (6, vI st17)] [(0, oL 3 (Y1 false (at_ x2.funcs (((List.length x2.funcs : Int)) - 1))))] 1) (fun (y : Unit ⊕ Unit) => match y with | (Sum.inl j18) => (.ret, St 128 [(2, vB false)] [] 0) | (Sum.inr j19) => (.exit 0, St 128 [] [] 0)) (vW [2]) ?_ (by rintro (_ | _) <;> simp) ?_
 intro st17 x hm
 refine yG ?_
 intro _ hm
 refine nO (kW ?_)
 obtain ⟨x20, h21, hm⟩ := Z0 hm
 refine nO (Z5 (cB (Z3r h21) ?_))
 refine yG ?_
 intro _ hm
 refine bS hm (fun hb22 hm => ?_) fun hb22 hm => ?_
 refine yG ?_
 intro _ hm
 refine nO (kW ?_)
 refine yG ?_
 intro _ hm
 obtain ⟨x23, h24, hm⟩ := Z0 hm
 refine nO (Z5 (cB (Z3q h24) ?_))
 refine yR ?_
 intro _ hm
 refine W5 ?_
 refine Wp.seq ?_
 refine Wp.seq ?_
 obtain ⟨j25, hj33, hm⟩ := Z0 hm
 refine V7 (St 128 [(5, vP 0), (6, vI st17), (7, vI x23.1), (8, vI x23.2), (69, vB j25)] [(0, oL 3 (Y1 false (at_ x2.funcs (((List.length x2.funcs : Int)) - 1))))] 1) ?_ ?_
 replace hm := hj33
 refine yG ?_
 intro k3 hm
 refine bG0 hm (fun hb28 hm => ?_) fun hb28 hm => ?_
 refine gO_t rfl rfl rfl (kW ?_)
 obtain ⟨x29, h30, hm⟩ := Z0 hm
 refine gO_t rfl rfl rfl (Z5 (cB (Y8a h30) ?_))
 refine yG ?_
 intro _ hm
 obtain ⟨x31, h32, hm⟩ := Z0 hm
 refine gO_t rfl rfl rfl (Z5 (cB (X5q h32) ?_))
 refine yG ?_
 intro _ hm
 cases hm
 exact vW [0]
 refine yG ?_
 intro _ hm
 cases hm
 exact vW [0]
 refine bS hm (fun hb34 hm => ?_) fun hb34 hm => ?_
 refine yG ?_
 intro k4 hm
 cases hm
 exact ⟨rfl, vW [0]⟩
 refine K5 ?_
 refine Wp.seq ?_
 refine Z4t (Y := sysC _) Z4j ?_
 refine tK 0 1 rfl (kF ?_)
 refine tK 1 1 rfl (kD ?_)
 refine tK 2 0 rfl (kV ?_)
 obtain ⟨h36, hm⟩ := Z9 hm
 refine tK 3 0 rfl (Z8m E30 rfl rfl h36 ?_)
 refine tK 4 0 rfl (Y5x W6y rfl ?_)
 refine tK 5 0 rfl (K7 T37 rfl rfl rfl ?_)
 refine tK 6 0 rfl (kV ?_)
 refine tK 7 1 rfl (kF ?_)
 refine tK 8 1 rfl (kD ?_)
 refine tK 9 0 rfl (kV ?_)
 obtain ⟨h37, hm⟩ := Z9 hm
 refine tK 10 0 rfl (Z8m E30 rfl rfl h37 ?_)
 refine tK 11 0 rfl (Y5x X7q rfl ?_)
 refine tK 12 0 rfl (K7 T36 rfl rfl rfl ?_)
 refine tK 13 0 rfl (Y5w N36 rfl fun hL38 => ?_)
 obtain ⟨h39, hm⟩ := Z9 hm
 refine tK 14 0 rfl (X7r T2 rfl rfl h39 ?_)
 obtain ⟨h40, hm⟩ := Z9 hm
 refine tK 15 0 rfl (Z8m E37 rfl rfl h40 ?_)
 refine tK 16 0 rfl (K7 T46 rfl (J0 rfl rfl) rfl ?_)
 obtain ⟨x41, h42, hm⟩ := Z0 hm
 refine oK 17 rfl (cB (Z6r h42) ?_)
 refine tK 18 0 rfl (x_as rfl rfl ?_)
 refine aN ?_
 refine yG ?_
 intro _ hm
 obtain ⟨y64, hl65, hm⟩ := Z0 hm
 refine J7 hl65 (fun (st43 : Int) => St 128 [(5, vP 0), (6, vI st17), (7, vI x23.1), (8, vI x23.2), (9, vR 1 (List.length x41)), (10, vI st43)] [(0, oL 3 (Y1 false (at_ x2.funcs (((List.length x2.funcs : Int)) - 1)))), (1, oM 1 iL x41)] 2) (fun (y : Unit ⊕ Unit) => match y with | (Sum.inl j44) => (.ret, St 128 [(2, vB false)] [] 0) | (Sum.inr j45) => (.exit 2, St 128 [(5, vP 0), (6, vI st17)] [(0, oL 3 (Y1 false (at_ x2.funcs (((List.length x2.funcs : Int)) - 1))))] 1)) (vW [0, 1]) ?_ (by rintro (_ | _) <;> simp) ?_
 intro st43 x hm
 refine yG ?_
 intro k5 hm
 refine bS hm (fun hb47 hm => ?_) fun hb47 hm => ?_
 refine K5 ?_
 refine Wp.seq ?_
 refine Wp.block ?_
 refine Wp.seq ?_
 refine Z4t (Y := sysC _) Z4j ?_
 refine tK 0 1 rfl (kW ?_)
 refine tK 1 0 rfl (kV ?_)
 refine tK 2 0 rfl (kV ?_)
 obtain ⟨h48, hm⟩ := Z9 hm
 refine tK 3 1 rfl (K8 rfl E29 rfl rfl rfl h48 ?_)
 refine tK 4 1 rfl (Z5g rfl T2 rfl rfl h48 rfl rfl ?_)
 obtain ⟨x49, h50, hm⟩ := Z0 hm
 refine oK 5 rfl (cB (Z3q h50) ?_)
 refine tK 6 0 rfl (kV ?_)
 refine tK 7 0 rfl (x_ex rfl rfl rfl ?_)
 refine tK 8 0 rfl (x_ex rfl rfl rfl ?_)
 refine tK 9 0 rfl (x_as rfl rfl ?_)
 refine tK 10 0 rfl (x_as rfl rfl ?_)
 refine aN ?_
 refine Wp.seq ?_
 obtain ⟨j51, hj61, hm⟩ := Z0 hm
 refine V7 (St 128 [(5, vP 0), (6, vI st17), (7, vI x23.1), (8, vI x23.2), (9, vR 1 (List.length x41)), (10, vI st43), (127, vB j51)] [(0, oL 3 (Y1 false (at_ x2.funcs (((List.length x2.funcs : Int)) - 1)))), (1, oM 1 iL x41)] 2) ?_ ?_
 replace hm := hj61
 refine yG ?_
 intro _ hm
 refine bG1 hm (fun hb52 hm => ?_) fun hb52 hm => ?_
 refine yG ?_
 intro _ hm
 refine bG1 hm (fun hb53 hm => ?_) fun hb53 hm => ?_
 refine yG ?_
 intro _ hm
 refine bG1 hm (fun hb54 hm => ?_) fun hb54 hm => ?_
 refine yG ?_
 intro _ hm
 refine bG1 hm (fun hb55 hm => ?_) fun hb55 hm => ?_
 refine gO_t rfl rfl rfl (kW ?_)
 refine yG ?_
 intro _ hm
 obtain ⟨x56, h57, hm⟩ := Z0 hm
 refine gO_t rfl rfl rfl (Z5 (cB (Y0d h57) ?_))
 refine yG ?_
 intro _ hm
 cases hm
 exact vW [0, 1]
 refine yG ?_
 intro _ hm
 cases hm
 exact vW [0, 1]
 refine yG ?_
 intro _ hm
 cases hm
 exact vW [0, 1]
 refine yG ?_
 intro _ hm
 refine bG1 hm (fun hb58 hm => ?_) fun hb58 hm => ?_
 refine gO_t rfl rfl rfl (kW ?_)
 refine yG ?_
 intro _ hm
 obtain ⟨x59, h60, hm⟩ := Z0 hm
 refine gO_t rfl rfl rfl (Z5 (cB (Y0d h60) ?_))
 refine yG ?_
 intro _ hm
 cases hm
 exact vW [0, 1]
 refine yG ?_
 intro _ hm
 cases hm
 exact vW [0, 1]
 refine yG ?_
 intro _ hm
 cases hm
 exact vW [0, 1]
 refine bS hm (fun hb62 hm => ?_) fun hb62 hm => ?_
 refine yG ?_
 intro _ hm
 cases hm
 exact ⟨rfl, vW []⟩
 refine yG ?_
 intro k6 hm
 cases hm
 exact ⟨rfl, vW [0, 1]⟩
 refine V2 ?_
 cases hm
 exact ⟨rfl, vW [0]⟩
 rcases y64 with j44 | j45 <;> simp only at hm
 cases hm
 exact ⟨rfl, vW []⟩
 refine yG ?_
 intro k7 hm
 cases hm
 exact ⟨rfl, vW [0]⟩
 refine V2 ?_
 cases hm
 exact ⟨rfl, vW []⟩
 rcases y67 with j18 | j19 <;> simp only at hm
 cases hm
 exact rZ1
 refine yG ?_
 intro _ hm
 cases hm
 exact rZ1
end
section
theorem X5m {α : Type} {body : Int → Option (Int ⊕ (α ⊕ Unit))} (n : Nat) (c : Nat → Bool) (a : Nat → α) (h1 : ∀ k : Nat, k < n → body (k : Int) = some (if c k = true then .inr (.inl (a k)) else .inl ((k : Int) + 1)))
  (h2 : body (n : Int) = some (.inr (.inr ()))) :
  (∃ k, k < n ∧ c k = true ∧ (∀ j, j < k → c j = false) ∧ Y6 body 0 = some (.inl (a k))) ∨ ((∀ k, k < n → c k = false) ∧ Y6 body 0 = some (.inr ())) := by
 have key : ∀ m k : Nat, k + m = n → (∃ i, k ≤ i ∧ i < n ∧ c i = true ∧ (∀ j, k ≤ j → j < i → c j = false) ∧ Y6 body (k : Int) = some (.inl (a i))) ∨ ((∀ i, k ≤ i → i < n → c i = false) ∧ Y6 body (k : Int) = some (.inr ())) := by
  intro m
  induction m with
  | zero =>
   intro k hk
   obtain rfl : k = n := by omega
   exact .inr ⟨fun i h1 h2 => by omega, by rw [Z1p, h2]; rfl⟩
  | succ m ih =>
   intro k hk
   by_cases hc : c k = true
   ·exact .inl ⟨k, Nat.le_refl _, by omega, hc, fun j h1 h2 => by omega, by rw [Z1p, h1 k (by omega), if_pos hc]; rfl⟩
   ·have hc' : c k = false := by simpa using hc
    have e : Y6 body (k : Int) = Y6 body ((k + 1 : Nat) : Int) := by
     rw [Z1p, h1 k (by omega), if_neg hc]
     simp
    rcases ih (k + 1) (by omega) with ⟨i, p1, p2, p3, p4, p5⟩ | ⟨p1, p2⟩
    ·refine .inl ⟨i, by omega, p2, p3, fun j hj hji => ?_, by rw [e]; exact p5⟩
     rcases Nat.lt_or_ge k j with h | h
     ·exact p4 j (by omega) hji
     ·obtain rfl : j = k := by omega
      exact hc'
    ·refine .inr ⟨fun i hi hin => ?_, by rw [e]; exact p2⟩
     rcases Nat.lt_or_ge k i with h | h
     ·exact p1 i (by omega) hin
     ·obtain rfl : i = k := by omega
      exact hc'
 rcases key n 0 (by omega) with ⟨k, _, p2, p3, p4, p5⟩ | ⟨p1, p2⟩
 ·exact .inl ⟨k, p2, p3, fun j hj => p4 j (Nat.zero_le _) hj, p5⟩
 ·exact .inr ⟨fun i hi => p1 i (Nat.zero_le _) hi, p2⟩
theorem W5w {α β : Type} [Inhabited β] {body : Int → Option (Int ⊕ (α ⊕ Unit))} (xs : List β) (c : β → Bool) (a : Nat → α) (h1 : ∀ k : Nat, k < xs.length → body (k : Int) = some (if c (at_ xs k) = true then .inr (.inl (a k)) else .inl ((k : Int) + 1)))
  (h2 : body (xs.length : Int) = some (.inr (.inr ()))) :
  (xs.any c = true ∧ ∃ k, k < xs.length ∧ Y6 body 0 = some (.inl (a k))) ∨ (xs.any c = false ∧ Y6 body 0 = some (.inr ())) := by
 have hat : ∀ k (h : k < xs.length), at_ xs (k : Int) = xs[k] := fun k h => by simp [at_, List.getD_eq_getElem?_getD, List.getElem?_eq_getElem h]
 rcases X5m xs.length (fun k => c (at_ xs (k : Int))) a h1 h2 with ⟨k, p1, p2, _, p4⟩ | ⟨p1, p2⟩
 ·exact .inl ⟨List.any_eq_true.2 ⟨xs[k], List.getElem_mem p1, by rw [← hat k p1]; exact p2⟩, k, p1, p4⟩
 ·refine .inr ⟨?_, p2⟩
  rw [List.any_eq_false]
  intro x hx
  obtain ⟨k, hk, rfl⟩ := List.getElem_of_mem hx
  have := p1 k hk
  rw [hat k hk] at this
  simp [this]
theorem Z5f {β : Type} [Inhabited β] {xs : List β} {k : Nat} (h : k < xs.length) : at_ xs (k : Int) = xs[k] := by simp [at_, List.getD_eq_getElem?_getD, List.getElem?_eq_getElem h]
theorem X1x {α : Type} {body : Int → Option (Int ⊕ (α ⊕ Unit))} {L : Option (α ⊕ Unit)} (hB : Y6 body 0 = L) (n : Nat) (c : Nat → Bool) (a : Nat → α)
  (h1 : ∀ k : Nat, k < n → body (k : Int) = some (if c k = true then .inr (.inl (a k)) else .inl ((k : Int) + 1))) (h2 : body (n : Int) = some (.inr (.inr ()))) :
  (∃ k, k < n ∧ c k = true ∧ (∀ j, j < k → c j = false) ∧ L = some (.inl (a k))) ∨ ((∀ k, k < n → c k = false) ∧ L = some (.inr ())) := by
 subst hB
 exact X5m n c a h1 h2
theorem Z4k {α β : Type} [Inhabited β] {body : Int → Option (Int ⊕ (α ⊕ Unit))} {L : Option (α ⊕ Unit)} (hB : Y6 body 0 = L) (xs : List β) (c : β → Bool) (a : Nat → α)
  (h1 : ∀ k : Nat, k < xs.length → body (k : Int) = some (if c (at_ xs k) = true then .inr (.inl (a k)) else .inl ((k : Int) + 1))) (h2 : body (xs.length : Int) = some (.inr (.inr ()))) :
  (xs.any c = true ∧ ∃ k, k < xs.length ∧ L = some (.inl (a k))) ∨ (xs.any c = false ∧ L = some (.inr ())) := by
 subst hB
 exact W5w xs c a h1 h2
end
section
open Go Go.WideShapes Go.ChangeShapes
inductive Ty : Type where
 | int (k : IntKind)
 | bool
 | str
 | sl (n b : Nat) (e : Ty)
 | st (fs : List Ty)
mutual
inductive TyP (P : Program) : TypeId → Ty → Prop
 | int {t k} : P.underlying t = some (.int k) → TyP P t (.int k)
 | bool {t} : P.underlying t = some .bool → TyP P t .bool
 | str {t} : P.underlying t = some .string → TyP P t .str
 | sl {t e n b ty} : P.underlying t = some (.slice e) → P.cellsOf e = n → P.bytesOf e = b → 0 < n → 0 < b → TyP P e ty → TyP P t (.sl n b ty)
 | st {t gs fs m} : P.underlying t = some (.struct gs) → P.cellsOf t = m → FsP P gs.toList fs 0 m → TyP P t (.st fs)
inductive FsP (P : Program) : List Field → List Ty → Nat → Nat → Prop
 | nil {m} : FsP P [] [] m m
 | cons {g gs ty tys o c m} : g.offset = o → P.cellsOf g.type = c → TyP P g.type ty → FsP P gs tys (o + c) m → FsP P (g :: gs) (ty :: tys) o m
end
def fsB (P : Program) (tb : TypeId → Ty → Bool) : List Field → List Ty → Nat → Nat → Bool
 | [], [], o, m => Nat.beq o m
 | g :: gs, ty :: tys, o, m => Nat.beq g.offset o && tb g.type ty && fsB P tb gs tys (o + P.cellsOf g.type) m
 | _, _, _, _ => false
def tyB (P : Program) : Nat → TypeId → Ty → Bool
 | 0, _, _ => false
 | _ + 1, t, .int k => match P.underlying t with
  | some (.int k') => decide (k' = k)
  | _ => false
 | _ + 1, t, .bool => match P.underlying t with
  | some .bool => true
  | _ => false
 | _ + 1, t, .str => match P.underlying t with
  | some .string => true
  | _ => false
 | f + 1, t, .sl n b e => match P.underlying t with
  | some (.slice t') => Nat.beq (P.cellsOf t') n && Nat.beq (P.bytesOf t') b && Nat.blt 0 n && Nat.blt 0 b && tyB P f t' e
  | _ => false
 | f + 1, t, .st fs => match P.underlying t with
  | some (.struct gs) => fsB P (tyB P f) gs.toList fs 0 (P.cellsOf t)
  | _ => false
theorem X5t {P : Program} {tb : TypeId → Ty → Bool} (h : ∀ t ty, tb t ty = true → TyP P t ty) : ∀ {gs : List Field} {fs : List Ty} {o m : Nat}, fsB P tb gs fs o m = true → FsP P gs fs o m
 | [], [], o, m, hb => by
  have := Nat.eq_of_beq_eq_true hb
  subst this
  exact .nil
 | g :: gs, ty :: tys, o, m, hb => by
  simp only [fsB, Bool.and_eq_true] at hb
  obtain ⟨⟨h1, h2⟩, h3⟩ := hb
  exact .cons (Nat.eq_of_beq_eq_true h1) rfl (h _ _ h2) (X5t h h3)
 | [], _ :: _, _, _, hb => by cases hb
 | _ :: _, [], _, _, hb => by cases hb
theorem Y9a {P : Program} : ∀ {f : Nat} {t : TypeId} {ty : Ty}, tyB P f t ty = true → TyP P t ty
 | 0, _, _, h => by simp [tyB] at h
 | f + 1, t, .int k, h => by
  unfold tyB at h
  split at h
  ·rename_i k' hu
   have := of_decide_eq_true h
   subst this
   exact .int hu
  ·cases h
 | f + 1, t, .bool, h => by
  unfold tyB at h
  split at h
  ·rename_i hu; exact .bool hu
  ·cases h
 | f + 1, t, .str, h => by
  unfold tyB at h
  split at h
  ·rename_i hu; exact .str hu
  ·cases h
 | f + 1, t, .sl n b e, h => by
  unfold tyB at h
  split at h
  ·rename_i t' hu
   simp only [Bool.and_eq_true] at h
   obtain ⟨⟨⟨⟨h1, h2⟩, h3⟩, h4⟩, h5⟩ := h
   exact .sl hu (Nat.eq_of_beq_eq_true h1) (Nat.eq_of_beq_eq_true h2) (Z9w h3) (Z9w h4) (Y9a h5)
  ·cases h
 | f + 1, t, .st fs, h => by
  unfold tyB at h
  split at h
  ·rename_i gs hu
   exact .st hu rfl (X5t (fun t ty ht => Y9a ht) h)
  ·cases h
inductive Fits {δ : Type} : Ty → List (L δ) → Prop
 | int {k n} : (Lit.int k n).wf = true → Fits (.int k) [.int k n]
 | bool {b} : Fits .bool [.bool b]
 | str {s : ByteArray} : s.size ≤ reachBytes → Fits .str [.str s]
 | sl {n b e v rows} : rows.length * b ≤ reachBytes → (∀ r ∈ rows, Fits e r) → Fits (.sl n b e) [.bs v n rows]
 | st0 : Fits (.st []) []
 | st {t ts a b} : Fits t a → Fits (.st ts) b → Fits (.st (t :: ts)) (a ++ b)
theorem Fits.map {δ ε : Type} (g : δ → ε) : ∀ {ty : Ty} {ls : List (L δ)}, Fits ty ls → Fits ty (ls.map (mapL g)) := by
 intro ty ls h
 induction h with
 | int h => exact .int h
 | bool => exact .bool
 | str h => exact .str h
 | sl h _ ih =>
  simp only [List.map_cons, List.map_nil, mapL, Z1m]
  refine .sl (by simpa using h) fun r hr => ?_
  obtain ⟨r0, h0, rfl⟩ := List.mem_map.1 hr
  exact ih r0 h0
 | st0 => exact .st0
 | st _ _ h1 h2 => rw [List.map_append]; exact .st h1 h2
structure Pl (w : World) (l : L Value) : Prop where
 wf : ∀ nest, wfL nest l
 ids : idsL l = []
 own : ownL l = []
 ref : ∀ ob, W7 ob l
 imm : ∀ q ∈ immL l, q.2 ≠ [] → ImmFact w q
theorem pl_int {w : World} {k n} : Pl w (.int k n) := ⟨fun _ => trivial, rfl, rfl, fun _ => trivial, fun q hq => by simp [immL] at hq⟩
theorem pl_bool {w : World} {b} : Pl w (.bool b) := ⟨fun _ => trivial, rfl, rfl, fun _ => trivial, fun q hq => by simp [immL] at hq⟩
theorem pl_str {w : World} {b} : Pl w (.str b) := ⟨fun _ => trivial, rfl, rfl, fun _ => trivial, fun q hq => by simp [immL] at hq⟩
theorem X0v {α : Type} {R : Nat → α → Prop} : ∀ n : Nat, (∀ i, i < n → ∃ r, R i r) → ∃ rows : List α, rows.length = n ∧ ∀ (i : Nat) r, rows[i]? = some r → R i r
 | 0, _ => ⟨[], rfl, fun i r h => by simp at h⟩
 | n + 1, h => by
  obtain ⟨rows, h1, h2⟩ := X0v n fun i hi => h i (by omega)
  obtain ⟨r, hr⟩ := h n (by omega)
  refine ⟨rows ++ [r], by simp [h1], fun i x hx => ?_⟩
  rcases Nat.lt_trichotomy i n with hi | hi | hi
  ·rw [List.getElem?_append_left (by omega)] at hx
   exact h2 i x hx
  ·subst hi
   rw [List.getElem?_append_right (by omega), h1, Nat.sub_self] at hx
   cases hx
   exact hr
  ·rw [List.getElem?_eq_none (by simp; omega)] at hx
   cases hx
theorem Y8x {H : Type} {P : Program} {e : TypeId} : ∀ {ds : List (DataW H)} {i : Nat} {d : DataW H}, ds[i]? = some d → ∀ n ∈ d.weights P e, n ∈ DataW.weightsAll P e ds
 | d0 :: ds, 0, d, hd, n, hn => by
  simp only [List.getElem?_cons_zero, Option.some.injEq] at hd
  subst hd
  simp only [DataW.weightsAll, List.mem_append]
  exact .inl hn
 | d0 :: ds, i + 1, d, hd, n, hn => by
  simp only [List.getElem?_cons_succ] at hd
  simp only [DataW.weightsAll, List.mem_append]
  exact .inr (Y8x hd n hn)
theorem valR_at {n : Nat} {rows : List (List (L Value))} (hl : ∀ r ∈ rows, r.length = n) {j : Nat} {v : Value} (h : (valR rows)[j]? = some v) : ∃ r, rows[j / n]? = some r ∧ (r.map val)[j % n]? = some v ∧ 0 < n := by
 have hlt := (List.getElem?_eq_some_iff.1 h).1
 rw [Z2f hl] at hlt
 have hn : 0 < n := by
  rcases Nat.eq_zero_or_pos n with h0 | h0
  ·subst h0; omega
  ·exact h0
 have hi : j / n < rows.length := Nat.div_lt_of_lt_mul (by rw [Nat.mul_comm]; exact hlt)
 have hr := List.getElem?_eq_getElem hi
 have hm := Nat.mod_lt j hn
 have hlr := hl _ (List.mem_of_getElem? hr)
 have hx := List.getElem?_eq_getElem (l := rows[j / n]) (i := j % n) (by omega)
 have := Y8d hl hr hx
 refine ⟨_, hr, ?_, hn⟩
 have e : j / n * n + j % n = j := by rw [Nat.mul_comm]; exact Nat.div_add_mod j n
 rw [e] at this
 rw [List.getElem?_map, hx, ← h, this]
 rfl
section
variable {H : Type} {enc : TypeId × Value → H} {P : Program} {w : World} {base : Nat} {spare : Nat → Bool} {held : Bool}
theorem reading : ∀ (fuel : Nat) {t : TypeId} {ty : Ty} {cs : List Value} {x : DataW H × List MemPlace}, TyP P t ty → DataW.trod enc P w base spare held fuel t cs = some x → (∀ n ∈ x.1.weights P t, n ≤ reachBytes) →
  ∃ ls : List (L Value), ls.map val = cs ∧ Fits ty ls ∧ (∀ l ∈ ls, Pl w l) ∧ (P.underlying t = P.underlying t) := by
 intro fuel
 induction fuel with
 | zero => intro t ty cs x _ h; simp [DataW.trod] at h
 | succ fuel ih =>
  intro t ty cs x hty h hw
  cases hty with
  | int hu =>
   obtain ⟨n, rfl, rfl, hwf⟩ := DataW.trod_int hu h
   exact ⟨[.int _ n], rfl, .int hwf, by simpa using pl_int, rfl⟩
  | bool hu =>
   obtain ⟨b, rfl, rfl⟩ := DataW.trod_bool hu h
   exact ⟨[.bool b], rfl, .bool, by simpa using pl_bool, rfl⟩
  | str hu =>
   obtain ⟨s, rfl, rfl, _⟩ := DataW.trod_string hu h
   refine ⟨[.str s], rfl, .str ?_, by simpa using pl_str, rfl⟩
   have := hw s.data.toList.length (by simp [DataW.weights])
   simpa using this
  | sl hu hn hb hn0 hb0 he =>
   rename_i e n b ty'
   rcases DataW.trod_slice hu h with ⟨rfl, rfl⟩ | ⟨a, len, cap, elems, rest, m, hm, rfl, rfl, hbs, hl, hm2, hlen, hel, _, _⟩
   ·refine ⟨[.bs (.slice none 0 0) n []], rfl, .sl (by simp) (by simp), ?_, rfl⟩
    intro l hl
    simp only [List.mem_singleton] at hl
    subst hl
    exact ⟨fun _ => ⟨⟨none, 0, rfl, by simp, by simp [LIM], by simp⟩, by simp, by simp [wfR]⟩, rfl, rfl, fun _ => trivial, fun q hq => by simp [immL, Z2w, immR] at hq⟩
   ·obtain rfl : fuel = m := by omega
    have hlenb : (elems.length + rest.length) * b ≤ reachBytes := by
     have := hw ((elems.length + rest.length) * P.bytesOf e) (by simp [DataW.weights, hu])
     rwa [hb] at this
    obtain ⟨rows, hr1, hr2⟩ := X0v (R := fun i (r : List (L Value)) => (∃ c, w.cells? base (a.add (i * n)) n = some c ∧ r.map val = c) ∧ Fits ty' r ∧ (∀ l ∈ r, Pl w l)) len fun i hi => by
     have h1 := hel i hi
     have hie : i < elems.length := by omega
     rw [List.getElem?_eq_getElem hie, Option.bind_eq_some_iff, hn] at h1
     obtain ⟨c, hc, ht⟩ := h1
     obtain ⟨ls, e1, e2, e3, _⟩ := ih he ht fun k hk => hw k (by
      simp only [DataW.weights, hu, List.mem_cons, List.mem_append]
      refine .inr (.inl (Y8x (i := i) ?_ k hk))
      rw [List.getElem?_map, List.getElem?_eq_getElem hie]
      rfl)
     exact ⟨ls, ⟨c, hc, e1⟩, e2, e3⟩
    have hmem : ∀ r ∈ rows, Fits ty' r ∧ (∀ l ∈ r, Pl w l) ∧ r.length = n := fun r hr => by
     obtain ⟨i, hi⟩ := List.getElem?_of_mem hr
     obtain ⟨⟨c, hc, e1⟩, e2, e3⟩ := hr2 i r hi
     refine ⟨e2, e3, ?_⟩
     have := (World.cells?_some hc).2.1
     rw [← e1, List.length_map] at this
     exact this
    have hsp : rows ≠ [] → a = ⟨a.block, a.off, none⟩ := fun hne => by
     obtain ⟨r, hr⟩ : ∃ r, rows[0]? = some r := by
      cases rows with
      | nil => exact absurd rfl hne
      | cons r _ => exact ⟨r, rfl⟩
     obtain ⟨⟨c, hc, e1⟩, _⟩ := hr2 0 r hr
     obtain ⟨_, k1, k2⟩ := World.cells?_some hc
     have := k2 0 hn0
     rw [List.getElem?_eq_getElem (by omega), Nat.zero_mul] at this
     have h0 : (a.add 0).add 0 = a := by simp [Addr.add]
     rw [h0] at this
     have := World.cell?_spot this
     cases a
     simp only at this
     subst this
     rfl
    have hLen : rows.length ≤ LIM := by
     have h3 : len * b ≤ reachBytes := Nat.le_trans (Nat.mul_le_mul_right _ (by omega)) hlenb
     have h4 : len * 1 ≤ len * b := Nat.mul_le_mul_left _ hb0
     have h5 : reachBytes ≤ LIM := by decide
     omega
    refine ⟨[.bs (.slice (some a) len cap) n rows], rfl, .sl ?_ (fun r hr => (hmem r hr).1), ?_, rfl⟩
    ·rw [hr1]
     exact Nat.le_trans (Nat.mul_le_mul_right _ (by omega)) hlenb
    ·intro l hl'
     simp only [List.mem_singleton] at hl'
     subst hl'
     refine ⟨fun nest => ⟨⟨some a, cap, by rw [hr1], by omega, hLen, fun hne => ⟨a.block, a.off, by rw [← hsp hne]⟩⟩, fun r hr => (hmem r hr).2.2, ?_⟩, rfl, rfl, fun _ => trivial, fun q hq hne => ?_⟩
     ·exact (Z5h true rows).2 fun r hr l hl => ((hmem r hr).2.1 l hl).wf true
     ·simp only [immL, Z2w, List.mem_append, List.mem_singleton] at hq
      rcases hq with rfl | hq
      ·intro j v hj
       obtain ⟨r, k1, k2, _⟩ := valR_at (fun r hr => (hmem r hr).2.2) hj
       obtain ⟨⟨c, hc, e1⟩, _⟩ := hr2 _ r k1
       obtain ⟨_, k3, k4⟩ := World.cells?_some hc
       have hr0 : rows ≠ [] := fun h0 => by rw [h0] at k1; simp at k1
       have := k4 (j % n) (Nat.mod_lt _ hn0)
       rw [← e1, k2, hsp hr0, Z8d, Z8d] at this
       simp only at this ⊢
       rw [← this]
       congr 2
       have := Nat.div_add_mod j n
       rw [Nat.mul_comm] at this
       omega
      ·rw [Z4r] at hq
       obtain ⟨l, hl, hq⟩ := List.mem_flatMap.1 hq
       obtain ⟨r, hr, hl⟩ := List.mem_flatten.1 hl
       exact ((hmem r hr).2.1 l hl).imm q hq hne
  | st hu hm hfs =>
   rename_i gs fs m
   obtain ⟨xs, k, hk, rfl, hcs, hxl, hxs⟩ := DataW.trod_struct hu h
   obtain rfl : fuel = k := by omega
   rw [hm] at hcs
   have key : ∀ (gl : List Field) (fs : List Ty) (o i : Nat), FsP P gl fs o m → gs.toList.drop i = gl → o ≤ m → ∃ ls : List (L Value), ls.map val = cs.drop o ∧ Fits (.st fs) ls ∧ ∀ l ∈ ls, Pl w l := by
    intro gl
    induction gl with
    | nil =>
     intro fs o i hf _ ho
     cases hf
     exact ⟨[], by rw [List.drop_of_length_le (by omega)]; rfl, .st0, by simp⟩
    | cons g gl ihg =>
     intro fs o i hf hd ho
     cases hf with
     | cons h1 h2 h3 h4 =>
      rename_i ty1 tys c
      have hgi : gs[i]? = some g := by
       have : (gs.toList.drop i)[0]? = some g := by rw [hd]; rfl
       rw [List.getElem?_drop] at this
       simpa using this
      have h5 := hxs i g hgi
      have hi : i < xs.length := by
       rw [hxl]
       exact (Array.getElem?_eq_some_iff.1 hgi).1
      rw [List.getElem?_eq_getElem hi] at h5
      obtain ⟨ls1, a1, a2, a3, _⟩ := ih h3 h5 fun n hn => hw n (by
       simp only [DataW.weights, hu]
       refine DataW.weights_mem_each (j := i) (t := g.type) (d := (xs[i]'hi).1) ?_ ?_ n hn
       ·rw [List.getElem?_map, Array.getElem?_toList, hgi]; rfl
       ·rw [List.getElem?_map, List.getElem?_eq_getElem hi]; rfl)
      have hle : o + c ≤ m := by
       clear ihg
       have : ∀ {gl : List Field} {tys : List Ty} {o m : Nat}, FsP P gl tys o m → o ≤ m := by
        intro gl
        induction gl with
        | nil => intro tys o m h; cases h; omega
        | cons g gl ih =>
         intro tys o m h
         cases h with
         | cons _ _ _ h => have := ih h; omega
       exact this h4
      obtain ⟨ls2, b1, b2, b3⟩ := ihg tys (o + c) (i + 1) h4 (by rw [← List.drop_drop, hd]; rfl) hle
      refine ⟨ls1 ++ ls2, ?_, .st a2 b2, fun l hl => (List.mem_append.1 hl).elim (a3 l) (b3 l)⟩
      rw [List.map_append, a1, b1, h1, h2]
      rw [← List.drop_drop]
      exact List.take_append_drop c _
   obtain ⟨ls, a1, a2, a3⟩ := key gs.toList fs 0 0 hfs rfl (Nat.zero_le _)
   exact ⟨ls, by simpa using a1, a2, a3, rfl⟩
end
end
section
open Go Go.WideShapes Go.ChangeShapes Go.RowKit
theorem W4d {α : Type} {ty : Ty} {enc : α → List (L Unit)} {ok : α → Prop} (hd : ∀ ls, Fits ty ls → ∃ x, ls = enc x ∧ ok x) : ∀ {rows : List (List (L Unit))}, (∀ r ∈ rows, Fits ty r) → ∃ xs : List α, rows = xs.map enc ∧ ∀ x ∈ xs, ok x
 | [], _ => ⟨[], rfl, by simp⟩
 | r :: rows, h => by
  obtain ⟨x, rfl, hx⟩ := hd r (h r (by simp))
  obtain ⟨xs, rfl, hxs⟩ := W4d hd (rows := rows) fun r hr => h r (by simp [hr])
  exact ⟨x :: xs, rfl, fun y hy => (List.mem_cons.1 hy).elim (fun e => e ▸ hx) (hxs y)⟩
theorem dc_list {α : Type} {n b : Nat} {ty : Ty} {enc : α → List (L Unit)} {ok : α → Prop} (hd : ∀ ls, Fits ty ls → ∃ x, ls = enc x ∧ ok x) {ls : List (L Unit)} (h : Fits (.sl n b ty) ls) :
  ∃ xs : List α, ls = lL false n enc xs ∧ xs.length * b ≤ reachBytes ∧ ∀ x ∈ xs, ok x := by
 cases h with
 | sl h1 h2 =>
  obtain ⟨xs, rfl, hxs⟩ := W4d hd h2
  exact ⟨xs, rfl, by simpa using h1, hxs⟩
theorem W5n {H : Type} {enc : TypeId × Value → H} {P : Program} {w : World} {base : Nat} {spare : Nat → Bool} {held : Bool} {t : TypeId} {ty : Ty} {v : Value} {d : DataW H} {p : List MemPlace}
  (hty : TyP P t ty) (hv : v.cells = #[v]) (h : DataW.Trod enc P w base spare held t v d p) (hw : ∀ n ∈ d.weights P t, n ≤ reachBytes) :
  ∃ l : L Value, UR (.one l) v ∧ Fits ty [erL l] ∧ Pl w l := by
 obtain ⟨fuel, hf⟩ := h
 obtain ⟨ls, e1, e2, e3, _⟩ := reading fuel hty hf hw
 rw [hv] at e1
 match ls, e1, e2, e3 with
 | [l], e1, e2, e3 =>
  simp only [List.map_cons, List.map_nil, List.cons.injEq, and_true] at e1
  exact ⟨l, e1.symm, e2.map _, e3 l (by simp)⟩
theorem W3z {P : Program} {f : FuncId} {W : World} {us : List (U Value)} {args : List (U Unit)} {vals : List Value} {r : V Unit} (hs : Sim P f args [] r []) (ha : us.map erU = args) (hus : All2 UR us vals) (hpl : ∀ u ∈ us, ∀ l ∈ Z1 u, Pl W l) :
  Calls P f vals.toArray W fun e W' => ∃ x rv, e = .returned x ∧ erV rv = r ∧ VR rv x ∧ Below W.heap.size W W' := by
 have htop : ∀ l ∈ tops (⟨us.map .u, [], 0⟩ : S Value), Pl W l := by
  intro l hl
  simp only [tops, X6, List.flatMap_nil, List.append_nil, List.mem_flatMap, List.mem_map] at hl
  obtain ⟨_, ⟨u, hu, rfl⟩, hl⟩ := hl
  exact hpl u hu l hl
 have hown : ownS (⟨us.map .u, [], 0⟩ : S Value) = [] := by
  unfold ownS
  simp only [List.flatMap_nil, List.nil_append, List.flatMap_eq_nil_iff]
  exact fun l hl => (htop l hl).own
 refine (hs W ⟨us.map .u, [], 0⟩ us vals rfl ha hus rfl ?_ fun l hl i hi => ?_).mono fun e W' h => ?_
 ·refine ⟨fun l hl => ⟨(htop l hl).wf false, (htop l hl).ref _⟩, fun p hp => by simp at hp, List.nodup_nil, fun p hp => ?_, ?_, fun p hp hne => ?_⟩
  ·rw [hown] at hp; simp at hp
  ·rw [hown]; exact List.nodup_nil
  ·obtain ⟨l, hl, hp⟩ := List.mem_flatMap.1 hp
   exact ⟨(htop l hl).imm p hp hne, fun q hq => by rw [hown] at hq; simp at hq⟩
 ·rw [(htop l hl).ids] at hi; simp at hi
 ·obtain ⟨x, d', rv, h1, _, h3, _, h5, h6⟩ := h
  refine ⟨x, rv, h1, h3, h5, h6.fr.3.1, h6.fr.3.2.1, h6.fr.3.2.2, h6.fr.1, fun k hk => h6.fr.2 k hk fun ⟨p, hp, _⟩ => by rw [hown] at hp; simp at hp⟩
theorem W5i {rv : V Value} {x : Value} {b : Bool} (h : erV rv = .u (.one (.bool b))) (hv : VR rv x) : x = .bool b := by
 cases rv with
 | u u =>
  cases u with
  | one l =>
   cases l <;> simp only [erV, mapV, mapU, mapL, V.u.injEq, U.one.injEq, reduceCtorEq] at h
   cases h
   exact hv
  | agg ls => simp [erV, mapV, mapU] at h
 | _ => simp [erV, mapV] at h
end
section
theorem Y5 {n : Int} (h1 : -9223372036854775808 ≤ n) (h2 : n ≤ 9223372036854775807) : inI n := ⟨h1, h2⟩
theorem Z6j {n : Int} (h1 : -9223372036854775808 ≤ n) (h2 : n ≤ 9223372036854775807) : IntKind.i64.wrap n = n := IntWalk.i64_in n (by omega)
theorem X8 {α : Type} [Inhabited α] {xs : List α} {n : Int} (h : 0 ≤ n ∧ n < (xs.length : Int)) : at_ xs n ∈ xs := List.mem_of_getElem? (X9r h)
theorem obs {α β : Type} (a : α) (f : α → Option β) : Option.bind (some a) f = f a := by
 have : ∀ o, o = some a → Option.bind o f = f a := fun o h => by subst h; rfl
 exact this _ rfl
theorem Y6i {σ ρ : Type} {body : σ → Option (σ ⊕ ρ)} {L : Option ρ} {s0 : σ} (hB : Y6 body s0 = L) (I : σ → Prop) (m : σ → Nat) (Q : ρ → Prop)
  (h : ∀ s, I s → (∃ s', body s = some (.inl s') ∧ I s' ∧ m s' < m s) ∨ (∃ r, body s = some (.inr r) ∧ Q r)) (h0 : I s0) : ∃ r, L = some r ∧ Q r := by
 subst hB
 have key : ∀ n s, m s ≤ n → I s → ∃ r, Y6 body s = some r ∧ Q r := by
  intro n
  induction n with
  | zero =>
   intro s hm hi
   rcases h s hi with ⟨s', e, hi', hlt⟩ | ⟨r, e, hq⟩
   ·omega
   ·exact ⟨r, by rw [Z1p, e]; rfl, hq⟩
  | succ n ih =>
   intro s hm hi
   rcases h s hi with ⟨s', e, hi', hlt⟩ | ⟨r, e, hq⟩
   ·obtain ⟨r, e2, hq⟩ := ih s' (by omega) hi'
    exact ⟨r, by rw [Z1p, e]; exact e2, hq⟩
   ·exact ⟨r, by rw [Z1p, e]; rfl, hq⟩
 exact key _ s0 (Nat.le_refl _) h0
theorem Y1i {σ : Type} {ρ : Type} {body : σ → Option (σ ⊕ ρ)} {L : Option ρ} {s0 : σ} (hB : Y6 body s0 = L) (st : Nat → σ) (n : Nat) (r : ρ) (e0 : s0 = st 0)
  (h : ∀ k, k < n → body (st k) = some (.inl (st (k + 1)))) (he : body (st n) = some (.inr r)) : L = some r := by
 subst hB e0
 have key : ∀ m k, k + m = n → Y6 body (st k) = some r := by
  intro m
  induction m with
  | zero =>
   intro k hk
   obtain rfl : k = n := by omega
   rw [Z1p, he]; rfl
  | succ m ih =>
   intro k hk
   rw [Z1p, h k (by omega)]
   exact ih (k + 1) (by omega)
 exact key n 0 (by omega)
theorem dc_u8 {ls : List (L Unit)} (h : Fits (.int .u8) ls) : ∃ n, ls = iK .u8 n ∧ 0 ≤ n ∧ n ≤ 255 := by
 cases h with
 | int h =>
  refine ⟨_, rfl, ?_⟩
  simp [Lit.wf, IntKind.min, IntKind.max, IntKind.bits, IntKind.signed] at h
  exact h
end
section
def okRd (r : Gl1Rd) : Prop := 0 ≤ r.p ∧ r.p ≤ (r.b.length : Int) ∧ r.b.length ≤ 140737488355328 ∧ ∀ x ∈ r.b, 0 ≤ x ∧ x ≤ 255
theorem X6t {r : Gl1Rd} (h : okRd r) : ∃ x r', Q6 r = some (x, r') ∧ okRd r' ∧ 0 ≤ x ∧ x ≤ 255 := by
 obtain ⟨h1, h2, h3, h4⟩ := h
 unfold Q6
 by_cases hp : r.p ≥ (r.b.length : Int)
 ·rw [if_pos (by simpa using hp)]
  exact ⟨0, r, rfl, ⟨h1, h2, h3, h4⟩, by omega, by omega⟩
 ·rw [if_neg (by simpa using hp), if_pos (Y5 (by omega) (by omega)), if_pos (Y5 (by simp only; omega) (by simp only; omega)), if_pos (by simp only; omega)]
  have hb := h4 (at_ r.b (r.p + 1 - 1)) (X8 (by omega))
  refine ⟨_, _, rfl, ⟨by simp only; omega, by simp only; omega, h3, h4⟩, ?_⟩
  simp only
  rw [Z6j (by omega) (by omega)]
  exact hb
theorem Y3x {a n : Int} (h : 0 ≤ a) (hn : 1 ≤ n) : 0 ≤ Int.tmod a n ∧ Int.tmod a n < n := by
 rw [Int.tmod_eq_emod_of_nonneg h]
 exact ⟨Int.emod_nonneg _ (by omega), Int.emod_lt_of_pos _ (by omega)⟩
theorem Y8v {r : Gl1Rd} (h : okRd r) (n : Int) : ∃ x r', Z6 r n = some (x, r') ∧ okRd r' ∧ 0 ≤ x ∧ (1 ≤ n → x < n) := by
 unfold Z6
 by_cases hn : n ≤ 1
 ·rw [if_pos (by simpa using hn)]
  exact ⟨0, r, rfl, h, by omega, by omega⟩
 ·rw [if_neg (by simpa using hn)]
  obtain ⟨x, r', e, h', hx⟩ := X6t h
  by_cases hn2 : n ≤ 256
  ·rw [if_pos (by simpa using hn2), e]
   simp only [Option.bind_some]
   rw [if_pos (by omega)]
   exact ⟨_, _, rfl, h', (Y3x hx.1 (by omega)).1, fun _ => (Y3x hx.1 (by omega)).2⟩
  ·rw [if_neg (by simpa using hn2), e]
   simp only [Option.bind_some]
   obtain ⟨y, r2, e2, h2, hy⟩ := X6t h'
   rw [e2]
   simp only [Option.bind_some]
   rw [if_pos (by omega), Z6j (n := x * 256) (by omega) (by omega), Z6j (by omega) (by omega)]
   exact ⟨_, _, rfl, h2, (Y3x (by omega) (by omega)).1, fun _ => (Y3x (by omega) (by omega)).2⟩
theorem W2t {r : Gl1Rd} (h : okRd r) (n : Int) (hn : inI (n - 1)) : ∃ x r', J6 r n = some (x, r') ∧ okRd r' := by
 unfold J6
 obtain ⟨x, r', e, h', hx⟩ := Y8v h n
 rw [e]
 simp only [Option.bind_some]
 rw [if_pos hn]
 exact ⟨_, _, rfl, h'⟩
theorem u64_in {n : Int} (h : (Lit.int .u64 n).wf = true) : 0 ≤ n ∧ n ≤ 18446744073709551615 := by
 have h : IntKind.u64.min ≤ n ∧ n ≤ IntKind.u64.max := by simpa [Lit.wf] using h
 have e1 : IntKind.u64.min = 0 := by decide
 have e2 : IntKind.u64.max = 18446744073709551615 := by decide
 rw [e1, e2] at h
 exact h
theorem W1c {r : Gl1Rd} (h : okRd r) : ∃ x r', Q5 r = some (x, r') ∧ okRd r' ∧ 0 ≤ x ∧ x ≤ 18446744073709551615 := by
 unfold Q5
 generalize hB : Y6 _ _ = L
 obtain ⟨⟨r2, x⟩, e, h2⟩ := Y6i hB (fun s => okRd s.1 ∧ 0 ≤ s.2.2 ∧ s.2.2 ≤ 8 ∧ 0 ≤ s.2.1 ∧ s.2.1 ≤ 18446744073709551615) (fun s => (8 - s.2.2).toNat) (fun s => okRd s.1 ∧ 0 ≤ s.2 ∧ s.2 ≤ 18446744073709551615) (by
  rintro ⟨r, a, i⟩ ⟨h1, h2, h3, h4, h5⟩
  simp only at h1 h2 h3 h4 h5 ⊢
  by_cases hi : i < 8
  ·left
   rw [if_pos (by simpa using hi)]
   obtain ⟨x, r', e, h', hx⟩ := X6t h1
   rw [e]
   simp only [Option.bind_some]
   rw [if_pos (Y5 (by omega) (by omega))]
   have hb := u64_in (wf_bits .or .u64 (IntKind.u64.wrap (a * 2 ^ min (Int.toNat 8) (IntKind.bits .u64))) (IntKind.u64.wrap x))
   exact ⟨_, rfl, ⟨h', by simp only; omega, by simp only; omega, hb.1, hb.2⟩, by simp only; omega⟩
  ·right
   rw [if_neg (by simpa using hi)]
   exact ⟨_, rfl, h1, h4, h5⟩) ⟨h, by simp only; omega, by simp only; omega, by simp only; omega, by simp only; omega⟩
 subst e
 exact ⟨_, _, rfl, h2⟩
theorem word_ok {r : Gl1Rd} (h : okRd r) : ∃ x r', Q5 r = some (x, r') ∧ okRd r' := by
 obtain ⟨x, r', e, h1, _⟩ := W1c h
 exact ⟨x, r', e, h1⟩
theorem near_ok {r : Gl1Rd} (h : okRd r) (low high : Int) (h1 : ¬ high < low → inI (IntKind.i64.wrap (high - low) + 1) ∧ IntKind.u64.wrap (IntKind.i64.wrap (high - low) + 1) ≠ 0) : ∃ x r', Q7 r low high = some (x, r') ∧ okRd r' := by
 unfold Q7
 obtain ⟨x, r', e, h', hx⟩ := Y8v h 8
 rw [e]
 simp only [Option.bind_some]
 split
 ·exact ⟨_, _, rfl, h'⟩
 ·split
  ·exact ⟨_, _, rfl, h'⟩
  ·split
   ·exact ⟨_, _, rfl, h'⟩
   ·rename_i hl
    obtain ⟨y, r2, e2, h2⟩ := word_ok h'
    rw [e2]
    simp only [Option.bind_some]
    have := h1 (by simpa using hl)
    rw [if_pos this.1, if_pos this.2]
    exact ⟨_, _, rfl, h2⟩
theorem off_ok {r : Gl1Rd} (h : okRd r) (low high : Int) (hl : inI (low - 1)) (hh : inI (high + 1)) (h1 : ¬ high < low → inI (IntKind.i64.wrap (high - low) + 1) ∧ IntKind.u64.wrap (IntKind.i64.wrap (high - low) + 1) ≠ 0) : ∃ x r', V1 r low high = some (x, r') ∧ okRd r' := by
 unfold V1
 obtain ⟨x, r', e, h'⟩ := W2t h 24 (Y5 (by omega) (by omega))
 rw [e]
 simp only [Option.bind_some]
 split
 ·obtain ⟨y, r2, e2, h2, hy, hy2⟩ := Y8v h' 4
  have hy3 := hy2 (by omega)
  rw [e2]
  simp only [Option.bind_some]
  rw [if_pos ⟨hy, by simpa using hy3⟩]
  exact ⟨_, _, rfl, h2⟩
 ·obtain ⟨y, r2, e2, h2⟩ := near_ok h' low high h1
  rw [e2]
  exact ⟨_, _, rfl, h2⟩
theorem open_ok {code : List Int} (hl : code.length ≤ 140737488355328) (h : ∀ x ∈ code, 0 ≤ x ∧ x ≤ 255) : okRd (Z4w code) := ⟨Int.le_refl _, by simp only [Z4w]; omega, hl, h⟩
end
section
def Run {β : Type} (o : Option β) (Q : β → Prop) : Prop := ∃ y, o = some y ∧ Q y
theorem Run.mk {β : Type} {y : β} {Q : β → Prop} (h : Q y) : Run (some y) Q := ⟨y, rfl, h⟩
theorem Run.bind {α β : Type} {o : Option α} {F : α → Option β} {R : α → Prop} {Q : β → Prop} (h : Run o R) (H : ∀ a, R a → Run (F a) Q) : Run (Option.bind o F) Q := by
 obtain ⟨a, e, ha⟩ := h
 rw [e, obs]
 exact H a ha
theorem Run.yes {β : Type} {c : Prop} [Decidable c] {a b : Option β} {Q : β → Prop} (hc : c) (h : Run a Q) : Run (if c then a else b) Q := by rw [if_pos hc]; exact h
theorem Run.no {β : Type} {c : Prop} [Decidable c] {a b : Option β} {Q : β → Prop} (hc : ¬ c) (h : Run b Q) : Run (if c then a else b) Q := by rw [if_neg hc]; exact h
theorem Run.if {β : Type} {c : Prop} [Decidable c] {a b : Option β} {Q : β → Prop} (h1 : c → Run a Q) (h2 : ¬ c → Run b Q) : Run (if c then a else b) Q := by
 by_cases h : c
 ·exact .yes h (h1 h)
 ·exact .no h (h2 h)
def W6w {σ ρ : Type} (I : σ → Prop) (m : σ → Nat) (n : Nat) (Q : ρ → Prop) : σ ⊕ ρ → Prop
 | .inl s => I s ∧ m s < n
 | .inr r => Q r
theorem Run.nx {σ ρ : Type} {I : σ → Prop} {m : σ → Nat} {n : Nat} {Q : ρ → Prop} {s : σ} (h : I s ∧ m s < n) : Run (some (.inl s : σ ⊕ ρ)) (W6w I m n Q) := ⟨_, rfl, h⟩
theorem Run.out {σ ρ : Type} {I : σ → Prop} {m : σ → Nat} {n : Nat} {Q : ρ → Prop} {r : ρ} (h : Q r) : Run (some (.inr r : σ ⊕ ρ)) (W6w I m n Q) := ⟨_, rfl, h⟩
theorem Run.loop {σ ρ : Type} {body : σ → Option (σ ⊕ ρ)} {s0 : σ} {Q : ρ → Prop} (I : σ → Prop) (m : σ → Nat) (h0 : I s0) (h : ∀ s, I s → Run (body s) (W6w I m (m s) Q)) : Run (Y6 body s0) Q := by
 refine Y6i rfl I m Q (fun s hs => ?_) h0
 obtain ⟨x, e, hx⟩ := h s hs
 cases x with
 | inl s' => exact .inl ⟨s', e, hx⟩
 | inr r => exact .inr ⟨r, e, hx⟩
end
end Go.Proofs.YtaocimmckbhhbaaGreat.AM
