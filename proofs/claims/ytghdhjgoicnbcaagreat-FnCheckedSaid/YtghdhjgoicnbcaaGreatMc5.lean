import Derived.Test.YtghdhjgoicnbcaaGreatMc4
import Derived.SizedLaws
import Derived.WideShapes
import Derived.ChangeSlices
import Derived.OpenShut
import Derived.Below
set_option linter.unusedVariables false
set_option linter.unusedSimpArgs false
namespace Go.Proofs.YtghdhjgoicnbcaaGreat.AM
open Go
section
set_option maxHeartbeats 8000000
set_option maxRecDepth 100000
attribute [local irreducible] aopK K0 Wp St WpO
noncomputable def Z3u (f : GFunc) (a : Int) (b : Int) : Option Bool :=
 (Option.bind ((Option.bind (Z4s f ((-1))) fun x2 =>
 (if 0 ≤ b ∧ b < (List.length x2 : Int) then
 (if at_ x2 b = true then
 (Option.bind (Z4s f a) fun x6 =>
 (if 0 ≤ b ∧ b < (List.length x6 : Int) then
 (some ((!(at_ x6 b))))
 else none))
 else
 (some false))
 else none))) fun (j1 : Bool) =>
 (some j1))
theorem Y5m {f : GFunc} {a : Int} {b : Int} {r : Bool} (hm : Z3u f a b = some r) : Sim Tryz.prog 249 [.agg (Z9 false f), .one (.int .i64 a), .one (.int .i64 b)] [] (.u (.one (.bool r))) [] := by
 refine fN 21 0 Tryz.func249 [.tmp 6] fun B hB0 => ?_
 unfold Z3u at hm
 refine Wp.seq ?_
 refine X4 ?_
 refine yR ?_
 intro _ hm
 refine W5 ?_
 refine Wp.seq ?_
 obtain ⟨j1, hj9, hm⟩ := Z0 hm
 refine V6 (St 21 [(6, vB j1)] [] 0) ?_ ?_
 replace hm := hj9
 refine X4 ?_
 refine nO (kW ?_)
 obtain ⟨x2, h3, hm⟩ := Z0 hm
 refine nO (Z6 (cB (Y0t h3) ?_))
 refine yG ?_
 intro k1 hm
 refine bG1 hm (fun hb5 hm => ?_) fun hb5 hm => ?_
 refine gO_t rfl rfl rfl (kW ?_)
 refine yG ?_
 intro _ hm
 obtain ⟨x6, h7, hm⟩ := Z0 hm
 refine gO_t rfl rfl rfl (Z6 (cB (Y0t h7) ?_))
 refine yG ?_
 intro k2 hm
 cases hm
 exact vW []
 refine yG ?_
 intro _ hm
 cases hm
 exact vW []
 refine Z1s ?_
 cases hm
 exact rZ1
noncomputable def Z3k (f : GFunc) (id : Int) (b : Int) (ahead : Int) : Option Bool :=
 (Option.bind (Z2g f id) fun x1 =>
 (if (x1.1 == ((-1))) = true then
 (some true)
 else
 (if (x1.1 == b) = true then
 (some (decide (id < ahead)))
 else
 (Option.bind (Z3u f x1.1 b) fun x5 =>
 (some x5)))))
theorem Z9y {f : GFunc} {id : Int} {b : Int} {ahead : Int} {r : Bool} (hm : Z3k f id b ahead = some r) : Sim Tryz.prog 215 [.agg (Z9 false f), .one (.int .i64 id), .one (.int .i64 b), .one (.int .i64 ahead)] [] (.u (.one (.bool r))) [] := by
 refine fN 30 0 Tryz.func215 [.tmp 8] fun B hB0 => ?_
 unfold Z3k at hm
 refine yG ?_
 intro _ hm
 refine nO (kW ?_)
 refine yG ?_
 intro _ hm
 obtain ⟨x1, h2, hm⟩ := Z0 hm
 refine nO (Z6 (cB (Z8x h2) ?_))
 refine yG ?_
 intro _ hm
 refine bS hm (fun hb3 hm => ?_) fun hb3 hm => ?_
 refine yG ?_
 intro _ hm
 cases hm
 exact rZ1
 refine yG ?_
 intro _ hm
 refine bS hm (fun hb4 hm => ?_) fun hb4 hm => ?_
 refine yG ?_
 intro _ hm
 cases hm
 exact rZ1
 refine yG ?_
 intro _ hm
 refine nO (kW ?_)
 refine yG ?_
 intro _ hm
 obtain ⟨x5, h6, hm⟩ := Z0 hm
 refine nO (Z6 (cB (Y5m h6) ?_))
 refine yG ?_
 intro _ hm
 cases hm
 exact rZ1
noncomputable def Z6c (f : GFunc) (b : Int) : Option Int :=
 (if 0 ≤ b ∧ 0 ≤ (Int.toNat b) ∧ (Int.toNat b) ≤ List.length f.blocks then
 (Option.bind (Y6 (fun (st4 : Int × Int) =>
 ((if decide (st4.1 < ((List.length (List.take ((Int.toNat b) - 0) (List.drop 0 f.blocks)) : Int))) = true then
 (if 0 ≤ st4.1 ∧ st4.1 < (List.length (List.take ((Int.toNat b) - 0) (List.drop 0 f.blocks)) : Int) then
 (if inI (st4.2 + (((List.length ((at_ (List.take ((Int.toNat b) - 0) (List.drop 0 f.blocks)) st4.1).phis) : Int)) + ((List.length ((at_ (List.take ((Int.toNat b) - 0) (List.drop 0 f.blocks)) st4.1).insts) : Int)))) then
 (if inI (st4.1 + 1) then
 (some (Sum.inl ((st4.1 + 1, st4.2 + (((List.length ((at_ (List.take ((Int.toNat b) - 0) (List.drop 0 f.blocks)) st4.1).phis) : Int)) + ((List.length ((at_ (List.take ((Int.toNat b) - 0) (List.drop 0 f.blocks)) st4.1).insts) : Int)))))))
 else none)
 else none)
 else none)
 else
 (some (Sum.inr st4.2))) : Option ((Int × Int) ⊕ (Int)))) (0, (List.length f.params : Int))) fun (j5 : Int) =>
 (some j5))
 else none)
theorem Y2f {f : GFunc} {b : Int} {r : Int} (hm : Z6c f b = some r) : Sim Tryz.prog 181 [.agg (Z9 false f), .one (.int .i64 b)] [] (.u (.one (.int .i64 r))) [] := by
 refine fN 31 0 Tryz.func181 [.tmp 4] fun B hB0 => ?_
 unfold Z6c at hm
 refine yG ?_
 intro k1 hm
 obtain ⟨h2, hm⟩ := Y1 hm
 refine nO (x_slb (enc := W2 false) (xs := f.blocks) (l := 0) (h := (Int.toNat b)) E25 rfl bd_n (bd_s rfl h2.1) h2.2 ?_)
 refine yG ?_
 intro k2 hm
 obtain ⟨j5, hl13, hm⟩ := Z0 hm
 refine lP hl13 (fun st4 => St 31 [(5, vI st4.2), (14, .u (.one (.bs () 6 (List.map (W2 false) (List.take ((Int.toNat b) - 0) (List.drop 0 f.blocks)))))), (15, vI ((List.length (List.take ((Int.toNat b) - 0) (List.drop 0 f.blocks)) : Int))), (16, vI st4.1)] [] 0) (fun j5 => (.exit 0, St 31 [(5, vI j5)] [] 0)) (vW []) ?_ ?_
 intro st4 x hm
 refine yG ?_
 intro _ hm
 refine bS hm (fun hb6 hm => ?_) fun hb6 hm => ?_
 refine yG ?_
 intro k3 hm
 refine nO (K8 T53 rfl (U6 rfl rfl) rfl ?_)
 refine yG ?_
 intro k4 hm
 cases hm
 exact ⟨rfl, vW []⟩
 refine V2 ?_
 cases hm
 exact ⟨rfl, vW []⟩
 refine yG ?_
 intro _ hm
 cases hm
 exact rZ1
noncomputable def Z3w (id : Int) (a : GFunc) (aq : Int) (aqq : Int) (aqqq : Int) : Option Bool :=
 (Option.bind (Z3k a id aq (IntKind.i64.wrap (aqq + aqqq))) fun x1 =>
 (some ((!x1))))
theorem Y5p {id : Int} {a : GFunc} {aq : Int} {aqq : Int} {aqqq : Int} {r : Bool} (hm : Z3w id a aq aqq aqqq = some r) : Sim Tryz.prog 216 [.one (.int .i64 id), .one (.ip () (Z9 false a)), .one (.ip () (iL aq)), .one (.ip () (iL aqq)), .one (.ip () (iL aqqq))] [] (.u (.one (.bool r))) [] := by
 refine fN 15 0 Tryz.func216 [.tmp 6] fun B hB0 => ?_
 have fW := trivial
 unfold Z3w at hm
 refine yG ?_
 intro _ hm
 refine nO (K8 T27 rfl (U6 rfl rfl) rfl ?_)
 refine yG ?_
 intro _ hm
 refine nO (Y2m T2 rfl rfl rfl ?_)
 obtain ⟨x1, h2, hm⟩ := Z0 hm
 refine nO (Z6 (cB (Z9y h2) ?_))
 refine yG ?_
 intro _ hm
 cases hm
 exact rZ1
noncomputable def Z6d (f : GFunc) (b : Int) (reached : List Bool) : Option Bool :=
 (if 0 ≤ b ∧ b < (List.length f.blocks : Int) then
 (Option.bind (Z1d f b) fun x2 =>
 (Option.bind (Y6 (fun (st5 : Int) =>
 ((if decide (st5 < ((List.length ((at_ f.blocks b).phis) : Int))) = true then
 (if 0 ≤ st5 ∧ st5 < (List.length ((at_ f.blocks b).phis) : Int) then
 (Option.bind (Y6 (fun (st11 : Int) =>
 ((if decide (st11 < ((List.length ((at_ ((at_ f.blocks b).phis) st5).ins) : Int))) = true then
 (if 0 ≤ st11 ∧ st11 < (List.length ((at_ ((at_ f.blocks b).phis) st5).ins) : Int) then
 (Option.bind ((if 0 ≤ st11 ∧ st11 < (List.length x2 : Int) then
 (if 0 ≤ (at_ x2 st11) ∧ (at_ x2 st11) < (List.length reached : Int) then
 (if at_ reached (at_ x2 st11) = true then
 (if 0 ≤ st11 ∧ st11 < (List.length x2 : Int) then
 (Option.bind (Z1e f) fun x21 =>
 (Option.bind (Z3k f (at_ ((at_ ((at_ f.blocks b).phis) st5).ins) st11) (at_ x2 st11) x21) fun x23 =>
 (some ((!x23)))))
 else none)
 else
 (some false))
 else none)
 else none)) fun (j16 : Bool) =>
 (if j16 = true then
 (some (Sum.inr ((Sum.inl (())))))
 else
 (if inI (st11 + 1) then
 (some (Sum.inl (st11 + 1)))
 else none)))
 else none)
 else
 (some (Sum.inr ((Sum.inr (())))))) : Option ((Int) ⊕ (Unit ⊕ Unit)))) 0) fun (y28 : Unit ⊕ Unit) => match y28 with
 | (Sum.inl j12) =>
 (some (Sum.inr ((Sum.inl (())))))
 | (Sum.inr j13) =>
 (if inI (st5 + 1) then
 (some (Sum.inl (st5 + 1)))
 else none))
 else none)
 else
 (some (Sum.inr ((Sum.inr (())))))) : Option ((Int) ⊕ (Unit ⊕ Unit)))) 0) fun (y31 : Unit ⊕ Unit) => match y31 with
 | (Sum.inl j6) =>
 (some false)
 | (Sum.inr j7) =>
 (Option.bind ((Option.bind (Z6c f b) fun x35 =>
 (if inI (x35 + ((List.length ((at_ f.blocks b).phis) : Int))) then
 (some (x35 + ((List.length ((at_ f.blocks b).phis) : Int))))
 else none))) fun (j33 : Int) =>
 (Option.bind (Y6 (fun (st40 : Int) =>
 ((if decide (st40 < ((List.length ((at_ f.blocks b).insts) : Int))) = true then
 (if 0 ≤ st40 ∧ st40 < (List.length ((at_ f.blocks b).insts) : Int) then
 (Option.bind (Z1i (at_ ((at_ f.blocks b).insts) st40)) fun x45 =>
 (Option.bind (Z8 x45 ((fun z0 => Z3w z0 f b j33 st40))) fun x47 =>
 (if x47 = true then
 (some (Sum.inr ((Sum.inl (())))))
 else
 (if inI (st40 + 1) then
 (some (Sum.inl (st40 + 1)))
 else none))))
 else none)
 else
 (some (Sum.inr ((Sum.inr (())))))) : Option ((Int) ⊕ (Unit ⊕ Unit)))) 0) fun (y51 : Unit ⊕ Unit) => match y51 with
 | (Sum.inl j41) =>
 (some false)
 | (Sum.inr j42) =>
 (Option.bind ((if (!((if ((((at_ f.blocks b).term).kind) == 1) = true then true else ((((at_ f.blocks b).term).kind) == 3)))) = true then
 (some true)
 else
 (Option.bind (Z1e f) fun x57 =>
 (Option.bind (Z3k f (((at_ f.blocks b).term).a) b x57) fun x59 =>
 (some x59))))) fun (j55 : Bool) =>
 (some j55))))))
 else none)
theorem Y8b {f : GFunc} {b : Int} {reached : List Bool} {r : Bool} (hm : Z6d f b reached = some r) : Sim Tryz.prog 150 [.agg (Z9 false f), .one (.int .i64 b), .one (.bs () 1 (List.map bL reached))] [] (.u (.one (.bool r))) [] := by
 refine fN 103 0 Tryz.func150 [.tmp 6] fun B hB0 => ?_
 unfold Z6d at hm
 refine yG ?_
 intro k1 hm
 refine nO (K8 T53 rfl (U6 rfl rfl) rfl ?_)
 refine yG ?_
 intro _ hm
 refine nO (kW ?_)
 refine yG ?_
 intro _ hm
 obtain ⟨x2, h3, hm⟩ := Z0 hm
 refine nO (Z6 (cB (Z6m h3) ?_))
 refine yG ?_
 intro k2 hm
 obtain ⟨y31, hl32, hm⟩ := Z0 hm
 refine J6 hl32 (fun (st5 : Int) => St 103 [(2, .u (.one (.bs () 1 (List.map bL reached)))), (3, vP 0), (4, vP 1), (7, vP 2), (8, vR 3 (List.length x2)), (26, .u (.one (.bs () 2 (List.map (ePhi false) ((at_ f.blocks b).phis))))), (27, vI ((List.length ((at_ f.blocks b).phis) : Int))), (28, vI st5)] [(0, oL 3 (Z9 false f)), (1, oL 1 [.int .i64 b]), (2, oL 6 (W2 false (at_ f.blocks b))), (3, oM 1 iL x2)] 4) (fun (y : Unit ⊕ Unit) => match y with | (Sum.inl j6) => (.ret, St 103 [(6, vB false)] [] 0) | (Sum.inr j7) => (.exit 0, St 103 [(3, vP 0), (4, vP 1), (7, vP 2)] [(0, oL 3 (Z9 false f)), (1, oL 1 [.int .i64 b]), (2, oL 6 (W2 false (at_ f.blocks b)))] 3)) (vW [0, 1, 2, 3]) ?_ (by rintro (_ | _) <;> simp) ?_
 intro st5 x hm
 refine yG ?_
 intro _ hm
 refine bS hm (fun hb8 hm => ?_) fun hb8 hm => ?_
 refine yG ?_
 intro k3 hm
 refine nO (K8 T55 rfl (U6 rfl rfl) rfl ?_)
 refine yG ?_
 intro k4 hm
 obtain ⟨y28, hl29, hm⟩ := Z0 hm
 refine J6 hl29 (fun (st11 : Int) => St 103 [(2, .u (.one (.bs () 1 (List.map bL reached)))), (3, vP 0), (4, vP 1), (7, vP 2), (8, vR 3 (List.length x2)), (26, .u (.one (.bs () 2 (List.map (ePhi false) ((at_ f.blocks b).phis))))), (27, vI ((List.length ((at_ f.blocks b).phis) : Int))), (28, vI st5), (33, .u (.one (.bs () 1 (List.map iL ((at_ ((at_ f.blocks b).phis) st5).ins))))), (34, vI ((List.length ((at_ ((at_ f.blocks b).phis) st5).ins) : Int))), (35, vI st11)] [(0, oL 3 (Z9 false f)), (1, oL 1 [.int .i64 b]), (2, oL 6 (W2 false (at_ f.blocks b))), (3, oM 1 iL x2)] 4) (fun (y : Unit ⊕ Unit) => match y with | (Sum.inl j12) => (.ret, St 103 [(6, vB false)] [] 0) | (Sum.inr j13) => (.exit 2, St 103 [(2, .u (.one (.bs () 1 (List.map bL reached)))), (3, vP 0), (4, vP 1), (7, vP 2), (8, vR 3 (List.length x2)), (26, .u (.one (.bs () 2 (List.map (ePhi false) ((at_ f.blocks b).phis))))), (27, vI ((List.length ((at_ f.blocks b).phis) : Int))), (28, vI st5)] [(0, oL 3 (Z9 false f)), (1, oL 1 [.int .i64 b]), (2, oL 6 (W2 false (at_ f.blocks b))), (3, oM 1 iL x2)] 4)) (vW [0, 1, 2, 3]) ?_ (by rintro (_ | _) <;> simp) ?_
 intro st11 x hm
 refine yG ?_
 intro _ hm
 refine bS hm (fun hb14 hm => ?_) fun hb14 hm => ?_
 refine K3 ?_
 refine Wp.seq ?_
 refine Wp.block ?_
 refine Wp.seq ?_
 refine X4 ?_
 refine yR ?_
 intro k5 hm
 refine W5 ?_
 refine Wp.seq ?_
 obtain ⟨j16, hj25, hm⟩ := Z0 hm
 refine V6 (St 103 [(2, .u (.one (.bs () 1 (List.map bL reached)))), (3, vP 0), (4, vP 1), (7, vP 2), (8, vR 3 (List.length x2)), (26, .u (.one (.bs () 2 (List.map (ePhi false) ((at_ f.blocks b).phis))))), (27, vI ((List.length ((at_ f.blocks b).phis) : Int))), (28, vI st5), (33, .u (.one (.bs () 1 (List.map iL ((at_ ((at_ f.blocks b).phis) st5).ins))))), (34, vI ((List.length ((at_ ((at_ f.blocks b).phis) st5).ins) : Int))), (35, vI st11), (58, vB j16)] [(0, oL 3 (Z9 false f)), (1, oL 1 [.int .i64 b]), (2, oL 6 (W2 false (at_ f.blocks b))), (3, oM 1 iL x2)] 4) ?_ ?_
 replace hm := hj25
 refine Z3m (Y := sysC _) Z3i ?_
 refine tK 0 0 rfl (kV ?_)
 refine tK 1 0 rfl (kV ?_)
 refine tK 2 0 rfl (kV ?_)
 obtain ⟨h17, hm⟩ := Y1 hm
 refine tK 3 1 rfl (Q2 rfl E24 rfl rfl rfl h17 ?_)
 refine tK 4 1 rfl (Z5q rfl T2 rfl rfl h17 rfl rfl ?_)
 obtain ⟨h18, hm⟩ := Y1 hm
 refine tK 5 0 rfl (Z8q E134 rfl rfl h18 ?_)
 refine tK 6 0 rfl (K8 T4 rfl rfl rfl ?_)
 refine tK 7 0 rfl (kV ?_)
 refine bT 47 hm (fun hb19 hm => ?_) fun hb19 hm => ?_
 refine tG 8 1 rfl (kW ?_)
 refine tG 9 0 rfl (kV ?_)
 refine tG 10 0 rfl (kV ?_)
 refine tG 11 0 rfl (kV ?_)
 obtain ⟨h20, hm⟩ := Y1 hm
 refine tG 12 1 rfl (Q2 rfl E24 rfl rfl rfl h20 ?_)
 refine tG 13 1 rfl (Z5q rfl T2 rfl rfl h20 rfl rfl ?_)
 refine tG 14 1 rfl (kW ?_)
 obtain ⟨x21, h22, hm⟩ := Z0 hm
 refine oG 15 rfl (cB (Z6n h22) ?_)
 obtain ⟨x23, h24, hm⟩ := Z0 hm
 refine oG 16 rfl (cB (Z9y h24) ?_)
 refine tG 17 0 rfl (x_un rfl rfl ?_)
 refine tK 18 0 rfl (x_pk rfl rfl rfl ?_)
 refine aN ?_
 cases hm
 exact vW [0, 1, 2, 3]
 refine tF 8 rfl ?_
 refine tF 9 rfl ?_
 refine tF 10 rfl ?_
 refine tF 11 rfl ?_
 refine tF 12 rfl ?_
 refine tF 13 rfl ?_
 refine tF 14 rfl ?_
 refine tF 15 rfl ?_
 refine tF 16 rfl ?_
 refine tF 17 rfl ?_
 refine tK 18 0 rfl (x_pk rfl rfl rfl ?_)
 refine aN ?_
 cases hm
 exact vW [0, 1, 2, 3]
 refine bS hm (fun hb26 hm => ?_) fun hb26 hm => ?_
 refine yG ?_
 intro _ hm
 cases hm
 exact ⟨rfl, vW []⟩
 refine yG ?_
 intro k6 hm
 cases hm
 exact ⟨rfl, vW [0, 1, 2, 3]⟩
 refine V2 ?_
 cases hm
 exact ⟨rfl, vW [0, 1, 2, 3]⟩
 rcases y28 with j12 | j13 <;> simp only at hm
 cases hm
 exact ⟨rfl, vW []⟩
 refine yG ?_
 intro k7 hm
 cases hm
 exact ⟨rfl, vW [0, 1, 2, 3]⟩
 refine V2 ?_
 cases hm
 exact ⟨rfl, vW [0, 1, 2]⟩
 rcases y31 with j6 | j7 <;> simp only at hm
 cases hm
 exact rZ1
 refine Wp.seq ?_
 obtain ⟨j33, hj38, hm⟩ := Z0 hm
 refine V6 (St 103 [(3, vP 0), (4, vP 1), (7, vP 2), (13, vP 3)] [(0, oL 3 (Z9 false f)), (1, oL 1 [.int .i64 b]), (2, oL 6 (W2 false (at_ f.blocks b))), (3, oL 1 [.int .i64 j33])] 4) ?_ ?_
 replace hm := hj38
 refine Z3m (Y := sysC _) Z3i ?_
 refine tK 0 1 rfl (kW ?_)
 refine tK 1 1 rfl (kD ?_)
 refine tK 3 1 rfl (kF ?_)
 refine tK 4 1 rfl (kD ?_)
 refine tK 5 0 rfl (Y7q N48 rfl fun hL34 => ?_)
 refine t_2 2 7 rfl rfl (by decide +kernel) ?_ ?_
 obtain ⟨x35, h36, hm⟩ := Z0 hm
 refine (cB (Y2f h36) ?_)
 obtain ⟨h37, hm⟩ := Y1 hm
 refine tK 6 0 rfl (Y4a T2 rfl rfl h37 ?_)
 refine oK 7 rfl (x_al T2 (r := [.int .i64 0]) rfl rfl ?_)
 refine oK 8 rfl (kS ?_)
 refine aN ?_
 cases hm
 exact vW [0, 1, 2, 3]
 refine (x_al T2 (r := [.int .i64 0]) rfl rfl ?_)
 obtain ⟨x35, h36, hm⟩ := Z0 hm
 refine oK 2 rfl (cB (Y2f h36) ?_)
 obtain ⟨h37, hm⟩ := Y1 hm
 refine tK 6 0 rfl (Y4a T2 rfl rfl h37 ?_)
 refine oK 8 rfl (kS ?_)
 refine aN ?_
 cases hm
 exact vW [0, 1, 2, 3]
 refine yG ?_
 intro k8 hm
 obtain ⟨y51, hl52, hm⟩ := Z0 hm
 refine J6 hl52 (fun (st40 : Int) => St 103 [(3, vP 0), (4, vP 1), (7, vP 2), (13, vP 3), (69, .u (.one (.bs () 7 (List.map (Q3 false) ((at_ f.blocks b).insts))))), (70, vI ((List.length ((at_ f.blocks b).insts) : Int))), (71, vI st40)] [(0, oL 3 (Z9 false f)), (1, oL 1 [.int .i64 b]), (2, oL 6 (W2 false (at_ f.blocks b))), (3, oL 1 [.int .i64 j33])] 4) (fun (y : Unit ⊕ Unit) => match y with | (Sum.inl j41) => (.ret, St 103 [(6, vB false)] [] 0) | (Sum.inr j42) => (.exit 4, St 103 [(3, vP 0), (4, vP 1), (7, vP 2)] [(0, oL 3 (Z9 false f)), (1, oL 1 [.int .i64 b]), (2, oL 6 (W2 false (at_ f.blocks b)))] 3)) (vW [0, 1, 2, 3]) ?_ (by rintro (_ | _) <;> simp) ?_
 intro st40 x hm
 refine yG ?_
 intro _ hm
 refine bS hm (fun hb43 hm => ?_) fun hb43 hm => ?_
 refine yG ?_
 intro k9 hm
 refine nO (K8 T29 rfl (U6 rfl rfl) rfl ?_)
 refine yG ?_
 intro _ hm
 refine nO (kW ?_)
 obtain ⟨x45, h46, hm⟩ := Z0 hm
 refine nO (Z6 (cB (Z9z h46) ?_))
 refine nO (x_mf (ls := [.ptr () 0 0 0, .ptr () 1 0 0, .ptr () 3 0 0, .ptr () 4 0 0]) rfl ?_)
 obtain ⟨x47, h48, hm⟩ := Z0 hm
 refine nO (Z6 (Z0e (v := .u (.one (.bool x47))) (nobs := []) (oa' := _) (nx' := 7) rfl (a_1 rfl (b_r rfl) (a_1 rfl (b_f (c_c (b_p rfl (Z8z rfl) rfl) (c_c (b_p (cs := [.int .i64 b]) rfl (c_c (b_s rfl) c_n) rfl) (c_c (b_p (cs := [.int .i64 j33]) rfl (c_c (b_s rfl) c_n) rfl) (c_c (b_p (cs := [.int .i64 st40]) rfl (c_c (b_s rfl) c_n) rfl) c_n))))) a_n)) c_n EntC.h (X6 x45 216 [.ip () (Z9 false f), .ip () [.int .i64 b], .ip () [.int .i64 j33], .ip () [.int .i64 st40]] (fun z0 => Z3w z0 f b j33 st40) EntC.h rfl (fun z0 y hy => Y5p hy) h48) rfl rfl rfl rfl ?_))
 refine W5 ?_
 refine bS hm (fun hb49 hm => ?_) fun hb49 hm => ?_
 refine yG ?_
 intro _ hm
 cases hm
 exact ⟨rfl, vW []⟩
 refine yG ?_
 intro k10 hm
 cases hm
 exact ⟨rfl, vW [0, 1, 2, 3]⟩
 refine V2 ?_
 cases hm
 exact ⟨rfl, vW [0, 1, 2]⟩
 rcases y51 with j41 | j42 <;> simp only at hm
 cases hm
 exact rZ1
 refine Wp.seq ?_
 refine V6 (St 103 [(3, vP 0), (4, vP 1), (7, vP 2), (16, vB ((if ((((at_ f.blocks b).term).kind) == 1) = true then true else ((((at_ f.blocks b).term).kind) == 3))))] [(0, oL 3 (Z9 false f)), (1, oL 1 [.int .i64 b]), (2, oL 6 (W2 false (at_ f.blocks b)))] 3) ?_ ?_
 refine yG ?_
 intro _ hm
 refine gO_s rfl rfl rfl (fun hb54 => ?_) (fun hb54 => ?_)
 refine yG ?_
 intro _ hm
 exact w_ [0, 1, 2] (.cons rfl rfl (.cons rfl rfl (.cons rfl rfl (.cons (by simp only [hb54, BO]; rfl) rfl .nil)))) (.lit rfl rfl (.lit rfl rfl (.lit rfl rfl .nil))) (by decide) (hB_0 hB0)
 refine yG ?_
 intro _ hm
 exact w_ [0, 1, 2] (.cons rfl rfl (.cons rfl rfl (.cons rfl rfl (.cons (by simp only [hb54, BO]; rfl) rfl .nil)))) (.lit rfl rfl (.lit rfl rfl (.lit rfl rfl .nil))) (by decide) (hB_0 hB0)
 refine Wp.seq ?_
 obtain ⟨j55, hj61, hm⟩ := Z0 hm
 refine V6 (St 103 [(6, vB j55)] [] 0) ?_ ?_
 replace hm := hj61
 refine Z3m (Y := sysC _) Z3i ?_
 refine tK 0 0 rfl (kV ?_)
 refine tK 1 0 rfl (x_un rfl rfl ?_)
 refine tK 2 0 rfl (kV ?_)
 refine bT 93 hm (fun hb56 hm => ?_) fun hb56 hm => ?_
 refine tF 3 rfl ?_
 refine tF 4 rfl ?_
 refine tF 5 rfl ?_
 refine tF 6 rfl ?_
 refine tF 7 rfl ?_
 refine tF 8 rfl ?_
 refine tF 9 rfl ?_
 refine tF 10 rfl ?_
 refine tK 11 0 rfl (x_pk rfl rfl rfl ?_)
 refine tK 12 0 rfl (x_as rfl rfl ?_)
 refine aN ?_
 cases hm
 exact vW []
 refine tG 3 1 rfl (kW ?_)
 refine tG 4 1 rfl (kF ?_)
 refine tG 5 1 rfl (kF ?_)
 refine tG 6 1 rfl (kD ?_)
 refine tG 7 1 rfl (kD ?_)
 refine tG 8 1 rfl (kW ?_)
 obtain ⟨x57, h58, hm⟩ := Z0 hm
 refine oG 9 rfl (cB (Z6n h58) ?_)
 obtain ⟨x59, h60, hm⟩ := Z0 hm
 refine oG 10 rfl (cB (Z9y h60) ?_)
 refine tK 11 0 rfl (x_pk rfl rfl rfl ?_)
 refine tK 12 0 rfl (x_as rfl rfl ?_)
 refine aN ?_
 cases hm
 exact vW []
 refine Z1s ?_
 cases hm
 exact rZ1
noncomputable def Z4e (m : GModule) (f : GFunc) : Option Int :=
 (Option.bind (Z6b f) fun x1 =>
 (if (!x1) = true then
 (some 2)
 else
 (Option.bind (Z6e f) fun x4 =>
 (if (!x4) = true then
 (some 3)
 else
 (Option.bind (Z4u f) fun x7 =>
 (if (!x7) = true then
 (some 4)
 else
 (Option.bind (Y6 (fun (st11 : Int) =>
 ((if decide (st11 < ((List.length f.blocks : Int))) = true then
 (if 0 ≤ st11 ∧ st11 < (List.length f.blocks : Int) then
 (Option.bind (Y2 ((at_ f.blocks st11).insts) ((fun z0 => Z3v z0 m f))) fun x16 =>
 (if x16 = true then
 (some (Sum.inr ((Sum.inl (())))))
 else
 (if inI (st11 + 1) then
 (some (Sum.inl (st11 + 1)))
 else none)))
 else none)
 else
 (some (Sum.inr ((Sum.inr (())))))) : Option ((Int) ⊕ (Unit ⊕ Unit)))) 0) fun (y20 : Unit ⊕ Unit) => match y20 with
 | (Sum.inl j12) =>
 (some 5)
 | (Sum.inr j13) =>
 (Option.bind (Z4s f ((-1))) fun x22 =>
 (Option.bind (Y6 (fun (st25 : Int) =>
 ((if decide (st25 < ((List.length x22 : Int))) = true then
 (if 0 ≤ st25 ∧ st25 < (List.length x22 : Int) then
 (Option.bind ((if at_ x22 st25 = true then
 (Option.bind (Z6d f st25 x22) fun x32 =>
 (some ((!x32))))
 else
 (some false))) fun (j30 : Bool) =>
 (if j30 = true then
 (some (Sum.inr ((Sum.inl (())))))
 else
 (if inI (st25 + 1) then
 (some (Sum.inl (st25 + 1)))
 else none)))
 else none)
 else
 (some (Sum.inr ((Sum.inr (())))))) : Option ((Int) ⊕ (Unit ⊕ Unit)))) 0) fun (y37 : Unit ⊕ Unit) => match y37 with
 | (Sum.inl j26) =>
 (some 6)
 | (Sum.inr j27) =>
 (some 0))))))))))
theorem Y2g {m : GModule} {f : GFunc} {r : Int} (hm : Z4e m f = some r) : Sim Tryz.prog 78 [.agg (K7 false m), .agg (Z9 false f)] [] (.u (.one (.int .i64 r))) [] := by
 refine fN 52 0 Tryz.func78 [.tmp 4] fun B hB0 => ?_
 unfold Z4e at hm
 refine yG ?_
 intro _ hm
 refine nO (kW ?_)
 obtain ⟨x1, h2, hm⟩ := Z0 hm
 refine nO (Z6 (cB (Y8a h2) ?_))
 refine yG ?_
 intro _ hm
 refine bS hm (fun hb3 hm => ?_) fun hb3 hm => ?_
 refine yG ?_
 intro _ hm
 cases hm
 exact rZ1
 refine Wp.seq ?_
 refine X4 ?_
 refine nO (kW ?_)
 obtain ⟨x4, h5, hm⟩ := Z0 hm
 refine nO (Z6 (cB (Y8c h5) ?_))
 refine yG ?_
 intro _ hm
 refine bS hm (fun hb6 hm => ?_) fun hb6 hm => ?_
 refine yG ?_
 intro _ hm
 cases hm
 exact rZ1
 refine Wp.seq ?_
 refine X4 ?_
 refine nO (kW ?_)
 obtain ⟨x7, h8, hm⟩ := Z0 hm
 refine nO (Z6 (cB (Y7a h8) ?_))
 refine yG ?_
 intro _ hm
 refine bS hm (fun hb9 hm => ?_) fun hb9 hm => ?_
 refine yG ?_
 intro _ hm
 cases hm
 exact rZ1
 refine yG ?_
 intro k1 hm
 obtain ⟨y20, hl21, hm⟩ := Z0 hm
 refine J6 hl21 (fun (st11 : Int) => St 52 [(2, vP 0), (3, vP 1), (23, .u (.one (.bs () 6 (List.map (W2 false) f.blocks)))), (24, vI ((List.length f.blocks : Int))), (25, vI st11)] [(0, oL 1 (K7 false m)), (1, oL 3 (Z9 false f))] 2) (fun (y : Unit ⊕ Unit) => match y with | (Sum.inl j12) => (.ret, St 52 [(4, vI 5)] [] 0) | (Sum.inr j13) => (.exit 1, St 52 [(3, vP 0)] [(0, oL 3 (Z9 false f))] 1)) (vW [0, 1]) ?_ (by rintro (_ | _) <;> simp) ?_
 intro st11 x hm
 refine yG ?_
 intro _ hm
 refine bS hm (fun hb14 hm => ?_) fun hb14 hm => ?_
 refine yG ?_
 intro k2 hm
 refine nO (K8 T53 rfl (U6 rfl rfl) rfl ?_)
 refine yG ?_
 intro _ hm
 refine nO (x_mf (ls := [.ptr () 0 0 0, .ptr () 1 0 0]) rfl ?_)
 obtain ⟨x16, h17, hm⟩ := Z0 hm
 refine nO (Z6 (Z0e (v := .u (.one (.bool x16))) (nobs := []) (oa' := _) (nx' := 3) rfl (a_1 rfl (b_s rfl) (a_1 rfl (b_f (c_c (b_p rfl (Z8z rfl) rfl) (c_c (b_p rfl (Z8z rfl) rfl) c_n))) a_n)) c_n EntC.h (U9 ((at_ f.blocks st11).insts) 147 [.ip () (K7 false m), .ip () (Z9 false f)] (fun z0 => Z3v z0 m f) EntC.h rfl (fun z0 y hy => Y5n hy) h17) rfl rfl rfl rfl ?_))
 refine W5 ?_
 refine bS hm (fun hb18 hm => ?_) fun hb18 hm => ?_
 refine yG ?_
 intro _ hm
 cases hm
 exact ⟨rfl, vW []⟩
 refine yG ?_
 intro k3 hm
 cases hm
 exact ⟨rfl, vW [0, 1]⟩
 refine V2 ?_
 cases hm
 exact ⟨rfl, vW [1]⟩
 rcases y20 with j12 | j13 <;> simp only at hm
 cases hm
 exact rZ1
 refine Wp.seq ?_
 refine X4 ?_
 refine nO (kW ?_)
 obtain ⟨x22, h23, hm⟩ := Z0 hm
 refine nO (Z6 (cB (Y0t h23) ?_))
 refine yG ?_
 intro k4 hm
 obtain ⟨y37, hl38, hm⟩ := Z0 hm
 refine J6 hl38 (fun (st25 : Int) => St 52 [(3, vP 0), (7, vR 1 (List.length x22)), (36, vR 1 (List.length x22)), (37, vI ((List.length x22 : Int))), (38, vI st25)] [(0, oL 3 (Z9 false f)), (1, oM 1 bL x22)] 2) (fun (y : Unit ⊕ Unit) => match y with | (Sum.inl j26) => (.ret, St 52 [(4, vI 6)] [] 0) | (Sum.inr j27) => (.exit 3, St 52 [] [] 0)) (vW [0, 1]) ?_ (by rintro (_ | _) <;> simp) ?_
 intro st25 x hm
 refine yG ?_
 intro _ hm
 refine bS hm (fun hb28 hm => ?_) fun hb28 hm => ?_
 refine K3 ?_
 refine Wp.seq ?_
 refine Wp.block ?_
 refine Wp.seq ?_
 refine X4 ?_
 refine yR ?_
 intro k5 hm
 refine W5 ?_
 refine Wp.seq ?_
 obtain ⟨j30, hj34, hm⟩ := Z0 hm
 refine V6 (St 52 [(3, vP 0), (7, vR 1 (List.length x22)), (36, vR 1 (List.length x22)), (37, vI ((List.length x22 : Int))), (38, vI st25), (50, vB j30)] [(0, oL 3 (Z9 false f)), (1, oM 1 bL x22)] 2) ?_ ?_
 replace hm := hj34
 refine yG ?_
 intro _ hm
 refine bG1 hm (fun hb31 hm => ?_) fun hb31 hm => ?_
 refine gO_t rfl rfl rfl (kW ?_)
 refine yG ?_
 intro _ hm
 obtain ⟨x32, h33, hm⟩ := Z0 hm
 refine gO_t rfl rfl rfl (Z6 (cB (Y8b h33) ?_))
 refine yG ?_
 intro _ hm
 cases hm
 exact vW [0, 1]
 refine yG ?_
 intro _ hm
 cases hm
 exact vW [0, 1]
 refine bS hm (fun hb35 hm => ?_) fun hb35 hm => ?_
 refine yG ?_
 intro _ hm
 cases hm
 exact ⟨rfl, vW []⟩
 refine yG ?_
 intro k6 hm
 cases hm
 exact ⟨rfl, vW [0, 1]⟩
 refine V2 ?_
 cases hm
 exact ⟨rfl, vW []⟩
 rcases y37 with j26 | j27 <;> simp only at hm
 cases hm
 exact rZ1
 refine yG ?_
 intro _ hm
 cases hm
 exact rZ1
end
section
set_option maxHeartbeats 8000000
set_option maxRecDepth 100000
attribute [local irreducible] aopK K0 Wp St WpO
noncomputable def Z6f (m : GModule) : Option Int :=
 (Option.bind (Q4 m) fun x1 =>
 (if (!x1) = true then
 (some 1)
 else
 (Option.bind (Y6 (fun (st5 : Int) =>
 ((if decide (st5 < ((List.length m.funcs : Int))) = true then
 (if 0 ≤ st5 ∧ st5 < (List.length m.funcs : Int) then
 (Option.bind (Z4e m (at_ m.funcs st5)) fun x10 =>
 (if (x10 != 0) = true then
 (some (Sum.inr ((Sum.inl x10))))
 else
 (if inI (st5 + 1) then
 (some (Sum.inl (st5 + 1)))
 else none)))
 else none)
 else
 (some (Sum.inr ((Sum.inr (())))))) : Option ((Int) ⊕ (Int ⊕ Unit)))) 0) fun (y14 : Int ⊕ Unit) => match y14 with
 | (Sum.inl j6) =>
 (some j6)
 | (Sum.inr j7) =>
 (some 0))))
theorem Y8e {m : GModule} {r : Int} (hm : Z6f m = some r) : Sim Tryz.prog 22 [.agg (K7 false m)] [] (.u (.one (.int .i64 r))) [] := by
 refine fN 23 0 Tryz.func22 [.tmp 2] fun B hB0 => ?_
 unfold Z6f at hm
 refine yG ?_
 intro _ hm
 refine nO (kW ?_)
 obtain ⟨x1, h2, hm⟩ := Z0 hm
 refine nO (Z6 (cB (Z1z h2) ?_))
 refine yG ?_
 intro _ hm
 refine bS hm (fun hb3 hm => ?_) fun hb3 hm => ?_
 refine yG ?_
 intro _ hm
 cases hm
 exact rZ1
 refine yG ?_
 intro k1 hm
 obtain ⟨y14, hl15, hm⟩ := Z0 hm
 refine J6 hl15 (fun (st5 : Int) => St 23 [(1, vP 0), (10, .u (.one (.bs () 3 (List.map (Z9 false) m.funcs)))), (11, vI ((List.length m.funcs : Int))), (12, vI st5)] [(0, oL 1 (K7 false m))] 1) (fun (y : Int ⊕ Unit) => match y with | (Sum.inl j6) => (.ret, St 23 [(2, vI j6)] [] 0) | (Sum.inr j7) => (.exit 0, St 23 [] [] 0)) (vW [0]) ?_ (by rintro (_ | _) <;> simp) ?_
 intro st5 x hm
 refine yG ?_
 intro _ hm
 refine bS hm (fun hb8 hm => ?_) fun hb8 hm => ?_
 refine yG ?_
 intro k2 hm
 refine nO (K8 T27 rfl (U6 rfl rfl) rfl ?_)
 refine yG ?_
 intro _ hm
 refine nO (kW ?_)
 refine nO (kW ?_)
 obtain ⟨x10, h11, hm⟩ := Z0 hm
 refine nO (Z6 (cB (Y2g h11) ?_))
 refine yG ?_
 intro _ hm
 refine bS hm (fun hb12 hm => ?_) fun hb12 hm => ?_
 refine yG ?_
 intro _ hm
 cases hm
 exact ⟨rfl, vW []⟩
 refine yG ?_
 intro k3 hm
 cases hm
 exact ⟨rfl, vW [0]⟩
 refine V2 ?_
 cases hm
 exact ⟨rfl, vW []⟩
 rcases y14 with j6 | j7 <;> simp only at hm
 cases hm
 exact rZ1
 refine yG ?_
 intro _ hm
 cases hm
 exact rZ1
noncomputable def Z0f (code : List Int) : Option (GModule × Int) :=
 (Option.bind (Z0s ((Z3c code))) fun x1 =>
 (Option.bind ((if inI (((List.length x1.1.funcs : Int)) - 1) then
 (Option.bind (V0 x1.2 0 (((List.length x1.1.funcs : Int)) - 1)) fun x6 =>
 (some x6.1))
 else none)) fun (j3 : Int) =>
 (some ((({ funcs := x1.1.funcs } : GModule), j3)))))
theorem Y0x {code : List Int} {r : GModule × Int} (hm : Z0f code = some r) : Sim Tryz.prog 23 [.one (.bs () 1 (List.map (iK .u8) code))] [] (.tup [.agg [.os () 3 (List.map (Z9 false) r.1.funcs)], .one (.int .i64 r.2)]) [] := by
 refine fN 17 0 Tryz.func23 [.cell 2 40, .tmp 3] fun B hB0 => ?_
 unfold Z0f at hm
 refine yG ?_
 intro _ hm
 refine nO (cG [] (Y2s code) ?_)
 refine yG ?_
 intro _ hm
 obtain ⟨x1, h2, hm⟩ := Z0 hm
 refine nO (cG [1] (Z9b h2) ?_)
 refine yR ?_
 intro _ hm
 refine W5 ?_
 refine Wp.seq ?_
 obtain ⟨j3, hj8, hm⟩ := Z0 hm
 refine V6 (St 17 [(2, vP 0), (3, vI j3)] [(0, oL 1 [.ref () 1 0 (List.length x1.1.funcs)]), (1, oM 3 (Z9 false) x1.1.funcs)] 2) ?_ ?_
 replace hm := hj8
 refine Z3m (Y := sysG _) Z3i ?_
 refine tK 1 0 rfl (kV ?_)
 refine tD 2 1 [3, 4, 5, 6, 7, 8] rfl (kF ?_)
 refine tD 3 1 [4, 5, 6, 7, 8] rfl (kD ?_)
 refine tD 4 1 [5, 6, 7, 8] rfl (X6k rfl N38 rfl rfl fun hL4 => ?_)
 obtain ⟨h5, hm⟩ := Y1 hm
 refine tK 5 0 rfl (X7v T2 rfl rfl h5 ?_)
 refine t_2 0 6 rfl rfl (by decide +kernel) ?_ ?_
 refine (kW ?_)
 obtain ⟨x6, h7, hm⟩ := Z0 hm
 refine oK 6 rfl (cgG [1] (Y0 h7) ?_)
 refine oK 7 rfl (kS ?_)
 refine tK 8 0 rfl (x_as rfl rfl ?_)
 refine aN ?_
 cases hm
 exact vW [0, 2]
 obtain ⟨x6, h7, hm⟩ := Z0 hm
 refine (cgG [1] (Y0 h7) ?_)
 refine tK 0 1 rfl (kW ?_)
 refine oK 7 rfl (kS ?_)
 refine tK 8 0 rfl (x_as rfl rfl ?_)
 refine aN ?_
 cases hm
 exact vW [0, 2]
 refine Z1s ?_
 cases hm
 exact rZth (hg := Z3b 0 0 rfl rfl rfl rfl)
noncomputable def Z3d (l : List Int) : Option (List Int) :=
 (if (List.length (([] : List Int)) + List.length l) * 8 ≤ 140737488355328 ∧ List.length (([] : List Int)) + List.length l ≤ LIM then
 (some ((([] : List Int)) ++ l))
 else none)
theorem Y2t {l : List Int} {r : List Int} (hm : Z3d l = some r) : Sim Tryz.prog 98 [.one (.bs () 1 (List.map iL l))] [] (.u (.one (.os () 1 (List.map iL r)))) [] := by
 refine fN 6 0 Tryz.func98 [.tmp 2] fun B hB0 => ?_
 unfold Z3d at hm
 refine yG ?_
 intro _ hm
 refine nO (kM (iL) (([] : List Int)) ?_)
 refine yG ?_
 intro k1 hm
 cases hm
 exact rZ1h (hg := Z3b 0 0 rfl rfl rfl rfl)
end
section
set_option maxHeartbeats 8000000
set_option maxRecDepth 100000
attribute [local irreducible] aopK K0 Wp St WpO
noncomputable def Z1f (i : GInst) : Option (List Int) :=
 (if ((Z7 i.op_ 1 17) || (i.op_ == 24)) = true then
 (some ([i.a, i.b]))
 else
 (if ((Z7 i.op_ 18 20) || ((i.op_ == 23) || ((i.op_ == 25) || (i.op_ == 27)))) = true then
 (some ([i.a]))
 else
 (if (i.op_ == 22) = true then
 (some ([i.a, i.b, i.c]))
 else
 (if (i.op_ == 26) = true then
 (Option.bind (Z3d i.args) fun x11 =>
 (some x11))
 else
 (some (([] : List Int)))))))
theorem Z9q {i : GInst} {r : List Int} (hm : Z1f i = some r) : Sim Tryz.prog 134 [.agg (Q3 false i)] [] (.u (.one (.os () 1 (List.map iL r)))) [] := by
 refine fN 50 0 Tryz.func134 [.tmp 2] fun B hB0 => ?_
 unfold Z1f at hm
 refine Wp.seq ?_
 refine X4 ?_
 refine yR ?_
 intro _ hm
 refine W5 ?_
 refine Wp.seq ?_
 refine Wp.block ?_
 refine Wp.seq ?_
 refine V6 (St 50 [(1, vP 0), (3, vB (((Z7 i.op_ 1 17) || (i.op_ == 24))))] [(0, oL 7 (Q3 false i))] 1) ?_ ?_
 refine yG ?_
 intro _ hm
 refine nO (Z6 (cB (V3 i.op_ 1 17) ?_))
 refine yG ?_
 intro _ hm
 refine c_s rfl rfl (fun hb2 => ?_) (fun hb2 => ?_)
 refine K3 ?_
 exact w_ [0] (.cons rfl rfl (.cons (by simp only [hb2, BO]; rfl) rfl .nil)) (.lit rfl rfl .nil) (by decide) (hB_0 hB0)
 refine yG ?_
 intro _ hm
 exact w_ [0] (.cons rfl rfl (.cons (by simp only [hb2, BO]; rfl) rfl .nil)) (.lit rfl rfl .nil) (by decide) (hB_0 hB0)
 refine bS hm (fun hb3 hm => ?_) fun hb3 hm => ?_
 refine yG ?_
 intro _ hm
 refine nO (kM (iL) ([i.a, i.b]) ?_)
 refine yG ?_
 intro _ hm
 cases hm
 exact rZ1h (hg := Z3b 0 0 rfl rfl rfl rfl)
 refine Wp.seq ?_
 refine V6 (St 50 [(1, vP 0), (15, vB (((Z7 i.op_ 18 20) || ((i.op_ == 23) || ((i.op_ == 25) || (i.op_ == 27))))))] [(0, oL 7 (Q3 false i))] 1) ?_ ?_
 refine yG ?_
 intro _ hm
 refine nO (Z6 (cB (V3 i.op_ 18 20) ?_))
 refine yG ?_
 intro _ hm
 refine c_s rfl rfl (fun hb5 => ?_) (fun hb5 => ?_)
 refine K3 ?_
 exact w_ [0] (.cons rfl rfl (.cons (by simp only [hb5, BO]; rfl) rfl .nil)) (.lit rfl rfl .nil) (by decide) (hB_0 hB0)
 refine yG ?_
 intro _ hm
 refine c_s rfl rfl (fun hb6 => ?_) (fun hb6 => ?_)
 refine K3 ?_
 exact w_ [0] (.cons rfl rfl (.cons (by simp only [hb5, hb6, BO]; rfl) rfl .nil)) (.lit rfl rfl .nil) (by decide) (hB_0 hB0)
 refine yG ?_
 intro _ hm
 refine c_s rfl rfl (fun hb7 => ?_) (fun hb7 => ?_)
 refine K3 ?_
 exact w_ [0] (.cons rfl rfl (.cons (by simp only [hb5, hb6, hb7, BO]; rfl) rfl .nil)) (.lit rfl rfl .nil) (by decide) (hB_0 hB0)
 refine yG ?_
 intro _ hm
 exact w_ [0] (.cons rfl rfl (.cons (by simp only [hb5, hb6, hb7, BO]; rfl) rfl .nil)) (.lit rfl rfl .nil) (by decide) (hB_0 hB0)
 refine bS hm (fun hb8 hm => ?_) fun hb8 hm => ?_
 refine yG ?_
 intro _ hm
 refine nO (kM (iL) ([i.a]) ?_)
 refine yG ?_
 intro _ hm
 cases hm
 exact rZ1h (hg := Z3b 0 0 rfl rfl rfl rfl)
 refine yG ?_
 intro _ hm
 refine bS hm (fun hb9 hm => ?_) fun hb9 hm => ?_
 refine yG ?_
 intro _ hm
 refine nO (kM (iL) ([i.a, i.b, i.c]) ?_)
 refine yG ?_
 intro _ hm
 cases hm
 exact rZ1h (hg := Z3b 0 0 rfl rfl rfl rfl)
 refine yG ?_
 intro _ hm
 refine bS hm (fun hb10 hm => ?_) fun hb10 hm => ?_
 refine yG ?_
 intro _ hm
 obtain ⟨x11, h12, hm⟩ := Z0 hm
 refine nO (Z6 (cB (Y2t h12) ?_))
 refine yG ?_
 intro _ hm
 cases hm
 exact rZ1h (hg := Z3b 0 0 rfl rfl rfl rfl)
 refine yG ?_
 intro _ hm
 refine nO (kM (iL) (([] : List Int)) ?_)
 refine yG ?_
 intro _ hm
 cases hm
 exact rZ1h (hg := Z3b 0 0 rfl rfl rfl rfl)
noncomputable def Y0f (w : Int) : Option Int :=
 (if 0 ≤ (IntKind.u64.wrap w) then
 (some (IntKind.i64.wrap (1 * 2 ^ min (Int.toNat (IntKind.u64.wrap w)) (IntKind.bits .i64))))
 else none)
theorem X1h {w : Int} {r : Int} (hm : Y0f w = some r) : Sim Tryz.prog 204 [.one (.int .i64 w)] [] (.u (.one (.int .i64 r))) [] := by
 refine fN 6 0 Tryz.func204 [.tmp 2] fun B hB0 => ?_
 unfold Y0f at hm
 refine yG ?_
 intro k1 hm
 cases hm
 exact rZ1
noncomputable def Z5t (w : Int) (v : Int) : Option Bool :=
 (Option.bind ((if (Y4 w) = true then
 (Option.bind (Y0f w) fun x3 =>
 (if inI (x3 - 1) then
 (some ((Z7 v 0 (x3 - 1))))
 else none))
 else
 (some false))) fun (j1 : Bool) =>
 (some j1))
theorem Y7t {w : Int} {v : Int} {r : Bool} (hm : Z5t w v = some r) : Sim Tryz.prog 135 [.one (.int .i64 w), .one (.int .i64 v)] [] (.u (.one (.bool r))) [] := by
 refine fN 14 0 Tryz.func135 [.tmp 4] fun B hB0 => ?_
 unfold Z5t at hm
 refine Wp.seq ?_
 refine X4 ?_
 refine nO (x_as rfl rfl ?_)
 refine W5 ?_
 refine Wp.seq ?_
 obtain ⟨j1, hj6, hm⟩ := Z0 hm
 refine V6 (St 14 [(4, vB j1)] [] 0) ?_ ?_
 replace hm := hj6
 refine yG ?_
 intro _ hm
 refine nO (Z6 (cB (Z1v w) ?_))
 refine yG ?_
 intro _ hm
 refine bG1 hm (fun hb2 hm => ?_) fun hb2 hm => ?_
 refine yG ?_
 intro _ hm
 obtain ⟨x3, h4, hm⟩ := Z0 hm
 refine gO_t rfl rfl rfl (Z6 (cB (X1h h4) ?_))
 refine yG ?_
 intro k1 hm
 refine gO_t rfl rfl rfl (Z6 (cB (V3 v 0 (x3 - 1)) ?_))
 refine yG ?_
 intro _ hm
 cases hm
 exact vW []
 refine yG ?_
 intro _ hm
 cases hm
 exact vW []
 refine Z1s ?_
 cases hm
 exact rZ1
noncomputable def Z0j (i : GInst) (count : Int) (funcs : Int) : Option Bool :=
 (if ((!((Z7 i.op_ 1 27))) || ((i.op_ != 26) && decide (((List.length i.args : Int)) > 0))) = true then
 (some false)
 else
 (Option.bind (Z1f i) fun x6 =>
 (Option.bind (Y6 (fun (st8 : Int) =>
 ((if decide (st8 < ((List.length x6 : Int))) = true then
 (if 0 ≤ st8 ∧ st8 < (List.length x6 : Int) then
 (if inI (count - 1) then
 (if (!((Z7 (at_ x6 st8) 0 (count - 1)))) = true then
 (some (Sum.inr ((Sum.inl (())))))
 else
 (if inI (st8 + 1) then
 (some (Sum.inl (st8 + 1)))
 else none))
 else none)
 else none)
 else
 (some (Sum.inr ((Sum.inr (())))))) : Option ((Int) ⊕ (Unit ⊕ Unit)))) 0) fun (y17 : Unit ⊕ Unit) => match y17 with
 | (Sum.inl j9) =>
 (some false)
 | (Sum.inr j10) =>
 (if (if (!((((i.op_ == 24) || (i.op_ == 25))) == ((i.w == 0)))) = true then true else (if (!(((i.op_ == 24) || (i.op_ == 25)))) = true then ((!((Y4 i.w))) || decide (((List.length i.args : Int)) > 4)) else decide (((List.length i.args : Int)) > 4))) = true then
 (some false)
 else
 (if (if decide (((if (i.op_ == 26) = true then 0 else (List.length x6 : Int))) < 1) = true then (if (i.a != 0) = true then true else (if decide (((if (i.op_ == 26) = true then 0 else (List.length x6 : Int))) < 2) = true then (if (i.b != 0) = true then true else (if decide (((if (i.op_ == 26) = true then 0 else (List.length x6 : Int))) < 3) = true then (i.c != 0) else false)) else (if decide (((if (i.op_ == 26) = true then 0 else (List.length x6 : Int))) < 3) = true then (i.c != 0) else false))) else (if decide (((if (i.op_ == 26) = true then 0 else (List.length x6 : Int))) < 2) = true then (if (i.b != 0) = true then true else (if decide (((if (i.op_ == 26) = true then 0 else (List.length x6 : Int))) < 3) = true then (i.c != 0) else false)) else (if decide (((if (i.op_ == 26) = true then 0 else (List.length x6 : Int))) < 3) = true then (i.c != 0) else false))) = true then
 (some false)
 else
 (if (i.op_ == 21) = true then
 (Option.bind (Z5t i.w i.imm) fun x44 =>
 (some x44))
 else
 (if (i.op_ == 26) = true then
 (if inI (funcs - 1) then
 (some ((Z7 i.imm 0 (funcs - 1))))
 else none)
 else
 (if (i.op_ == 23) = true then
 (some (((i.w == 8) && (i.imm == 0))))
 else
 (some ((i.imm == 0)))))))))))
theorem Y9j {i : GInst} {count : Int} {funcs : Int} {r : Bool} (hm : Z0j i count funcs = some r) : Sim Tryz.prog 75 [.agg (Q3 false i), .one (.int .i64 count), .one (.int .i64 funcs)] [] (.u (.one (.bool r))) [] := by
 refine fN 130 0 Tryz.func75 [.tmp 6] fun B hB0 => ?_
 unfold Z0j at hm
 refine Wp.seq ?_
 refine X4 ?_
 refine yR ?_
 intro _ hm
 refine W5 ?_
 refine Wp.seq ?_
 refine Wp.seq ?_
 refine V6 (St 130 [(1, vI count), (2, vI funcs), (3, vP 0), (25, vB (((!((Z7 i.op_ 1 27))) || ((i.op_ != 26) && decide (((List.length i.args : Int)) > 0)))))] [(0, oL 7 (Q3 false i))] 1) ?_ ?_
 refine yG ?_
 intro _ hm
 refine nO (Z6 (cB (V3 i.op_ 1 27) ?_))
 refine yG ?_
 intro _ hm
 refine gO_s rfl rfl rfl (fun hb2 => ?_) (fun hb2 => ?_)
 refine yG ?_
 intro _ hm
 refine gO_s rfl rfl rfl (fun hb3 => ?_) (fun hb3 => ?_)
 refine yG ?_
 intro k1 hm
 exact w_ [0] (.cons rfl rfl (.cons rfl rfl (.cons rfl rfl (.cons (by simp only [hb2, hb3, BO]; rfl) rfl .nil)))) (.lit rfl rfl .nil) (by decide) (hB_0 hB0)
 refine yG ?_
 intro _ hm
 exact w_ [0] (.cons rfl rfl (.cons rfl rfl (.cons rfl rfl (.cons (by simp only [hb2, hb3, BO]; rfl) rfl .nil)))) (.lit rfl rfl .nil) (by decide) (hB_0 hB0)
 refine yG ?_
 intro _ hm
 exact w_ [0] (.cons rfl rfl (.cons rfl rfl (.cons rfl rfl (.cons (by simp only [hb2, BO]; rfl) rfl .nil)))) (.lit rfl rfl .nil) (by decide) (hB_0 hB0)
 refine bS hm (fun hb5 hm => ?_) fun hb5 hm => ?_
 refine yG ?_
 intro _ hm
 cases hm
 exact rZ1
 refine yG ?_
 intro _ hm
 refine nO (kW ?_)
 obtain ⟨x6, h7, hm⟩ := Z0 hm
 refine nO (Z6 (cB (Z9q h7) ?_))
 refine yG ?_
 intro _ hm
 obtain ⟨y17, hl18, hm⟩ := Z0 hm
 refine J6 hl18 (fun (st8 : Int) => St 130 [(1, vI count), (2, vI funcs), (3, vP 0), (7, vR 1 (List.length x6)), (8, vI st8)] [(0, oL 7 (Q3 false i)), (1, oM 1 iL x6)] 2) (fun (y : Unit ⊕ Unit) => match y with | (Sum.inl j9) => (.ret, St 130 [(6, vB false)] [] 0) | (Sum.inr j10) => (.exit 0, St 130 [(2, vI funcs), (3, vP 0), (7, vR 1 (List.length x6))] [(0, oL 7 (Q3 false i)), (1, oM 1 iL x6)] 2)) (vW [0, 1]) ?_ (by rintro (_ | _) <;> simp) ?_
 intro st8 x hm
 refine yG ?_
 intro k2 hm
 refine bS hm (fun hb12 hm => ?_) fun hb12 hm => ?_
 refine yG ?_
 intro k3 hm
 refine nO (Z6 (cB (V3 (at_ x6 st8) 0 (count - 1)) ?_))
 refine yG ?_
 intro _ hm
 refine bS hm (fun hb15 hm => ?_) fun hb15 hm => ?_
 refine yG ?_
 intro _ hm
 cases hm
 exact ⟨rfl, vW []⟩
 refine yG ?_
 intro k4 hm
 cases hm
 exact ⟨rfl, vW [0, 1]⟩
 refine V2 ?_
 cases hm
 exact ⟨rfl, vW [0, 1]⟩
 rcases y17 with j9 | j10 <;> simp only at hm
 cases hm
 exact rZ1
 refine Wp.seq ?_
 refine V6 (St 130 [(2, vI funcs), (3, vP 0), (7, vR 1 (List.length x6)), (9, vB (((i.op_ == 24) || (i.op_ == 25))))] [(0, oL 7 (Q3 false i)), (1, oM 1 iL x6)] 2) ?_ ?_
 refine yG ?_
 intro _ hm
 refine gO_s rfl rfl rfl (fun hb20 => ?_) (fun hb20 => ?_)
 refine yG ?_
 intro _ hm
 exact w_ [0, 1] (.cons rfl rfl (.cons rfl rfl (.cons rfl rfl (.cons (by simp only [hb20, BO]; rfl) rfl .nil)))) (.lit rfl rfl (.map rfl .nil)) (by decide) (hB_0 hB0)
 refine yG ?_
 intro _ hm
 exact w_ [0, 1] (.cons rfl rfl (.cons rfl rfl (.cons rfl rfl (.cons (by simp only [hb20, BO]; rfl) rfl .nil)))) (.lit rfl rfl (.map rfl .nil)) (by decide) (hB_0 hB0)
 refine Wp.seq ?_
 refine Wp.seq ?_
 refine V6 (St 130 [(2, vI funcs), (3, vP 0), (7, vR 1 (List.length x6)), (70, vB ((if (!((((i.op_ == 24) || (i.op_ == 25))) == ((i.w == 0)))) = true then true else (if (!(((i.op_ == 24) || (i.op_ == 25)))) = true then ((!((Y4 i.w))) || decide (((List.length i.args : Int)) > 4)) else decide (((List.length i.args : Int)) > 4)))))] [(0, oL 7 (Q3 false i)), (1, oM 1 iL x6)] 2) ?_ ?_
 refine yG ?_
 intro _ hm
 refine gO_s rfl rfl rfl (fun hb22 => ?_) (fun hb22 => ?_)
 refine yG ?_
 intro _ hm
 refine gO_s rfl rfl rfl (fun hb23 => ?_) (fun hb23 => ?_)
 refine yG ?_
 intro _ hm
 refine gO_t rfl rfl rfl (Z6 (cB (Z1v i.w) ?_))
 refine yG ?_
 intro _ hm
 refine gO_s rfl rfl rfl (fun hb24 => ?_) (fun hb24 => ?_)
 refine yG ?_
 intro k5 hm
 exact w_ [0, 1] (.cons rfl rfl (.cons rfl rfl (.cons rfl rfl (.cons (by simp only [hb22, hb23, hb24, BO]; rfl) rfl .nil)))) (.lit rfl rfl (.map rfl .nil)) (by decide) (hB_0 hB0)
 refine yG ?_
 intro _ hm
 exact w_ [0, 1] (.cons rfl rfl (.cons rfl rfl (.cons rfl rfl (.cons (by simp only [hb22, hb23, hb24, BO]; rfl) rfl .nil)))) (.lit rfl rfl (.map rfl .nil)) (by decide) (hB_0 hB0)
 refine yG ?_
 intro k6 hm
 exact w_ [0, 1] (.cons rfl rfl (.cons rfl rfl (.cons rfl rfl (.cons (by simp only [hb22, hb23, BO]; rfl) rfl .nil)))) (.lit rfl rfl (.map rfl .nil)) (by decide) (hB_0 hB0)
 refine yG ?_
 intro _ hm
 exact w_ [0, 1] (.cons rfl rfl (.cons rfl rfl (.cons rfl rfl (.cons (by simp only [hb22, BO]; rfl) rfl .nil)))) (.lit rfl rfl (.map rfl .nil)) (by decide) (hB_0 hB0)
 refine bS hm (fun hb27 hm => ?_) fun hb27 hm => ?_
 refine yG ?_
 intro _ hm
 cases hm
 exact rZ1
 refine K3 ?_
 refine Wp.seq ?_
 refine X4 ?_
 refine yR ?_
 intro k7 hm
 refine W5 ?_
 refine Wp.seq ?_
 refine V6 (St 130 [(2, vI funcs), (3, vP 0), (10, vI ((if (i.op_ == 26) = true then 0 else (List.length x6 : Int))))] [(0, oL 7 (Q3 false i))] 1) ?_ ?_
 refine yG ?_
 intro _ hm
 refine c_s rfl rfl (fun hb30 => ?_) (fun hb30 => ?_)
 refine yG ?_
 intro _ hm
 exact w_ [0] (.cons rfl rfl (.cons rfl rfl (.cons (by simp only [hb30, BO]; rfl) rfl .nil))) (.lit rfl rfl .nil) (by decide) (hB_0 hB0)
 refine K3 ?_
 exact w_ [0] (.cons rfl rfl (.cons rfl rfl (.cons (by simp only [hb30, BO]; rfl) rfl .nil))) (.lit rfl rfl .nil) (by decide) (hB_0 hB0)
 refine Wp.seq ?_
 refine Wp.seq ?_
 refine V6 (St 130 [(2, vI funcs), (3, vP 0), (100, vB ((if decide (((if (i.op_ == 26) = true then 0 else (List.length x6 : Int))) < 1) = true then (if (i.a != 0) = true then true else (if decide (((if (i.op_ == 26) = true then 0 else (List.length x6 : Int))) < 2) = true then (if (i.b != 0) = true then true else (if decide (((if (i.op_ == 26) = true then 0 else (List.length x6 : Int))) < 3) = true then (i.c != 0) else false)) else (if decide (((if (i.op_ == 26) = true then 0 else (List.length x6 : Int))) < 3) = true then (i.c != 0) else false))) else (if decide (((if (i.op_ == 26) = true then 0 else (List.length x6 : Int))) < 2) = true then (if (i.b != 0) = true then true else (if decide (((if (i.op_ == 26) = true then 0 else (List.length x6 : Int))) < 3) = true then (i.c != 0) else false)) else (if decide (((if (i.op_ == 26) = true then 0 else (List.length x6 : Int))) < 3) = true then (i.c != 0) else false)))))] [(0, oL 7 (Q3 false i))] 1) ?_ ?_
 refine yG ?_
 intro _ hm
 refine gO_s rfl rfl rfl (fun hb32 => ?_) (fun hb32 => ?_)
 refine yG ?_
 intro _ hm
 refine gO_s rfl rfl rfl (fun hb33 => ?_) (fun hb33 => ?_)
 refine yG ?_
 intro _ hm
 refine gO_s rfl rfl rfl (fun hb34 => ?_) (fun hb34 => ?_)
 refine yG ?_
 intro _ hm
 refine gO_s rfl rfl rfl (fun hb35 => ?_) (fun hb35 => ?_)
 refine yG ?_
 intro _ hm
 refine gO_s rfl rfl rfl (fun hb36 => ?_) (fun hb36 => ?_)
 refine yG ?_
 intro _ hm
 exact w_ [0] (.cons rfl rfl (.cons rfl rfl (.cons (by simp only [hb32, hb33, hb34, hb35, hb36, BO]; rfl) rfl .nil))) (.lit rfl rfl .nil) (by decide) (hB_0 hB0)
 refine yG ?_
 intro _ hm
 exact w_ [0] (.cons rfl rfl (.cons rfl rfl (.cons (by simp only [hb32, hb33, hb34, hb35, hb36, BO]; rfl) rfl .nil))) (.lit rfl rfl .nil) (by decide) (hB_0 hB0)
 refine yG ?_
 intro _ hm
 exact w_ [0] (.cons rfl rfl (.cons rfl rfl (.cons (by simp only [hb32, hb33, hb34, hb35, BO]; rfl) rfl .nil))) (.lit rfl rfl .nil) (by decide) (hB_0 hB0)
 refine yG ?_
 intro _ hm
 refine gO_s rfl rfl rfl (fun hb37 => ?_) (fun hb37 => ?_)
 refine yG ?_
 intro _ hm
 exact w_ [0] (.cons rfl rfl (.cons rfl rfl (.cons (by simp only [hb32, hb33, hb34, hb37, BO]; rfl) rfl .nil))) (.lit rfl rfl .nil) (by decide) (hB_0 hB0)
 refine yG ?_
 intro _ hm
 exact w_ [0] (.cons rfl rfl (.cons rfl rfl (.cons (by simp only [hb32, hb33, hb34, hb37, BO]; rfl) rfl .nil))) (.lit rfl rfl .nil) (by decide) (hB_0 hB0)
 refine yG ?_
 intro _ hm
 exact w_ [0] (.cons rfl rfl (.cons rfl rfl (.cons (by simp only [hb32, hb33, BO]; rfl) rfl .nil))) (.lit rfl rfl .nil) (by decide) (hB_0 hB0)
 refine yG ?_
 intro _ hm
 refine gO_s rfl rfl rfl (fun hb38 => ?_) (fun hb38 => ?_)
 refine yG ?_
 intro _ hm
 refine gO_s rfl rfl rfl (fun hb39 => ?_) (fun hb39 => ?_)
 refine yG ?_
 intro _ hm
 refine gO_s rfl rfl rfl (fun hb40 => ?_) (fun hb40 => ?_)
 refine yG ?_
 intro _ hm
 exact w_ [0] (.cons rfl rfl (.cons rfl rfl (.cons (by simp only [hb32, hb38, hb39, hb40, BO]; rfl) rfl .nil))) (.lit rfl rfl .nil) (by decide) (hB_0 hB0)
 refine yG ?_
 intro _ hm
 exact w_ [0] (.cons rfl rfl (.cons rfl rfl (.cons (by simp only [hb32, hb38, hb39, hb40, BO]; rfl) rfl .nil))) (.lit rfl rfl .nil) (by decide) (hB_0 hB0)
 refine yG ?_
 intro _ hm
 exact w_ [0] (.cons rfl rfl (.cons rfl rfl (.cons (by simp only [hb32, hb38, hb39, BO]; rfl) rfl .nil))) (.lit rfl rfl .nil) (by decide) (hB_0 hB0)
 refine yG ?_
 intro _ hm
 refine gO_s rfl rfl rfl (fun hb41 => ?_) (fun hb41 => ?_)
 refine yG ?_
 intro _ hm
 exact w_ [0] (.cons rfl rfl (.cons rfl rfl (.cons (by simp only [hb32, hb38, hb41, BO]; rfl) rfl .nil))) (.lit rfl rfl .nil) (by decide) (hB_0 hB0)
 refine yG ?_
 intro _ hm
 exact w_ [0] (.cons rfl rfl (.cons rfl rfl (.cons (by simp only [hb32, hb38, hb41, BO]; rfl) rfl .nil))) (.lit rfl rfl .nil) (by decide) (hB_0 hB0)
 refine bS hm (fun hb42 hm => ?_) fun hb42 hm => ?_
 refine yG ?_
 intro _ hm
 cases hm
 exact rZ1
 refine yG ?_
 intro _ hm
 refine bS hm (fun hb43 hm => ?_) fun hb43 hm => ?_
 refine yG ?_
 intro _ hm
 obtain ⟨x44, h45, hm⟩ := Z0 hm
 refine nO (Z6 (cB (Y7t h45) ?_))
 refine yG ?_
 intro _ hm
 cases hm
 exact rZ1
 refine yG ?_
 intro _ hm
 refine bS hm (fun hb46 hm => ?_) fun hb46 hm => ?_
 refine yG ?_
 intro k8 hm
 refine nO (Z6 (cB (V3 i.imm 0 (funcs - 1)) ?_))
 refine yG ?_
 intro _ hm
 cases hm
 exact rZ1
 refine yG ?_
 intro _ hm
 refine bS hm (fun hb48 hm => ?_) fun hb48 hm => ?_
 refine Wp.seq ?_
 refine V6 (St 130 [(6, vB (((i.w == 8) && (i.imm == 0))))] [] 0) ?_ ?_
 refine yG ?_
 intro _ hm
 refine gO_s rfl rfl rfl (fun hb50 => ?_) (fun hb50 => ?_)
 refine yG ?_
 intro _ hm
 exact w_ [] (.cons (by simp only [hb50, BO]; rfl) rfl .nil) .nil (by decide) (hB_0 hB0)
 refine yG ?_
 intro _ hm
 exact w_ [] (.cons (by simp only [hb50, BO]; rfl) rfl .nil) .nil (by decide) (hB_0 hB0)
 refine Z1s ?_
 cases hm
 exact rZ1
 refine yG ?_
 intro _ hm
 cases hm
 exact rZ1
noncomputable def Z5a (t : GTerm) (count : Int) (blocks : Int) : Option Bool :=
 (if (t.kind == 1) = true then
 (Option.bind ((if inI (count - 1) then
 (if (Z7 t.a 0 (count - 1)) = true then
 (if (t.x == 0) = true then
 (some ((t.y == 0)))
 else
 (some false))
 else
 (some false))
 else none)) fun (j2 : Bool) =>
 (some j2))
 else
 (if (t.kind == 2) = true then
 (Option.bind ((if (t.a == 0) = true then
 (if inI (blocks - 1) then
 (if (Z7 t.x 0 (blocks - 1)) = true then
 (some ((t.y == 0)))
 else
 (some false))
 else none)
 else
 (some false))) fun (j8 : Bool) =>
 (some j8))
 else
 (if (t.kind == 3) = true then
 (Option.bind ((if inI (count - 1) then
 (if (Z7 t.a 0 (count - 1)) = true then
 (if inI (blocks - 1) then
 (if (Z7 t.x 0 (blocks - 1)) = true then
 (if inI (blocks - 1) then
 (if (Z7 t.y 0 (blocks - 1)) = true then
 (some ((t.x != t.y)))
 else
 (some false))
 else none)
 else
 (some false))
 else none)
 else
 (some false))
 else none)) fun (j14 : Bool) =>
 (some j14))
 else
 (some (((t.kind == 4) && ((t.a == 0) && ((t.x == 0) && (t.y == 0)))))))))
theorem Y9i {t : GTerm} {count : Int} {blocks : Int} {r : Bool} (hm : Z5a t count blocks = some r) : Sim Tryz.prog 133 [.agg (Y3z t), .one (.int .i64 count), .one (.int .i64 blocks)] [] (.u (.one (.bool r))) [] := by
 refine fN 89 0 Tryz.func133 [.tmp 6] fun B hB0 => ?_
 unfold Z5a at hm
 refine yG ?_
 intro _ hm
 refine bS hm (fun hb1 hm => ?_) fun hb1 hm => ?_
 refine Wp.seq ?_
 obtain ⟨j2, hj6, hm⟩ := Z0 hm
 refine V6 (St 89 [(6, vB j2)] [] 0) ?_ ?_
 replace hm := hj6
 refine yG ?_
 intro k1 hm
 refine nO (Z6 (cB (V3 t.a 0 (count - 1)) ?_))
 refine yG ?_
 intro _ hm
 refine bG1 hm (fun hb4 hm => ?_) fun hb4 hm => ?_
 refine yG ?_
 intro _ hm
 refine bG1 hm (fun hb5 hm => ?_) fun hb5 hm => ?_
 refine yG ?_
 intro _ hm
 cases hm
 exact vW []
 refine yG ?_
 intro _ hm
 cases hm
 exact vW []
 refine yG ?_
 intro _ hm
 cases hm
 exact vW []
 refine Z1s ?_
 cases hm
 exact rZ1
 refine yG ?_
 intro _ hm
 refine bS hm (fun hb7 hm => ?_) fun hb7 hm => ?_
 refine Wp.seq ?_
 obtain ⟨j8, hj12, hm⟩ := Z0 hm
 refine V6 (St 89 [(6, vB j8)] [] 0) ?_ ?_
 replace hm := hj12
 refine yG ?_
 intro _ hm
 refine bG1 hm (fun hb9 hm => ?_) fun hb9 hm => ?_
 refine yG ?_
 intro k2 hm
 refine gO_t rfl rfl rfl (Z6 (cB (V3 t.x 0 (blocks - 1)) ?_))
 refine yG ?_
 intro _ hm
 refine bG1 hm (fun hb11 hm => ?_) fun hb11 hm => ?_
 refine yG ?_
 intro _ hm
 cases hm
 exact vW []
 refine yG ?_
 intro _ hm
 cases hm
 exact vW []
 refine yG ?_
 intro _ hm
 cases hm
 exact vW []
 refine Z1s ?_
 cases hm
 exact rZ1
 refine yG ?_
 intro _ hm
 refine bS hm (fun hb13 hm => ?_) fun hb13 hm => ?_
 refine Wp.seq ?_
 obtain ⟨j14, hj21, hm⟩ := Z0 hm
 refine V6 (St 89 [(6, vB j14)] [] 0) ?_ ?_
 replace hm := hj21
 refine yG ?_
 intro k3 hm
 refine nO (Z6 (cB (V3 t.a 0 (count - 1)) ?_))
 refine yG ?_
 intro _ hm
 refine bG1 hm (fun hb16 hm => ?_) fun hb16 hm => ?_
 refine yG ?_
 intro k4 hm
 refine gO_t rfl rfl rfl (Z6 (cB (V3 t.x 0 (blocks - 1)) ?_))
 refine yG ?_
 intro _ hm
 refine bG1 hm (fun hb18 hm => ?_) fun hb18 hm => ?_
 refine yG ?_
 intro k5 hm
 refine gO_t rfl rfl rfl (Z6 (cB (V3 t.y 0 (blocks - 1)) ?_))
 refine yG ?_
 intro _ hm
 refine bG1 hm (fun hb20 hm => ?_) fun hb20 hm => ?_
 refine yG ?_
 intro _ hm
 cases hm
 exact vW []
 refine yG ?_
 intro _ hm
 cases hm
 exact vW []
 refine yG ?_
 intro _ hm
 cases hm
 exact vW []
 refine yG ?_
 intro _ hm
 cases hm
 exact vW []
 refine Z1s ?_
 cases hm
 exact rZ1
 refine K3 ?_
 refine Wp.seq ?_
 refine V6 (St 89 [(6, vB (((t.kind == 4) && ((t.a == 0) && ((t.x == 0) && (t.y == 0))))))] [] 0) ?_ ?_
 refine yG ?_
 intro _ hm
 refine gO_s rfl rfl rfl (fun hb23 => ?_) (fun hb23 => ?_)
 refine yG ?_
 intro _ hm
 refine gO_s rfl rfl rfl (fun hb24 => ?_) (fun hb24 => ?_)
 refine yG ?_
 intro _ hm
 refine gO_s rfl rfl rfl (fun hb25 => ?_) (fun hb25 => ?_)
 refine yG ?_
 intro _ hm
 exact w_ [] (.cons (by simp only [hb23, hb24, hb25, BO]; rfl) rfl .nil) .nil (by decide) (hB_0 hB0)
 refine yG ?_
 intro _ hm
 exact w_ [] (.cons (by simp only [hb23, hb24, hb25, BO]; rfl) rfl .nil) .nil (by decide) (hB_0 hB0)
 refine yG ?_
 intro _ hm
 exact w_ [] (.cons (by simp only [hb23, hb24, BO]; rfl) rfl .nil) .nil (by decide) (hB_0 hB0)
 refine yG ?_
 intro _ hm
 exact w_ [] (.cons (by simp only [hb23, BO]; rfl) rfl .nil) .nil (by decide) (hB_0 hB0)
 refine Z1s ?_
 cases hm
 exact rZ1
noncomputable def Z7f (f : GFunc) (funcs : Int) : Option Bool :=
 (Option.bind (Z1c f) fun x1 =>
 (if (if decide (((List.length f.params : Int)) > 4) = true then true else (if (!((Y4 f.ret))) = true then true else (if (!((Z7 ((List.length f.blocks : Int)) 1 10))) = true then true else decide (x1 > 60)))) = true then
 (some false)
 else
 (Option.bind (Y6 (fun (st10 : Int) =>
 ((if decide (st10 < ((List.length f.params : Int))) = true then
 (if 0 ≤ st10 ∧ st10 < (List.length f.params : Int) then
 (if (!((Y4 (at_ f.params st10)))) = true then
 (some (Sum.inr ((Sum.inl (())))))
 else
 (if inI (st10 + 1) then
 (some (Sum.inl (st10 + 1)))
 else none))
 else none)
 else
 (some (Sum.inr ((Sum.inr (())))))) : Option ((Int) ⊕ (Unit ⊕ Unit)))) 0) fun (y18 : Unit ⊕ Unit) => match y18 with
 | (Sum.inl j11) =>
 (some false)
 | (Sum.inr j12) =>
 (Option.bind (Y6 (fun (st20 : Int) =>
 ((if decide (st20 < ((List.length f.blocks : Int))) = true then
 (if 0 ≤ st20 ∧ st20 < (List.length f.blocks : Int) then
 (Option.bind (Y6 (fun (st26 : Int) =>
 ((if decide (st26 < ((List.length ((at_ f.blocks st20).phis) : Int))) = true then
 (Option.bind ((if 0 ≤ st26 ∧ st26 < (List.length ((at_ f.blocks st20).phis) : Int) then
 (if (!((Y4 ((at_ ((at_ f.blocks st20).phis) st26).w)))) = true then
 (some true)
 else
 (if 0 ≤ st26 ∧ st26 < (List.length ((at_ f.blocks st20).phis) : Int) then
 (some (decide (((List.length ((at_ ((at_ f.blocks st20).phis) st26).ins) : Int)) > 10)))
 else none))
 else none)) fun (j31 : Bool) =>
 (if j31 = true then
 (some (Sum.inr ((Sum.inl (())))))
 else
 (Option.bind (Y6 (fun (st38 : Int) =>
 ((if 0 ≤ st26 ∧ st26 < (List.length ((at_ f.blocks st20).phis) : Int) then
 (if decide (st38 < ((List.length ((at_ ((at_ f.blocks st20).phis) st26).ins) : Int))) = true then
 (if 0 ≤ st26 ∧ st26 < (List.length ((at_ f.blocks st20).phis) : Int) then
 (if 0 ≤ st38 ∧ st38 < (List.length ((at_ ((at_ f.blocks st20).phis) st26).ins) : Int) then
 (if inI (x1 - 1) then
 (if (!((Z7 (at_ ((at_ ((at_ f.blocks st20).phis) st26).ins) st38) 0 (x1 - 1)))) = true then
 (some (Sum.inr ((Sum.inl (())))))
 else
 (if inI (st38 + 1) then
 (some (Sum.inl (st38 + 1)))
 else none))
 else none)
 else none)
 else none)
 else
 (some (Sum.inr ((Sum.inr (()))))))
 else none) : Option ((Int) ⊕ (Unit ⊕ Unit)))) 0) fun (y49 : Unit ⊕ Unit) => match y49 with
 | (Sum.inl j39) =>
 (some (Sum.inr ((Sum.inl (())))))
 | (Sum.inr j40) =>
 (if inI (st26 + 1) then
 (some (Sum.inl (st26 + 1)))
 else none))))
 else
 (some (Sum.inr ((Sum.inr (())))))) : Option ((Int) ⊕ (Unit ⊕ Unit)))) 0) fun (y52 : Unit ⊕ Unit) => match y52 with
 | (Sum.inl j27) =>
 (some (Sum.inr ((Sum.inl (())))))
 | (Sum.inr j28) =>
 (Option.bind (Y6 (fun (st54 : Int) =>
 ((if decide (st54 < ((List.length ((at_ f.blocks st20).insts) : Int))) = true then
 (if 0 ≤ st54 ∧ st54 < (List.length ((at_ f.blocks st20).insts) : Int) then
 (Option.bind (Z0j (at_ ((at_ f.blocks st20).insts) st54) x1 funcs) fun x60 =>
 (if (!x60) = true then
 (some (Sum.inr ((Sum.inl (())))))
 else
 (if inI (st54 + 1) then
 (some (Sum.inl (st54 + 1)))
 else none)))
 else none)
 else
 (some (Sum.inr ((Sum.inr (())))))) : Option ((Int) ⊕ (Unit ⊕ Unit)))) 0) fun (y64 : Unit ⊕ Unit) => match y64 with
 | (Sum.inl j55) =>
 (some (Sum.inr ((Sum.inl (())))))
 | (Sum.inr j56) =>
 (Option.bind (Z5a (((at_ f.blocks st20).term)) x1 ((List.length f.blocks : Int))) fun x66 =>
 (if (!x66) = true then
 (some (Sum.inr ((Sum.inl (())))))
 else
 (if inI (st20 + 1) then
 (some (Sum.inl (st20 + 1)))
 else none)))))
 else none)
 else
 (some (Sum.inr ((Sum.inr (())))))) : Option ((Int) ⊕ (Unit ⊕ Unit)))) 0) fun (y70 : Unit ⊕ Unit) => match y70 with
 | (Sum.inl j21) =>
 (some false)
 | (Sum.inr j22) =>
 (some true)))))
theorem Y9k {f : GFunc} {funcs : Int} {r : Bool} (hm : Z7f f funcs = some r) : Sim Tryz.prog 74 [.agg (Z9 false f), .one (.int .i64 funcs)] [] (.u (.one (.bool r))) [] := by
 refine fN 134 0 Tryz.func74 [.tmp 4] fun B hB0 => ?_
 unfold Z7f at hm
 refine yG ?_
 intro _ hm
 refine nO (kW ?_)
 obtain ⟨x1, h2, hm⟩ := Z0 hm
 refine nO (Z6 (cB (Y2c h2) ?_))
 refine nO (x_as rfl rfl ?_)
 refine W5 ?_
 refine Wp.seq ?_
 refine X4 ?_
 refine yR ?_
 intro k1 hm
 refine W5 ?_
 refine Wp.seq ?_
 refine Wp.seq ?_
 refine V6 (St 134 [(1, vI funcs), (2, vP 0), (5, vI x1), (6, vI ((List.length f.blocks : Int))), (36, vB ((if decide (((List.length f.params : Int)) > 4) = true then true else (if (!((Y4 f.ret))) = true then true else (if (!((Z7 ((List.length f.blocks : Int)) 1 10))) = true then true else decide (x1 > 60))))))] [(0, oL 3 (Z9 false f))] 1) ?_ ?_
 refine yG ?_
 intro k2 hm
 refine gO_s rfl rfl rfl (fun hb6 => ?_) (fun hb6 => ?_)
 refine yG ?_
 intro _ hm
 refine gO_t rfl rfl rfl (Z6 (cB (Z1v f.ret) ?_))
 refine yG ?_
 intro _ hm
 refine gO_s rfl rfl rfl (fun hb7 => ?_) (fun hb7 => ?_)
 refine yG ?_
 intro _ hm
 refine gO_t rfl rfl rfl (Z6 (cB (V3 ((List.length f.blocks : Int)) 1 10) ?_))
 refine yG ?_
 intro _ hm
 refine gO_s rfl rfl rfl (fun hb8 => ?_) (fun hb8 => ?_)
 refine yG ?_
 intro _ hm
 exact w_ [0] (.cons rfl rfl (.cons rfl rfl (.cons rfl rfl (.cons rfl rfl (.cons (by simp only [hb6, hb7, hb8, BO]; rfl) rfl .nil))))) (.lit rfl rfl .nil) (by decide) (hB_0 hB0)
 refine yG ?_
 intro _ hm
 exact w_ [0] (.cons rfl rfl (.cons rfl rfl (.cons rfl rfl (.cons rfl rfl (.cons (by simp only [hb6, hb7, hb8, BO]; rfl) rfl .nil))))) (.lit rfl rfl .nil) (by decide) (hB_0 hB0)
 refine yG ?_
 intro _ hm
 exact w_ [0] (.cons rfl rfl (.cons rfl rfl (.cons rfl rfl (.cons rfl rfl (.cons (by simp only [hb6, hb7, BO]; rfl) rfl .nil))))) (.lit rfl rfl .nil) (by decide) (hB_0 hB0)
 refine yG ?_
 intro _ hm
 exact w_ [0] (.cons rfl rfl (.cons rfl rfl (.cons rfl rfl (.cons rfl rfl (.cons (by simp only [hb6, BO]; rfl) rfl .nil))))) (.lit rfl rfl .nil) (by decide) (hB_0 hB0)
 refine bS hm (fun hb9 hm => ?_) fun hb9 hm => ?_
 refine yG ?_
 intro _ hm
 cases hm
 exact rZ1
 refine yG ?_
 intro _ hm
 obtain ⟨y18, hl19, hm⟩ := Z0 hm
 refine J6 hl19 (fun (st10 : Int) => St 134 [(1, vI funcs), (2, vP 0), (5, vI x1), (6, vI ((List.length f.blocks : Int))), (7, vI st10)] [(0, oL 3 (Z9 false f))] 1) (fun (y : Unit ⊕ Unit) => match y with | (Sum.inl j11) => (.ret, St 134 [(4, vB false)] [] 0) | (Sum.inr j12) => (.exit 0, St 134 [(1, vI funcs), (2, vP 0), (5, vI x1), (6, vI ((List.length f.blocks : Int)))] [(0, oL 3 (Z9 false f))] 1)) (vW [0]) ?_ (by rintro (_ | _) <;> simp) ?_
 intro st10 x hm
 refine yG ?_
 intro k3 hm
 refine bS hm (fun hb14 hm => ?_) fun hb14 hm => ?_
 refine yG ?_
 intro k4 hm
 refine nO (Z6 (cB (Z1v (at_ f.params st10)) ?_))
 refine yG ?_
 intro _ hm
 refine bS hm (fun hb16 hm => ?_) fun hb16 hm => ?_
 refine yG ?_
 intro _ hm
 cases hm
 exact ⟨rfl, vW []⟩
 refine yG ?_
 intro k5 hm
 cases hm
 exact ⟨rfl, vW [0]⟩
 refine V2 ?_
 cases hm
 exact ⟨rfl, vW [0]⟩
 rcases y18 with j11 | j12 <;> simp only at hm
 cases hm
 exact rZ1
 refine yG ?_
 intro _ hm
 obtain ⟨y70, hl71, hm⟩ := Z0 hm
 refine J6 hl71 (fun (st20 : Int) => St 134 [(1, vI funcs), (2, vP 0), (5, vI x1), (6, vI ((List.length f.blocks : Int))), (8, vI st20)] [(0, oL 3 (Z9 false f))] 1) (fun (y : Unit ⊕ Unit) => match y with | (Sum.inl j21) => (.ret, St 134 [(4, vB false)] [] 0) | (Sum.inr j22) => (.exit 2, St 134 [] [] 0)) (vW [0]) ?_ (by rintro (_ | _) <;> simp) ?_
 intro st20 x hm
 refine yG ?_
 intro k6 hm
 refine bS hm (fun hb24 hm => ?_) fun hb24 hm => ?_
 refine yG ?_
 intro k7 hm
 refine nO (K8 T53 rfl (U6 rfl rfl) rfl ?_)
 refine yG ?_
 intro _ hm
 obtain ⟨y52, hl53, hm⟩ := Z0 hm
 refine J6 hl53 (fun (st26 : Int) => St 134 [(1, vI funcs), (2, vP 0), (5, vI x1), (6, vI ((List.length f.blocks : Int))), (8, vI st20), (9, vP 1), (10, vI st26)] [(0, oL 3 (Z9 false f)), (1, oL 6 (W2 false (at_ f.blocks st20)))] 2) (fun (y : Unit ⊕ Unit) => match y with | (Sum.inl j27) => (.ret, St 134 [(4, vB false)] [] 0) | (Sum.inr j28) => (.exit 4, St 134 [(1, vI funcs), (2, vP 0), (5, vI x1), (6, vI ((List.length f.blocks : Int))), (8, vI st20), (9, vP 1)] [(0, oL 3 (Z9 false f)), (1, oL 6 (W2 false (at_ f.blocks st20)))] 2)) (vW [0, 1]) ?_ (by rintro (_ | _) <;> simp) ?_
 intro st26 x hm
 refine yG ?_
 intro k8 hm
 refine bS hm (fun hb30 hm => ?_) fun hb30 hm => ?_
 refine K3 ?_
 refine Wp.seq ?_
 refine Wp.block ?_
 refine Wp.seq ?_
 refine Wp.seq ?_
 obtain ⟨j31, hj36, hm⟩ := Z0 hm
 refine V6 (St 134 [(1, vI funcs), (2, vP 0), (5, vI x1), (6, vI ((List.length f.blocks : Int))), (8, vI st20), (9, vP 1), (10, vI st26), (87, vB j31)] [(0, oL 3 (Z9 false f)), (1, oL 6 (W2 false (at_ f.blocks st20)))] 2) ?_ ?_
 replace hm := hj36
 refine yG ?_
 intro k9 hm
 refine nO (Z6 (cB (Z1v ((at_ ((at_ f.blocks st20).phis) st26).w)) ?_))
 refine yG ?_
 intro _ hm
 refine bG0 hm (fun hb33 hm => ?_) fun hb33 hm => ?_
 refine yG ?_
 intro k10 hm
 cases hm
 exact vW [0, 1]
 refine yG ?_
 intro _ hm
 cases hm
 exact vW [0, 1]
 refine bS hm (fun hb37 hm => ?_) fun hb37 hm => ?_
 refine yG ?_
 intro _ hm
 cases hm
 exact ⟨rfl, vW []⟩
 refine yG ?_
 intro _ hm
 obtain ⟨y49, hl50, hm⟩ := Z0 hm
 refine J6 hl50 (fun (st38 : Int) => St 134 [(1, vI funcs), (2, vP 0), (5, vI x1), (6, vI ((List.length f.blocks : Int))), (8, vI st20), (9, vP 1), (10, vI st26), (11, vI st38)] [(0, oL 3 (Z9 false f)), (1, oL 6 (W2 false (at_ f.blocks st20)))] 2) (fun (y : Unit ⊕ Unit) => match y with | (Sum.inl j39) => (.ret, St 134 [(4, vB false)] [] 0) | (Sum.inr j40) => (.exit 6, St 134 [(1, vI funcs), (2, vP 0), (5, vI x1), (6, vI ((List.length f.blocks : Int))), (8, vI st20), (9, vP 1), (10, vI st26)] [(0, oL 3 (Z9 false f)), (1, oL 6 (W2 false (at_ f.blocks st20)))] 2)) (vW [0, 1]) ?_ (by rintro (_ | _) <;> simp) ?_
 intro st38 x hm
 refine yG ?_
 intro k11 hm
 refine bS hm (fun hb43 hm => ?_) fun hb43 hm => ?_
 refine yG ?_
 intro k12 hm
 refine nO (Z6 (cB (V3 (at_ ((at_ ((at_ f.blocks st20).phis) st26).ins) st38) 0 (x1 - 1)) ?_))
 refine yG ?_
 intro _ hm
 refine bS hm (fun hb47 hm => ?_) fun hb47 hm => ?_
 refine yG ?_
 intro _ hm
 cases hm
 exact ⟨rfl, vW []⟩
 refine yG ?_
 intro k13 hm
 cases hm
 exact ⟨rfl, vW [0, 1]⟩
 refine V2 ?_
 cases hm
 exact ⟨rfl, vW [0, 1]⟩
 rcases y49 with j39 | j40 <;> simp only at hm
 cases hm
 exact ⟨rfl, vW []⟩
 refine yG ?_
 intro k14 hm
 cases hm
 exact ⟨rfl, vW [0, 1]⟩
 refine V2 ?_
 cases hm
 exact ⟨rfl, vW [0, 1]⟩
 rcases y52 with j27 | j28 <;> simp only at hm
 cases hm
 exact ⟨rfl, vW []⟩
 refine yG ?_
 intro _ hm
 obtain ⟨y64, hl65, hm⟩ := Z0 hm
 refine J6 hl65 (fun (st54 : Int) => St 134 [(1, vI funcs), (2, vP 0), (5, vI x1), (6, vI ((List.length f.blocks : Int))), (8, vI st20), (9, vP 1), (12, vI st54)] [(0, oL 3 (Z9 false f)), (1, oL 6 (W2 false (at_ f.blocks st20)))] 2) (fun (y : Unit ⊕ Unit) => match y with | (Sum.inl j55) => (.ret, St 134 [(4, vB false)] [] 0) | (Sum.inr j56) => (.exit 8, St 134 [(1, vI funcs), (2, vP 0), (5, vI x1), (6, vI ((List.length f.blocks : Int))), (8, vI st20), (9, vP 1)] [(0, oL 3 (Z9 false f)), (1, oL 6 (W2 false (at_ f.blocks st20)))] 2)) (vW [0, 1]) ?_ (by rintro (_ | _) <;> simp) ?_
 intro st54 x hm
 refine yG ?_
 intro k15 hm
 refine bS hm (fun hb58 hm => ?_) fun hb58 hm => ?_
 refine yG ?_
 intro k16 hm
 refine nO (K8 T29 rfl (U6 rfl rfl) rfl ?_)
 refine yG ?_
 intro _ hm
 obtain ⟨x60, h61, hm⟩ := Z0 hm
 refine nO (Z6 (cB (Y9j h61) ?_))
 refine yG ?_
 intro _ hm
 refine bS hm (fun hb62 hm => ?_) fun hb62 hm => ?_
 refine yG ?_
 intro _ hm
 cases hm
 exact ⟨rfl, vW []⟩
 refine yG ?_
 intro k17 hm
 cases hm
 exact ⟨rfl, vW [0, 1]⟩
 refine V2 ?_
 cases hm
 exact ⟨rfl, vW [0, 1]⟩
 rcases y64 with j55 | j56 <;> simp only at hm
 cases hm
 exact ⟨rfl, vW []⟩
 refine yG ?_
 intro _ hm
 refine nO (kL (.agg (Y3z (((at_ f.blocks st20).term)))) ?_)
 refine yG ?_
 intro _ hm
 obtain ⟨x66, h67, hm⟩ := Z0 hm
 refine nO (Z6 (cB (Y9i h67) ?_))
 refine yG ?_
 intro _ hm
 refine bS hm (fun hb68 hm => ?_) fun hb68 hm => ?_
 refine yG ?_
 intro _ hm
 cases hm
 exact ⟨rfl, vW []⟩
 refine yG ?_
 intro k18 hm
 cases hm
 exact ⟨rfl, vW [0]⟩
 refine V2 ?_
 cases hm
 exact ⟨rfl, vW []⟩
 rcases y70 with j21 | j22 <;> simp only at hm
 cases hm
 exact rZ1
 refine yG ?_
 intro _ hm
 cases hm
 exact rZ1
noncomputable def Z1b (m : GModule) : Option Bool :=
 (if (!((Z7 ((List.length m.funcs : Int)) 1 3))) = true then
 (some false)
 else
 (Option.bind (Y6 (fun (st3 : Int) =>
 ((if decide (st3 < ((List.length m.funcs : Int))) = true then
 (if 0 ≤ st3 ∧ st3 < (List.length m.funcs : Int) then
 (Option.bind (Z7f (at_ m.funcs st3) ((List.length m.funcs : Int))) fun x10 =>
 (if (!x10) = true then
 (some (Sum.inr ((Sum.inl (())))))
 else
 (if inI (st3 + 1) then
 (some (Sum.inl (st3 + 1)))
 else none)))
 else none)
 else
 (some (Sum.inr ((Sum.inr (())))))) : Option ((Int) ⊕ (Unit ⊕ Unit)))) 0) fun (y14 : Unit ⊕ Unit) => match y14 with
 | (Sum.inl j4) =>
 (some false)
 | (Sum.inr j5) =>
 (some true)))
theorem Z6j {m : GModule} {r : Bool} (hm : Z1b m = some r) : Sim Tryz.prog 28 [.agg (K7 false m)] [] (.u (.one (.bool r))) [] := by
 refine fN 26 0 Tryz.func28 [.tmp 2] fun B hB0 => ?_
 unfold Z1b at hm
 refine yG ?_
 intro k1 hm
 refine nO (Z6 (cB (V3 ((List.length m.funcs : Int)) 1 3) ?_))
 refine yG ?_
 intro _ hm
 refine bS hm (fun hb2 hm => ?_) fun hb2 hm => ?_
 refine yG ?_
 intro _ hm
 cases hm
 exact rZ1
 refine yG ?_
 intro _ hm
 obtain ⟨y14, hl15, hm⟩ := Z0 hm
 refine J6 hl15 (fun (st3 : Int) => St 26 [(1, vP 0), (3, vI st3)] [(0, oL 1 (K7 false m))] 1) (fun (y : Unit ⊕ Unit) => match y with | (Sum.inl j4) => (.ret, St 26 [(2, vB false)] [] 0) | (Sum.inr j5) => (.exit 0, St 26 [] [] 0)) (vW [0]) ?_ (by rintro (_ | _) <;> simp) ?_
 intro st3 x hm
 refine yG ?_
 intro k2 hm
 refine bS hm (fun hb7 hm => ?_) fun hb7 hm => ?_
 refine K3 ?_
 refine Wp.seq ?_
 refine Wp.block ?_
 refine Wp.seq ?_
 refine Z3m (Y := sysC _) Z3i ?_
 refine tK 0 1 rfl (kF ?_)
 refine tK 1 1 rfl (kD ?_)
 refine tK 2 0 rfl (kV ?_)
 obtain ⟨h8, hm⟩ := Y1 hm
 refine tK 3 0 rfl (Z8q E38 rfl rfl h8 ?_)
 refine tK 4 0 rfl (K8 T27 rfl (U6 rfl rfl) rfl ?_)
 refine tK 5 1 rfl (kF ?_)
 refine tK 6 1 rfl (kD ?_)
 refine tK 7 0 rfl (Y7q N38 rfl fun hL9 => ?_)
 obtain ⟨x10, h11, hm⟩ := Z0 hm
 refine oK 8 rfl (cB (Y9k h11) ?_)
 refine tK 9 0 rfl (x_un rfl rfl ?_)
 refine aN ?_
 refine bS hm (fun hb12 hm => ?_) fun hb12 hm => ?_
 refine yG ?_
 intro _ hm
 cases hm
 exact ⟨rfl, vW []⟩
 refine yG ?_
 intro k3 hm
 cases hm
 exact ⟨rfl, vW [0]⟩
 refine V2 ?_
 cases hm
 exact ⟨rfl, vW []⟩
 rcases y14 with j4 | j5 <;> simp only at hm
 cases hm
 exact rZ1
 refine yG ?_
 intro _ hm
 cases hm
 exact rZ1
noncomputable def Z3z (f : GFunc) (b : Int) : Option (List Int) :=
 (if 0 ≤ b ∧ b < (List.length f.blocks : Int) then
 (if (((((at_ f.blocks b).term)).kind) == 2) = true then
 (some ([(((at_ f.blocks b).term)).x]))
 else
 (if (((((at_ f.blocks b).term)).kind) == 3) = true then
 (some ([(((at_ f.blocks b).term)).x, (((at_ f.blocks b).term)).y]))
 else
 (some (([] : List Int)))))
 else none)
theorem Y1z {f : GFunc} {b : Int} {r : List Int} (hm : Z3z f b = some r) : Sim Tryz.prog 183 [.agg (Z9 false f), .one (.int .i64 b)] [] (.u (.one (.os () 1 (List.map iL r)))) [] := by
 refine fN 27 0 Tryz.func183 [.tmp 4] fun B hB0 => ?_
 unfold Z3z at hm
 refine yG ?_
 intro k1 hm
 refine nO (K8 T51 rfl (u := .agg (Y3z (((at_ f.blocks b).term)))) rfl rfl ?_)
 refine yG ?_
 intro _ hm
 refine bS hm (fun hb2 hm => ?_) fun hb2 hm => ?_
 refine yG ?_
 intro _ hm
 refine nO (kM (iL) ([(((at_ f.blocks b).term)).x]) ?_)
 refine yG ?_
 intro _ hm
 cases hm
 exact rZ1h (hg := Z3b 0 0 rfl rfl rfl rfl)
 refine yG ?_
 intro _ hm
 refine bS hm (fun hb3 hm => ?_) fun hb3 hm => ?_
 refine yG ?_
 intro _ hm
 refine nO (kM (iL) ([(((at_ f.blocks b).term)).x, (((at_ f.blocks b).term)).y]) ?_)
 refine yG ?_
 intro _ hm
 cases hm
 exact rZ1h (hg := Z3b 0 0 rfl rfl rfl rfl)
 refine yG ?_
 intro _ hm
 refine nO (kM (iL) (([] : List Int)) ?_)
 refine yG ?_
 intro _ hm
 cases hm
 exact rZ1h (hg := Z3b 0 0 rfl rfl rfl rfl)
noncomputable def Z1a (l : List Int) (n : Int) : Option Bool :=
 (Option.bind (Y6 (fun (st1 : Int) =>
 ((if decide (st1 < ((List.length l : Int))) = true then
 (if 0 ≤ st1 ∧ st1 < (List.length l : Int) then
 (if ((at_ l st1) == n) = true then
 (some (Sum.inr ((Sum.inl (())))))
 else
 (if inI (st1 + 1) then
 (some (Sum.inl (st1 + 1)))
 else none))
 else none)
 else
 (some (Sum.inr ((Sum.inr (())))))) : Option ((Int) ⊕ (Unit ⊕ Unit)))) 0) fun (y9 : Unit ⊕ Unit) => match y9 with
 | (Sum.inl j2) =>
 (some true)
 | (Sum.inr j3) =>
 (some false))
theorem Z5v {l : List Int} {n : Int} {r : Bool} (hm : Z1a l n = some r) : Sim Tryz.prog 190 [.one (.bs () 1 (List.map iL l)), .one (.int .i64 n)] [] (.u (.one (.bool r))) [] := by
 refine fN 18 0 Tryz.func190 [.tmp 4] fun B hB0 => ?_
 unfold Z1a at hm
 refine yG ?_
 intro _ hm
 obtain ⟨y9, hl10, hm⟩ := Z0 hm
 refine J6 hl10 (fun (st1 : Int) => St 18 [(0, .u (.one (.bs () 1 (List.map iL l)))), (1, vI n), (5, vI st1)] [] 0) (fun (y : Unit ⊕ Unit) => match y with | (Sum.inl j2) => (.ret, St 18 [(4, vB true)] [] 0) | (Sum.inr j3) => (.exit 0, St 18 [] [] 0)) (vW []) ?_ (by rintro (_ | _) <;> simp) ?_
 intro st1 x hm
 refine yG ?_
 intro k1 hm
 refine bS hm (fun hb5 hm => ?_) fun hb5 hm => ?_
 refine yG ?_
 intro k2 hm
 refine bS hm (fun hb7 hm => ?_) fun hb7 hm => ?_
 refine yG ?_
 intro _ hm
 cases hm
 exact ⟨rfl, vW []⟩
 refine yG ?_
 intro k3 hm
 cases hm
 exact ⟨rfl, vW []⟩
 refine V2 ?_
 cases hm
 exact ⟨rfl, vW []⟩
 rcases y9 with j2 | j3 <;> simp only at hm
 cases hm
 exact rZ1
 refine yG ?_
 intro _ hm
 cases hm
 exact rZ1
noncomputable def Z0y (f : GFunc) (b : Int) : Option (List Int) :=
 (Option.bind (Y6 (fun (st1 : (List Int) × Int) =>
 ((if decide (st1.2 < ((List.length f.blocks : Int))) = true then
 (Option.bind (Z3z f st1.2) fun x5 =>
 (Option.bind (Z1a x5 b) fun x7 =>
 (if x7 = true then
 (if (List.length st1.1 + List.length ([st1.2])) * 8 ≤ 140737488355328 ∧ List.length st1.1 + List.length ([st1.2]) ≤ LIM then
 (if inI (st1.2 + 1) then
 (some (Sum.inl ((st1.1 ++ ([st1.2]), st1.2 + 1))))
 else none)
 else none)
 else
 (if inI (st1.2 + 1) then
 (some (Sum.inl ((st1.1, st1.2 + 1))))
 else none))))
 else
 (some (Sum.inr st1.1))) : Option (((List Int) × Int) ⊕ (((List Int)))))) (([] : List Int), 0)) fun (j2 : (List Int)) =>
 (some j2))
theorem Z8t {f : GFunc} {b : Int} {r : List Int} (hm : Z0y f b = some r) : Sim Tryz.prog 151 [.agg (Z9 false f), .one (.int .i64 b)] [] (.u (.one (.os () 1 (List.map iL r)))) [] := by
 refine fN 25 0 Tryz.func151 [.tmp 4] fun B hB0 => ?_
 unfold Z0y at hm
 refine yG ?_
 intro _ hm
 refine nO (kM (iL) (([] : List Int)) ?_)
 refine yG ?_
 intro _ hm
 obtain ⟨j2, hl14, hm⟩ := Z0 hm
 refine lP hl14 (fun st1 => St 25 [(1, vI b), (2, vP 0), (5, vR 1 (List.length st1.1)), (6, vI st1.2)] [(0, oL 3 (Z9 false f)), (1, oM 1 iL st1.1)] 2) (fun j2 => (.exit 0, St 25 [(5, vR 0 (List.length j2))] [(0, oM 1 iL j2)] 1)) (vW [0, 1]) ?_ ?_
 intro st1 x hm
 refine yG ?_
 intro k1 hm
 refine bS hm (fun hb4 hm => ?_) fun hb4 hm => ?_
 refine yG ?_
 intro _ hm
 refine nO (kW ?_)
 refine yG ?_
 intro _ hm
 obtain ⟨x5, h6, hm⟩ := Z0 hm
 refine nO (Z6 (cB (Y1z h6) ?_))
 refine yG ?_
 intro _ hm
 obtain ⟨x7, h8, hm⟩ := Z0 hm
 refine nO (Z6 (cB (Z5v h8) ?_))
 refine W5 ?_
 refine bS hm (fun hb9 hm => ?_) fun hb9 hm => ?_
 refine yG ?_
 intro _ hm
 refine nO (kM (iL) ([st1.2]) ?_)
 refine yG ?_
 intro k2 hm
 cases hm
 exact ⟨rfl, vW [0, 4]⟩
 refine yG ?_
 intro k3 hm
 cases hm
 exact ⟨rfl, vW [0, 1]⟩
 refine V2 ?_
 cases hm
 exact ⟨rfl, vW [1]⟩
 refine yG ?_
 intro _ hm
 cases hm
 exact rZ1h (hg := Z3b 0 0 rfl rfl rfl rfl)
end
section
set_option maxHeartbeats 8000000
set_option maxRecDepth 100000
attribute [local irreducible] aopK K0 Wp St WpO
noncomputable def Z7c (f : GFunc) : Option Bool :=
 (Option.bind (Y6 (fun (st1 : Int) =>
 ((if decide (st1 < ((List.length f.blocks : Int))) = true then
 (Option.bind (Z0y f st1) fun x6 =>
 (Option.bind (Y6 (fun (st9 : Int) =>
 ((if 0 ≤ st1 ∧ st1 < (List.length f.blocks : Int) then
 (if decide (st9 < ((List.length ((at_ f.blocks st1).phis) : Int))) = true then
 (if 0 ≤ st1 ∧ st1 < (List.length f.blocks : Int) then
 (if 0 ≤ st9 ∧ st9 < (List.length ((at_ f.blocks st1).phis) : Int) then
 (if (((List.length ((at_ ((at_ f.blocks st1).phis) st9).ins) : Int)) != ((List.length x6 : Int))) = true then
 (some (Sum.inr ((Sum.inl (())))))
 else
 (if inI (st9 + 1) then
 (some (Sum.inl (st9 + 1)))
 else none))
 else none)
 else none)
 else
 (some (Sum.inr ((Sum.inr (()))))))
 else none) : Option ((Int) ⊕ (Unit ⊕ Unit)))) 0) fun (y20 : Unit ⊕ Unit) => match y20 with
 | (Sum.inl j10) =>
 (some (Sum.inr ((Sum.inl (())))))
 | (Sum.inr j11) =>
 (if inI (st1 + 1) then
 (some (Sum.inl (st1 + 1)))
 else none)))
 else
 (some (Sum.inr ((Sum.inr (())))))) : Option ((Int) ⊕ (Unit ⊕ Unit)))) 0) fun (y23 : Unit ⊕ Unit) => match y23 with
 | (Sum.inl j2) =>
 (some false)
 | (Sum.inr j3) =>
 (some true))
theorem Y9f {f : GFunc} {r : Bool} (hm : Z7c f = some r) : Sim Tryz.prog 152 [.agg (Z9 false f)] [] (.u (.one (.bool r))) [] := by
 refine fN 41 0 Tryz.func152 [.tmp 2] fun B hB0 => ?_
 unfold Z7c at hm
 refine yG ?_
 intro _ hm
 obtain ⟨y23, hl24, hm⟩ := Z0 hm
 refine J6 hl24 (fun (st1 : Int) => St 41 [(1, vP 0), (3, vI st1)] [(0, oL 3 (Z9 false f))] 1) (fun (y : Unit ⊕ Unit) => match y with | (Sum.inl j2) => (.ret, St 41 [(2, vB false)] [] 0) | (Sum.inr j3) => (.exit 0, St 41 [] [] 0)) (vW [0]) ?_ (by rintro (_ | _) <;> simp) ?_
 intro st1 x hm
 refine yG ?_
 intro k1 hm
 refine bS hm (fun hb5 hm => ?_) fun hb5 hm => ?_
 refine yG ?_
 intro _ hm
 refine nO (kW ?_)
 refine yG ?_
 intro _ hm
 obtain ⟨x6, h7, hm⟩ := Z0 hm
 refine nO (Z6 (cB (Z8t h7) ?_))
 refine yG ?_
 intro k2 hm
 obtain ⟨y20, hl21, hm⟩ := Z0 hm
 refine J6 hl21 (fun (st9 : Int) => St 41 [(1, vP 0), (3, vI st1), (4, vI ((List.length x6 : Int))), (5, vI st9)] [(0, oL 3 (Z9 false f))] 1) (fun (y : Unit ⊕ Unit) => match y with | (Sum.inl j10) => (.ret, St 41 [(2, vB false)] [] 0) | (Sum.inr j11) => (.exit 2, St 41 [(1, vP 0), (3, vI st1)] [(0, oL 3 (Z9 false f))] 1)) (vW [0]) ?_ (by rintro (_ | _) <;> simp) ?_
 intro st9 x hm
 refine yG ?_
 intro k3 hm
 refine bS hm (fun hb14 hm => ?_) fun hb14 hm => ?_
 refine yG ?_
 intro k4 hm
 refine bS hm (fun hb18 hm => ?_) fun hb18 hm => ?_
 refine yG ?_
 intro _ hm
 cases hm
 exact ⟨rfl, vW []⟩
 refine yG ?_
 intro k5 hm
 cases hm
 exact ⟨rfl, vW [0]⟩
 refine V2 ?_
 cases hm
 exact ⟨rfl, vW [0]⟩
 rcases y20 with j10 | j11 <;> simp only at hm
 cases hm
 exact ⟨rfl, vW []⟩
 refine yG ?_
 intro k6 hm
 cases hm
 exact ⟨rfl, vW [0]⟩
 refine V2 ?_
 cases hm
 exact ⟨rfl, vW []⟩
 rcases y23 with j2 | j3 <;> simp only at hm
 cases hm
 exact rZ1
 refine yG ?_
 intro _ hm
 cases hm
 exact rZ1
noncomputable def Z4a (f : GFunc) (id : Int) : Option (Int × Int) :=
 (if decide (id < 0) = true then
 (some (((-2), 0)))
 else
 (if decide (id < ((List.length f.params : Int))) = true then
 (some (((-1), id)))
 else
 (if inI (id - ((List.length f.params : Int))) then
 (Option.bind (Y6 (fun (st6 : Int × Int) =>
 ((if decide (st6.2 < ((List.length f.blocks : Int))) = true then
 (if 0 ≤ st6.2 ∧ st6.2 < (List.length f.blocks : Int) then
 (if 0 ≤ st6.2 ∧ st6.2 < (List.length f.blocks : Int) then
 (if decide (st6.1 < (IntKind.i64.wrap (((List.length ((at_ f.blocks st6.2).phis) : Int)) + ((List.length ((at_ f.blocks st6.2).insts) : Int))))) = true then
 (some (Sum.inr ((Sum.inl ((st6.2, st6.1))))))
 else
 (if inI (st6.2 + 1) then
 (some (Sum.inl ((IntKind.i64.wrap (st6.1 - (IntKind.i64.wrap (((List.length ((at_ f.blocks st6.2).phis) : Int)) + ((List.length ((at_ f.blocks st6.2).insts) : Int))))), st6.2 + 1))))
 else none))
 else none)
 else none)
 else
 (some (Sum.inr ((Sum.inr (())))))) : Option ((Int × Int) ⊕ ((Int × Int) ⊕ Unit)))) (id - ((List.length f.params : Int)), 0)) fun (y17 : (Int × Int) ⊕ Unit) => match y17 with
 | (Sum.inl j7) =>
 (some ((j7.1, j7.2)))
 | (Sum.inr j8) =>
 (some (((-2), 0))))
 else none)))
theorem Y2b {f : GFunc} {id : Int} {r : Int × Int} (hm : Z4a f id = some r) : Sim Tryz.prog 131 [.agg (Z9 false f), .one (.int .i64 id)] [] (.tup [.one (.int .i64 r.1), .one (.int .i64 r.2)]) [] := by
 refine fN 51 0 Tryz.func131 [.tmp 4, .tmp 5] fun B hB0 => ?_
 have fW := trivial
 unfold Z4a at hm
 refine yG ?_
 intro _ hm
 refine bS hm (fun hb1 hm => ?_) fun hb1 hm => ?_
 refine yG ?_
 intro _ hm
 cases hm
 exact rZt
 refine yG ?_
 intro k1 hm
 refine bS hm (fun hb3 hm => ?_) fun hb3 hm => ?_
 refine yG ?_
 intro _ hm
 cases hm
 exact rZt
 refine yG ?_
 intro k2 hm
 obtain ⟨y17, hl18, hm⟩ := Z0 hm
 refine J6 hl18 (fun (st6 : Int × Int) => St 51 [(1, vI st6.1), (2, vP 0), (6, vI st6.2)] [(0, oL 3 (Z9 false f))] 1) (fun (y : (Int × Int) ⊕ Unit) => match y with | (Sum.inl j7) => (.ret, St 51 [(4, vI j7.1), (5, vI j7.2)] [] 0) | (Sum.inr j8) => (.exit 0, St 51 [] [] 0)) (vW [0]) ?_ (by rintro (_ | _) <;> simp) ?_
 intro st6 x hm
 refine yG ?_
 intro k3 hm
 refine bS hm (fun hb10 hm => ?_) fun hb10 hm => ?_
 refine K3 ?_
 refine Wp.seq ?_
 refine Wp.block ?_
 refine Wp.seq ?_
 refine Z3m (Y := sysC _) Z3i ?_
 refine tK 0 1 rfl (kF ?_)
 refine tK 1 1 rfl (kD ?_)
 refine tK 2 0 rfl (kV ?_)
 obtain ⟨h11, hm⟩ := Y1 hm
 refine tK 3 0 rfl (Z8q E25 rfl rfl h11 ?_)
 refine tK 4 0 rfl (Y8z W1g rfl ?_)
 refine tK 5 0 rfl (K8 T48 rfl rfl rfl ?_)
 refine tK 6 0 rfl (Y7q N48 rfl fun hL12 => ?_)
 refine tK 7 1 rfl (kF ?_)
 refine tK 8 1 rfl (kD ?_)
 refine tK 9 0 rfl (kV ?_)
 obtain ⟨h13, hm⟩ := Y1 hm
 refine tK 10 0 rfl (Z8q E25 rfl rfl h13 ?_)
 refine tK 11 0 rfl (Y8z F53_1 rfl ?_)
 refine tK 12 0 rfl (K8 T49 rfl rfl rfl ?_)
 refine tK 13 0 rfl (Y7q N49 rfl fun hL14 => ?_)
 refine tK 14 0 rfl (Y2m T3 rfl rfl rfl ?_)
 refine tK 15 0 rfl (x_as rfl rfl ?_)
 refine aN ?_
 refine yG ?_
 intro _ hm
 refine bS hm (fun hb15 hm => ?_) fun hb15 hm => ?_
 refine yG ?_
 intro _ hm
 cases hm
 exact ⟨rfl, vW []⟩
 refine yG ?_
 intro _ hm
 refine nO (Y2m T2 rfl rfl rfl ?_)
 refine yG ?_
 intro k4 hm
 cases hm
 exact ⟨rfl, vW [0]⟩
 refine V2 ?_
 cases hm
 exact ⟨rfl, vW []⟩
 rcases y17 with j7 | j8 <;> simp only at hm
 cases hm
 exact rZt
 refine yG ?_
 intro _ hm
 cases hm
 exact rZt
noncomputable def V7 (f : GFunc) (id : Int) : Option Int :=
 (Option.bind (Z4a f id) fun x1 =>
 (if (x1.1 == ((-2))) = true then
 (some ((-1)))
 else
 (if (x1.1 == ((-1))) = true then
 (if 0 ≤ x1.2 ∧ x1.2 < (List.length f.params : Int) then
 (some (at_ f.params x1.2))
 else none)
 else
 (if 0 ≤ x1.1 ∧ x1.1 < (List.length f.blocks : Int) then
 (if decide (x1.2 < ((List.length ((at_ f.blocks x1.1).phis) : Int))) = true then
 (if 0 ≤ x1.2 ∧ x1.2 < (List.length ((at_ f.blocks x1.1).phis) : Int) then
 (some ((at_ ((at_ f.blocks x1.1).phis) x1.2).w))
 else none)
 else
 (if inI (x1.2 - ((List.length ((at_ f.blocks x1.1).phis) : Int))) then
 (if 0 ≤ (x1.2 - ((List.length ((at_ f.blocks x1.1).phis) : Int))) ∧ (x1.2 - ((List.length ((at_ f.blocks x1.1).phis) : Int))) < (List.length ((at_ f.blocks x1.1).insts) : Int) then
 (some ((W3 (at_ ((at_ f.blocks x1.1).insts) (x1.2 - ((List.length ((at_ f.blocks x1.1).phis) : Int)))))))
 else none)
 else none))
 else none))))
theorem K5 {f : GFunc} {id : Int} {r : Int} (hm : V7 f id = some r) : Sim Tryz.prog 111 [.agg (Z9 false f), .one (.int .i64 id)] [] (.u (.one (.int .i64 r))) [] := by
 refine fN 51 0 Tryz.func111 [.tmp 4] fun B hB0 => ?_
 unfold V7 at hm
 refine yG ?_
 intro _ hm
 refine nO (kW ?_)
 refine yG ?_
 intro _ hm
 obtain ⟨x1, h2, hm⟩ := Z0 hm
 refine nO (Z6 (cB (Y2b h2) ?_))
 refine yG ?_
 intro _ hm
 refine bS hm (fun hb3 hm => ?_) fun hb3 hm => ?_
 refine yG ?_
 intro _ hm
 cases hm
 exact rZ1
 refine yG ?_
 intro _ hm
 refine bS hm (fun hb4 hm => ?_) fun hb4 hm => ?_
 refine yG ?_
 intro k1 hm
 cases hm
 exact rZ1
 refine yG ?_
 intro k2 hm
 refine nO (K8 T53 rfl (U6 rfl rfl) rfl ?_)
 refine yG ?_
 intro k3 hm
 refine bS hm (fun hb8 hm => ?_) fun hb8 hm => ?_
 refine yG ?_
 intro k4 hm
 cases hm
 exact rZ1
 refine yG ?_
 intro k5 hm
 refine nO (K8 T29 rfl (U6 rfl rfl) rfl ?_)
 refine nO (Z6 (cB (Y2a (at_ ((at_ f.blocks x1.1).insts) (x1.2 - ((List.length ((at_ f.blocks x1.1).phis) : Int))))) ?_))
 refine yG ?_
 intro _ hm
 cases hm
 exact rZ1
noncomputable def Z7e (f : GFunc) (i : GInst) : Option Bool :=
 (Option.bind (V7 f i.a) fun x1 =>
 (if (Z7 i.op_ 1 17) = true then
 (Option.bind ((if (x1 == i.w) = true then
 (Option.bind (V7 f i.b) fun x6 =>
 (some ((x6 == i.w))))
 else
 (some false))) fun (j4 : Bool) =>
 (some j4))
 else
 (if ((i.op_ == 18) || (i.op_ == 19)) = true then
 (some ((decide (x1 > 0) && decide (x1 < i.w))))
 else
 (if (i.op_ == 20) = true then
 (some (decide (x1 > i.w)))
 else
 (if (i.op_ == 22) = true then
 (Option.bind ((if (x1 == 1) = true then
 (Option.bind (V7 f i.b) fun x18 =>
 (if (x18 == i.w) = true then
 (Option.bind (V7 f i.c) fun x21 =>
 (some ((x21 == i.w))))
 else
 (some false)))
 else
 (some false))) fun (j16 : Bool) =>
 (some j16))
 else
 (if (i.op_ == 23) = true then
 (some ((x1 == 32)))
 else
 (if (i.op_ == 24) = true then
 (Option.bind ((if (x1 == 32) = true then
 (Option.bind (V7 f i.b) fun x28 =>
 (some ((x28 == 8))))
 else
 (some false))) fun (j26 : Bool) =>
 (some j26))
 else
 (if (i.op_ == 25) = true then
 (some (decide (x1 > 0)))
 else
 (if (i.op_ == 27) = true then
 (some ((x1 == i.w)))
 else
 (some true))))))))))
theorem Y9h {f : GFunc} {i : GInst} {r : Bool} (hm : Z7e f i = some r) : Sim Tryz.prog 217 [.agg (Z9 false f), .agg (Q3 false i)] [] (.u (.one (.bool r))) [] := by
 refine fN 109 0 Tryz.func217 [.tmp 4] fun B hB0 => ?_
 unfold Z7e at hm
 refine yG ?_
 intro _ hm
 refine nO (kW ?_)
 refine yG ?_
 intro _ hm
 obtain ⟨x1, h2, hm⟩ := Z0 hm
 refine nO (Z6 (cB (K5 h2) ?_))
 refine yG ?_
 intro _ hm
 refine nO (Z6 (cB (V3 i.op_ 1 17) ?_))
 refine yG ?_
 intro _ hm
 refine bS hm (fun hb3 hm => ?_) fun hb3 hm => ?_
 refine Wp.seq ?_
 obtain ⟨j4, hj8, hm⟩ := Z0 hm
 refine V6 (St 109 [(4, vB j4)] [] 0) ?_ ?_
 replace hm := hj8
 refine Z3m (Y := sysC _) Z3i ?_
 refine tK 0 0 rfl (kV ?_)
 refine tK 1 1 rfl (kF ?_)
 refine tK 2 1 rfl (kD ?_)
 refine tK 3 0 rfl (Z2n T2 rfl rfl rfl ?_)
 refine tK 4 0 rfl (kV ?_)
 refine bT 18 hm (fun hb5 hm => ?_) fun hb5 hm => ?_
 refine tG 5 1 rfl (kW ?_)
 refine tG 6 1 rfl (kF ?_)
 refine tG 7 1 rfl (kD ?_)
 refine tG 9 1 rfl (kF ?_)
 refine tG 10 1 rfl (kD ?_)
 obtain ⟨x6, h7, hm⟩ := Z0 hm
 refine oG 8 rfl (cB (K5 h7) ?_)
 refine tG 11 0 rfl (Z2n T2 rfl rfl rfl ?_)
 refine tK 12 0 rfl (x_pk rfl rfl rfl ?_)
 refine tK 13 0 rfl (x_as rfl rfl ?_)
 refine aN ?_
 cases hm
 exact vW []
 refine tF 5 rfl ?_
 refine tF 6 rfl ?_
 refine tF 7 rfl ?_
 refine tF 8 rfl ?_
 refine tF 9 rfl ?_
 refine tF 10 rfl ?_
 refine tF 11 rfl ?_
 refine tK 12 0 rfl (x_pk rfl rfl rfl ?_)
 refine tK 13 0 rfl (x_as rfl rfl ?_)
 refine aN ?_
 cases hm
 exact vW []
 refine Z1s ?_
 cases hm
 exact rZ1
 refine Wp.seq ?_
 refine V6 (St 109 [(2, vP 0), (3, vP 1), (5, vI x1), (27, vB (((i.op_ == 18) || (i.op_ == 19))))] [(0, oL 3 (Z9 false f)), (1, oL 7 (Q3 false i))] 2) ?_ ?_
 refine yG ?_
 intro _ hm
 refine gO_s rfl rfl rfl (fun hb10 => ?_) (fun hb10 => ?_)
 refine yG ?_
 intro _ hm
 exact w_ [0, 1] (.cons rfl rfl (.cons rfl rfl (.cons rfl rfl (.cons (by simp only [hb10, BO]; rfl) rfl .nil)))) (.lit rfl rfl (.lit rfl rfl .nil)) (by decide) (hB_0 hB0)
 refine yG ?_
 intro _ hm
 exact w_ [0, 1] (.cons rfl rfl (.cons rfl rfl (.cons rfl rfl (.cons (by simp only [hb10, BO]; rfl) rfl .nil)))) (.lit rfl rfl (.lit rfl rfl .nil)) (by decide) (hB_0 hB0)
 refine bS hm (fun hb11 hm => ?_) fun hb11 hm => ?_
 refine Wp.seq ?_
 refine V6 (St 109 [(4, vB ((decide (x1 > 0) && decide (x1 < i.w))))] [] 0) ?_ ?_
 refine yG ?_
 intro _ hm
 refine gO_s rfl rfl rfl (fun hb13 => ?_) (fun hb13 => ?_)
 refine yG ?_
 intro _ hm
 exact w_ [] (.cons (by simp only [hb13, BO]; rfl) rfl .nil) .nil (by decide) (hB_0 hB0)
 refine yG ?_
 intro _ hm
 exact w_ [] (.cons (by simp only [hb13, BO]; rfl) rfl .nil) .nil (by decide) (hB_0 hB0)
 refine Z1s ?_
 cases hm
 exact rZ1
 refine yG ?_
 intro _ hm
 refine bS hm (fun hb14 hm => ?_) fun hb14 hm => ?_
 refine yG ?_
 intro _ hm
 cases hm
 exact rZ1
 refine yG ?_
 intro _ hm
 refine bS hm (fun hb15 hm => ?_) fun hb15 hm => ?_
 refine Wp.seq ?_
 obtain ⟨j16, hj23, hm⟩ := Z0 hm
 refine V6 (St 109 [(4, vB j16)] [] 0) ?_ ?_
 replace hm := hj23
 refine Z3m (Y := sysC _) Z3i ?_
 refine tK 0 0 rfl (kV ?_)
 refine tK 1 0 rfl (Z2n T2 rfl rfl rfl ?_)
 refine tK 2 0 rfl (kV ?_)
 refine bT 58 hm (fun hb17 hm => ?_) fun hb17 hm => ?_
 refine tG 3 1 rfl (kW ?_)
 refine tG 4 1 rfl (kF ?_)
 refine tG 5 1 rfl (kD ?_)
 refine tG 7 1 rfl (kF ?_)
 refine tG 8 1 rfl (kD ?_)
 obtain ⟨x18, h19, hm⟩ := Z0 hm
 refine oG 6 rfl (cB (K5 h19) ?_)
 refine tG 9 0 rfl (Z2n T2 rfl rfl rfl ?_)
 refine tK 10 0 rfl (x_pk rfl rfl rfl ?_)
 refine tK 11 0 rfl (kV ?_)
 refine bT 67 hm (fun hb20 hm => ?_) fun hb20 hm => ?_
 refine tG 12 1 rfl (kW ?_)
 refine tG 13 1 rfl (kF ?_)
 refine tG 14 1 rfl (kD ?_)
 refine tG 16 1 rfl (kF ?_)
 refine tG 17 1 rfl (kD ?_)
 obtain ⟨x21, h22, hm⟩ := Z0 hm
 refine oG 15 rfl (cB (K5 h22) ?_)
 refine tG 18 0 rfl (Z2n T2 rfl rfl rfl ?_)
 refine tK 19 0 rfl (x_pk rfl rfl rfl ?_)
 refine tK 20 0 rfl (x_as rfl rfl ?_)
 refine aN ?_
 cases hm
 exact vW []
 refine tF 12 rfl ?_
 refine tF 13 rfl ?_
 refine tF 14 rfl ?_
 refine tF 15 rfl ?_
 refine tF 16 rfl ?_
 refine tF 17 rfl ?_
 refine tF 18 rfl ?_
 refine tK 19 0 rfl (x_pk rfl rfl rfl ?_)
 refine tK 20 0 rfl (x_as rfl rfl ?_)
 refine aN ?_
 cases hm
 exact vW []
 refine tF 3 rfl ?_
 refine tF 4 rfl ?_
 refine tF 5 rfl ?_
 refine tF 6 rfl ?_
 refine tF 7 rfl ?_
 refine tF 8 rfl ?_
 refine tF 9 rfl ?_
 refine tK 10 0 rfl (x_pk rfl rfl rfl ?_)
 refine tK 11 0 rfl (kV ?_)
 refine tF 12 rfl ?_
 refine tF 13 rfl ?_
 refine tF 14 rfl ?_
 refine tF 15 rfl ?_
 refine tF 16 rfl ?_
 refine tF 17 rfl ?_
 refine tF 18 rfl ?_
 refine tK 19 0 rfl (x_pk rfl rfl rfl ?_)
 refine tK 20 0 rfl (x_as rfl rfl ?_)
 refine aN ?_
 cases hm
 exact vW []
 refine Z1s ?_
 cases hm
 exact rZ1
 refine yG ?_
 intro _ hm
 refine bS hm (fun hb24 hm => ?_) fun hb24 hm => ?_
 refine yG ?_
 intro _ hm
 cases hm
 exact rZ1
 refine yG ?_
 intro _ hm
 refine bS hm (fun hb25 hm => ?_) fun hb25 hm => ?_
 refine Wp.seq ?_
 obtain ⟨j26, hj30, hm⟩ := Z0 hm
 refine V6 (St 109 [(4, vB j26)] [] 0) ?_ ?_
 replace hm := hj30
 refine yG ?_
 intro _ hm
 refine bG1 hm (fun hb27 hm => ?_) fun hb27 hm => ?_
 refine gO_t rfl rfl rfl (kW ?_)
 refine yG ?_
 intro _ hm
 obtain ⟨x28, h29, hm⟩ := Z0 hm
 refine gO_t rfl rfl rfl (Z6 (cB (K5 h29) ?_))
 refine yG ?_
 intro _ hm
 cases hm
 exact vW []
 refine yG ?_
 intro _ hm
 cases hm
 exact vW []
 refine Z1s ?_
 cases hm
 exact rZ1
 refine yG ?_
 intro _ hm
 refine bS hm (fun hb31 hm => ?_) fun hb31 hm => ?_
 refine yG ?_
 intro _ hm
 cases hm
 exact rZ1
 refine yG ?_
 intro _ hm
 refine bS hm (fun hb32 hm => ?_) fun hb32 hm => ?_
 refine yG ?_
 intro _ hm
 cases hm
 exact rZ1
 refine yG ?_
 intro _ hm
 cases hm
 exact rZ1
noncomputable def Z5r (f : GFunc) : Option Bool :=
 (Option.bind (Y6 (fun (st1 : Int) =>
 ((if decide (st1 < ((List.length f.blocks : Int))) = true then
 (if 0 ≤ st1 ∧ st1 < (List.length f.blocks : Int) then
 (Option.bind (Y6 (fun (st7 : Int) =>
 ((if decide (st7 < ((List.length ((at_ f.blocks st1).phis) : Int))) = true then
 (Option.bind (Y6 (fun (st12 : Int) =>
 ((if 0 ≤ st7 ∧ st7 < (List.length ((at_ f.blocks st1).phis) : Int) then
 (if decide (st12 < ((List.length ((at_ ((at_ f.blocks st1).phis) st7).ins) : Int))) = true then
 (if 0 ≤ st7 ∧ st7 < (List.length ((at_ f.blocks st1).phis) : Int) then
 (if 0 ≤ st12 ∧ st12 < (List.length ((at_ ((at_ f.blocks st1).phis) st7).ins) : Int) then
 (if 0 ≤ st7 ∧ st7 < (List.length ((at_ f.blocks st1).phis) : Int) then
 (Option.bind (V7 f (at_ ((at_ ((at_ f.blocks st1).phis) st7).ins) st12)) fun x21 =>
 (if (x21 != ((at_ ((at_ f.blocks st1).phis) st7).w)) = true then
 (some (Sum.inr ((Sum.inl (())))))
 else
 (if inI (st12 + 1) then
 (some (Sum.inl (st12 + 1)))
 else none)))
 else none)
 else none)
 else none)
 else
 (some (Sum.inr ((Sum.inr (()))))))
 else none) : Option ((Int) ⊕ (Unit ⊕ Unit)))) 0) fun (y25 : Unit ⊕ Unit) => match y25 with
 | (Sum.inl j13) =>
 (some (Sum.inr ((Sum.inl (())))))
 | (Sum.inr j14) =>
 (if inI (st7 + 1) then
 (some (Sum.inl (st7 + 1)))
 else none))
 else
 (some (Sum.inr ((Sum.inr (())))))) : Option ((Int) ⊕ (Unit ⊕ Unit)))) 0) fun (y28 : Unit ⊕ Unit) => match y28 with
 | (Sum.inl j8) =>
 (some (Sum.inr ((Sum.inl (())))))
 | (Sum.inr j9) =>
 (Option.bind (Y6 (fun (st30 : Int) =>
 ((if decide (st30 < ((List.length ((at_ f.blocks st1).insts) : Int))) = true then
 (if 0 ≤ st30 ∧ st30 < (List.length ((at_ f.blocks st1).insts) : Int) then
 (Option.bind (Z7e f (at_ ((at_ f.blocks st1).insts) st30)) fun x36 =>
 (if (!x36) = true then
 (some (Sum.inr ((Sum.inl (())))))
 else
 (if inI (st30 + 1) then
 (some (Sum.inl (st30 + 1)))
 else none)))
 else none)
 else
 (some (Sum.inr ((Sum.inr (())))))) : Option ((Int) ⊕ (Unit ⊕ Unit)))) 0) fun (y40 : Unit ⊕ Unit) => match y40 with
 | (Sum.inl j31) =>
 (some (Sum.inr ((Sum.inl (())))))
 | (Sum.inr j32) =>
 (Option.bind ((if ((((at_ f.blocks st1).term).kind) == 1) = true then
 (Option.bind (V7 f (((at_ f.blocks st1).term).a)) fun x44 =>
 (if (x44 != f.ret) = true then
 (some true)
 else
 (if ((((at_ f.blocks st1).term).kind) == 3) = true then
 (Option.bind (V7 f (((at_ f.blocks st1).term).a)) fun x48 =>
 (some ((x48 != 1))))
 else
 (some false))))
 else
 (if ((((at_ f.blocks st1).term).kind) == 3) = true then
 (Option.bind (V7 f (((at_ f.blocks st1).term).a)) fun x51 =>
 (some ((x51 != 1))))
 else
 (some false)))) fun (j42 : Bool) =>
 (if j42 = true then
 (some (Sum.inr ((Sum.inl (())))))
 else
 (if inI (st1 + 1) then
 (some (Sum.inl (st1 + 1)))
 else none)))))
 else none)
 else
 (some (Sum.inr ((Sum.inr (())))))) : Option ((Int) ⊕ (Unit ⊕ Unit)))) 0) fun (y56 : Unit ⊕ Unit) => match y56 with
 | (Sum.inl j2) =>
 (some false)
 | (Sum.inr j3) =>
 (some true))
theorem Y7r {f : GFunc} {r : Bool} (hm : Z5r f = some r) : Sim Tryz.prog 153 [.agg (Z9 false f)] [] (.u (.one (.bool r))) [] := by
 refine fN 99 0 Tryz.func153 [.tmp 2] fun B hB0 => ?_
 unfold Z5r at hm
 refine yG ?_
 intro _ hm
 obtain ⟨y56, hl57, hm⟩ := Z0 hm
 refine J6 hl57 (fun (st1 : Int) => St 99 [(1, vP 0), (3, vI st1)] [(0, oL 3 (Z9 false f))] 1) (fun (y : Unit ⊕ Unit) => match y with | (Sum.inl j2) => (.ret, St 99 [(2, vB false)] [] 0) | (Sum.inr j3) => (.exit 0, St 99 [] [] 0)) (vW [0]) ?_ (by rintro (_ | _) <;> simp) ?_
 intro st1 x hm
 refine yG ?_
 intro k1 hm
 refine bS hm (fun hb5 hm => ?_) fun hb5 hm => ?_
 refine yG ?_
 intro k2 hm
 refine nO (K8 T53 rfl (U6 rfl rfl) rfl ?_)
 refine yG ?_
 intro _ hm
 obtain ⟨y28, hl29, hm⟩ := Z0 hm
 refine J6 hl29 (fun (st7 : Int) => St 99 [(1, vP 0), (3, vI st1), (4, vP 1), (5, vI st7)] [(0, oL 3 (Z9 false f)), (1, oL 6 (W2 false (at_ f.blocks st1)))] 2) (fun (y : Unit ⊕ Unit) => match y with | (Sum.inl j8) => (.ret, St 99 [(2, vB false)] [] 0) | (Sum.inr j9) => (.exit 2, St 99 [(1, vP 0), (3, vI st1), (4, vP 1)] [(0, oL 3 (Z9 false f)), (1, oL 6 (W2 false (at_ f.blocks st1)))] 2)) (vW [0, 1]) ?_ (by rintro (_ | _) <;> simp) ?_
 intro st7 x hm
 refine yG ?_
 intro k3 hm
 refine bS hm (fun hb11 hm => ?_) fun hb11 hm => ?_
 refine yG ?_
 intro _ hm
 obtain ⟨y25, hl26, hm⟩ := Z0 hm
 refine J6 hl26 (fun (st12 : Int) => St 99 [(1, vP 0), (3, vI st1), (4, vP 1), (5, vI st7), (6, vI st12)] [(0, oL 3 (Z9 false f)), (1, oL 6 (W2 false (at_ f.blocks st1)))] 2) (fun (y : Unit ⊕ Unit) => match y with | (Sum.inl j13) => (.ret, St 99 [(2, vB false)] [] 0) | (Sum.inr j14) => (.exit 4, St 99 [(1, vP 0), (3, vI st1), (4, vP 1), (5, vI st7)] [(0, oL 3 (Z9 false f)), (1, oL 6 (W2 false (at_ f.blocks st1)))] 2)) (vW [0, 1]) ?_ (by rintro (_ | _) <;> simp) ?_
 intro st12 x hm
 refine yG ?_
 intro k4 hm
 refine bS hm (fun hb17 hm => ?_) fun hb17 hm => ?_
 refine K3 ?_
 refine Wp.seq ?_
 refine Wp.block ?_
 refine Wp.seq ?_
 refine Z3m (Y := sysC _) Z3i ?_
 refine tK 0 1 rfl (kW ?_)
 refine tK 1 1 rfl (kF ?_)
 refine tK 2 1 rfl (kD ?_)
 refine tK 3 0 rfl (kV ?_)
 obtain ⟨h18, hm⟩ := Y1 hm
 refine tK 4 0 rfl (Z8q E48 rfl rfl h18 ?_)
 refine tK 5 0 rfl (Y8z W7d rfl ?_)
 refine tK 6 0 rfl (K8 T24 rfl rfl rfl ?_)
 refine tK 7 0 rfl (kV ?_)
 obtain ⟨h19, hm⟩ := Y1 hm
 refine tK 8 0 rfl (Z8q E24 rfl rfl h19 ?_)
 refine tK 9 0 rfl (K8 T2 rfl rfl rfl ?_)
 refine tK 11 1 rfl (kF ?_)
 refine tK 12 1 rfl (kD ?_)
 refine tK 13 0 rfl (kV ?_)
 obtain ⟨h20, hm⟩ := Y1 hm
 refine tK 14 0 rfl (Z8q E48 rfl rfl h20 ?_)
 refine tK 15 0 rfl (Y8z F55_0 rfl ?_)
 refine tK 16 0 rfl (K8 T2 rfl rfl rfl ?_)
 obtain ⟨x21, h22, hm⟩ := Z0 hm
 refine oK 10 rfl (cB (K5 h22) ?_)
 refine tK 17 0 rfl (Z2n T2 rfl rfl rfl ?_)
 refine aN ?_
 refine bS hm (fun hb23 hm => ?_) fun hb23 hm => ?_
 refine yG ?_
 intro _ hm
 cases hm
 exact ⟨rfl, vW []⟩
 refine yG ?_
 intro k5 hm
 cases hm
 exact ⟨rfl, vW [0, 1]⟩
 refine V2 ?_
 cases hm
 exact ⟨rfl, vW [0, 1]⟩
 rcases y25 with j13 | j14 <;> simp only at hm
 cases hm
 exact ⟨rfl, vW []⟩
 refine yG ?_
 intro k6 hm
 cases hm
 exact ⟨rfl, vW [0, 1]⟩
 refine V2 ?_
 cases hm
 exact ⟨rfl, vW [0, 1]⟩
 rcases y28 with j8 | j9 <;> simp only at hm
 cases hm
 exact ⟨rfl, vW []⟩
 refine yG ?_
 intro _ hm
 obtain ⟨y40, hl41, hm⟩ := Z0 hm
 refine J6 hl41 (fun (st30 : Int) => St 99 [(1, vP 0), (3, vI st1), (4, vP 1), (7, vI st30)] [(0, oL 3 (Z9 false f)), (1, oL 6 (W2 false (at_ f.blocks st1)))] 2) (fun (y : Unit ⊕ Unit) => match y with | (Sum.inl j31) => (.ret, St 99 [(2, vB false)] [] 0) | (Sum.inr j32) => (.exit 6, St 99 [(1, vP 0), (3, vI st1), (4, vP 1)] [(0, oL 3 (Z9 false f)), (1, oL 6 (W2 false (at_ f.blocks st1)))] 2)) (vW [0, 1]) ?_ (by rintro (_ | _) <;> simp) ?_
 intro st30 x hm
 refine yG ?_
 intro k7 hm
 refine bS hm (fun hb34 hm => ?_) fun hb34 hm => ?_
 refine K3 ?_
 refine Wp.seq ?_
 refine Wp.block ?_
 refine Wp.seq ?_
 refine Z3m (Y := sysC _) Z3i ?_
 refine tK 0 1 rfl (kW ?_)
 refine tK 1 1 rfl (kF ?_)
 refine tK 2 1 rfl (kD ?_)
 refine tK 3 0 rfl (kV ?_)
 obtain ⟨h35, hm⟩ := Y1 hm
 refine tK 4 0 rfl (Z8q E49 rfl rfl h35 ?_)
 refine tK 5 0 rfl (K8 T29 rfl (U6 rfl rfl) rfl ?_)
 obtain ⟨x36, h37, hm⟩ := Z0 hm
 refine oK 6 rfl (cB (Y9h h37) ?_)
 refine tK 7 0 rfl (x_un rfl rfl ?_)
 refine aN ?_
 refine bS hm (fun hb38 hm => ?_) fun hb38 hm => ?_
 refine yG ?_
 intro _ hm
 cases hm
 exact ⟨rfl, vW []⟩
 refine yG ?_
 intro k8 hm
 cases hm
 exact ⟨rfl, vW [0, 1]⟩
 refine V2 ?_
 cases hm
 exact ⟨rfl, vW [0, 1]⟩
 rcases y40 with j31 | j32 <;> simp only at hm
 cases hm
 exact ⟨rfl, vW []⟩
 refine Wp.seq ?_
 obtain ⟨j42, hj53, hm⟩ := Z0 hm
 refine V6 (St 99 [(1, vP 0), (3, vI st1), (98, vB j42)] [(0, oL 3 (Z9 false f))] 1) ?_ ?_
 replace hm := hj53
 refine Z3m (Y := sysC _) Z3i ?_
 refine tK 0 1 rfl (kF ?_)
 refine tK 1 1 rfl (kF ?_)
 refine tK 2 1 rfl (kD ?_)
 refine tK 3 0 rfl (Z2n T2 rfl rfl rfl ?_)
 refine tK 4 0 rfl (kV ?_)
 refine bT 75 hm (fun hb43 hm => ?_) fun hb43 hm => ?_
 refine tG 5 1 rfl (kW ?_)
 refine tG 6 1 rfl (kF ?_)
 refine tG 7 1 rfl (kF ?_)
 refine tG 8 1 rfl (kD ?_)
 refine tG 10 1 rfl (kF ?_)
 refine tG 11 1 rfl (kD ?_)
 obtain ⟨x44, h45, hm⟩ := Z0 hm
 refine oG 9 rfl (cB (K5 h45) ?_)
 refine tG 12 0 rfl (Z2n T2 rfl rfl rfl ?_)
 refine tK 13 0 rfl (x_pk rfl rfl rfl ?_)
 refine tK 14 0 rfl (kV ?_)
 refine bT 85 hm (fun hb46 hm => ?_) fun hb46 hm => ?_
 refine tF 15 rfl ?_
 refine tF 16 rfl ?_
 refine tF 17 rfl ?_
 refine tF 18 rfl ?_
 refine tF 19 rfl ?_
 refine t_u 20 rfl (by decide +kernel) rfl rfl rfl ?_
 refine t_u 21 rfl (by decide +kernel) rfl rfl rfl ?_
 refine t_u 22 rfl (by decide +kernel) rfl rfl rfl ?_
 refine t_u 23 rfl (by decide +kernel) rfl rfl rfl ?_
 refine t_u 24 rfl (by decide +kernel) rfl rfl rfl ?_
 refine t_u 25 rfl (by decide +kernel) rfl rfl rfl ?_
 refine tF 26 rfl ?_
 refine tK 27 0 rfl (x_pk rfl rfl rfl ?_)
 refine aN ?_
 cases hm
 exact vW [0]
 refine tG 15 1 rfl (kF ?_)
 refine tG 16 1 rfl (kF ?_)
 refine tG 17 1 rfl (kD ?_)
 refine tG 18 0 rfl (Z2n T2 rfl rfl rfl ?_)
 refine tG 19 0 rfl (kV ?_)
 refine bT 90 hm (fun hb47 hm => ?_) fun hb47 hm => ?_
 refine tG 20 1 rfl (kW ?_)
 refine tG 21 1 rfl (kF ?_)
 refine tG 22 1 rfl (kF ?_)
 refine tG 23 1 rfl (kD ?_)
 obtain ⟨x48, h49, hm⟩ := Z0 hm
 refine oG 24 rfl (cB (K5 h49) ?_)
 refine tG 25 0 rfl (Z2n T2 rfl rfl rfl ?_)
 refine tG 26 0 rfl (x_pk rfl rfl rfl ?_)
 refine tK 27 0 rfl (x_pk rfl rfl rfl ?_)
 refine aN ?_
 cases hm
 exact vW [0]
 refine tF 20 rfl ?_
 refine tF 21 rfl ?_
 refine tF 22 rfl ?_
 refine tF 23 rfl ?_
 refine tF 24 rfl ?_
 refine tF 25 rfl ?_
 refine tG 26 0 rfl (x_pk rfl rfl rfl ?_)
 refine tK 27 0 rfl (x_pk rfl rfl rfl ?_)
 refine aN ?_
 cases hm
 exact vW [0]
 refine tF 5 rfl ?_
 refine tF 6 rfl ?_
 refine tF 7 rfl ?_
 refine tF 8 rfl ?_
 refine tF 9 rfl ?_
 refine tF 10 rfl ?_
 refine tF 11 rfl ?_
 refine tF 12 rfl ?_
 refine tK 13 0 rfl (x_pk rfl rfl rfl ?_)
 refine tK 14 0 rfl (kV ?_)
 refine tG 15 1 rfl (kF ?_)
 refine tG 16 1 rfl (kF ?_)
 refine tG 17 1 rfl (kD ?_)
 refine tG 18 0 rfl (Z2n T2 rfl rfl rfl ?_)
 refine tG 19 0 rfl (kV ?_)
 refine bT 90 hm (fun hb50 hm => ?_) fun hb50 hm => ?_
 refine tG 20 1 rfl (kW ?_)
 refine tG 21 1 rfl (kF ?_)
 refine tG 22 1 rfl (kF ?_)
 refine tG 23 1 rfl (kD ?_)
 obtain ⟨x51, h52, hm⟩ := Z0 hm
 refine oG 24 rfl (cB (K5 h52) ?_)
 refine tG 25 0 rfl (Z2n T2 rfl rfl rfl ?_)
 refine tG 26 0 rfl (x_pk rfl rfl rfl ?_)
 refine tK 27 0 rfl (x_pk rfl rfl rfl ?_)
 refine aN ?_
 cases hm
 exact vW [0]
 refine tF 20 rfl ?_
 refine tF 21 rfl ?_
 refine tF 22 rfl ?_
 refine tF 23 rfl ?_
 refine tF 24 rfl ?_
 refine tF 25 rfl ?_
 refine tG 26 0 rfl (x_pk rfl rfl rfl ?_)
 refine tK 27 0 rfl (x_pk rfl rfl rfl ?_)
 refine aN ?_
 cases hm
 exact vW [0]
 refine bS hm (fun hb54 hm => ?_) fun hb54 hm => ?_
 refine yG ?_
 intro _ hm
 cases hm
 exact ⟨rfl, vW []⟩
 refine yG ?_
 intro k9 hm
 cases hm
 exact ⟨rfl, vW [0]⟩
 refine V2 ?_
 cases hm
 exact ⟨rfl, vW []⟩
 rcases y56 with j2 | j3 <;> simp only at hm
 cases hm
 exact rZ1
 refine yG ?_
 intro _ hm
 cases hm
 exact rZ1
noncomputable def Z5s (m : GModule) (f : GFunc) : Option Bool :=
 (Option.bind (Y6 (fun (st1 : Int) =>
 ((if decide (st1 < ((List.length f.blocks : Int))) = true then
 (Option.bind (Y6 (fun (st6 : Int) =>
 ((if 0 ≤ st1 ∧ st1 < (List.length f.blocks : Int) then
 (if decide (st6 < ((List.length ((at_ f.blocks st1).insts) : Int))) = true then
 (if 0 ≤ st1 ∧ st1 < (List.length f.blocks : Int) then
 (if 0 ≤ st6 ∧ st6 < (List.length ((at_ f.blocks st1).insts) : Int) then
 (if (((at_ ((at_ f.blocks st1).insts) st6).op_) != 26) = true then
 (if inI (st6 + 1) then
 (some (Sum.inl (st6 + 1)))
 else none)
 else
 (if 0 ≤ ((at_ ((at_ f.blocks st1).insts) st6).imm) ∧ ((at_ ((at_ f.blocks st1).insts) st6).imm) < (List.length m.funcs : Int) then
 (if (if (((at_ ((at_ f.blocks st1).insts) st6).w) != ((at_ m.funcs ((at_ ((at_ f.blocks st1).insts) st6).imm)).ret)) = true then true else (((List.length ((at_ ((at_ f.blocks st1).insts) st6).args) : Int)) != ((List.length ((at_ m.funcs ((at_ ((at_ f.blocks st1).insts) st6).imm)).params) : Int)))) = true then
 (some (Sum.inr ((Sum.inl (())))))
 else
 (Option.bind (Y6 (fun (st22 : Int) =>
 ((if decide (st22 < ((List.length ((at_ ((at_ f.blocks st1).insts) st6).args) : Int))) = true then
 (if 0 ≤ st22 ∧ st22 < (List.length ((at_ ((at_ f.blocks st1).insts) st6).args) : Int) then
 (if 0 ≤ st22 ∧ st22 < (List.length ((at_ m.funcs ((at_ ((at_ f.blocks st1).insts) st6).imm)).params) : Int) then
 (Option.bind (V7 f (at_ ((at_ ((at_ f.blocks st1).insts) st6).args) st22)) fun x29 =>
 (if (x29 != (at_ ((at_ m.funcs ((at_ ((at_ f.blocks st1).insts) st6).imm)).params) st22)) = true then
 (some (Sum.inr ((Sum.inl (())))))
 else
 (if inI (st22 + 1) then
 (some (Sum.inl (st22 + 1)))
 else none)))
 else none)
 else none)
 else
 (some (Sum.inr ((Sum.inr (())))))) : Option ((Int) ⊕ (Unit ⊕ Unit)))) 0) fun (y33 : Unit ⊕ Unit) => match y33 with
 | (Sum.inl j23) =>
 (some (Sum.inr ((Sum.inl (())))))
 | (Sum.inr j24) =>
 (if inI (st6 + 1) then
 (some (Sum.inl (st6 + 1)))
 else none)))
 else none))
 else none)
 else none)
 else
 (some (Sum.inr ((Sum.inr (()))))))
 else none) : Option ((Int) ⊕ (Unit ⊕ Unit)))) 0) fun (y36 : Unit ⊕ Unit) => match y36 with
 | (Sum.inl j7) =>
 (some (Sum.inr ((Sum.inl (())))))
 | (Sum.inr j8) =>
 (if inI (st1 + 1) then
 (some (Sum.inl (st1 + 1)))
 else none))
 else
 (some (Sum.inr ((Sum.inr (())))))) : Option ((Int) ⊕ (Unit ⊕ Unit)))) 0) fun (y39 : Unit ⊕ Unit) => match y39 with
 | (Sum.inl j2) =>
 (some false)
 | (Sum.inr j3) =>
 (some true))
theorem Y7s {m : GModule} {f : GFunc} {r : Bool} (hm : Z5s m f = some r) : Sim Tryz.prog 154 [.agg (K7 false m), .agg (Z9 false f)] [] (.u (.one (.bool r))) [] := by
 refine fN 80 0 Tryz.func154 [.tmp 4] fun B hB0 => ?_
 unfold Z5s at hm
 refine yG ?_
 intro _ hm
 obtain ⟨y39, hl40, hm⟩ := Z0 hm
 refine J6 hl40 (fun (st1 : Int) => St 80 [(2, vP 0), (3, vP 1), (5, vI st1)] [(0, oL 1 (K7 false m)), (1, oL 3 (Z9 false f))] 2) (fun (y : Unit ⊕ Unit) => match y with | (Sum.inl j2) => (.ret, St 80 [(4, vB false)] [] 0) | (Sum.inr j3) => (.exit 0, St 80 [] [] 0)) (vW [0, 1]) ?_ (by rintro (_ | _) <;> simp) ?_
 intro st1 x hm
 refine yG ?_
 intro k1 hm
 refine bS hm (fun hb5 hm => ?_) fun hb5 hm => ?_
 refine yG ?_
 intro _ hm
 obtain ⟨y36, hl37, hm⟩ := Z0 hm
 refine J6 hl37 (fun (st6 : Int) => St 80 [(2, vP 0), (3, vP 1), (5, vI st1), (6, vI st6)] [(0, oL 1 (K7 false m)), (1, oL 3 (Z9 false f))] 2) (fun (y : Unit ⊕ Unit) => match y with | (Sum.inl j7) => (.ret, St 80 [(4, vB false)] [] 0) | (Sum.inr j8) => (.exit 2, St 80 [(2, vP 0), (3, vP 1), (5, vI st1)] [(0, oL 1 (K7 false m)), (1, oL 3 (Z9 false f))] 2)) (vW [0, 1]) ?_ (by rintro (_ | _) <;> simp) ?_
 intro st6 x hm
 refine yG ?_
 intro k2 hm
 refine bS hm (fun hb11 hm => ?_) fun hb11 hm => ?_
 refine yG ?_
 intro k3 hm
 refine nO (K8 T29 rfl (U6 rfl rfl) rfl ?_)
 refine yG ?_
 intro _ hm
 refine bS hm (fun hb14 hm => ?_) fun hb14 hm => ?_
 refine yG ?_
 intro k4 hm
 cases hm
 exact ⟨rfl, vW [0, 1]⟩
 refine yG ?_
 intro k5 hm
 refine nO (K8 T27 rfl (U6 rfl rfl) rfl ?_)
 refine yR ?_
 intro _ hm
 refine W5 ?_
 refine Wp.seq ?_
 refine Wp.seq ?_
 refine V6 (St 80 [(2, vP 0), (3, vP 1), (5, vI st1), (6, vI st6), (7, vP 2), (8, vP 3), (59, vB ((if (((at_ ((at_ f.blocks st1).insts) st6).w) != ((at_ m.funcs ((at_ ((at_ f.blocks st1).insts) st6).imm)).ret)) = true then true else (((List.length ((at_ ((at_ f.blocks st1).insts) st6).args) : Int)) != ((List.length ((at_ m.funcs ((at_ ((at_ f.blocks st1).insts) st6).imm)).params) : Int))))))] [(0, oL 1 (K7 false m)), (1, oL 3 (Z9 false f)), (2, oL 7 (Q3 false (at_ ((at_ f.blocks st1).insts) st6))), (3, oL 3 (Z9 false (at_ m.funcs ((at_ ((at_ f.blocks st1).insts) st6).imm))))] 4) ?_ ?_
 refine yG ?_
 intro _ hm
 refine gO_s rfl rfl rfl (fun hb18 => ?_) (fun hb18 => ?_)
 refine yG ?_
 intro k6 hm
 exact w_ [0, 1, 2, 3] (.cons rfl rfl (.cons rfl rfl (.cons rfl rfl (.cons rfl rfl (.cons rfl rfl (.cons rfl rfl (.cons (by simp only [hb18, BO]; rfl) rfl .nil))))))) (.lit rfl rfl (.lit rfl rfl (.lit rfl rfl (.lit rfl rfl .nil)))) (by decide) (hB_0 hB0)
 refine yG ?_
 intro _ hm
 exact w_ [0, 1, 2, 3] (.cons rfl rfl (.cons rfl rfl (.cons rfl rfl (.cons rfl rfl (.cons rfl rfl (.cons rfl rfl (.cons (by simp only [hb18, BO]; rfl) rfl .nil))))))) (.lit rfl rfl (.lit rfl rfl (.lit rfl rfl (.lit rfl rfl .nil)))) (by decide) (hB_0 hB0)
 refine bS hm (fun hb21 hm => ?_) fun hb21 hm => ?_
 refine yG ?_
 intro _ hm
 cases hm
 exact ⟨rfl, vW []⟩
 refine yG ?_
 intro _ hm
 obtain ⟨y33, hl34, hm⟩ := Z0 hm
 refine J6 hl34 (fun (st22 : Int) => St 80 [(2, vP 0), (3, vP 1), (5, vI st1), (6, vI st6), (7, vP 2), (8, vP 3), (9, vI st22)] [(0, oL 1 (K7 false m)), (1, oL 3 (Z9 false f)), (2, oL 7 (Q3 false (at_ ((at_ f.blocks st1).insts) st6))), (3, oL 3 (Z9 false (at_ m.funcs ((at_ ((at_ f.blocks st1).insts) st6).imm))))] 4) (fun (y : Unit ⊕ Unit) => match y with | (Sum.inl j23) => (.ret, St 80 [(4, vB false)] [] 0) | (Sum.inr j24) => (.exit 4, St 80 [(2, vP 0), (3, vP 1), (5, vI st1), (6, vI st6)] [(0, oL 1 (K7 false m)), (1, oL 3 (Z9 false f))] 2)) (vW [0, 1, 2, 3]) ?_ (by rintro (_ | _) <;> simp) ?_
 intro st22 x hm
 refine yG ?_
 intro k7 hm
 refine bS hm (fun hb26 hm => ?_) fun hb26 hm => ?_
 refine K3 ?_
 refine Wp.seq ?_
 refine Wp.block ?_
 refine Wp.seq ?_
 refine Z3m (Y := sysC _) Z3i ?_
 refine tK 0 1 rfl (kW ?_)
 refine tK 1 1 rfl (kF ?_)
 refine tK 2 1 rfl (kD ?_)
 refine tK 3 0 rfl (kV ?_)
 obtain ⟨h27, hm⟩ := Y1 hm
 refine tK 4 0 rfl (Z8q E24 rfl rfl h27 ?_)
 refine tK 5 0 rfl (K8 T2 rfl rfl rfl ?_)
 refine tK 7 1 rfl (kF ?_)
 refine tK 8 1 rfl (kD ?_)
 refine tK 9 0 rfl (kV ?_)
 obtain ⟨h28, hm⟩ := Y1 hm
 refine tK 10 0 rfl (Z8q E24 rfl rfl h28 ?_)
 refine tK 11 0 rfl (K8 T2 rfl rfl rfl ?_)
 obtain ⟨x29, h30, hm⟩ := Z0 hm
 refine oK 6 rfl (cB (K5 h30) ?_)
 refine tK 12 0 rfl (Z2n T2 rfl rfl rfl ?_)
 refine aN ?_
 refine bS hm (fun hb31 hm => ?_) fun hb31 hm => ?_
 refine yG ?_
 intro _ hm
 cases hm
 exact ⟨rfl, vW []⟩
 refine yG ?_
 intro k8 hm
 cases hm
 exact ⟨rfl, vW [0, 1, 2, 3]⟩
 refine V2 ?_
 cases hm
 exact ⟨rfl, vW [0, 1]⟩
 rcases y33 with j23 | j24 <;> simp only at hm
 cases hm
 exact ⟨rfl, vW []⟩
 refine yG ?_
 intro k9 hm
 cases hm
 exact ⟨rfl, vW [0, 1]⟩
 refine V2 ?_
 cases hm
 exact ⟨rfl, vW [0, 1]⟩
 rcases y36 with j7 | j8 <;> simp only at hm
 cases hm
 exact ⟨rfl, vW []⟩
 refine yG ?_
 intro k10 hm
 cases hm
 exact ⟨rfl, vW [0, 1]⟩
 refine V2 ?_
 cases hm
 exact ⟨rfl, vW []⟩
 rcases y39 with j2 | j3 <;> simp only at hm
 cases hm
 exact rZ1
 refine yG ?_
 intro _ hm
 cases hm
 exact rZ1
noncomputable def Z8i (l : List Int) (n : Int) : Option (List Int) :=
 (Option.bind (Y6 (fun (st1 : Int) =>
 ((Option.bind ((if decide (st1 < ((List.length l : Int))) = true then
 (if 0 ≤ st1 ∧ st1 < (List.length l : Int) then
 (some (decide ((at_ l st1) < n)))
 else none)
 else
 (some false))) fun (j3 : Bool) =>
 (if j3 = true then
 (if inI (st1 + 1) then
 (some (Sum.inl (st1 + 1)))
 else none)
 else
 (some (Sum.inr st1)))) : Option ((Int) ⊕ (Int)))) 0) fun (j2 : Int) =>
 (Option.bind ((if decide (j2 < ((List.length l : Int))) = true then
 (if 0 ≤ j2 ∧ j2 < (List.length l : Int) then
 (some (((at_ l j2) == n)))
 else none)
 else
 (some false))) fun (j12 : Bool) =>
 (if j12 = true then
 (some l)
 else
 (if 0 ≤ j2 ∧ 0 ≤ (Int.toNat j2) ∧ (Int.toNat j2) ≤ List.length l then
 (if (List.length (([] : List Int)) + List.length (List.take ((Int.toNat j2) - 0) (List.drop 0 l))) * 8 ≤ 140737488355328 ∧ List.length (([] : List Int)) + List.length (List.take ((Int.toNat j2) - 0) (List.drop 0 l)) ≤ LIM then
 (if (List.length ((([] : List Int)) ++ (List.take ((Int.toNat j2) - 0) (List.drop 0 l))) + List.length ([n])) * 8 ≤ 140737488355328 ∧ List.length ((([] : List Int)) ++ (List.take ((Int.toNat j2) - 0) (List.drop 0 l))) + List.length ([n]) ≤ LIM then
 (if 0 ≤ j2 ∧ (Int.toNat j2) ≤ (List.length l) ∧ (List.length l) ≤ List.length l then
 (if (List.length (((([] : List Int)) ++ (List.take ((Int.toNat j2) - 0) (List.drop 0 l))) ++ ([n])) + List.length (List.take ((List.length l) - (Int.toNat j2)) (List.drop (Int.toNat j2) l))) * 8 ≤ 140737488355328 ∧ List.length (((([] : List Int)) ++ (List.take ((Int.toNat j2) - 0) (List.drop 0 l))) ++ ([n])) + List.length (List.take ((List.length l) - (Int.toNat j2)) (List.drop (Int.toNat j2) l)) ≤ LIM then
 (some ((((([] : List Int)) ++ (List.take ((Int.toNat j2) - 0) (List.drop 0 l))) ++ ([n])) ++ (List.take ((List.length l) - (Int.toNat j2)) (List.drop (Int.toNat j2) l))))
 else none)
 else none)
 else none)
 else none)
 else none))))
theorem X1i {l : List Int} {n : Int} {r : List Int} (hm : Z8i l n = some r) : Sim Tryz.prog 186 [.one (.bs () 1 (List.map iL l)), .one (.int .i64 n)] [] (.u (.one (.bs () 1 (List.map iL r)))) [] := by
 refine fN 48 0 Tryz.func186 [.tmp 4] fun B hB0 => ?_
 unfold Z8i at hm
 refine yG ?_
 intro _ hm
 obtain ⟨j2, hl11, hm⟩ := Z0 hm
 refine lP hl11 (fun st1 => St 48 [(0, .u (.one (.bs () 1 (List.map iL l)))), (1, vI n), (5, vI st1)] [] 0) (fun j2 => (.exit 0, St 48 [(0, .u (.one (.bs () 1 (List.map iL l)))), (1, vI n), (5, vI j2)] [] 0)) (vW []) ?_ ?_
 intro st1 x hm
 refine Wp.seq ?_
 refine Wp.seq ?_
 obtain ⟨j3, hj7, hm⟩ := Z0 hm
 refine V6 (St 48 [(0, .u (.one (.bs () 1 (List.map iL l)))), (1, vI n), (5, vI st1), (18, vB j3)] [] 0) ?_ ?_
 replace hm := hj7
 refine yG ?_
 intro k1 hm
 refine bG1 hm (fun hb5 hm => ?_) fun hb5 hm => ?_
 refine yG ?_
 intro k2 hm
 cases hm
 exact vW []
 refine yG ?_
 intro _ hm
 cases hm
 exact vW []
 refine bS hm (fun hb8 hm => ?_) fun hb8 hm => ?_
 refine yG ?_
 intro k3 hm
 cases hm
 exact ⟨rfl, vW []⟩
 refine V2 ?_
 cases hm
 exact ⟨rfl, vW []⟩
 refine Wp.seq ?_
 refine Wp.seq ?_
 obtain ⟨j12, hj16, hm⟩ := Z0 hm
 refine V6 (St 48 [(0, .u (.one (.bs () 1 (List.map iL l)))), (1, vI n), (5, vI j2), (32, vB j12)] [] 0) ?_ ?_
 replace hm := hj16
 refine yG ?_
 intro k4 hm
 refine bG1 hm (fun hb14 hm => ?_) fun hb14 hm => ?_
 refine yG ?_
 intro k5 hm
 cases hm
 exact vW []
 refine yG ?_
 intro _ hm
 cases hm
 exact vW []
 refine bS hm (fun hb17 hm => ?_) fun hb17 hm => ?_
 refine yG ?_
 intro _ hm
 cases hm
 exact rZ1
 refine yG ?_
 intro _ hm
 refine nO (kM (iL) (([] : List Int)) ?_)
 refine yG ?_
 intro _ hm
 obtain ⟨h18, hm⟩ := Y1 hm
 refine nO (x_slb (enc := iL) (xs := l) (l := 0) (h := (Int.toNat j2)) E24 rfl bd_n (bd_s rfl h18.1) h18.2 ?_)
 refine yG ?_
 intro k6 hm
 refine nO (kM (iL) ([n]) ?_)
 refine yG ?_
 intro k7 hm
 obtain ⟨h21, hm⟩ := Y1 hm
 refine nO (x_slb (enc := iL) (xs := l) (l := (Int.toNat j2)) (h := (List.length l)) E24 rfl (bd_s rfl h21.1) bd_n h21.2 ?_)
 refine yG ?_
 intro k8 hm
 cases hm
 exact rZ1h (hg := f_frR 0 0 rfl rfl rfl (by first | rfl | simp) rfl rfl)
noncomputable def Z2e (f : GFunc) (without : Int) : Option (List Int) :=
 (if (without == 0) = true then
 (some (([] : List Int)))
 else
 (Option.bind (Y6 (fun (st3 : (List Int) × (List Int)) =>
 ((if decide (((List.length st3.1 : Int)) > 0) = true then
 (if (0 : Int) ≤ 0 ∧ 0 < (List.length st3.1 : Int) then
 (if 1 ≤ (List.length st3.1) ∧ (List.length st3.1) ≤ List.length st3.1 then
 (Option.bind (Z3d (List.drop 1 st3.1)) fun x9 =>
 (Option.bind ((if ((at_ st3.1 0) == without) = true then
 (some true)
 else
 (Option.bind (Z1a st3.2 (at_ st3.1 0)) fun x13 =>
 (some x13)))) fun (j11 : Bool) =>
 (if j11 = true then
 (some (Sum.inl ((x9, st3.2))))
 else
 (Option.bind (Z8i st3.2 (at_ st3.1 0)) fun x17 =>
 (Option.bind (Z3z f (at_ st3.1 0)) fun x19 =>
 (if (List.length x9 + List.length x19) * 8 ≤ 140737488355328 ∧ List.length x9 + List.length x19 ≤ LIM then
 (some (Sum.inl ((x9 ++ x19, x17))))
 else none))))))
 else none)
 else none)
 else
 (some (Sum.inr st3.2))) : Option (((List Int) × (List Int)) ⊕ (((List Int)))))) ([0], ([] : List Int))) fun (j4 : (List Int)) =>
 (some j4)))
theorem Z8s {f : GFunc} {without : Int} {r : List Int} (hm : Z2e f without = some r) : Sim Tryz.prog 218 [.agg (Z9 false f), .one (.int .i64 without)] [] (.u (.one (.bs () 1 (List.map iL r)))) [] := by
 refine fN 39 0 Tryz.func218 [.tmp 4] fun B hB0 => ?_
 unfold Z2e at hm
 refine yG ?_
 intro _ hm
 refine nO (kM (iL) (([] : List Int)) ?_)
 refine yG ?_
 intro _ hm
 refine bS hm (fun hb1 hm => ?_) fun hb1 hm => ?_
 refine yG ?_
 intro _ hm
 cases hm
 exact rZ1h (hg := f_frR 0 0 rfl rfl rfl (by first | rfl | simp) rfl rfl)
 refine yG ?_
 intro _ hm
 refine nO (kM (iL) ([0]) ?_)
 refine nO (x_as rfl rfl ?_)
 refine W5 ?_
 refine Wp.seq ?_
 refine Wp.block ?_
 refine gH (f_frz 1 [8, 5] rfl (Z9j _) (.cons rfl (by simp) (.cons rfl (by simp) .nil)) rfl) ?_
 obtain ⟨j4, hl23, hm⟩ := Z0 hm
 refine lP hl23 (fun st3 => St 39 [(1, vI without), (2, vP 0), (5, .u (.one (.bs () 1 (List.map iL st3.2)))), (6, vR 1 (List.length st3.1))] [(0, oL 3 (Z9 false f)), (1, oM 1 iL st3.1)] 2) (fun j4 => (.exit 0, St 39 [(5, .u (.one (.bs () 1 (List.map iL j4))))] [] 0)) (vW [0, 2]) ?_ ?_
 intro st3 x hm
 refine yG ?_
 intro k1 hm
 refine bS hm (fun hb6 hm => ?_) fun hb6 hm => ?_
 refine yG ?_
 intro k2 hm
 obtain ⟨h8, hm⟩ := Y1 hm
 refine nO (W4y (l := 1) (h := (List.length st3.1)) rfl E24 rfl rfl (bd_s (m := 1) rfl (by decide)) bd_n h8 ?_)
 refine WpO.ghb (W4c 20 st3.1 (List.drop 1 st3.1) rfl rfl rfl (by simp only [List.length_take, List.length_drop] <;> omega) (by first | rfl | (simp only [Nat.zero_add]; done) | (simp only [Nat.zero_add]; exact List.take_of_length_le (by first | (simp only [List.length_drop] <;> omega) | (simp <;> omega))) | exact List.take_of_length_le (by simp only [List.length_drop, Nat.zero_add] <;> omega))) ?_
 obtain ⟨x9, h10, hm⟩ := Z0 hm
 refine nO (Z6 (cB (Y2t h10) ?_))
 refine nO (x_as rfl rfl ?_)
 refine W5 ?_
 refine Wp.seq ?_
 refine Wp.seq ?_
 obtain ⟨j11, hj15, hm⟩ := Z0 hm
 refine V6 (St 39 [(1, vI without), (2, vP 0), (5, .u (.one (.bs () 1 (List.map iL st3.2)))), (6, vR 1 (List.length x9)), (7, vI (at_ st3.1 0)), (29, vB j11)] [(0, oL 3 (Z9 false f)), (1, oM 1 iL x9)] 2) ?_ ?_
 replace hm := hj15
 refine yG ?_
 intro _ hm
 refine bG0 hm (fun hb12 hm => ?_) fun hb12 hm => ?_
 refine yG ?_
 intro _ hm
 obtain ⟨x13, h14, hm⟩ := Z0 hm
 refine gO_t rfl rfl rfl (Z6 (cB (Z5v h14) ?_))
 refine yG ?_
 intro _ hm
 cases hm
 exact vW [0, 3]
 refine yG ?_
 intro _ hm
 cases hm
 exact vW [0, 3]
 refine bS hm (fun hb16 hm => ?_) fun hb16 hm => ?_
 refine V2 ?_
 cases hm
 exact ⟨rfl, vW [0, 1]⟩
 refine yG ?_
 intro _ hm
 obtain ⟨x17, h18, hm⟩ := Z0 hm
 refine nO (cG [] (X1i h18) ?_)
 refine yG ?_
 intro _ hm
 refine nO (kW ?_)
 refine yG ?_
 intro _ hm
 obtain ⟨x19, h20, hm⟩ := Z0 hm
 refine nO (Z6 (cB (Y1z h20) ?_))
 refine yG ?_
 intro k3 hm
 cases hm
 exact ⟨rfl, vW [0, 3]⟩
 refine V2 ?_
 cases hm
 exact ⟨rfl, vW []⟩
 refine yG ?_
 intro _ hm
 cases hm
 exact rZ1
noncomputable def Z8h (f : GFunc) (a : Int) (b : Int) : Option Bool :=
 (Option.bind ((Option.bind (Z2e f ((-1))) fun x2 =>
 (Option.bind (Z1a x2 b) fun x4 =>
 (if x4 = true then
 (Option.bind (Z2e f a) fun x7 =>
 (Option.bind (Z1a x7 b) fun x9 =>
 (some ((!x9)))))
 else
 (some false))))) fun (j1 : Bool) =>
 (some j1))
theorem X1g {f : GFunc} {a : Int} {b : Int} {r : Bool} (hm : Z8h f a b = some r) : Sim Tryz.prog 250 [.agg (Z9 false f), .one (.int .i64 a), .one (.int .i64 b)] [] (.u (.one (.bool r))) [] := by
 refine fN 19 0 Tryz.func250 [.tmp 6] fun B hB0 => ?_
 unfold Z8h at hm
 refine Wp.seq ?_
 refine X4 ?_
 refine yR ?_
 intro _ hm
 refine W5 ?_
 refine Wp.seq ?_
 obtain ⟨j1, hj11, hm⟩ := Z0 hm
 refine V6 (St 19 [(6, vB j1)] [] 0) ?_ ?_
 replace hm := hj11
 refine X4 ?_
 refine nO (kW ?_)
 obtain ⟨x2, h3, hm⟩ := Z0 hm
 refine nO (cG [] (Z8s h3) ?_)
 refine yG ?_
 intro _ hm
 obtain ⟨x4, h5, hm⟩ := Z0 hm
 refine nO (Z6 (cB (Z5v h5) ?_))
 refine yG ?_
 intro _ hm
 refine bG1 hm (fun hb6 hm => ?_) fun hb6 hm => ?_
 refine gO_t rfl rfl rfl (kW ?_)
 refine yG ?_
 intro _ hm
 obtain ⟨x7, h8, hm⟩ := Z0 hm
 refine gO_t rfl rfl rfl (cG [] (Z8s h8) ?_)
 refine yG ?_
 intro _ hm
 obtain ⟨x9, h10, hm⟩ := Z0 hm
 refine gO_t rfl rfl rfl (Z6 (cB (Z5v h10) ?_))
 refine yG ?_
 intro _ hm
 cases hm
 exact vW []
 refine yG ?_
 intro _ hm
 cases hm
 exact vW []
 refine Z1s ?_
 cases hm
 exact rZ1
noncomputable def Z0i (f : GFunc) (id : Int) (b : Int) (at_ : Int) : Option Bool :=
 (Option.bind (Z4a f id) fun x1 =>
 (if (x1.1 == ((-1))) = true then
 (some true)
 else
 (if (x1.1 == b) = true then
 (some (decide (x1.2 < at_)))
 else
 (Option.bind ((if decide (x1.1 ≥ 0) = true then
 (Option.bind (Z8h f x1.1 b) fun x7 =>
 (some x7))
 else
 (some false))) fun (j5 : Bool) =>
 (some j5)))))
theorem Z7b {f : GFunc} {id : Int} {b : Int} {at_ : Int} {r : Bool} (hm : Z0i f id b at_ = some r) : Sim Tryz.prog 219 [.agg (Z9 false f), .one (.int .i64 id), .one (.int .i64 b), .one (.int .i64 at_)] [] (.u (.one (.bool r))) [] := by
 refine fN 35 0 Tryz.func219 [.tmp 8] fun B hB0 => ?_
 unfold Z0i at hm
 refine yG ?_
 intro _ hm
 refine nO (kW ?_)
 refine yG ?_
 intro _ hm
 obtain ⟨x1, h2, hm⟩ := Z0 hm
 refine nO (Z6 (cB (Y2b h2) ?_))
 refine yG ?_
 intro _ hm
 refine bS hm (fun hb3 hm => ?_) fun hb3 hm => ?_
 refine yG ?_
 intro _ hm
 cases hm
 exact rZ1
 refine yG ?_
 intro _ hm
 refine bS hm (fun hb4 hm => ?_) fun hb4 hm => ?_
 refine yG ?_
 intro _ hm
 cases hm
 exact rZ1
 refine K3 ?_
 refine Wp.seq ?_
 obtain ⟨j5, hj9, hm⟩ := Z0 hm
 refine V6 (St 35 [(8, vB j5)] [] 0) ?_ ?_
 replace hm := hj9
 refine yG ?_
 intro _ hm
 refine bG1 hm (fun hb6 hm => ?_) fun hb6 hm => ?_
 refine gO_t rfl rfl rfl (kW ?_)
 refine yG ?_
 intro _ hm
 obtain ⟨x7, h8, hm⟩ := Z0 hm
 refine gO_t rfl rfl rfl (Z6 (cB (X1g h8) ?_))
 refine yG ?_
 intro _ hm
 cases hm
 exact vW []
 refine yG ?_
 intro _ hm
 cases hm
 exact vW []
 refine Z1s ?_
 cases hm
 exact rZ1
noncomputable def Z7d (f : GFunc) : Option Bool :=
 (Option.bind (Z2e f ((-1))) fun x1 =>
 (Option.bind (Y6 (fun (st3 : Int) =>
 ((if decide (st3 < ((List.length x1 : Int))) = true then
 (if 0 ≤ st3 ∧ st3 < (List.length x1 : Int) then
 (if 0 ≤ (at_ x1 st3) ∧ (at_ x1 st3) < (List.length f.blocks : Int) then
 (Option.bind (Z0y f (at_ x1 st3)) fun x10 =>
 (Option.bind (Y6 (fun (st14 : Int) =>
 ((if decide (st14 < ((List.length ((at_ f.blocks (at_ x1 st3)).phis) : Int))) = true then
 (Option.bind (Y6 (fun (st19 : Int) =>
 ((if decide (st19 < ((List.length x10 : Int))) = true then
 (if 0 ≤ st19 ∧ st19 < (List.length x10 : Int) then
 (if 0 ≤ (at_ x10 st19) ∧ (at_ x10 st19) < (List.length f.blocks : Int) then
 (Option.bind ((if 0 ≤ st19 ∧ st19 < (List.length x10 : Int) then
 (Option.bind (Z1a x1 (at_ x10 st19)) fun x28 =>
 (if x28 = true then
 (if 0 ≤ st14 ∧ st14 < (List.length ((at_ f.blocks (at_ x1 st3)).phis) : Int) then
 (if 0 ≤ st19 ∧ st19 < (List.length ((at_ ((at_ f.blocks (at_ x1 st3)).phis) st14).ins) : Int) then
 (if 0 ≤ st19 ∧ st19 < (List.length x10 : Int) then
 (Option.bind (Z0i f (at_ ((at_ ((at_ f.blocks (at_ x1 st3)).phis) st14).ins) st19) (at_ x10 st19) (IntKind.i64.wrap (((List.length ((at_ f.blocks (at_ x10 st19)).phis) : Int)) + ((List.length ((at_ f.blocks (at_ x10 st19)).insts) : Int))))) fun x36 =>
 (some ((!x36))))
 else none)
 else none)
 else none)
 else
 (some false)))
 else none)) fun (j26 : Bool) =>
 (if j26 = true then
 (some (Sum.inr ((Sum.inl (())))))
 else
 (if inI (st19 + 1) then
 (some (Sum.inl (st19 + 1)))
 else none)))
 else none)
 else none)
 else
 (some (Sum.inr ((Sum.inr (())))))) : Option ((Int) ⊕ (Unit ⊕ Unit)))) 0) fun (y41 : Unit ⊕ Unit) => match y41 with
 | (Sum.inl j20) =>
 (some (Sum.inr ((Sum.inl (())))))
 | (Sum.inr j21) =>
 (if inI (st14 + 1) then
 (some (Sum.inl (st14 + 1)))
 else none))
 else
 (some (Sum.inr ((Sum.inr (())))))) : Option ((Int) ⊕ (Unit ⊕ Unit)))) 0) fun (y44 : Unit ⊕ Unit) => match y44 with
 | (Sum.inl j15) =>
 (some (Sum.inr ((Sum.inl (())))))
 | (Sum.inr j16) =>
 (Option.bind (Y6 (fun (st46 : Int) =>
 ((if decide (st46 < ((List.length ((at_ f.blocks (at_ x1 st3)).insts) : Int))) = true then
 (if 0 ≤ st46 ∧ st46 < (List.length ((at_ f.blocks (at_ x1 st3)).insts) : Int) then
 (Option.bind (Z1f (at_ ((at_ f.blocks (at_ x1 st3)).insts) st46)) fun x52 =>
 (Option.bind (Y6 (fun (st54 : Int) =>
 ((if decide (st54 < ((List.length x52 : Int))) = true then
 (if 0 ≤ st54 ∧ st54 < (List.length x52 : Int) then
 (if inI (((List.length ((at_ f.blocks (at_ x1 st3)).phis) : Int)) + st46) then
 (Option.bind (Z0i f (at_ x52 st54) (at_ x1 st3) (((List.length ((at_ f.blocks (at_ x1 st3)).phis) : Int)) + st46)) fun x62 =>
 (if (!x62) = true then
 (some (Sum.inr ((Sum.inl (())))))
 else
 (if inI (st54 + 1) then
 (some (Sum.inl (st54 + 1)))
 else none)))
 else none)
 else none)
 else
 (some (Sum.inr ((Sum.inr (())))))) : Option ((Int) ⊕ (Unit ⊕ Unit)))) 0) fun (y66 : Unit ⊕ Unit) => match y66 with
 | (Sum.inl j55) =>
 (some (Sum.inr ((Sum.inl (())))))
 | (Sum.inr j56) =>
 (if inI (st46 + 1) then
 (some (Sum.inl (st46 + 1)))
 else none)))
 else none)
 else
 (some (Sum.inr ((Sum.inr (())))))) : Option ((Int) ⊕ (Unit ⊕ Unit)))) 0) fun (y69 : Unit ⊕ Unit) => match y69 with
 | (Sum.inl j47) =>
 (some (Sum.inr ((Sum.inl (())))))
 | (Sum.inr j48) =>
 (Option.bind ((if ((((at_ f.blocks (at_ x1 st3)).term).kind) == 1) = true then
 (Option.bind (Z0i f (((at_ f.blocks (at_ x1 st3)).term).a) (at_ x1 st3) (((List.length ((at_ f.blocks (at_ x1 st3)).phis) : Int)) + ((List.length ((at_ f.blocks (at_ x1 st3)).insts) : Int)))) fun x73 =>
 (some ((!x73))))
 else
 (if ((((at_ f.blocks (at_ x1 st3)).term).kind) == 3) = true then
 (Option.bind (Z0i f (((at_ f.blocks (at_ x1 st3)).term).a) (at_ x1 st3) (((List.length ((at_ f.blocks (at_ x1 st3)).phis) : Int)) + ((List.length ((at_ f.blocks (at_ x1 st3)).insts) : Int)))) fun x76 =>
 (some ((!x76))))
 else
 (some false)))) fun (j71 : Bool) =>
 (if j71 = true then
 (some (Sum.inr ((Sum.inl (())))))
 else
 (if inI (st3 + 1) then
 (some (Sum.inl (st3 + 1)))
 else none))))))
 else none)
 else none)
 else
 (some (Sum.inr ((Sum.inr (())))))) : Option ((Int) ⊕ (Unit ⊕ Unit)))) 0) fun (y81 : Unit ⊕ Unit) => match y81 with
 | (Sum.inl j4) =>
 (some false)
 | (Sum.inr j5) =>
 (some true)))
theorem Y9g {f : GFunc} {r : Bool} (hm : Z7d f = some r) : Sim Tryz.prog 155 [.agg (Z9 false f)] [] (.u (.one (.bool r))) [] := by
 refine fN 146 0 Tryz.func155 [.tmp 2] fun B hB0 => ?_
 have fW := trivial
 unfold Z7d at hm
 refine yG ?_
 intro _ hm
 refine nO (kW ?_)
 obtain ⟨x1, h2, hm⟩ := Z0 hm
 refine nO (cG [] (Z8s h2) ?_)
 refine yG ?_
 intro _ hm
 obtain ⟨y81, hl82, hm⟩ := Z0 hm
 refine J6 hl82 (fun (st3 : Int) => St 146 [(1, vP 0), (3, .u (.one (.bs () 1 (List.map iL x1)))), (4, vI st3)] [(0, oL 3 (Z9 false f))] 1) (fun (y : Unit ⊕ Unit) => match y with | (Sum.inl j4) => (.ret, St 146 [(2, vB false)] [] 0) | (Sum.inr j5) => (.exit 0, St 146 [] [] 0)) (vW [0]) ?_ (by rintro (_ | _) <;> simp) ?_
 intro st3 x hm
 refine yG ?_
 intro k1 hm
 refine bS hm (fun hb7 hm => ?_) fun hb7 hm => ?_
 refine yG ?_
 intro k2 hm
 refine nO (K8 T53 rfl (U6 rfl rfl) rfl ?_)
 refine yG ?_
 intro _ hm
 refine nO (kW ?_)
 refine yG ?_
 intro _ hm
 obtain ⟨x10, h11, hm⟩ := Z0 hm
 refine nO (Z6 (cB (Z8t h11) ?_))
 refine yG ?_
 intro k3 hm
 refine nO (Y4a T3 rfl rfl (by unfold inI; omega) ?_)
 refine yG ?_
 intro _ hm
 obtain ⟨y44, hl45, hm⟩ := Z0 hm
 refine J6 hl45 (fun (st14 : Int) => St 146 [(1, vP 0), (3, .u (.one (.bs () 1 (List.map iL x1)))), (4, vI st3), (5, vI (at_ x1 st3)), (6, vP 1), (7, vR 2 (List.length x10)), (8, vI (((List.length ((at_ f.blocks (at_ x1 st3)).phis) : Int)) + ((List.length ((at_ f.blocks (at_ x1 st3)).insts) : Int)))), (9, vI st14)] [(0, oL 3 (Z9 false f)), (1, oL 6 (W2 false (at_ f.blocks (at_ x1 st3)))), (2, oM 1 iL x10)] 3) (fun (y : Unit ⊕ Unit) => match y with | (Sum.inl j15) => (.ret, St 146 [(2, vB false)] [] 0) | (Sum.inr j16) => (.exit 2, St 146 [(1, vP 0), (3, .u (.one (.bs () 1 (List.map iL x1)))), (4, vI st3), (5, vI (at_ x1 st3)), (6, vP 1), (8, vI (((List.length ((at_ f.blocks (at_ x1 st3)).phis) : Int)) + ((List.length ((at_ f.blocks (at_ x1 st3)).insts) : Int))))] [(0, oL 3 (Z9 false f)), (1, oL 6 (W2 false (at_ f.blocks (at_ x1 st3))))] 2)) (vW [0, 1, 2]) ?_ (by rintro (_ | _) <;> simp) ?_
 intro st14 x hm
 refine yG ?_
 intro k4 hm
 refine bS hm (fun hb18 hm => ?_) fun hb18 hm => ?_
 refine yG ?_
 intro _ hm
 obtain ⟨y41, hl42, hm⟩ := Z0 hm
 refine J6 hl42 (fun (st19 : Int) => St 146 [(1, vP 0), (3, .u (.one (.bs () 1 (List.map iL x1)))), (4, vI st3), (5, vI (at_ x1 st3)), (6, vP 1), (7, vR 2 (List.length x10)), (8, vI (((List.length ((at_ f.blocks (at_ x1 st3)).phis) : Int)) + ((List.length ((at_ f.blocks (at_ x1 st3)).insts) : Int)))), (9, vI st14), (10, vI st19)] [(0, oL 3 (Z9 false f)), (1, oL 6 (W2 false (at_ f.blocks (at_ x1 st3)))), (2, oM 1 iL x10)] 3) (fun (y : Unit ⊕ Unit) => match y with | (Sum.inl j20) => (.ret, St 146 [(2, vB false)] [] 0) | (Sum.inr j21) => (.exit 4, St 146 [(1, vP 0), (3, .u (.one (.bs () 1 (List.map iL x1)))), (4, vI st3), (5, vI (at_ x1 st3)), (6, vP 1), (7, vR 2 (List.length x10)), (8, vI (((List.length ((at_ f.blocks (at_ x1 st3)).phis) : Int)) + ((List.length ((at_ f.blocks (at_ x1 st3)).insts) : Int)))), (9, vI st14)] [(0, oL 3 (Z9 false f)), (1, oL 6 (W2 false (at_ f.blocks (at_ x1 st3)))), (2, oM 1 iL x10)] 3)) (vW [0, 1, 2]) ?_ (by rintro (_ | _) <;> simp) ?_
 intro st19 x hm
 refine yG ?_
 intro k5 hm
 refine bS hm (fun hb23 hm => ?_) fun hb23 hm => ?_
 refine K3 ?_
 refine Wp.seq ?_
 refine Wp.block ?_
 refine Wp.seq ?_
 refine Z3m (Y := sysC _) Z3i ?_
 refine tK 0 1 rfl (kF ?_)
 refine tK 1 1 rfl (kD ?_)
 refine tK 2 0 rfl (kV ?_)
 refine tK 3 0 rfl (kV ?_)
 obtain ⟨h24, hm⟩ := Y1 hm
 refine tK 4 1 rfl (Q2 rfl E24 rfl rfl rfl h24 ?_)
 refine tK 5 1 rfl (Z5q rfl T2 rfl rfl h24 rfl rfl ?_)
 obtain ⟨h25, hm⟩ := Y1 hm
 refine tK 6 0 rfl (Z8q E25 rfl rfl h25 ?_)
 refine tK 7 0 rfl (K8 T53 rfl (U6 rfl rfl) rfl ?_)
 refine oK 8 rfl (x_al T53 (r := [.nl, .nl, .int .i64 0, .int .i64 0, .int .i64 0, .int .i64 0]) rfl rfl ?_)
 refine oK 9 rfl (kS ?_)
 refine aN ?_
 refine Wp.seq ?_
 obtain ⟨j26, hj38, hm⟩ := Z0 hm
 refine V6 (St 146 [(1, vP 0), (3, .u (.one (.bs () 1 (List.map iL x1)))), (4, vI st3), (5, vI (at_ x1 st3)), (6, vP 1), (7, vR 2 (List.length x10)), (8, vI (((List.length ((at_ f.blocks (at_ x1 st3)).phis) : Int)) + ((List.length ((at_ f.blocks (at_ x1 st3)).insts) : Int)))), (9, vI st14), (10, vI st19), (93, vB j26)] [(0, oL 3 (Z9 false f)), (1, oL 6 (W2 false (at_ f.blocks (at_ x1 st3)))), (2, oM 1 iL x10)] 3) ?_ ?_
 replace hm := hj38
 refine Z3m (Y := sysC _) Z3i ?_
 refine tK 0 0 rfl (kV ?_)
 refine tK 1 0 rfl (kV ?_)
 refine tK 2 0 rfl (kV ?_)
 obtain ⟨h27, hm⟩ := Y1 hm
 refine tK 3 1 rfl (Q2 rfl E24 rfl rfl rfl h27 ?_)
 refine tK 4 1 rfl (Z5q rfl T2 rfl rfl h27 rfl rfl ?_)
 obtain ⟨x28, h29, hm⟩ := Z0 hm
 refine oK 5 rfl (cB (Z5v h29) ?_)
 refine tK 6 0 rfl (kV ?_)
 refine bT 69 hm (fun hb30 hm => ?_) fun hb30 hm => ?_
 refine tG 7 1 rfl (kW ?_)
 refine tG 8 1 rfl (kF ?_)
 refine tG 9 1 rfl (kD ?_)
 refine tG 10 0 rfl (kV ?_)
 obtain ⟨h31, hm⟩ := Y1 hm
 refine tG 11 0 rfl (Z8q E48 rfl rfl h31 ?_)
 refine tG 12 0 rfl (Y8z W7d rfl ?_)
 refine tG 13 0 rfl (K8 T24 rfl rfl rfl ?_)
 refine tG 14 0 rfl (kV ?_)
 obtain ⟨h32, hm⟩ := Y1 hm
 refine tG 15 0 rfl (Z8q E24 rfl rfl h32 ?_)
 refine tG 16 0 rfl (K8 T2 rfl rfl rfl ?_)
 refine tG 17 0 rfl (kV ?_)
 refine tG 18 0 rfl (kV ?_)
 obtain ⟨h33, hm⟩ := Y1 hm
 refine tG 19 1 rfl (Q2 rfl E24 rfl rfl rfl h33 ?_)
 refine tG 20 1 rfl (Z5q rfl T2 rfl rfl h33 rfl rfl ?_)
 refine tG 21 1 rfl (kF ?_)
 refine tG 22 1 rfl (kD ?_)
 refine tG 23 0 rfl (Y7q N48 rfl fun hL34 => ?_)
 refine tG 24 1 rfl (kF ?_)
 refine tG 25 1 rfl (kD ?_)
 refine tG 26 0 rfl (Y7q N49 rfl fun hL35 => ?_)
 refine tG 27 0 rfl (Y2m T3 rfl rfl rfl ?_)
 obtain ⟨x36, h37, hm⟩ := Z0 hm
 refine oG 28 rfl (cB (Z7b h37) ?_)
 refine tG 29 0 rfl (x_un rfl rfl ?_)
 refine tK 30 0 rfl (x_pk rfl rfl rfl ?_)
 refine aN ?_
 cases hm
 exact vW [0, 1, 2]
 refine tF 7 rfl ?_
 refine tF 8 rfl ?_
 refine tF 9 rfl ?_
 refine tF 10 rfl ?_
 refine tF 11 rfl ?_
 refine tF 12 rfl ?_
 refine tF 13 rfl ?_
 refine tF 14 rfl ?_
 refine tF 15 rfl ?_
 refine tF 16 rfl ?_
 refine tF 17 rfl ?_
 refine tF 18 rfl ?_
 refine tF 19 rfl ?_
 refine tF 20 rfl ?_
 refine tF 21 rfl ?_
 refine tF 22 rfl ?_
 refine tF 23 rfl ?_
 refine tF 24 rfl ?_
 refine tF 25 rfl ?_
 refine tF 26 rfl ?_
 refine tF 27 rfl ?_
 refine tF 28 rfl ?_
 refine tF 29 rfl ?_
 refine tK 30 0 rfl (x_pk rfl rfl rfl ?_)
 refine aN ?_
 cases hm
 exact vW [0, 1, 2]
 refine bS hm (fun hb39 hm => ?_) fun hb39 hm => ?_
 refine yG ?_
 intro _ hm
 cases hm
 exact ⟨rfl, vW []⟩
 refine yG ?_
 intro k6 hm
 cases hm
 exact ⟨rfl, vW [0, 1, 2]⟩
 refine V2 ?_
 cases hm
 exact ⟨rfl, vW [0, 1, 2]⟩
 rcases y41 with j20 | j21 <;> simp only at hm
 cases hm
 exact ⟨rfl, vW []⟩
 refine yG ?_
 intro k7 hm
 cases hm
 exact ⟨rfl, vW [0, 1, 2]⟩
 refine V2 ?_
 cases hm
 exact ⟨rfl, vW [0, 1]⟩
 rcases y44 with j15 | j16 <;> simp only at hm
 cases hm
 exact ⟨rfl, vW []⟩
 refine yG ?_
 intro _ hm
 obtain ⟨y69, hl70, hm⟩ := Z0 hm
 refine J6 hl70 (fun (st46 : Int) => St 146 [(1, vP 0), (3, .u (.one (.bs () 1 (List.map iL x1)))), (4, vI st3), (5, vI (at_ x1 st3)), (6, vP 1), (8, vI (((List.length ((at_ f.blocks (at_ x1 st3)).phis) : Int)) + ((List.length ((at_ f.blocks (at_ x1 st3)).insts) : Int)))), (12, vI st46)] [(0, oL 3 (Z9 false f)), (1, oL 6 (W2 false (at_ f.blocks (at_ x1 st3))))] 2) (fun (y : Unit ⊕ Unit) => match y with | (Sum.inl j47) => (.ret, St 146 [(2, vB false)] [] 0) | (Sum.inr j48) => (.exit 6, St 146 [(1, vP 0), (3, .u (.one (.bs () 1 (List.map iL x1)))), (4, vI st3), (5, vI (at_ x1 st3)), (6, vP 1), (8, vI (((List.length ((at_ f.blocks (at_ x1 st3)).phis) : Int)) + ((List.length ((at_ f.blocks (at_ x1 st3)).insts) : Int))))] [(0, oL 3 (Z9 false f)), (1, oL 6 (W2 false (at_ f.blocks (at_ x1 st3))))] 2)) (vW [0, 1]) ?_ (by rintro (_ | _) <;> simp) ?_
 intro st46 x hm
 refine yG ?_
 intro k8 hm
 refine bS hm (fun hb50 hm => ?_) fun hb50 hm => ?_
 refine yG ?_
 intro k9 hm
 refine nO (K8 T29 rfl (U6 rfl rfl) rfl ?_)
 obtain ⟨x52, h53, hm⟩ := Z0 hm
 refine nO (Z6 (cB (Z9q h53) ?_))
 refine yG ?_
 intro _ hm
 obtain ⟨y66, hl67, hm⟩ := Z0 hm
 refine J6 hl67 (fun (st54 : Int) => St 146 [(1, vP 0), (3, .u (.one (.bs () 1 (List.map iL x1)))), (4, vI st3), (5, vI (at_ x1 st3)), (6, vP 1), (8, vI (((List.length ((at_ f.blocks (at_ x1 st3)).phis) : Int)) + ((List.length ((at_ f.blocks (at_ x1 st3)).insts) : Int)))), (12, vI st46), (13, vR 2 (List.length x52)), (14, vI st54)] [(0, oL 3 (Z9 false f)), (1, oL 6 (W2 false (at_ f.blocks (at_ x1 st3)))), (2, oM 1 iL x52)] 3) (fun (y : Unit ⊕ Unit) => match y with | (Sum.inl j55) => (.ret, St 146 [(2, vB false)] [] 0) | (Sum.inr j56) => (.exit 8, St 146 [(1, vP 0), (3, .u (.one (.bs () 1 (List.map iL x1)))), (4, vI st3), (5, vI (at_ x1 st3)), (6, vP 1), (8, vI (((List.length ((at_ f.blocks (at_ x1 st3)).phis) : Int)) + ((List.length ((at_ f.blocks (at_ x1 st3)).insts) : Int)))), (12, vI st46)] [(0, oL 3 (Z9 false f)), (1, oL 6 (W2 false (at_ f.blocks (at_ x1 st3))))] 2)) (vW [0, 1, 2]) ?_ (by rintro (_ | _) <;> simp) ?_
 intro st54 x hm
 refine yG ?_
 intro k10 hm
 refine bS hm (fun hb58 hm => ?_) fun hb58 hm => ?_
 refine K3 ?_
 refine Wp.seq ?_
 refine Wp.block ?_
 refine Wp.seq ?_
 refine Z3m (Y := sysC _) Z3i ?_
 refine tK 0 1 rfl (kW ?_)
 refine tK 1 0 rfl (kV ?_)
 refine tK 2 0 rfl (kV ?_)
 obtain ⟨h59, hm⟩ := Y1 hm
 refine tK 3 1 rfl (Q2 rfl E24 rfl rfl rfl h59 ?_)
 refine tK 4 1 rfl (Z5q rfl T2 rfl rfl h59 rfl rfl ?_)
 refine tK 5 0 rfl (kV ?_)
 refine tK 6 1 rfl (kF ?_)
 refine tK 7 1 rfl (kD ?_)
 refine tK 8 0 rfl (Y7q N48 rfl fun hL60 => ?_)
 refine tK 9 0 rfl (kV ?_)
 obtain ⟨h61, hm⟩ := Y1 hm
 refine tK 10 0 rfl (Y4a T3 rfl rfl h61 ?_)
 obtain ⟨x62, h63, hm⟩ := Z0 hm
 refine oK 11 rfl (cB (Z7b h63) ?_)
 refine tK 12 0 rfl (x_un rfl rfl ?_)
 refine aN ?_
 refine bS hm (fun hb64 hm => ?_) fun hb64 hm => ?_
 refine yG ?_
 intro _ hm
 cases hm
 exact ⟨rfl, vW []⟩
 refine yG ?_
 intro k11 hm
 cases hm
 exact ⟨rfl, vW [0, 1, 2]⟩
 refine V2 ?_
 cases hm
 exact ⟨rfl, vW [0, 1]⟩
 rcases y66 with j55 | j56 <;> simp only at hm
 cases hm
 exact ⟨rfl, vW []⟩
 refine yG ?_
 intro k12 hm
 cases hm
 exact ⟨rfl, vW [0, 1]⟩
 refine V2 ?_
 cases hm
 exact ⟨rfl, vW [0, 1]⟩
 rcases y69 with j47 | j48 <;> simp only at hm
 cases hm
 exact ⟨rfl, vW []⟩
 refine Wp.seq ?_
 obtain ⟨j71, hj78, hm⟩ := Z0 hm
 refine V6 (St 146 [(1, vP 0), (3, .u (.one (.bs () 1 (List.map iL x1)))), (4, vI st3), (145, vB j71)] [(0, oL 3 (Z9 false f))] 1) ?_ ?_
 replace hm := hj78
 refine yG ?_
 intro _ hm
 refine bG0 hm (fun hb72 hm => ?_) fun hb72 hm => ?_
 refine yG ?_
 intro _ hm
 refine bG1 hm (fun hb75 hm => ?_) fun hb75 hm => ?_
 refine gO_t rfl rfl rfl (kW ?_)
 refine yG ?_
 intro _ hm
 obtain ⟨x76, h77, hm⟩ := Z0 hm
 refine gO_t rfl rfl rfl (Z6 (cB (Z7b h77) ?_))
 refine yG ?_
 intro _ hm
 cases hm
 exact vW [0]
 refine yG ?_
 intro _ hm
 cases hm
 exact vW [0]
 refine yG ?_
 intro _ hm
 refine gO_t rfl rfl rfl (kW ?_)
 refine yG ?_
 intro _ hm
 obtain ⟨x73, h74, hm⟩ := Z0 hm
 refine gO_t rfl rfl rfl (Z6 (cB (Z7b h74) ?_))
 refine yG ?_
 intro _ hm
 cases hm
 exact vW [0]
 refine bS hm (fun hb79 hm => ?_) fun hb79 hm => ?_
 refine yG ?_
 intro _ hm
 cases hm
 exact ⟨rfl, vW []⟩
 refine yG ?_
 intro k13 hm
 cases hm
 exact ⟨rfl, vW [0]⟩
 refine V2 ?_
 cases hm
 exact ⟨rfl, vW []⟩
 rcases y81 with j4 | j5 <;> simp only at hm
 cases hm
 exact rZ1
 refine yG ?_
 intro _ hm
 cases hm
 exact rZ1
end
section
set_option maxHeartbeats 8000000
set_option maxRecDepth 100000
attribute [local irreducible] aopK K0 Wp St WpO
noncomputable def Z4z (m : GModule) (f : GFunc) : Option Int :=
 (Option.bind ((Option.bind (Z0y f 0) fun x2 =>
 (if decide (((List.length x2 : Int)) > 0) = true then
 (some true)
 else
 (if (0 : Int) ≤ 0 ∧ 0 < (List.length f.blocks : Int) then
 (some (decide (((List.length ((at_ f.blocks 0).phis) : Int)) > 0)))
 else none)))) fun (j1 : Bool) =>
 (if j1 = true then
 (some 2)
 else
 (Option.bind (Z7c f) fun x10 =>
 (if (!x10) = true then
 (some 3)
 else
 (Option.bind (Z5r f) fun x13 =>
 (if (!x13) = true then
 (some 4)
 else
 (Option.bind (Z5s m f) fun x16 =>
 (if (!x16) = true then
 (some 5)
 else
 (Option.bind (Z7d f) fun x19 =>
 (if (!x19) = true then
 (some 6)
 else
 (some 0)))))))))))
theorem Y2r {m : GModule} {f : GFunc} {r : Int} (hm : Z4z m f = some r) : Sim Tryz.prog 79 [.agg (K7 false m), .agg (Z9 false f)] [] (.u (.one (.int .i64 r))) [] := by
 refine fN 36 0 Tryz.func79 [.tmp 4] fun B hB0 => ?_
 unfold Z4z at hm
 refine Wp.seq ?_
 refine X4 ?_
 refine yR ?_
 intro _ hm
 refine W5 ?_
 refine Wp.seq ?_
 refine Wp.block ?_
 refine Wp.seq ?_
 obtain ⟨j1, hj8, hm⟩ := Z0 hm
 refine V6 (St 36 [(2, vP 0), (3, vP 1), (5, vB j1)] [(0, oL 1 (K7 false m)), (1, oL 3 (Z9 false f))] 2) ?_ ?_
 replace hm := hj8
 refine X4 ?_
 refine nO (kW ?_)
 obtain ⟨x2, h3, hm⟩ := Z0 hm
 refine nO (Z6 (cB (Z8t h3) ?_))
 refine yG ?_
 intro k1 hm
 refine bG0 hm (fun hb5 hm => ?_) fun hb5 hm => ?_
 refine yG ?_
 intro k2 hm
 cases hm
 exact vW [0, 1]
 refine yG ?_
 intro _ hm
 cases hm
 exact vW [0, 1]
 refine bS hm (fun hb9 hm => ?_) fun hb9 hm => ?_
 refine yG ?_
 intro _ hm
 cases hm
 exact rZ1
 refine Wp.seq ?_
 refine X4 ?_
 refine nO (kW ?_)
 obtain ⟨x10, h11, hm⟩ := Z0 hm
 refine nO (Z6 (cB (Y9f h11) ?_))
 refine yG ?_
 intro _ hm
 refine bS hm (fun hb12 hm => ?_) fun hb12 hm => ?_
 refine yG ?_
 intro _ hm
 cases hm
 exact rZ1
 refine Wp.seq ?_
 refine X4 ?_
 refine nO (kW ?_)
 obtain ⟨x13, h14, hm⟩ := Z0 hm
 refine nO (Z6 (cB (Y7r h14) ?_))
 refine yG ?_
 intro _ hm
 refine bS hm (fun hb15 hm => ?_) fun hb15 hm => ?_
 refine yG ?_
 intro _ hm
 cases hm
 exact rZ1
 refine Wp.seq ?_
 refine X4 ?_
 refine nO (kW ?_)
 refine nO (kW ?_)
 obtain ⟨x16, h17, hm⟩ := Z0 hm
 refine nO (Z6 (cB (Y7s h17) ?_))
 refine yG ?_
 intro _ hm
 refine bS hm (fun hb18 hm => ?_) fun hb18 hm => ?_
 refine yG ?_
 intro _ hm
 cases hm
 exact rZ1
 refine Wp.seq ?_
 refine X4 ?_
 refine nO (kW ?_)
 obtain ⟨x19, h20, hm⟩ := Z0 hm
 refine nO (Z6 (cB (Y9g h20) ?_))
 refine yG ?_
 intro _ hm
 refine bS hm (fun hb21 hm => ?_) fun hb21 hm => ?_
 refine yG ?_
 intro _ hm
 cases hm
 exact rZ1
 refine yG ?_
 intro _ hm
 cases hm
 exact rZ1
noncomputable def Z4b (m : GModule) : Option Int :=
 (Option.bind (Z1b m) fun x1 =>
 (if (!x1) = true then
 (some 1)
 else
 (Option.bind (Y6 (fun (st4 : Int) =>
 ((if decide (st4 < ((List.length m.funcs : Int))) = true then
 (if 0 ≤ st4 ∧ st4 < (List.length m.funcs : Int) then
 (Option.bind (Z4z m (at_ m.funcs st4)) fun x10 =>
 (if (x10 != 0) = true then
 (some (Sum.inr ((Sum.inl x10))))
 else
 (if inI (st4 + 1) then
 (some (Sum.inl (st4 + 1)))
 else none)))
 else none)
 else
 (some (Sum.inr ((Sum.inr (())))))) : Option ((Int) ⊕ (Int ⊕ Unit)))) 0) fun (y14 : Int ⊕ Unit) => match y14 with
 | (Sum.inl j5) =>
 (some j5)
 | (Sum.inr j6) =>
 (some 0))))
theorem Y2d {m : GModule} {r : Int} (hm : Z4b m = some r) : Sim Tryz.prog 24 [.agg (K7 false m)] [] (.u (.one (.int .i64 r))) [] := by
 refine fN 25 0 Tryz.func24 [.tmp 2] fun B hB0 => ?_
 unfold Z4b at hm
 refine yG ?_
 intro _ hm
 refine nO (kW ?_)
 obtain ⟨x1, h2, hm⟩ := Z0 hm
 refine nO (Z6 (cB (Z6j h2) ?_))
 refine yG ?_
 intro _ hm
 refine bS hm (fun hb3 hm => ?_) fun hb3 hm => ?_
 refine yG ?_
 intro _ hm
 cases hm
 exact rZ1
 refine yG ?_
 intro _ hm
 obtain ⟨y14, hl15, hm⟩ := Z0 hm
 refine J6 hl15 (fun (st4 : Int) => St 25 [(1, vP 0), (3, vI st4)] [(0, oL 1 (K7 false m))] 1) (fun (y : Int ⊕ Unit) => match y with | (Sum.inl j5) => (.ret, St 25 [(2, vI j5)] [] 0) | (Sum.inr j6) => (.exit 0, St 25 [] [] 0)) (vW [0]) ?_ (by rintro (_ | _) <;> simp) ?_
 intro st4 x hm
 refine yG ?_
 intro k1 hm
 refine bS hm (fun hb8 hm => ?_) fun hb8 hm => ?_
 refine K3 ?_
 refine Wp.seq ?_
 refine Wp.block ?_
 refine Wp.seq ?_
 refine Z3m (Y := sysC _) Z3i ?_
 refine tK 0 1 rfl (kW ?_)
 refine tK 1 1 rfl (kF ?_)
 refine tK 2 1 rfl (kD ?_)
 refine tK 3 0 rfl (kV ?_)
 obtain ⟨h9, hm⟩ := Y1 hm
 refine tK 4 0 rfl (Z8q E38 rfl rfl h9 ?_)
 refine tK 5 0 rfl (K8 T27 rfl (U6 rfl rfl) rfl ?_)
 obtain ⟨x10, h11, hm⟩ := Z0 hm
 refine oK 6 rfl (cB (Y2r h11) ?_)
 refine tK 7 0 rfl (x_as rfl rfl ?_)
 refine aN ?_
 refine yG ?_
 intro _ hm
 refine bS hm (fun hb12 hm => ?_) fun hb12 hm => ?_
 refine yG ?_
 intro _ hm
 cases hm
 exact ⟨rfl, vW []⟩
 refine yG ?_
 intro k2 hm
 cases hm
 exact ⟨rfl, vW [0]⟩
 refine V2 ?_
 cases hm
 exact ⟨rfl, vW []⟩
 rcases y14 with j5 | j6 <;> simp only at hm
 cases hm
 exact rZ1
 refine yG ?_
 intro _ hm
 cases hm
 exact rZ1
noncomputable def Q7 (m : GModule) (k : Int) : Option Int :=
 (Option.bind ((Option.bind (Q4 m) fun x2 =>
 (if (!x2) = true then
 (some true)
 else
 (some ((!((Z3 k 0 (((List.length m.funcs : Int)) - 1))))))))) fun (j1 : Bool) =>
 (if j1 = true then
 (some 1)
 else
 (if 0 ≤ k ∧ k < (List.length m.funcs : Int) then
 (Option.bind (Z4e m (at_ m.funcs k)) fun x9 =>
 (some x9))
 else none)))
theorem Z5p {m : GModule} {k : Int} {r : Int} (hm : Q7 m k = some r) : Sim Tryz.prog 25 [.agg (K7 false m), .one (.int .i64 k)] [] (.u (.one (.int .i64 r))) [] := by
 refine fN 24 0 Tryz.func25 [.tmp 4] fun B hB0 => ?_
 unfold Q7 at hm
 refine Wp.seq ?_
 refine X4 ?_
 refine yR ?_
 intro _ hm
 refine W5 ?_
 refine Wp.seq ?_
 refine Wp.seq ?_
 obtain ⟨j1, hj6, hm⟩ := Z0 hm
 refine V6 (St 24 [(1, vI k), (2, vP 0), (16, vB j1)] [(0, oL 1 (K7 false m))] 1) ?_ ?_
 replace hm := hj6
 refine X4 ?_
 refine nO (kW ?_)
 obtain ⟨x2, h3, hm⟩ := Z0 hm
 refine nO (Z6 (cB (Z1z h3) ?_))
 refine yG ?_
 intro _ hm
 refine bG0 hm (fun hb4 hm => ?_) fun hb4 hm => ?_
 refine yG ?_
 intro k1 hm
 refine gO_t rfl rfl rfl (Z6 (cB (W8 k 0 (((List.length m.funcs : Int)) - 1)) ?_))
 refine yG ?_
 intro _ hm
 cases hm
 exact vW [0]
 refine yG ?_
 intro _ hm
 cases hm
 exact vW [0]
 refine bS hm (fun hb7 hm => ?_) fun hb7 hm => ?_
 refine yG ?_
 intro _ hm
 cases hm
 exact rZ1
 refine K3 ?_
 refine Wp.seq ?_
 refine Z3m (Y := sysC _) Z3i ?_
 refine tK 0 1 rfl (kW ?_)
 refine tK 1 1 rfl (kF ?_)
 refine tK 2 1 rfl (kD ?_)
 refine tK 3 0 rfl (kV ?_)
 obtain ⟨h8, hm⟩ := Y1 hm
 refine tK 4 0 rfl (Z8q E38 rfl rfl h8 ?_)
 refine tK 5 0 rfl (K8 T27 rfl (U6 rfl rfl) rfl ?_)
 obtain ⟨x9, h10, hm⟩ := Z0 hm
 refine oK 6 rfl (cB (Y2g h10) ?_)
 refine tK 7 0 rfl (x_as rfl rfl ?_)
 refine aN ?_
 refine Z1s ?_
 cases hm
 exact rZ1
noncomputable def Z0t (m : GModule) (k : Int) : Option Int :=
 (Option.bind ((Option.bind (Z1b m) fun x2 =>
 (if (!x2) = true then
 (some true)
 else
 (some ((!((Z7 k 0 (((List.length m.funcs : Int)) - 1))))))))) fun (j1 : Bool) =>
 (if j1 = true then
 (some 1)
 else
 (if 0 ≤ k ∧ k < (List.length m.funcs : Int) then
 (Option.bind (Z4z m (at_ m.funcs k)) fun x9 =>
 (some x9))
 else none)))
theorem Z9c {m : GModule} {k : Int} {r : Int} (hm : Z0t m k = some r) : Sim Tryz.prog 26 [.agg (K7 false m), .one (.int .i64 k)] [] (.u (.one (.int .i64 r))) [] := by
 refine fN 24 0 Tryz.func26 [.tmp 4] fun B hB0 => ?_
 unfold Z0t at hm
 refine Wp.seq ?_
 refine X4 ?_
 refine yR ?_
 intro _ hm
 refine W5 ?_
 refine Wp.seq ?_
 refine Wp.seq ?_
 obtain ⟨j1, hj6, hm⟩ := Z0 hm
 refine V6 (St 24 [(1, vI k), (2, vP 0), (16, vB j1)] [(0, oL 1 (K7 false m))] 1) ?_ ?_
 replace hm := hj6
 refine X4 ?_
 refine nO (kW ?_)
 obtain ⟨x2, h3, hm⟩ := Z0 hm
 refine nO (Z6 (cB (Z6j h3) ?_))
 refine yG ?_
 intro _ hm
 refine bG0 hm (fun hb4 hm => ?_) fun hb4 hm => ?_
 refine yG ?_
 intro k1 hm
 refine gO_t rfl rfl rfl (Z6 (cB (V3 k 0 (((List.length m.funcs : Int)) - 1)) ?_))
 refine yG ?_
 intro _ hm
 cases hm
 exact vW [0]
 refine yG ?_
 intro _ hm
 cases hm
 exact vW [0]
 refine bS hm (fun hb7 hm => ?_) fun hb7 hm => ?_
 refine yG ?_
 intro _ hm
 cases hm
 exact rZ1
 refine K3 ?_
 refine Wp.seq ?_
 refine Z3m (Y := sysC _) Z3i ?_
 refine tK 0 1 rfl (kW ?_)
 refine tK 1 1 rfl (kF ?_)
 refine tK 2 1 rfl (kD ?_)
 refine tK 3 0 rfl (kV ?_)
 obtain ⟨h8, hm⟩ := Y1 hm
 refine tK 4 0 rfl (Z8q E38 rfl rfl h8 ?_)
 refine tK 5 0 rfl (K8 T27 rfl (U6 rfl rfl) rfl ?_)
 obtain ⟨x9, h10, hm⟩ := Z0 hm
 refine oK 6 rfl (cB (Y2r h10) ?_)
 refine tK 7 0 rfl (x_as rfl rfl ?_)
 refine aN ?_
 refine Z1s ?_
 cases hm
 exact rZ1
noncomputable def Z2c (to : Int) (a : Int) : Option Bool :=
 (if inI (a - 1) then
 (some ((!((Z3 to 0 (a - 1))))))
 else none)
theorem Y3x {to : Int} {a : Int} {r : Bool} (hm : Z2c to a = some r) : Sim Tryz.prog 224 [.one (.int .i64 to), .one (.ip () (iL a))] [] (.u (.one (.bool r))) [] := by
 refine fN 9 0 Tryz.func224 [.tmp 3] fun B hB0 => ?_
 unfold Z2c at hm
 refine yG ?_
 intro k1 hm
 refine nO (Z6 (cB (W8 to 0 (a - 1)) ?_))
 refine yG ?_
 intro _ hm
 cases hm
 exact rZ1
noncomputable def Z3s (b : GBlock) (a : Int) : Option Bool :=
 (Option.bind (Z8 ((W9 b.term)) ((fun z0 => Z2c z0 a))) fun x1 =>
 (some x1))
theorem Y5j {b : GBlock} {a : Int} {r : Bool} (hm : Z3s b a = some r) : Sim Tryz.prog 223 [.agg (W2 false b), .one (.ip () (iL a))] [] (.u (.one (.bool r))) [] := by
 refine fN 9 0 Tryz.func223 [.tmp 3] fun B hB0 => ?_
 unfold Z3s at hm
 refine yG ?_
 intro _ hm
 refine nO (kL (.agg (Y3z b.term)) ?_)
 refine nO (Z6 (cB (Z8w b.term) ?_))
 refine nO (x_mf (ls := [.ip () (iL a)]) rfl ?_)
 obtain ⟨x1, h2, hm⟩ := Z0 hm
 refine nO (Z6 (Z0e (v := .u (.one (.bool x1))) (nobs := []) (oa' := _) (nx' := 2) rfl (a_1 rfl (b_r rfl) (a_1 rfl (b_f (c_c b_ip c_n)) a_n)) c_n EntC.h (X6 ((W9 b.term)) 224 [.ip () (iL a)] (fun z0 => Z2c z0 a) EntC.h rfl (fun z0 y hy => Y3x hy) h2) rfl rfl rfl rfl ?_))
 refine yG ?_
 intro _ hm
 cases hm
 exact rZ1
noncomputable def V5 (s : List GBlock) (f : GBlock → Option Bool) : Option Int :=
 (Option.bind (Y6 (fun (st2 : Int) =>
 ((if decide (st2 < ((List.length s : Int))) = true then
 (if 0 ≤ st2 ∧ st2 < (List.length s : Int) then
 (Option.bind (f (at_ s st2)) fun x7 =>
 (if x7 = true then
 (some (Sum.inr ((Sum.inl st2))))
 else
 (if inI (st2 + 1) then
 (some (Sum.inl (st2 + 1)))
 else none)))
 else none)
 else
 (some (Sum.inr ((Sum.inr (())))))) : Option ((Int) ⊕ (Int ⊕ Unit)))) 0) fun (y11 : Int ⊕ Unit) => match y11 with
 | (Sum.inl j3) =>
 (some j3)
 | (Sum.inr j4) =>
 (some ((-1))))
theorem Z3q (s : List GBlock) (fi : FuncId) (fc : List (L Unit)) (f : GBlock → Option Bool) (hef : Ent Tryz.prog fi) (hcf : CapOk fc) (hsf : ∀ z0 y, f z0 = some y → Sim Tryz.prog fi ([.agg (W2 false z0)] ++ List.map .one fc) [] (.u (.one (.bool y))) []) {r : Int} (hm : V5 s f = some r) : Sim Tryz.prog 251 [.one (.bs () 6 (List.map (W2 false) s)), .one (.fn () fi fc)] [] (.u (.one (.int .i64 r))) [] := by
 refine Y2e (N := 19) (k0 := 0) Tryz.func251 rfl rfl rfl rfl (rs := [.tmp 4]) rfl (by simp [Z1, idsL, List.all_cons, hcf.ids]) rfl fun B hB0 => ?_
 unfold V5 at hm
 refine yG ?_
 intro k1 hm
 obtain ⟨y11, hl12, hm⟩ := Z0 hm
 refine J6 hl12 (fun (st2 : Int) => St 19 [(0, .u (.one (.bs () 6 (List.map (W2 false) s)))), (1, .u (.one (.fn () fi fc))), (7, vI ((List.length s : Int))), (8, vI st2)] [] 0) (fun (y : Int ⊕ Unit) => match y with | (Sum.inl j3) => (.ret, St 19 [(4, vI j3)] [] 0) | (Sum.inr j4) => (.exit 0, St 19 [] [] 0)) (w_ [] (.cons rfl rfl (.cons (by rw [Y0u hcf]; rfl) (Z6g hcf _ _) (.cons rfl rfl (.cons rfl rfl .nil)))) .nil (by decide) (hB_0 hB0)) ?_ (by rintro (_ | _) <;> simp) ?_
 intro st2 x hm
 refine yG ?_
 intro _ hm
 refine bS hm (fun hb5 hm => ?_) fun hb5 hm => ?_
 refine yG ?_
 intro k2 hm
 refine nO (K8 T53 rfl (U6 rfl rfl) rfl ?_)
 obtain ⟨x7, h8, hm⟩ := Z0 hm
 refine nO (Z6 (Z0e (v := .u (.one (.bool x7))) (nobs := []) (oa' := _) (nx' := 0) rfl (a_a rfl (Z8z rfl) a_n) hcf.bor hef (hsf (at_ s st2) x7 h8) rfl rfl rfl rfl ?_))
 refine W5 ?_
 refine bS hm (fun hb9 hm => ?_) fun hb9 hm => ?_
 refine yG ?_
 intro _ hm
 cases hm
 exact ⟨rfl, vW []⟩
 refine yG ?_
 intro k3 hm
 cases hm
 exact ⟨rfl, w_ [] (.cons rfl rfl (.cons (by rw [Y0u hcf]; rfl) (Z6g hcf _ _) (.cons rfl rfl (.cons rfl rfl .nil)))) .nil (by decide) (hB_0 hB0)⟩
 refine V2 ?_
 cases hm
 exact ⟨rfl, vW []⟩
 rcases y11 with j3 | j4 <;> simp only at hm
 cases hm
 exact rZ1
 refine yG ?_
 intro _ hm
 cases hm
 exact rZ1
noncomputable def X8 (s : List GBlock) (f : GBlock → Option Bool) : Option Bool :=
 (Option.bind (V5 s f) fun x1 =>
 (some (decide (x1 ≥ 0))))
theorem Z2r (s : List GBlock) (fi : FuncId) (fc : List (L Unit)) (f : GBlock → Option Bool) (hef : Ent Tryz.prog fi) (hcf : CapOk fc) (hsf : ∀ z0 y, f z0 = some y → Sim Tryz.prog fi ([.agg (W2 false z0)] ++ List.map .one fc) [] (.u (.one (.bool y))) []) {r : Bool} (hm : X8 s f = some r) : Sim Tryz.prog 222 [.one (.bs () 6 (List.map (W2 false) s)), .one (.fn () fi fc)] [] (.u (.one (.bool r))) [] := by
 refine Y2e (N := 9) (k0 := 0) Tryz.func222 rfl rfl rfl rfl (rs := [.tmp 4]) rfl (by simp [Z1, idsL, List.all_cons, hcf.ids]) rfl fun B hB0 => ?_
 unfold X8 at hm
 refine yG ?_
 intro _ hm
 obtain ⟨x1, h2, hm⟩ := Z0 hm
 refine nO (Z6 (Z0e (v := .u (.one (.int .i64 x1))) (nobs := []) (oa' := _) (nx' := 0) rfl (a_1 rfl (b_s rfl) (a_1 rfl (b_f hcf.bor) a_n)) c_n EntC.h (Z3q s fi fc f hef hcf hsf h2) rfl rfl rfl rfl ?_))
 refine yG ?_
 intro _ hm
 cases hm
 exact rZ1
noncomputable def Z6a (f : GFunc) : Option Bool :=
 (Option.bind ((if (Z3 ((List.length f.blocks : Int)) 1 10) = true then
 (Option.bind (X8 f.blocks ((fun z0 => Z3s z0 ((List.length f.blocks : Int))))) fun x4 =>
 (some ((!x4))))
 else
 (some false))) fun (j2 : Bool) =>
 (some j2))
theorem Y7z {f : GFunc} {r : Bool} (hm : Z6a f = some r) : Sim Tryz.prog 164 [.agg (Z9 false f)] [] (.u (.one (.bool r))) [] := by
 refine fN 16 0 Tryz.func164 [.tmp 2] fun B hB0 => ?_
 unfold Z6a at hm
 refine Wp.seq ?_
 refine X4 ?_
 refine yR ?_
 intro _ hm
 refine W5 ?_
 refine Wp.seq ?_
 refine X4 ?_
 refine yR ?_
 intro k1 hm
 refine W5 ?_
 refine Wp.seq ?_
 obtain ⟨j2, hj6, hm⟩ := Z0 hm
 refine V6 (St 16 [(2, vB j2)] [] 0) ?_ ?_
 replace hm := hj6
 refine yG ?_
 intro _ hm
 refine nO (Z6 (cB (W8 ((List.length f.blocks : Int)) 1 10) ?_))
 refine yG ?_
 intro _ hm
 refine bG1 hm (fun hb3 hm => ?_) fun hb3 hm => ?_
 refine yG ?_
 intro _ hm
 refine gO_t rfl rfl rfl (x_mf (ls := [.ptr () 1 0 0]) rfl ?_)
 obtain ⟨x4, h5, hm⟩ := Z0 hm
 refine gO_t rfl rfl rfl (Z6 (Z0e (v := .u (.one (.bool x4))) (nobs := []) (oa' := _) (nx' := 2) rfl (a_1 rfl (b_s rfl) (a_1 rfl (b_f (c_c (b_p (cs := [.int .i64 ((List.length f.blocks : Int))]) rfl (c_c (b_s rfl) c_n) rfl) c_n)) a_n)) c_n EntC.h (Z2r f.blocks 223 [.ip () [.int .i64 ((List.length f.blocks : Int))]] (fun z0 => Z3s z0 ((List.length f.blocks : Int))) EntC.h rfl (fun z0 y hy => Y5j hy) h5) rfl rfl rfl rfl ?_))
 refine yG ?_
 intro _ hm
 cases hm
 exact vW []
 refine yG ?_
 intro _ hm
 cases hm
 exact vW []
 refine Z1s ?_
 cases hm
 exact rZ1
noncomputable def Z3t (f : GFunc) (b : Int) : Option Bool :=
 (Option.bind ((Option.bind (Z6a f) fun x2 =>
 (if x2 = true then
 (some ((Z3 b 0 (((List.length f.blocks : Int)) - 1))))
 else
 (some false)))) fun (j1 : Bool) =>
 (some j1))
theorem Y5k {f : GFunc} {b : Int} {r : Bool} (hm : Z3t f b = some r) : Sim Tryz.prog 85 [.agg (Z9 false f), .one (.int .i64 b)] [] (.u (.one (.bool r))) [] := by
 refine fN 15 0 Tryz.func85 [.tmp 4] fun B hB0 => ?_
 unfold Z3t at hm
 refine Wp.seq ?_
 refine X4 ?_
 refine yR ?_
 intro _ hm
 refine W5 ?_
 refine Wp.seq ?_
 obtain ⟨j1, hj6, hm⟩ := Z0 hm
 refine V6 (St 15 [(4, vB j1)] [] 0) ?_ ?_
 replace hm := hj6
 refine X4 ?_
 refine nO (kW ?_)
 obtain ⟨x2, h3, hm⟩ := Z0 hm
 refine nO (Z6 (cB (Y7z h3) ?_))
 refine yG ?_
 intro _ hm
 refine bG1 hm (fun hb4 hm => ?_) fun hb4 hm => ?_
 refine yG ?_
 intro k1 hm
 refine gO_t rfl rfl rfl (Z6 (cB (W8 b 0 (((List.length f.blocks : Int)) - 1)) ?_))
 refine yG ?_
 intro _ hm
 cases hm
 exact vW []
 refine yG ?_
 intro _ hm
 cases hm
 exact vW []
 refine Z1s ?_
 cases hm
 exact rZ1
noncomputable def Z8f (f : GFunc) (b : Int) : Option (List Int) :=
 (Option.bind (Z3t f b) fun x1 =>
 (if (!x1) = true then
 (some ([]))
 else
 (Option.bind (Z1d f b) fun x4 =>
 (some x4))))
theorem Y8d {f : GFunc} {b : Int} {r : List Int} (hm : Z8f f b = some r) : Sim Tryz.prog 29 [.agg (Z9 false f), .one (.int .i64 b)] [] (.u (.one (.os () 1 (List.map iL r)))) [] := by
 refine fN 12 0 Tryz.func29 [.tmp 4] fun B hB0 => ?_
 unfold Z8f at hm
 refine yG ?_
 intro _ hm
 refine nO (kW ?_)
 refine yG ?_
 intro _ hm
 obtain ⟨x1, h2, hm⟩ := Z0 hm
 refine nO (Z6 (cB (Y5k h2) ?_))
 refine yG ?_
 intro _ hm
 refine bS hm (fun hb3 hm => ?_) fun hb3 hm => ?_
 refine yG ?_
 intro _ hm
 cases hm
 exact rZ1h (hg := f_nl 0 0 1 true rfl rfl rfl)
 refine yG ?_
 intro _ hm
 refine nO (kW ?_)
 refine yG ?_
 intro _ hm
 obtain ⟨x4, h5, hm⟩ := Z0 hm
 refine nO (Z6 (cB (Z6m h5) ?_))
 refine yG ?_
 intro _ hm
 cases hm
 exact rZ1h (hg := Z3b 0 0 rfl rfl rfl rfl)
noncomputable def Z6k (code : List Int) : Option Bool :=
 (if (Y1b code) = true then
 (some true)
 else
 (Option.bind (Z2a code) fun x2 =>
 (Option.bind (Z6f x2) fun x4 =>
 (Option.bind (Z0f code) fun x6 =>
 (Option.bind ((Option.bind (Z4b x2) fun x9 =>
 (if (x4 != x9) = true then
 (some true)
 else
 (Option.bind (Q7 x6.1 x6.2) fun x12 =>
 (Option.bind (Z0t x6.1 x6.2) fun x14 =>
 (if (x12 != x14) = true then
 (some true)
 else
 (Option.bind (Q4 x2) fun x17 =>
 (Option.bind (Z1b x2) fun x19 =>
 (if (!(x17 == x19)) = true then
 (some true)
 else
 (some ((x4 != 0)))))))))))) fun (j8 : Bool) =>
 (if j8 = true then
 (Option.bind ((Option.bind (Z4b x2) fun x25 =>
 (if (x4 == x25) = true then
 (Option.bind (Q7 x6.1 x6.2) fun x28 =>
 (Option.bind (Z0t x6.1 x6.2) fun x30 =>
 (if (x28 == x30) = true then
 (Option.bind (Q4 x2) fun x33 =>
 (Option.bind (Z1b x2) fun x35 =>
 (if (x33 == x35) = true then
 (Option.bind (Q4 x2) fun x38 =>
 (some ((((x4 == 1)) == ((!x38))))))
 else
 (some false))))
 else
 (some false))))
 else
 (some false)))) fun (j24 : Bool) =>
 (some j24))
 else
 (Option.bind (Y6 (fun (st41 : Int) =>
 ((if decide (st41 < ((List.length x2.funcs : Int))) = true then
 (if 0 ≤ st41 ∧ st41 < (List.length x2.funcs : Int) then
 (Option.bind (Q7 x2 st41) fun x47 =>
 (if (x47 != 0) = true then
 (some (Sum.inr ((Sum.inl (())))))
 else
 (Option.bind (Y6 (fun (st50 : Int) =>
 ((if decide (st50 < ((List.length ((at_ x2.funcs st41).blocks) : Int))) = true then
 (Option.bind (Z8f (at_ x2.funcs st41) st50) fun x55 =>
 (Option.bind (Y6 (fun (st57 : Int) =>
 ((if 0 ≤ st50 ∧ st50 < (List.length ((at_ x2.funcs st41).blocks) : Int) then
 (if decide (st57 < ((List.length ((at_ ((at_ x2.funcs st41).blocks) st50).phis) : Int))) = true then
 (if 0 ≤ st50 ∧ st50 < (List.length ((at_ x2.funcs st41).blocks) : Int) then
 (if 0 ≤ st57 ∧ st57 < (List.length ((at_ ((at_ x2.funcs st41).blocks) st50).phis) : Int) then
 (if (((List.length ((at_ ((at_ ((at_ x2.funcs st41).blocks) st50).phis) st57).ins) : Int)) != ((List.length x55 : Int))) = true then
 (some (Sum.inr ((Sum.inl (())))))
 else
 (Option.bind (Y6 (fun (st68 : Int) =>
 ((if decide (st68 < ((List.length ((at_ ((at_ ((at_ x2.funcs st41).blocks) st50).phis) st57).ins) : Int))) = true then
 (if 0 ≤ st68 ∧ st68 < (List.length ((at_ ((at_ ((at_ x2.funcs st41).blocks) st50).phis) st57).ins) : Int) then
 (Option.bind (K6 (at_ x2.funcs st41) (at_ ((at_ ((at_ ((at_ x2.funcs st41).blocks) st50).phis) st57).ins) st68)) fun x74 =>
 (if (x74 != ((at_ ((at_ ((at_ x2.funcs st41).blocks) st50).phis) st57).w)) = true then
 (some (Sum.inr ((Sum.inl (())))))
 else
 (if inI (st68 + 1) then
 (some (Sum.inl (st68 + 1)))
 else none)))
 else none)
 else
 (some (Sum.inr ((Sum.inr (())))))) : Option ((Int) ⊕ (Unit ⊕ Unit)))) 0) fun (y78 : Unit ⊕ Unit) => match y78 with
 | (Sum.inl j69) =>
 (some (Sum.inr ((Sum.inl (())))))
 | (Sum.inr j70) =>
 (if inI (st57 + 1) then
 (some (Sum.inl (st57 + 1)))
 else none)))
 else none)
 else none)
 else
 (some (Sum.inr ((Sum.inr (()))))))
 else none) : Option ((Int) ⊕ (Unit ⊕ Unit)))) 0) fun (y81 : Unit ⊕ Unit) => match y81 with
 | (Sum.inl j58) =>
 (some (Sum.inr ((Sum.inl (())))))
 | (Sum.inr j59) =>
 (if inI (st50 + 1) then
 (some (Sum.inl (st50 + 1)))
 else none)))
 else
 (some (Sum.inr ((Sum.inr (())))))) : Option ((Int) ⊕ (Unit ⊕ Unit)))) 0) fun (y84 : Unit ⊕ Unit) => match y84 with
 | (Sum.inl j51) =>
 (some (Sum.inr ((Sum.inl (())))))
 | (Sum.inr j52) =>
 (if inI (st41 + 1) then
 (some (Sum.inl (st41 + 1)))
 else none))))
 else none)
 else
 (some (Sum.inr ((Sum.inr (())))))) : Option ((Int) ⊕ (Unit ⊕ Unit)))) 0) fun (y87 : Unit ⊕ Unit) => match y87 with
 | (Sum.inl j42) =>
 (some false)
 | (Sum.inr j43) =>
 (Option.bind (Q4 x2) fun x89 =>
 (some x89)))))))))
theorem Y5f {code : List Int} {r : Bool} (hm : Z6k code = some r) : Sim Tryz.prog 4 [.one (.bs () 1 (List.map (iK .u8) code))] [] (.u (.one (.bool r))) [] := by
 refine fN 148 0 Tryz.func4 [.tmp 2] fun B hB0 => ?_
 unfold Z6k at hm
 refine yG ?_
 intro _ hm
 refine nO (Z6 (cB (X5v code) ?_))
 refine W5 ?_
 refine bS hm (fun hb1 hm => ?_) fun hb1 hm => ?_
 refine yG ?_
 intro _ hm
 cases hm
 exact rZ1
 refine yG ?_
 intro _ hm
 obtain ⟨x2, h3, hm⟩ := Z0 hm
 refine nO (cG [] (Y3w h3) ?_)
 refine yG ?_
 intro _ hm
 refine nO (kW ?_)
 obtain ⟨x4, h5, hm⟩ := Z0 hm
 refine nO (Z6 (cB (Y8e h5) ?_))
 refine yG ?_
 intro _ hm
 obtain ⟨x6, h7, hm⟩ := Z0 hm
 refine nO (cG [] (Y0x h7) ?_)
 refine yR ?_
 intro _ hm
 refine W5 ?_
 refine Wp.seq ?_
 refine Wp.seq ?_
 obtain ⟨j8, hj22, hm⟩ := Z0 hm
 refine V6 (St 148 [(3, vP 0), (4, vI x4), (5, vP 2), (6, vI x6.2), (48, vB j8)] [(0, oL 1 [.ref () 1 0 (List.length x2.funcs)]), (1, oM 3 (Z9 false) x2.funcs), (2, oL 1 [.ref () 3 0 (List.length x6.1.funcs)]), (3, oM 3 (Z9 false) x6.1.funcs)] 4) ?_ ?_
 replace hm := hj22
 refine Z3m (Y := sysC _) Z3i ?_
 refine tK 0 0 rfl (kV ?_)
 refine tK 1 1 rfl (kW ?_)
 obtain ⟨x9, h10, hm⟩ := Z0 hm
 refine oK 2 rfl (cB (Y2d h10) ?_)
 refine tK 3 0 rfl (Z2n T2 rfl rfl rfl ?_)
 refine tK 4 0 rfl (kV ?_)
 refine bT 29 hm (fun hb11 hm => ?_) fun hb11 hm => ?_
 refine tF 5 rfl ?_
 refine tF 6 rfl ?_
 refine tF 7 rfl ?_
 refine tF 8 rfl ?_
 refine tF 9 rfl ?_
 refine tF 10 rfl ?_
 refine tF 11 rfl ?_
 refine tK 12 0 rfl (x_pk rfl rfl rfl ?_)
 refine tK 13 0 rfl (kV ?_)
 refine tF 14 rfl ?_
 refine tF 15 rfl ?_
 refine tF 16 rfl ?_
 refine tF 17 rfl ?_
 refine tF 18 rfl ?_
 refine tK 19 0 rfl (x_pk rfl rfl rfl ?_)
 refine tK 20 0 rfl (kV ?_)
 refine tF 21 rfl ?_
 refine tF 22 rfl ?_
 refine tK 23 0 rfl (x_pk rfl rfl rfl ?_)
 refine aN ?_
 cases hm
 exact vW [1, 0, 3, 2]
 refine tG 5 1 rfl (kW ?_)
 refine tG 6 0 rfl (kV ?_)
 refine tG 8 1 rfl (kW ?_)
 refine tG 9 0 rfl (kV ?_)
 obtain ⟨x12, h13, hm⟩ := Z0 hm
 refine oG 7 rfl (cB (Z5p h13) ?_)
 obtain ⟨x14, h15, hm⟩ := Z0 hm
 refine oG 10 rfl (cB (Z9c h15) ?_)
 refine tG 11 0 rfl (Z2n T2 rfl rfl rfl ?_)
 refine tK 12 0 rfl (x_pk rfl rfl rfl ?_)
 refine tK 13 0 rfl (kV ?_)
 refine bT 38 hm (fun hb16 hm => ?_) fun hb16 hm => ?_
 refine tF 14 rfl ?_
 refine tF 15 rfl ?_
 refine tF 16 rfl ?_
 refine tF 17 rfl ?_
 refine tF 18 rfl ?_
 refine tK 19 0 rfl (x_pk rfl rfl rfl ?_)
 refine tK 20 0 rfl (kV ?_)
 refine tF 21 rfl ?_
 refine tF 22 rfl ?_
 refine tK 23 0 rfl (x_pk rfl rfl rfl ?_)
 refine aN ?_
 cases hm
 exact vW [1, 0, 3, 2]
 refine tG 14 1 rfl (kW ?_)
 refine tG 16 1 rfl (kW ?_)
 obtain ⟨x17, h18, hm⟩ := Z0 hm
 refine oG 15 rfl (cB (Z1z h18) ?_)
 obtain ⟨x19, h20, hm⟩ := Z0 hm
 refine oG 17 rfl (cB (Z6j h20) ?_)
 refine tG 18 0 rfl (Z2n T4 rfl rfl rfl ?_)
 refine tK 19 0 rfl (x_pk rfl rfl rfl ?_)
 refine tK 20 0 rfl (kV ?_)
 refine bT 45 hm (fun hb21 hm => ?_) fun hb21 hm => ?_
 refine tF 21 rfl ?_
 refine tF 22 rfl ?_
 refine tK 23 0 rfl (x_pk rfl rfl rfl ?_)
 refine aN ?_
 cases hm
 exact vW [1, 0, 3, 2]
 refine tG 21 0 rfl (kV ?_)
 refine tG 22 0 rfl (Z2n T2 rfl rfl rfl ?_)
 refine tK 23 0 rfl (x_pk rfl rfl rfl ?_)
 refine aN ?_
 cases hm
 exact vW [1, 0, 3, 2]
 refine bS hm (fun hb23 hm => ?_) fun hb23 hm => ?_
 refine Wp.seq ?_
 obtain ⟨j24, hj40, hm⟩ := Z0 hm
 refine V6 (St 148 [(2, vB j24)] [] 0) ?_ ?_
 replace hm := hj40
 refine Z3m (Y := sysC _) Z3i ?_
 refine tK 0 0 rfl (kV ?_)
 refine tK 1 1 rfl (kW ?_)
 obtain ⟨x25, h26, hm⟩ := Z0 hm
 refine oK 2 rfl (cB (Y2d h26) ?_)
 refine tK 3 0 rfl (Z2n T2 rfl rfl rfl ?_)
 refine tK 4 0 rfl (kV ?_)
 refine bT 53 hm (fun hb27 hm => ?_) fun hb27 hm => ?_
 refine tG 5 1 rfl (kW ?_)
 refine tG 6 0 rfl (kV ?_)
 refine tG 8 1 rfl (kW ?_)
 refine tG 9 0 rfl (kV ?_)
 obtain ⟨x28, h29, hm⟩ := Z0 hm
 refine oG 7 rfl (cB (Z5p h29) ?_)
 obtain ⟨x30, h31, hm⟩ := Z0 hm
 refine oG 10 rfl (cB (Z9c h31) ?_)
 refine tG 11 0 rfl (Z2n T2 rfl rfl rfl ?_)
 refine tK 12 0 rfl (x_pk rfl rfl rfl ?_)
 refine tK 13 0 rfl (kV ?_)
 refine bT 62 hm (fun hb32 hm => ?_) fun hb32 hm => ?_
 refine tG 14 1 rfl (kW ?_)
 refine tG 16 1 rfl (kW ?_)
 obtain ⟨x33, h34, hm⟩ := Z0 hm
 refine oG 15 rfl (cB (Z1z h34) ?_)
 obtain ⟨x35, h36, hm⟩ := Z0 hm
 refine oG 17 rfl (cB (Z6j h36) ?_)
 refine tG 18 0 rfl (Z2n T4 rfl rfl rfl ?_)
 refine tK 19 0 rfl (x_pk rfl rfl rfl ?_)
 refine tK 20 0 rfl (kV ?_)
 refine bT 69 hm (fun hb37 hm => ?_) fun hb37 hm => ?_
 refine tG 21 0 rfl (kV ?_)
 refine tG 22 0 rfl (Z2n T2 rfl rfl rfl ?_)
 refine tG 23 1 rfl (kW ?_)
 obtain ⟨x38, h39, hm⟩ := Z0 hm
 refine oG 24 rfl (cB (Z1z h39) ?_)
 refine tG 25 0 rfl (x_un rfl rfl ?_)
 refine tG 26 0 rfl (Z2n T4 rfl rfl rfl ?_)
 refine tK 27 0 rfl (x_pk rfl rfl rfl ?_)
 refine tK 28 0 rfl (x_as rfl rfl ?_)
 refine aN ?_
 cases hm
 exact vW []
 refine tF 21 rfl ?_
 refine tF 22 rfl ?_
 refine tF 23 rfl ?_
 refine tF 24 rfl ?_
 refine tF 25 rfl ?_
 refine tF 26 rfl ?_
 refine tK 27 0 rfl (x_pk rfl rfl rfl ?_)
 refine tK 28 0 rfl (x_as rfl rfl ?_)
 refine aN ?_
 cases hm
 exact vW []
 refine tF 14 rfl ?_
 refine tF 15 rfl ?_
 refine tF 16 rfl ?_
 refine tF 17 rfl ?_
 refine tF 18 rfl ?_
 refine tK 19 0 rfl (x_pk rfl rfl rfl ?_)
 refine tK 20 0 rfl (kV ?_)
 refine tF 21 rfl ?_
 refine tF 22 rfl ?_
 refine tF 23 rfl ?_
 refine tF 24 rfl ?_
 refine tF 25 rfl ?_
 refine tF 26 rfl ?_
 refine tK 27 0 rfl (x_pk rfl rfl rfl ?_)
 refine tK 28 0 rfl (x_as rfl rfl ?_)
 refine aN ?_
 cases hm
 exact vW []
 refine tF 5 rfl ?_
 refine tF 6 rfl ?_
 refine tF 7 rfl ?_
 refine tF 8 rfl ?_
 refine tF 9 rfl ?_
 refine tF 10 rfl ?_
 refine tF 11 rfl ?_
 refine tK 12 0 rfl (x_pk rfl rfl rfl ?_)
 refine tK 13 0 rfl (kV ?_)
 refine tF 14 rfl ?_
 refine tF 15 rfl ?_
 refine tF 16 rfl ?_
 refine tF 17 rfl ?_
 refine tF 18 rfl ?_
 refine tK 19 0 rfl (x_pk rfl rfl rfl ?_)
 refine tK 20 0 rfl (kV ?_)
 refine tF 21 rfl ?_
 refine tF 22 rfl ?_
 refine tF 23 rfl ?_
 refine tF 24 rfl ?_
 refine tF 25 rfl ?_
 refine tF 26 rfl ?_
 refine tK 27 0 rfl (x_pk rfl rfl rfl ?_)
 refine tK 28 0 rfl (x_as rfl rfl ?_)
 refine aN ?_
 cases hm
 exact vW []
 refine Z1s ?_
 cases hm
 exact rZ1
 refine yG ?_
 intro _ hm
 obtain ⟨y87, hl88, hm⟩ := Z0 hm
 refine J6 hl88 (fun (st41 : Int) => St 148 [(3, vP 0), (7, vI st41)] [(0, oL 1 [.ref () 1 0 (List.length x2.funcs)]), (1, oM 3 (Z9 false) x2.funcs)] 2) (fun (y : Unit ⊕ Unit) => match y with | (Sum.inl j42) => (.ret, St 148 [(2, vB false)] [] 0) | (Sum.inr j43) => (.exit 0, St 148 [(3, vP 0)] [(0, oL 1 [.ref () 1 0 (List.length x2.funcs)]), (1, oM 3 (Z9 false) x2.funcs)] 2)) (vW [0, 1]) ?_ (by rintro (_ | _) <;> simp) ?_
 intro st41 x hm
 refine yG ?_
 intro k1 hm
 refine bS hm (fun hb45 hm => ?_) fun hb45 hm => ?_
 refine yG ?_
 intro k2 hm
 refine nO (Z5q rfl T27 rfl rfl k2.2 (U6 rfl rfl) rfl ?_)
 refine yG ?_
 intro _ hm
 refine nO (kW ?_)
 refine yG ?_
 intro _ hm
 obtain ⟨x47, h48, hm⟩ := Z0 hm
 refine nO (Z6 (cB (Z5p h48) ?_))
 refine yG ?_
 intro _ hm
 refine bS hm (fun hb49 hm => ?_) fun hb49 hm => ?_
 refine yG ?_
 intro _ hm
 cases hm
 exact ⟨rfl, vW []⟩
 refine yG ?_
 intro _ hm
 obtain ⟨y84, hl85, hm⟩ := Z0 hm
 refine J6 hl85 (fun (st50 : Int) => St 148 [(3, vP 0), (7, vI st41), (8, vP 2), (9, vI st50)] [(0, oL 1 [.ref () 1 0 (List.length x2.funcs)]), (1, oM 3 (Z9 false) x2.funcs), (2, oL 3 (Z9 false (at_ x2.funcs st41)))] 3) (fun (y : Unit ⊕ Unit) => match y with | (Sum.inl j51) => (.ret, St 148 [(2, vB false)] [] 0) | (Sum.inr j52) => (.exit 2, St 148 [(3, vP 0), (7, vI st41)] [(0, oL 1 [.ref () 1 0 (List.length x2.funcs)]), (1, oM 3 (Z9 false) x2.funcs)] 2)) (vW [0, 1, 2]) ?_ (by rintro (_ | _) <;> simp) ?_
 intro st50 x hm
 refine yG ?_
 intro k3 hm
 refine bS hm (fun hb54 hm => ?_) fun hb54 hm => ?_
 refine yG ?_
 intro _ hm
 refine nO (kW ?_)
 refine yG ?_
 intro _ hm
 obtain ⟨x55, h56, hm⟩ := Z0 hm
 refine nO (Z6 (cB (Y8d h56) ?_))
 refine yG ?_
 intro _ hm
 obtain ⟨y81, hl82, hm⟩ := Z0 hm
 refine J6 hl82 (fun (st57 : Int) => St 148 [(3, vP 0), (7, vI st41), (8, vP 2), (9, vI st50), (10, vR 3 (List.length x55)), (11, vI st57)] [(0, oL 1 [.ref () 1 0 (List.length x2.funcs)]), (1, oM 3 (Z9 false) x2.funcs), (2, oL 3 (Z9 false (at_ x2.funcs st41))), (3, oM 1 iL x55)] 4) (fun (y : Unit ⊕ Unit) => match y with | (Sum.inl j58) => (.ret, St 148 [(2, vB false)] [] 0) | (Sum.inr j59) => (.exit 4, St 148 [(3, vP 0), (7, vI st41), (8, vP 2), (9, vI st50)] [(0, oL 1 [.ref () 1 0 (List.length x2.funcs)]), (1, oM 3 (Z9 false) x2.funcs), (2, oL 3 (Z9 false (at_ x2.funcs st41)))] 3)) (vW [0, 1, 2, 3]) ?_ (by rintro (_ | _) <;> simp) ?_
 intro st57 x hm
 refine yG ?_
 intro k4 hm
 refine bS hm (fun hb62 hm => ?_) fun hb62 hm => ?_
 refine yG ?_
 intro k5 hm
 refine nO (K8 T55 rfl (U6 rfl rfl) rfl ?_)
 refine yG ?_
 intro k6 hm
 refine bS hm (fun hb67 hm => ?_) fun hb67 hm => ?_
 refine yG ?_
 intro _ hm
 cases hm
 exact ⟨rfl, vW []⟩
 refine yG ?_
 intro _ hm
 obtain ⟨y78, hl79, hm⟩ := Z0 hm
 refine J6 hl79 (fun (st68 : Int) => St 148 [(3, vP 0), (7, vI st41), (8, vP 2), (9, vI st50), (10, vR 3 (List.length x55)), (11, vI st57), (12, vP 4), (13, vI st68)] [(0, oL 1 [.ref () 1 0 (List.length x2.funcs)]), (1, oM 3 (Z9 false) x2.funcs), (2, oL 3 (Z9 false (at_ x2.funcs st41))), (3, oM 1 iL x55), (4, oL 2 (ePhi false (at_ ((at_ ((at_ x2.funcs st41).blocks) st50).phis) st57)))] 5) (fun (y : Unit ⊕ Unit) => match y with | (Sum.inl j69) => (.ret, St 148 [(2, vB false)] [] 0) | (Sum.inr j70) => (.exit 6, St 148 [(3, vP 0), (7, vI st41), (8, vP 2), (9, vI st50), (10, vR 3 (List.length x55)), (11, vI st57)] [(0, oL 1 [.ref () 1 0 (List.length x2.funcs)]), (1, oM 3 (Z9 false) x2.funcs), (2, oL 3 (Z9 false (at_ x2.funcs st41))), (3, oM 1 iL x55)] 4)) (vW [0, 1, 2, 3, 4]) ?_ (by rintro (_ | _) <;> simp) ?_
 intro st68 x hm
 refine yG ?_
 intro k7 hm
 refine bS hm (fun hb72 hm => ?_) fun hb72 hm => ?_
 refine K3 ?_
 refine Wp.seq ?_
 refine Wp.block ?_
 refine Wp.seq ?_
 refine Z3m (Y := sysC _) Z3i ?_
 refine tK 0 1 rfl (kW ?_)
 refine tK 1 1 rfl (kF ?_)
 refine tK 2 1 rfl (kD ?_)
 refine tK 3 0 rfl (kV ?_)
 obtain ⟨h73, hm⟩ := Y1 hm
 refine tK 4 0 rfl (Z8q E24 rfl rfl h73 ?_)
 refine tK 5 0 rfl (K8 T2 rfl rfl rfl ?_)
 refine tK 7 1 rfl (kF ?_)
 refine tK 8 1 rfl (kD ?_)
 obtain ⟨x74, h75, hm⟩ := Z0 hm
 refine oK 6 rfl (cB (Z0q h75) ?_)
 refine tK 9 0 rfl (Z2n T2 rfl rfl rfl ?_)
 refine aN ?_
 refine bS hm (fun hb76 hm => ?_) fun hb76 hm => ?_
 refine yG ?_
 intro _ hm
 cases hm
 exact ⟨rfl, vW []⟩
 refine yG ?_
 intro k8 hm
 cases hm
 exact ⟨rfl, vW [0, 1, 2, 3, 4]⟩
 refine V2 ?_
 cases hm
 exact ⟨rfl, vW [0, 1, 2, 3]⟩
 rcases y78 with j69 | j70 <;> simp only at hm
 cases hm
 exact ⟨rfl, vW []⟩
 refine yG ?_
 intro k9 hm
 cases hm
 exact ⟨rfl, vW [0, 1, 2, 3]⟩
 refine V2 ?_
 cases hm
 exact ⟨rfl, vW [0, 1, 2]⟩
 rcases y81 with j58 | j59 <;> simp only at hm
 cases hm
 exact ⟨rfl, vW []⟩
 refine yG ?_
 intro k10 hm
 cases hm
 exact ⟨rfl, vW [0, 1, 2]⟩
 refine V2 ?_
 cases hm
 exact ⟨rfl, vW [0, 1]⟩
 rcases y84 with j51 | j52 <;> simp only at hm
 cases hm
 exact ⟨rfl, vW []⟩
 refine yG ?_
 intro k11 hm
 cases hm
 exact ⟨rfl, vW [0, 1]⟩
 refine V2 ?_
 cases hm
 exact ⟨rfl, vW [0, 1]⟩
 rcases y87 with j42 | j43 <;> simp only at hm
 cases hm
 exact rZ1
 refine Wp.seq ?_
 refine X4 ?_
 refine nO (kW ?_)
 obtain ⟨x89, h90, hm⟩ := Z0 hm
 refine nO (Z6 (cB (Z1z h90) ?_))
 refine yG ?_
 intro _ hm
 cases hm
 exact rZ1
end
section
theorem X5s {α : Type} {body : Int → Option (Int ⊕ (α ⊕ Unit))} (n : Nat) (c : Nat → Bool) (a : Nat → α) (h1 : ∀ k : Nat, k < n → body (k : Int) = some (if c k = true then .inr (.inl (a k)) else .inl ((k : Int) + 1)))
  (h2 : body (n : Int) = some (.inr (.inr ()))) :
  (∃ k, k < n ∧ c k = true ∧ (∀ j, j < k → c j = false) ∧ Y6 body 0 = some (.inl (a k))) ∨ ((∀ k, k < n → c k = false) ∧ Y6 body 0 = some (.inr ())) := by
 have key : ∀ m k : Nat, k + m = n → (∃ i, k ≤ i ∧ i < n ∧ c i = true ∧ (∀ j, k ≤ j → j < i → c j = false) ∧ Y6 body (k : Int) = some (.inl (a i))) ∨ ((∀ i, k ≤ i → i < n → c i = false) ∧ Y6 body (k : Int) = some (.inr ())) := by
  intro m
  induction m with
  | zero =>
   intro k hk
   obtain rfl : k = n := by omega
   exact .inr ⟨fun i h1 h2 => by omega, by rw [Z1w, h2]; rfl⟩
  | succ m ih =>
   intro k hk
   by_cases hc : c k = true
   ·exact .inl ⟨k, Nat.le_refl _, by omega, hc, fun j h1 h2 => by omega, by rw [Z1w, h1 k (by omega), if_pos hc]; rfl⟩
   ·have hc' : c k = false := by simpa using hc
    have e : Y6 body (k : Int) = Y6 body ((k + 1 : Nat) : Int) := by
     rw [Z1w, h1 k (by omega), if_neg hc]
     simp
    rcases ih (k + 1) (by omega) with ⟨i, p1, p2, p3, p4, p5⟩ | ⟨p1, p2⟩
    ·refine .inl ⟨i, by omega, p2, p3, fun j hj hji => ?_, by rw [e]; exact p5⟩
     rcases Nat.lt_or_ge k j with h | h
     ·exact p4 j (by omega) hji
     ·obtain rfl : j = k := by omega
      exact hc'
    ·refine .inr ⟨fun i hi hin => ?_, by rw [e]; exact p2⟩
     rcases Nat.lt_or_ge k i with h | h
     ·exact p1 i (by omega) hin
     ·obtain rfl : i = k := by omega
      exact hc'
 rcases key n 0 (by omega) with ⟨k, _, p2, p3, p4, p5⟩ | ⟨p1, p2⟩
 ·exact .inl ⟨k, p2, p3, fun j hj => p4 j (Nat.zero_le _) hj, p5⟩
 ·exact .inr ⟨fun i hi => p1 i (Nat.zero_le _) hi, p2⟩
theorem W6a {α β : Type} [Inhabited β] {body : Int → Option (Int ⊕ (α ⊕ Unit))} (xs : List β) (c : β → Bool) (a : Nat → α) (h1 : ∀ k : Nat, k < xs.length → body (k : Int) = some (if c (at_ xs k) = true then .inr (.inl (a k)) else .inl ((k : Int) + 1)))
  (h2 : body (xs.length : Int) = some (.inr (.inr ()))) :
  (xs.any c = true ∧ ∃ k, k < xs.length ∧ Y6 body 0 = some (.inl (a k))) ∨ (xs.any c = false ∧ Y6 body 0 = some (.inr ())) := by
 have hat : ∀ k (h : k < xs.length), at_ xs (k : Int) = xs[k] := fun k h => by simp [at_, List.getD_eq_getElem?_getD, List.getElem?_eq_getElem h]
 rcases X5s xs.length (fun k => c (at_ xs (k : Int))) a h1 h2 with ⟨k, p1, p2, _, p4⟩ | ⟨p1, p2⟩
 ·exact .inl ⟨List.any_eq_true.2 ⟨xs[k], List.getElem_mem p1, by rw [← hat k p1]; exact p2⟩, k, p1, p4⟩
 ·refine .inr ⟨?_, p2⟩
  rw [List.any_eq_false]
  intro x hx
  obtain ⟨k, hk, rfl⟩ := List.getElem_of_mem hx
  have := p1 k hk
  rw [hat k hk] at this
  simp [this]
theorem Z5k {β : Type} [Inhabited β] {xs : List β} {k : Nat} (h : k < xs.length) : at_ xs (k : Int) = xs[k] := by simp [at_, List.getD_eq_getElem?_getD, List.getElem?_eq_getElem h]
theorem X1z {α : Type} {body : Int → Option (Int ⊕ (α ⊕ Unit))} {L : Option (α ⊕ Unit)} (hB : Y6 body 0 = L) (n : Nat) (c : Nat → Bool) (a : Nat → α)
  (h1 : ∀ k : Nat, k < n → body (k : Int) = some (if c k = true then .inr (.inl (a k)) else .inl ((k : Int) + 1))) (h2 : body (n : Int) = some (.inr (.inr ()))) :
  (∃ k, k < n ∧ c k = true ∧ (∀ j, j < k → c j = false) ∧ L = some (.inl (a k))) ∨ ((∀ k, k < n → c k = false) ∧ L = some (.inr ())) := by
 subst hB
 exact X5s n c a h1 h2
theorem Z5y {α β : Type} [Inhabited β] {body : Int → Option (Int ⊕ (α ⊕ Unit))} {L : Option (α ⊕ Unit)} (hB : Y6 body 0 = L) (xs : List β) (c : β → Bool) (a : Nat → α)
  (h1 : ∀ k : Nat, k < xs.length → body (k : Int) = some (if c (at_ xs k) = true then .inr (.inl (a k)) else .inl ((k : Int) + 1))) (h2 : body (xs.length : Int) = some (.inr (.inr ()))) :
  (xs.any c = true ∧ ∃ k, k < xs.length ∧ L = some (.inl (a k))) ∨ (xs.any c = false ∧ L = some (.inr ())) := by
 subst hB
 exact W6a xs c a h1 h2
end
section
open Go Go.WideShapes Go.ChangeShapes
inductive Ty : Type where
 | int (k : IntKind)
 | bool
 | str
 | sl (n b : Nat) (e : Ty)
 | st (fs : List Ty)
mutual
inductive TyP (P : Program) : TypeId → Ty → Prop
 | int {t k} : P.underlying t = some (.int k) → TyP P t (.int k)
 | bool {t} : P.underlying t = some .bool → TyP P t .bool
 | str {t} : P.underlying t = some .string → TyP P t .str
 | sl {t e n b ty} : P.underlying t = some (.slice e) → P.cellsOf e = n → P.bytesOf e = b → 0 < n → 0 < b → TyP P e ty → TyP P t (.sl n b ty)
 | st {t gs fs m} : P.underlying t = some (.struct gs) → P.cellsOf t = m → FsP P gs.toList fs 0 m → TyP P t (.st fs)
inductive FsP (P : Program) : List Field → List Ty → Nat → Nat → Prop
 | nil {m} : FsP P [] [] m m
 | cons {g gs ty tys o c m} : g.offset = o → P.cellsOf g.type = c → TyP P g.type ty → FsP P gs tys (o + c) m → FsP P (g :: gs) (ty :: tys) o m
end
def fsB (P : Program) (tb : TypeId → Ty → Bool) : List Field → List Ty → Nat → Nat → Bool
 | [], [], o, m => Nat.beq o m
 | g :: gs, ty :: tys, o, m => Nat.beq g.offset o && tb g.type ty && fsB P tb gs tys (o + P.cellsOf g.type) m
 | _, _, _, _ => false
def tyB (P : Program) : Nat → TypeId → Ty → Bool
 | 0, _, _ => false
 | _ + 1, t, .int k => match P.underlying t with
  | some (.int k') => decide (k' = k)
  | _ => false
 | _ + 1, t, .bool => match P.underlying t with
  | some .bool => true
  | _ => false
 | _ + 1, t, .str => match P.underlying t with
  | some .string => true
  | _ => false
 | f + 1, t, .sl n b e => match P.underlying t with
  | some (.slice t') => Nat.beq (P.cellsOf t') n && Nat.beq (P.bytesOf t') b && Nat.blt 0 n && Nat.blt 0 b && tyB P f t' e
  | _ => false
 | f + 1, t, .st fs => match P.underlying t with
  | some (.struct gs) => fsB P (tyB P f) gs.toList fs 0 (P.cellsOf t)
  | _ => false
theorem X5y {P : Program} {tb : TypeId → Ty → Bool} (h : ∀ t ty, tb t ty = true → TyP P t ty) : ∀ {gs : List Field} {fs : List Ty} {o m : Nat}, fsB P tb gs fs o m = true → FsP P gs fs o m
 | [], [], o, m, hb => by
  have := Nat.eq_of_beq_eq_true hb
  subst this
  exact .nil
 | g :: gs, ty :: tys, o, m, hb => by
  simp only [fsB, Bool.and_eq_true] at hb
  obtain ⟨⟨h1, h2⟩, h3⟩ := hb
  exact .cons (Nat.eq_of_beq_eq_true h1) rfl (h _ _ h2) (X5y h h3)
 | [], _ :: _, _, _, hb => by cases hb
 | _ :: _, [], _, _, hb => by cases hb
theorem Y9d {P : Program} : ∀ {f : Nat} {t : TypeId} {ty : Ty}, tyB P f t ty = true → TyP P t ty
 | 0, _, _, h => by simp [tyB] at h
 | f + 1, t, .int k, h => by
  unfold tyB at h
  split at h
  ·rename_i k' hu
   have := of_decide_eq_true h
   subst this
   exact .int hu
  ·cases h
 | f + 1, t, .bool, h => by
  unfold tyB at h
  split at h
  ·rename_i hu; exact .bool hu
  ·cases h
 | f + 1, t, .str, h => by
  unfold tyB at h
  split at h
  ·rename_i hu; exact .str hu
  ·cases h
 | f + 1, t, .sl n b e, h => by
  unfold tyB at h
  split at h
  ·rename_i t' hu
   simp only [Bool.and_eq_true] at h
   obtain ⟨⟨⟨⟨h1, h2⟩, h3⟩, h4⟩, h5⟩ := h
   exact .sl hu (Nat.eq_of_beq_eq_true h1) (Nat.eq_of_beq_eq_true h2) (Y0c h3) (Y0c h4) (Y9d h5)
  ·cases h
 | f + 1, t, .st fs, h => by
  unfold tyB at h
  split at h
  ·rename_i gs hu
   exact .st hu rfl (X5y (fun t ty ht => Y9d ht) h)
  ·cases h
inductive Fits {δ : Type} : Ty → List (L δ) → Prop
 | int {k n} : (Lit.int k n).wf = true → Fits (.int k) [.int k n]
 | bool {b} : Fits .bool [.bool b]
 | str {s : ByteArray} : s.size ≤ reachBytes → Fits .str [.str s]
 | sl {n b e v rows} : rows.length * b ≤ reachBytes → (∀ r ∈ rows, Fits e r) → Fits (.sl n b e) [.bs v n rows]
 | st0 : Fits (.st []) []
 | st {t ts a b} : Fits t a → Fits (.st ts) b → Fits (.st (t :: ts)) (a ++ b)
theorem Fits.map {δ ε : Type} (g : δ → ε) : ∀ {ty : Ty} {ls : List (L δ)}, Fits ty ls → Fits ty (ls.map (mapL g)) := by
 intro ty ls h
 induction h with
 | int h => exact .int h
 | bool => exact .bool
 | str h => exact .str h
 | sl h _ ih =>
  simp only [List.map_cons, List.map_nil, mapL, Z1u]
  refine .sl (by simpa using h) fun r hr => ?_
  obtain ⟨r0, h0, rfl⟩ := List.mem_map.1 hr
  exact ih r0 h0
 | st0 => exact .st0
 | st _ _ h1 h2 => rw [List.map_append]; exact .st h1 h2
structure Pl (w : World) (l : L Value) : Prop where
 wf : ∀ nest, wfL nest l
 ids : idsL l = []
 own : ownL l = []
 ref : ∀ ob, W7 ob l
 imm : ∀ q ∈ immL l, q.2 ≠ [] → ImmFact w q
theorem pl_int {w : World} {k n} : Pl w (.int k n) := ⟨fun _ => trivial, rfl, rfl, fun _ => trivial, fun q hq => by simp [immL] at hq⟩
theorem pl_bool {w : World} {b} : Pl w (.bool b) := ⟨fun _ => trivial, rfl, rfl, fun _ => trivial, fun q hq => by simp [immL] at hq⟩
theorem pl_str {w : World} {b} : Pl w (.str b) := ⟨fun _ => trivial, rfl, rfl, fun _ => trivial, fun q hq => by simp [immL] at hq⟩
theorem X0x {α : Type} {R : Nat → α → Prop} : ∀ n : Nat, (∀ i, i < n → ∃ r, R i r) → ∃ rows : List α, rows.length = n ∧ ∀ (i : Nat) r, rows[i]? = some r → R i r
 | 0, _ => ⟨[], rfl, fun i r h => by simp at h⟩
 | n + 1, h => by
  obtain ⟨rows, h1, h2⟩ := X0x n fun i hi => h i (by omega)
  obtain ⟨r, hr⟩ := h n (by omega)
  refine ⟨rows ++ [r], by simp [h1], fun i x hx => ?_⟩
  rcases Nat.lt_trichotomy i n with hi | hi | hi
  ·rw [List.getElem?_append_left (by omega)] at hx
   exact h2 i x hx
  ·subst hi
   rw [List.getElem?_append_right (by omega), h1, Nat.sub_self] at hx
   cases hx
   exact hr
  ·rw [List.getElem?_eq_none (by simp; omega)] at hx
   cases hx
theorem Y9a {H : Type} {P : Program} {e : TypeId} : ∀ {ds : List (DataW H)} {i : Nat} {d : DataW H}, ds[i]? = some d → ∀ n ∈ d.weights P e, n ∈ DataW.weightsAll P e ds
 | d0 :: ds, 0, d, hd, n, hn => by
  simp only [List.getElem?_cons_zero, Option.some.injEq] at hd
  subst hd
  simp only [DataW.weightsAll, List.mem_append]
  exact .inl hn
 | d0 :: ds, i + 1, d, hd, n, hn => by
  simp only [List.getElem?_cons_succ] at hd
  simp only [DataW.weightsAll, List.mem_append]
  exact .inr (Y9a hd n hn)
theorem valR_at {n : Nat} {rows : List (List (L Value))} (hl : ∀ r ∈ rows, r.length = n) {j : Nat} {v : Value} (h : (valR rows)[j]? = some v) : ∃ r, rows[j / n]? = some r ∧ (r.map val)[j % n]? = some v ∧ 0 < n := by
 have hlt := (List.getElem?_eq_some_iff.1 h).1
 rw [Z2i hl] at hlt
 have hn : 0 < n := by
  rcases Nat.eq_zero_or_pos n with h0 | h0
  ·subst h0; omega
  ·exact h0
 have hi : j / n < rows.length := Nat.div_lt_of_lt_mul (by rw [Nat.mul_comm]; exact hlt)
 have hr := List.getElem?_eq_getElem hi
 have hm := Nat.mod_lt j hn
 have hlr := hl _ (List.mem_of_getElem? hr)
 have hx := List.getElem?_eq_getElem (l := rows[j / n]) (i := j % n) (by omega)
 have := Y8g hl hr hx
 refine ⟨_, hr, ?_, hn⟩
 have e : j / n * n + j % n = j := by rw [Nat.mul_comm]; exact Nat.div_add_mod j n
 rw [e] at this
 rw [List.getElem?_map, hx, ← h, this]
 rfl
section
variable {H : Type} {enc : TypeId × Value → H} {P : Program} {w : World} {base : Nat} {spare : Nat → Bool} {held : Bool}
theorem reading : ∀ (fuel : Nat) {t : TypeId} {ty : Ty} {cs : List Value} {x : DataW H × List MemPlace}, TyP P t ty → DataW.trod enc P w base spare held fuel t cs = some x → (∀ n ∈ x.1.weights P t, n ≤ reachBytes) →
  ∃ ls : List (L Value), ls.map val = cs ∧ Fits ty ls ∧ (∀ l ∈ ls, Pl w l) ∧ (P.underlying t = P.underlying t) := by
 intro fuel
 induction fuel with
 | zero => intro t ty cs x _ h; simp [DataW.trod] at h
 | succ fuel ih =>
  intro t ty cs x hty h hw
  cases hty with
  | int hu =>
   obtain ⟨n, rfl, rfl, hwf⟩ := DataW.trod_int hu h
   exact ⟨[.int _ n], rfl, .int hwf, by simpa using pl_int, rfl⟩
  | bool hu =>
   obtain ⟨b, rfl, rfl⟩ := DataW.trod_bool hu h
   exact ⟨[.bool b], rfl, .bool, by simpa using pl_bool, rfl⟩
  | str hu =>
   obtain ⟨s, rfl, rfl, _⟩ := DataW.trod_string hu h
   refine ⟨[.str s], rfl, .str ?_, by simpa using pl_str, rfl⟩
   have := hw s.data.toList.length (by simp [DataW.weights])
   simpa using this
  | sl hu hn hb hn0 hb0 he =>
   rename_i e n b ty'
   rcases DataW.trod_slice hu h with ⟨rfl, rfl⟩ | ⟨a, len, cap, elems, rest, m, hm, rfl, rfl, hbs, hl, hm2, hlen, hel, _, _⟩
   ·refine ⟨[.bs (.slice none 0 0) n []], rfl, .sl (by simp) (by simp), ?_, rfl⟩
    intro l hl
    simp only [List.mem_singleton] at hl
    subst hl
    exact ⟨fun _ => ⟨⟨none, 0, rfl, by simp, by simp [LIM], by simp⟩, by simp, by simp [wfR]⟩, rfl, rfl, fun _ => trivial, fun q hq => by simp [immL, Z2z, immR] at hq⟩
   ·obtain rfl : fuel = m := by omega
    have hlenb : (elems.length + rest.length) * b ≤ reachBytes := by
     have := hw ((elems.length + rest.length) * P.bytesOf e) (by simp [DataW.weights, hu])
     rwa [hb] at this
    obtain ⟨rows, hr1, hr2⟩ := X0x (R := fun i (r : List (L Value)) => (∃ c, w.cells? base (a.add (i * n)) n = some c ∧ r.map val = c) ∧ Fits ty' r ∧ (∀ l ∈ r, Pl w l)) len fun i hi => by
     have h1 := hel i hi
     have hie : i < elems.length := by omega
     rw [List.getElem?_eq_getElem hie, Option.bind_eq_some_iff, hn] at h1
     obtain ⟨c, hc, ht⟩ := h1
     obtain ⟨ls, e1, e2, e3, _⟩ := ih he ht fun k hk => hw k (by
      simp only [DataW.weights, hu, List.mem_cons, List.mem_append]
      refine .inr (.inl (Y9a (i := i) ?_ k hk))
      rw [List.getElem?_map, List.getElem?_eq_getElem hie]
      rfl)
     exact ⟨ls, ⟨c, hc, e1⟩, e2, e3⟩
    have hmem : ∀ r ∈ rows, Fits ty' r ∧ (∀ l ∈ r, Pl w l) ∧ r.length = n := fun r hr => by
     obtain ⟨i, hi⟩ := List.getElem?_of_mem hr
     obtain ⟨⟨c, hc, e1⟩, e2, e3⟩ := hr2 i r hi
     refine ⟨e2, e3, ?_⟩
     have := (World.cells?_some hc).2.1
     rw [← e1, List.length_map] at this
     exact this
    have hsp : rows ≠ [] → a = ⟨a.block, a.off, none⟩ := fun hne => by
     obtain ⟨r, hr⟩ : ∃ r, rows[0]? = some r := by
      cases rows with
      | nil => exact absurd rfl hne
      | cons r _ => exact ⟨r, rfl⟩
     obtain ⟨⟨c, hc, e1⟩, _⟩ := hr2 0 r hr
     obtain ⟨_, k1, k2⟩ := World.cells?_some hc
     have := k2 0 hn0
     rw [List.getElem?_eq_getElem (by omega), Nat.zero_mul] at this
     have h0 : (a.add 0).add 0 = a := by simp [Addr.add]
     rw [h0] at this
     have := World.cell?_spot this
     cases a
     simp only at this
     subst this
     rfl
    have hLen : rows.length ≤ LIM := by
     have h3 : len * b ≤ reachBytes := Nat.le_trans (Nat.mul_le_mul_right _ (by omega)) hlenb
     have h4 : len * 1 ≤ len * b := Nat.mul_le_mul_left _ hb0
     have h5 : reachBytes ≤ LIM := by decide
     omega
    refine ⟨[.bs (.slice (some a) len cap) n rows], rfl, .sl ?_ (fun r hr => (hmem r hr).1), ?_, rfl⟩
    ·rw [hr1]
     exact Nat.le_trans (Nat.mul_le_mul_right _ (by omega)) hlenb
    ·intro l hl'
     simp only [List.mem_singleton] at hl'
     subst hl'
     refine ⟨fun nest => ⟨⟨some a, cap, by rw [hr1], by omega, hLen, fun hne => ⟨a.block, a.off, by rw [← hsp hne]⟩⟩, fun r hr => (hmem r hr).2.2, ?_⟩, rfl, rfl, fun _ => trivial, fun q hq hne => ?_⟩
     ·exact (Z5m true rows).2 fun r hr l hl => ((hmem r hr).2.1 l hl).wf true
     ·simp only [immL, Z2z, List.mem_append, List.mem_singleton] at hq
      rcases hq with rfl | hq
      ·intro j v hj
       obtain ⟨r, k1, k2, _⟩ := valR_at (fun r hr => (hmem r hr).2.2) hj
       obtain ⟨⟨c, hc, e1⟩, _⟩ := hr2 _ r k1
       obtain ⟨_, k3, k4⟩ := World.cells?_some hc
       have hr0 : rows ≠ [] := fun h0 => by rw [h0] at k1; simp at k1
       have := k4 (j % n) (Nat.mod_lt _ hn0)
       rw [← e1, k2, hsp hr0, Z8g, Z8g] at this
       simp only at this ⊢
       rw [← this]
       congr 2
       have := Nat.div_add_mod j n
       rw [Nat.mul_comm] at this
       omega
      ·rw [Z4w] at hq
       obtain ⟨l, hl, hq⟩ := List.mem_flatMap.1 hq
       obtain ⟨r, hr, hl⟩ := List.mem_flatten.1 hl
       exact ((hmem r hr).2.1 l hl).imm q hq hne
  | st hu hm hfs =>
   rename_i gs fs m
   obtain ⟨xs, k, hk, rfl, hcs, hxl, hxs⟩ := DataW.trod_struct hu h
   obtain rfl : fuel = k := by omega
   rw [hm] at hcs
   have key : ∀ (gl : List Field) (fs : List Ty) (o i : Nat), FsP P gl fs o m → gs.toList.drop i = gl → o ≤ m → ∃ ls : List (L Value), ls.map val = cs.drop o ∧ Fits (.st fs) ls ∧ ∀ l ∈ ls, Pl w l := by
    intro gl
    induction gl with
    | nil =>
     intro fs o i hf _ ho
     cases hf
     exact ⟨[], by rw [List.drop_of_length_le (by omega)]; rfl, .st0, by simp⟩
    | cons g gl ihg =>
     intro fs o i hf hd ho
     cases hf with
     | cons h1 h2 h3 h4 =>
      rename_i ty1 tys c
      have hgi : gs[i]? = some g := by
       have : (gs.toList.drop i)[0]? = some g := by rw [hd]; rfl
       rw [List.getElem?_drop] at this
       simpa using this
      have h5 := hxs i g hgi
      have hi : i < xs.length := by
       rw [hxl]
       exact (Array.getElem?_eq_some_iff.1 hgi).1
      rw [List.getElem?_eq_getElem hi] at h5
      obtain ⟨ls1, a1, a2, a3, _⟩ := ih h3 h5 fun n hn => hw n (by
       simp only [DataW.weights, hu]
       refine DataW.weights_mem_each (j := i) (t := g.type) (d := (xs[i]'hi).1) ?_ ?_ n hn
       ·rw [List.getElem?_map, Array.getElem?_toList, hgi]; rfl
       ·rw [List.getElem?_map, List.getElem?_eq_getElem hi]; rfl)
      have hle : o + c ≤ m := by
       clear ihg
       have : ∀ {gl : List Field} {tys : List Ty} {o m : Nat}, FsP P gl tys o m → o ≤ m := by
        intro gl
        induction gl with
        | nil => intro tys o m h; cases h; omega
        | cons g gl ih =>
         intro tys o m h
         cases h with
         | cons _ _ _ h => have := ih h; omega
       exact this h4
      obtain ⟨ls2, b1, b2, b3⟩ := ihg tys (o + c) (i + 1) h4 (by rw [← List.drop_drop, hd]; rfl) hle
      refine ⟨ls1 ++ ls2, ?_, .st a2 b2, fun l hl => (List.mem_append.1 hl).elim (a3 l) (b3 l)⟩
      rw [List.map_append, a1, b1, h1, h2]
      rw [← List.drop_drop]
      exact List.take_append_drop c _
   obtain ⟨ls, a1, a2, a3⟩ := key gs.toList fs 0 0 hfs rfl (Nat.zero_le _)
   exact ⟨ls, by simpa using a1, a2, a3, rfl⟩
end
end
section
open Go Go.WideShapes Go.ChangeShapes Go.RowKit
theorem W4i {α : Type} {ty : Ty} {enc : α → List (L Unit)} {ok : α → Prop} (hd : ∀ ls, Fits ty ls → ∃ x, ls = enc x ∧ ok x) : ∀ {rows : List (List (L Unit))}, (∀ r ∈ rows, Fits ty r) → ∃ xs : List α, rows = xs.map enc ∧ ∀ x ∈ xs, ok x
 | [], _ => ⟨[], rfl, by simp⟩
 | r :: rows, h => by
  obtain ⟨x, rfl, hx⟩ := hd r (h r (by simp))
  obtain ⟨xs, rfl, hxs⟩ := W4i hd (rows := rows) fun r hr => h r (by simp [hr])
  exact ⟨x :: xs, rfl, fun y hy => (List.mem_cons.1 hy).elim (fun e => e ▸ hx) (hxs y)⟩
theorem dc_list {α : Type} {n b : Nat} {ty : Ty} {enc : α → List (L Unit)} {ok : α → Prop} (hd : ∀ ls, Fits ty ls → ∃ x, ls = enc x ∧ ok x) {ls : List (L Unit)} (h : Fits (.sl n b ty) ls) :
  ∃ xs : List α, ls = lL false n enc xs ∧ xs.length * b ≤ reachBytes ∧ ∀ x ∈ xs, ok x := by
 cases h with
 | sl h1 h2 =>
  obtain ⟨xs, rfl, hxs⟩ := W4i hd h2
  exact ⟨xs, rfl, by simpa using h1, hxs⟩
theorem W5s {H : Type} {enc : TypeId × Value → H} {P : Program} {w : World} {base : Nat} {spare : Nat → Bool} {held : Bool} {t : TypeId} {ty : Ty} {v : Value} {d : DataW H} {p : List MemPlace}
  (hty : TyP P t ty) (hv : v.cells = #[v]) (h : DataW.Trod enc P w base spare held t v d p) (hw : ∀ n ∈ d.weights P t, n ≤ reachBytes) :
  ∃ l : L Value, UR (.one l) v ∧ Fits ty [erL l] ∧ Pl w l := by
 obtain ⟨fuel, hf⟩ := h
 obtain ⟨ls, e1, e2, e3, _⟩ := reading fuel hty hf hw
 rw [hv] at e1
 match ls, e1, e2, e3 with
 | [l], e1, e2, e3 =>
  simp only [List.map_cons, List.map_nil, List.cons.injEq, and_true] at e1
  exact ⟨l, e1.symm, e2.map _, e3 l (by simp)⟩
theorem W4e {P : Program} {f : FuncId} {W : World} {us : List (U Value)} {args : List (U Unit)} {vals : List Value} {r : V Unit} (hs : Sim P f args [] r []) (ha : us.map erU = args) (hus : All2 UR us vals) (hpl : ∀ u ∈ us, ∀ l ∈ Z1 u, Pl W l) :
  Calls P f vals.toArray W fun e W' => ∃ x rv, e = .returned x ∧ erV rv = r ∧ VR rv x ∧ Below W.heap.size W W' := by
 have htop : ∀ l ∈ tops (⟨us.map .u, [], 0⟩ : S Value), Pl W l := by
  intro l hl
  simp only [tops, X7, List.flatMap_nil, List.append_nil, List.mem_flatMap, List.mem_map] at hl
  obtain ⟨_, ⟨u, hu, rfl⟩, hl⟩ := hl
  exact hpl u hu l hl
 have hown : ownS (⟨us.map .u, [], 0⟩ : S Value) = [] := by
  unfold ownS
  simp only [List.flatMap_nil, List.nil_append, List.flatMap_eq_nil_iff]
  exact fun l hl => (htop l hl).own
 refine (hs W ⟨us.map .u, [], 0⟩ us vals rfl ha hus rfl ?_ fun l hl i hi => ?_).mono fun e W' h => ?_
 ·refine ⟨fun l hl => ⟨(htop l hl).wf false, (htop l hl).ref _⟩, fun p hp => by simp at hp, List.nodup_nil, fun p hp => ?_, ?_, fun p hp hne => ?_⟩
  ·rw [hown] at hp; simp at hp
  ·rw [hown]; exact List.nodup_nil
  ·obtain ⟨l, hl, hp⟩ := List.mem_flatMap.1 hp
   exact ⟨(htop l hl).imm p hp hne, fun q hq => by rw [hown] at hq; simp at hq⟩
 ·rw [(htop l hl).ids] at hi; simp at hi
 ·obtain ⟨x, d', rv, h1, _, h3, _, h5, h6⟩ := h
  refine ⟨x, rv, h1, h3, h5, h6.fr.3.1, h6.fr.3.2.1, h6.fr.3.2.2, h6.fr.1, fun k hk => h6.fr.2 k hk fun ⟨p, hp, _⟩ => by rw [hown] at hp; simp at hp⟩
theorem W5n {rv : V Value} {x : Value} {b : Bool} (h : erV rv = .u (.one (.bool b))) (hv : VR rv x) : x = .bool b := by
 cases rv with
 | u u =>
  cases u with
  | one l =>
   cases l <;> simp only [erV, mapV, mapU, mapL, V.u.injEq, U.one.injEq, reduceCtorEq] at h
   cases h
   exact hv
  | agg ls => simp [erV, mapV, mapU] at h
 | _ => simp [erV, mapV] at h
end
section
theorem Y5 {n : Int} (h1 : -9223372036854775808 ≤ n) (h2 : n ≤ 9223372036854775807) : inI n := ⟨h1, h2⟩
theorem Z6r {n : Int} (h1 : -9223372036854775808 ≤ n) (h2 : n ≤ 9223372036854775807) : IntKind.i64.wrap n = n := IntWalk.i64_in n (by omega)
theorem X5 {α : Type} [Inhabited α] {xs : List α} {n : Int} (h : 0 ≤ n ∧ n < (xs.length : Int)) : at_ xs n ∈ xs := List.mem_of_getElem? (X9w h)
theorem obs {α β : Type} (a : α) (f : α → Option β) : Option.bind (some a) f = f a := by
 have : ∀ o, o = some a → Option.bind o f = f a := fun o h => by subst h; rfl
 exact this _ rfl
theorem X0a {σ ρ : Type} {body : σ → Option (σ ⊕ ρ)} {L : Option ρ} {s0 : σ} (hB : Y6 body s0 = L) (I : σ → Prop) (m : σ → Nat) (Q : ρ → Prop)
  (h : ∀ s, I s → (∃ s', body s = some (.inl s') ∧ I s' ∧ m s' < m s) ∨ (∃ r, body s = some (.inr r) ∧ Q r)) (h0 : I s0) : ∃ r, L = some r ∧ Q r := by
 subst hB
 have key : ∀ n s, m s ≤ n → I s → ∃ r, Y6 body s = some r ∧ Q r := by
  intro n
  induction n with
  | zero =>
   intro s hm hi
   rcases h s hi with ⟨s', e, hi', hlt⟩ | ⟨r, e, hq⟩
   ·omega
   ·exact ⟨r, by rw [Z1w, e]; rfl, hq⟩
  | succ n ih =>
   intro s hm hi
   rcases h s hi with ⟨s', e, hi', hlt⟩ | ⟨r, e, hq⟩
   ·obtain ⟨r, e2, hq⟩ := ih s' (by omega) hi'
    exact ⟨r, by rw [Z1w, e]; exact e2, hq⟩
   ·exact ⟨r, by rw [Z1w, e]; rfl, hq⟩
 exact key _ s0 (Nat.le_refl _) h0
theorem Y3n {σ : Type} {ρ : Type} {body : σ → Option (σ ⊕ ρ)} {L : Option ρ} {s0 : σ} (hB : Y6 body s0 = L) (st : Nat → σ) (n : Nat) (r : ρ) (e0 : s0 = st 0)
  (h : ∀ k, k < n → body (st k) = some (.inl (st (k + 1)))) (he : body (st n) = some (.inr r)) : L = some r := by
 subst hB e0
 have key : ∀ m k, k + m = n → Y6 body (st k) = some r := by
  intro m
  induction m with
  | zero =>
   intro k hk
   obtain rfl : k = n := by omega
   rw [Z1w, he]; rfl
  | succ m ih =>
   intro k hk
   rw [Z1w, h k (by omega)]
   exact ih (k + 1) (by omega)
 exact key n 0 (by omega)
theorem dc_u8 {ls : List (L Unit)} (h : Fits (.int .u8) ls) : ∃ n, ls = iK .u8 n ∧ 0 ≤ n ∧ n ≤ 255 := by
 cases h with
 | int h =>
  refine ⟨_, rfl, ?_⟩
  simp [Lit.wf, IntKind.min, IntKind.max, IntKind.bits, IntKind.signed] at h
  exact h
end
section
def okRd (r : Gl1Rd) : Prop := 0 ≤ r.p ∧ r.p ≤ (r.b.length : Int) ∧ r.b.length ≤ 140737488355328 ∧ ∀ x ∈ r.b, 0 ≤ x ∧ x ≤ 255
theorem X6z {r : Gl1Rd} (h : okRd r) : ∃ x r', Q9 r = some (x, r') ∧ okRd r' ∧ 0 ≤ x ∧ x ≤ 255 := by
 obtain ⟨h1, h2, h3, h4⟩ := h
 unfold Q9
 by_cases hp : r.p ≥ (r.b.length : Int)
 ·rw [if_pos (by simpa using hp)]
  exact ⟨0, r, rfl, ⟨h1, h2, h3, h4⟩, by omega, by omega⟩
 ·rw [if_neg (by simpa using hp), if_pos (Y5 (by omega) (by omega)), if_pos (Y5 (by simp only; omega) (by simp only; omega)), if_pos (by simp only; omega)]
  have hb := h4 (at_ r.b (r.p + 1 - 1)) (X5 (by omega))
  refine ⟨_, _, rfl, ⟨by simp only; omega, by simp only; omega, h3, h4⟩, ?_⟩
  simp only
  rw [Z6r (by omega) (by omega)]
  exact hb
theorem Y4f {a n : Int} (h : 0 ≤ a) (hn : 1 ≤ n) : 0 ≤ Int.tmod a n ∧ Int.tmod a n < n := by
 rw [Int.tmod_eq_emod_of_nonneg h]
 exact ⟨Int.emod_nonneg _ (by omega), Int.emod_lt_of_pos _ (by omega)⟩
theorem Y8x {r : Gl1Rd} (h : okRd r) (n : Int) : ∃ x r', Z5 r n = some (x, r') ∧ okRd r' ∧ 0 ≤ x ∧ (1 ≤ n → x < n) := by
 unfold Z5
 by_cases hn : n ≤ 1
 ·rw [if_pos (by simpa using hn)]
  exact ⟨0, r, rfl, h, by omega, by omega⟩
 ·rw [if_neg (by simpa using hn)]
  obtain ⟨x, r', e, h', hx⟩ := X6z h
  by_cases hn2 : n ≤ 256
  ·rw [if_pos (by simpa using hn2), e]
   simp only [Option.bind_some]
   rw [if_pos (by omega)]
   exact ⟨_, _, rfl, h', (Y4f hx.1 (by omega)).1, fun _ => (Y4f hx.1 (by omega)).2⟩
  ·rw [if_neg (by simpa using hn2), e]
   simp only [Option.bind_some]
   obtain ⟨y, r2, e2, h2, hy⟩ := X6z h'
   rw [e2]
   simp only [Option.bind_some]
   rw [if_pos (by omega), Z6r (n := x * 256) (by omega) (by omega), Z6r (by omega) (by omega)]
   exact ⟨_, _, rfl, h2, (Y4f (by omega) (by omega)).1, fun _ => (Y4f (by omega) (by omega)).2⟩
theorem W2z {r : Gl1Rd} (h : okRd r) (n : Int) (hn : inI (n - 1)) : ∃ x r', J7 r n = some (x, r') ∧ okRd r' := by
 unfold J7
 obtain ⟨x, r', e, h', hx⟩ := Y8x h n
 rw [e]
 simp only [Option.bind_some]
 rw [if_pos hn]
 exact ⟨_, _, rfl, h'⟩
theorem u64_in {n : Int} (h : (Lit.int .u64 n).wf = true) : 0 ≤ n ∧ n ≤ 18446744073709551615 := by
 have h : IntKind.u64.min ≤ n ∧ n ≤ IntKind.u64.max := by simpa [Lit.wf] using h
 have e1 : IntKind.u64.min = 0 := by decide
 have e2 : IntKind.u64.max = 18446744073709551615 := by decide
 rw [e1, e2] at h
 exact h
theorem W1j {r : Gl1Rd} (h : okRd r) : ∃ x r', Q8 r = some (x, r') ∧ okRd r' ∧ 0 ≤ x ∧ x ≤ 18446744073709551615 := by
 unfold Q8
 generalize hB : Y6 _ _ = L
 obtain ⟨⟨r2, x⟩, e, h2⟩ := X0a hB (fun s => okRd s.1 ∧ 0 ≤ s.2.2 ∧ s.2.2 ≤ 8 ∧ 0 ≤ s.2.1 ∧ s.2.1 ≤ 18446744073709551615) (fun s => (8 - s.2.2).toNat) (fun s => okRd s.1 ∧ 0 ≤ s.2 ∧ s.2 ≤ 18446744073709551615) (by
  rintro ⟨r, a, i⟩ ⟨h1, h2, h3, h4, h5⟩
  simp only at h1 h2 h3 h4 h5 ⊢
  by_cases hi : i < 8
  ·left
   rw [if_pos (by simpa using hi)]
   obtain ⟨x, r', e, h', hx⟩ := X6z h1
   rw [e]
   simp only [Option.bind_some]
   rw [if_pos (Y5 (by omega) (by omega))]
   have hb := u64_in (wf_bits .or .u64 (IntKind.u64.wrap (a * 2 ^ min (Int.toNat 8) (IntKind.bits .u64))) (IntKind.u64.wrap x))
   exact ⟨_, rfl, ⟨h', by simp only; omega, by simp only; omega, hb.1, hb.2⟩, by simp only; omega⟩
  ·right
   rw [if_neg (by simpa using hi)]
   exact ⟨_, rfl, h1, h4, h5⟩) ⟨h, by simp only; omega, by simp only; omega, by simp only; omega, by simp only; omega⟩
 subst e
 exact ⟨_, _, rfl, h2⟩
theorem word_ok {r : Gl1Rd} (h : okRd r) : ∃ x r', Q8 r = some (x, r') ∧ okRd r' := by
 obtain ⟨x, r', e, h1, _⟩ := W1j h
 exact ⟨x, r', e, h1⟩
theorem near_ok {r : Gl1Rd} (h : okRd r) (low high : Int) (h1 : ¬ high < low → inI (IntKind.i64.wrap (high - low) + 1) ∧ IntKind.u64.wrap (IntKind.i64.wrap (high - low) + 1) ≠ 0) : ∃ x r', Z0a r low high = some (x, r') ∧ okRd r' := by
 unfold Z0a
 obtain ⟨x, r', e, h', hx⟩ := Y8x h 8
 rw [e]
 simp only [Option.bind_some]
 split
 ·exact ⟨_, _, rfl, h'⟩
 ·split
  ·exact ⟨_, _, rfl, h'⟩
  ·split
   ·exact ⟨_, _, rfl, h'⟩
   ·rename_i hl
    obtain ⟨y, r2, e2, h2⟩ := word_ok h'
    rw [e2]
    simp only [Option.bind_some]
    have := h1 (by simpa using hl)
    rw [if_pos this.1, if_pos this.2]
    exact ⟨_, _, rfl, h2⟩
theorem off_ok {r : Gl1Rd} (h : okRd r) (low high : Int) (hl : inI (low - 1)) (hh : inI (high + 1)) (h1 : ¬ high < low → inI (IntKind.i64.wrap (high - low) + 1) ∧ IntKind.u64.wrap (IntKind.i64.wrap (high - low) + 1) ≠ 0) : ∃ x r', V0 r low high = some (x, r') ∧ okRd r' := by
 unfold V0
 obtain ⟨x, r', e, h'⟩ := W2z h 24 (Y5 (by omega) (by omega))
 rw [e]
 simp only [Option.bind_some]
 split
 ·obtain ⟨y, r2, e2, h2, hy, hy2⟩ := Y8x h' 4
  have hy3 := hy2 (by omega)
  rw [e2]
  simp only [Option.bind_some]
  rw [if_pos ⟨hy, by simpa using hy3⟩]
  exact ⟨_, _, rfl, h2⟩
 ·obtain ⟨y, r2, e2, h2⟩ := near_ok h' low high h1
  rw [e2]
  exact ⟨_, _, rfl, h2⟩
theorem W2x {code : List Int} (hl : code.length ≤ 140737488355328) (h : ∀ x ∈ code, 0 ≤ x ∧ x ≤ 255) : okRd (Z3c code) := ⟨Int.le_refl _, by simp only [Z3c]; omega, hl, h⟩
end
section
def Run {β : Type} (o : Option β) (Q : β → Prop) : Prop := ∃ y, o = some y ∧ Q y
theorem Run.mk {β : Type} {y : β} {Q : β → Prop} (h : Q y) : Run (some y) Q := ⟨y, rfl, h⟩
theorem Run.bind {α β : Type} {o : Option α} {F : α → Option β} {R : α → Prop} {Q : β → Prop} (h : Run o R) (H : ∀ a, R a → Run (F a) Q) : Run (Option.bind o F) Q := by
 obtain ⟨a, e, ha⟩ := h
 rw [e, obs]
 exact H a ha
theorem Run.yes {β : Type} {c : Prop} [Decidable c] {a b : Option β} {Q : β → Prop} (hc : c) (h : Run a Q) : Run (if c then a else b) Q := by rw [if_pos hc]; exact h
theorem Run.no {β : Type} {c : Prop} [Decidable c] {a b : Option β} {Q : β → Prop} (hc : ¬ c) (h : Run b Q) : Run (if c then a else b) Q := by rw [if_neg hc]; exact h
theorem Run.if {β : Type} {c : Prop} [Decidable c] {a b : Option β} {Q : β → Prop} (h1 : c → Run a Q) (h2 : ¬ c → Run b Q) : Run (if c then a else b) Q := by
 by_cases h : c
 ·exact .yes h (h1 h)
 ·exact .no h (h2 h)
def W7c {σ ρ : Type} (I : σ → Prop) (m : σ → Nat) (n : Nat) (Q : ρ → Prop) : σ ⊕ ρ → Prop
 | .inl s => I s ∧ m s < n
 | .inr r => Q r
theorem Run.nx {σ ρ : Type} {I : σ → Prop} {m : σ → Nat} {n : Nat} {Q : ρ → Prop} {s : σ} (h : I s ∧ m s < n) : Run (some (.inl s : σ ⊕ ρ)) (W7c I m n Q) := ⟨_, rfl, h⟩
theorem Run.out {σ ρ : Type} {I : σ → Prop} {m : σ → Nat} {n : Nat} {Q : ρ → Prop} {r : ρ} (h : Q r) : Run (some (.inr r : σ ⊕ ρ)) (W7c I m n Q) := ⟨_, rfl, h⟩
theorem Run.loop {σ ρ : Type} {body : σ → Option (σ ⊕ ρ)} {s0 : σ} {Q : ρ → Prop} (I : σ → Prop) (m : σ → Nat) (h0 : I s0) (h : ∀ s, I s → Run (body s) (W7c I m (m s) Q)) : Run (Y6 body s0) Q := by
 refine X0a rfl I m Q (fun s hs => ?_) h0
 obtain ⟨x, e, hx⟩ := h s hs
 cases x with
 | inl s' => exact .inl ⟨s', e, hx⟩
 | inr r => exact .inr ⟨r, e, hx⟩
end
section
abbrev KM : Nat := 1000000
def isW (w : Int) : Prop := w = 1 ∨ w = 8 ∨ w = 16 ∨ w = 32
theorem Y4c : LIM = 140737488355328 := rfl
theorem U4 {r : Gl1Rd} (h : okRd r) (n : Int) : Run (Z5 r n) (fun y => okRd y.2 ∧ 0 ≤ y.1 ∧ (1 ≤ n → y.1 < n)) := by
 obtain ⟨x, r', e, h1, h2⟩ := Y8x h n
 exact ⟨_, e, h1, h2⟩
theorem X3m {r : Gl1Rd} (h : okRd r) {n : Int} (hn : inI (n - 1)) : Run (J7 r n) (fun y => okRd y.2) := by
 obtain ⟨x, r', e, h1⟩ := W2z h n hn
 exact ⟨_, e, h1⟩
theorem off_run {r : Gl1Rd} (h : okRd r) {low high : Int} (hl : inI (low - 1)) (hh : inI (high + 1)) (h1 : ¬ high < low → inI (IntKind.i64.wrap (high - low) + 1) ∧ IntKind.u64.wrap (IntKind.i64.wrap (high - low) + 1) ≠ 0) : Run (V0 r low high) (fun y => okRd y.2) := by
 obtain ⟨x, r', e, h1⟩ := off_ok h low high hl hh h1
 exact ⟨_, e, h1⟩
theorem Y2n {r : Gl1Rd} (h : okRd r) : Run (J8 r) (fun y => okRd y.2 ∧ isW y.1) := by
 unfold J8
 refine Run.bind (U4 h 4) ?_
 rintro ⟨x, r'⟩ ⟨h1, h2, h3⟩
 have h3 := h3 (by omega)
 refine Run.yes ⟨h2, by simpa using h3⟩ (Run.mk ⟨h1, ?_⟩)
 have : x = 0 ∨ x = 1 ∨ x = 2 ∨ x = 3 := by simp only at h2 h3; omega
 rcases this with rfl | rfl | rfl | rfl <;> simp [isW, at_]
def topW (w : Int) : Int := if w = 1 then 1 else if w = 8 then 255 else if w = 16 then 65535 else 4294967295
theorem W1r {w : Int} (hw : isW w) : 1 ≤ topW w ∧ topW w ≤ 4294967295 := by rcases hw with rfl | rfl | rfl | rfl <;> decide
theorem X8a {w : Int} (hw : isW w) : IntKind.i64.wrap (1 * 2 ^ min (Int.toNat (IntKind.u64.wrap w)) (IntKind.bits .i64)) = topW w + 1 := by rcases hw with rfl | rfl | rfl | rfl <;> decide
theorem X4r {r : Gl1Rd} (h : okRd r) {w : Int} (hw : isW w) : Run (Z1h r w) (fun y => okRd y.2 ∧ 0 ≤ y.1 ∧ y.1 ≤ topW w) := by
 unfold Z1h
 have h1 : 0 ≤ IntKind.u64.wrap w := by rcases hw with rfl | rfl | rfl | rfl <;> decide
 have h4 := W1r hw
 have h5 : 0 ≤ IntKind.i64.wrap (Int.tdiv (topW w + 1) 2) ∧ IntKind.i64.wrap (Int.tdiv (topW w + 1) 2) ≤ topW w := by rcases hw with rfl | rfl | rfl | rfl <;> decide
 rw [X8a hw]
 refine Run.yes h1 (Run.bind (U4 h 7) ?_)
 rintro ⟨x, r'⟩ ⟨g1, _, _⟩
 refine Run.if (fun _ => Run.mk ⟨g1, Int.le_refl _, by simp only; omega⟩) (fun _ => Run.if (fun _ => Run.mk ⟨g1, by simp only; omega, h4.1⟩) (fun _ => Run.if (fun _ => Run.yes (Y5 (by omega) (by omega)) (Run.mk ⟨g1, by simp only; omega, by simp only; omega⟩)) (fun _ => Run.if (fun _ => Run.mk ⟨g1, h5⟩) (fun _ => Run.bind (R := fun y => okRd y.2 ∧ 0 ≤ y.1 ∧ y.1 ≤ 18446744073709551615) ?_ ?_))))
 ·obtain ⟨x2, r2, e, k1, k2⟩ := W1j g1
  exact ⟨_, e, k1, k2⟩
 rintro ⟨y, r2⟩ ⟨g2, g3, g4⟩
 refine Run.yes (by omega) (Run.mk ⟨g2, ?_⟩)
 simp only at g3 g4 ⊢
 have e2 : ((2 : Int) ^ min (Int.toNat 1) (IntKind.bits .u64)) = 2 := by decide
 rw [e2, Z6r (by omega) (by omega)]
 have := Y4f (a := y / 2) (n := topW w + 1) (by omega) (by omega)
 omega
def okI (i : GInst) : Prop := i.w = 0 ∨ (i.op_ ≠ 24 ∧ i.op_ ≠ 25)
def sz (b : GBlock) : Nat := b.phis.length + b.insts.length
def sumz (bs : List GBlock) : Nat := (bs.map sz).sum
def cnt (f : GFunc) : Nat := f.params.length + sumz f.blocks
def opsI (i : GInst) : List Int :=
 if (1 ≤ i.op_ ∧ i.op_ ≤ 17) ∨ i.op_ = 24 then [i.a, i.b]
 else if (18 ≤ i.op_ ∧ i.op_ ≤ 20) ∨ i.op_ = 23 ∨ i.op_ = 25 ∨ i.op_ = 27 then [i.a]
 else if i.op_ = 22 then [i.a, i.b, i.c]
 else if i.op_ = 26 then i.args else []
def inN (n : Int) (l : List Int) : Prop := ∀ x ∈ l, 0 ≤ x ∧ x < n
theorem inN.mono {n m : Int} {l : List Int} (h : inN n l) (hm : n ≤ m) : inN m l := fun x hx => ⟨(h x hx).1, by have := (h x hx).2; omega⟩
structure frI (i : GInst) : Prop where
 op : 1 ≤ i.op_ ∧ i.op_ ≤ 27
 args : i.args.length ≤ 4
 noargs : i.op_ ≠ 26 → i.args = []
 zero : (if i.op_ = 26 then 0 else (opsI i).length) < 1 → i.a = 0
 zerob : (if i.op_ = 26 then 0 else (opsI i).length) < 2 → i.b = 0
 zeroc : (if i.op_ = 26 then 0 else (opsI i).length) < 3 → i.c = 0
 w0 : i.op_ = 24 ∨ i.op_ = 25 → i.w = 0
 w1 : ¬ (i.op_ = 24 ∨ i.op_ = 25) → isW i.w
 w8 : i.op_ = 23 → i.w = 8
 const : i.op_ = 21 → 0 ≤ i.imm ∧ i.imm ≤ topW i.w
 call : i.op_ = 26 → 0 ≤ i.imm ∧ i.imm < 3
 imm : i.op_ ≠ 21 → i.op_ ≠ 26 → i.imm = 0
theorem Y0j {w v : Int} (hw : isW w) (hv : 0 ≤ v ∧ v ≤ topW w) : frI ⟨21, w, 0, 0, 0, v, []⟩ := by
 constructor <;> simp [opsI, hw, hv]
theorem W3y {w a b c : Int} (hw : isW w) : frI ⟨22, w, a, b, c, 0, []⟩ := by
 constructor <;> simp [opsI, hw]
theorem W3z {o w a : Int} (hw : isW w) (ho : 18 ≤ o ∧ o ≤ 20) : frI ⟨o, w, a, 0, 0, 0, []⟩ := by
 have : o = 18 ∨ o = 19 ∨ o = 20 := by omega
 rcases this with rfl | rfl | rfl <;> constructor <;> simp [opsI, hw]
theorem fr_load {a : Int} : frI ⟨23, 8, a, 0, 0, 0, []⟩ := by
 constructor <;> simp [opsI, isW]
theorem W6g {a b : Int} : frI ⟨24, 0, a, b, 0, 0, []⟩ := by
 constructor <;> simp [opsI, isW]
theorem W6h {a : Int} : frI ⟨25, 0, a, 0, 0, 0, []⟩ := by
 constructor <;> simp [opsI, isW]
theorem fr_copy {w a : Int} (hw : isW w) : frI ⟨27, w, a, 0, 0, 0, []⟩ := by
 constructor <;> simp [opsI, hw]
theorem fr_call {w k : Int} {l : List Int} (hw : isW w) (hk : 0 ≤ k ∧ k < 3) (hl : l.length ≤ 4) : frI ⟨26, w, 0, 0, 0, k, l⟩ := by
 constructor <;> simp [opsI, hw, hk, hl]
theorem X9c {o w a b : Int} (hw : isW w) (ho : 1 ≤ o ∧ o ≤ 17) : frI ⟨o, w, a, b, 0, 0, []⟩ := by
 have e : (opsI ⟨o, w, a, b, 0, 0, []⟩) = [a, b] := by simp only [opsI]; rw [if_pos (.inl ho)]
 have n1 : o ≠ 26 := by omega
 refine ⟨⟨by simp only; omega, by simp only; omega⟩, by simp, fun _ => rfl, ?_, ?_, fun _ => rfl, fun h => by simp only at h; omega, fun _ => hw, fun h => by simp only at h; omega, fun h => by simp only at h; omega, fun h => by simp only at h; omega, fun _ _ => rfl⟩ <;> (rw [e]; simp [n1])
def okIn (n : Int) (i : GInst) : Prop := okI i ∧ inN n (opsI i) ∧ i.args.length ≤ 10 ∧ frI i
def okPn (n : Int) (p : GPhi) : Prop := inN n p.ins ∧ p.ins.length ≤ 10 ∧ isW p.w ∧ 1 ≤ p.ins.length
def zT (t : GTerm) : Prop := (t.kind = 1 ∧ t.x = 0 ∧ t.y = 0) ∨ (t.kind = 2 ∧ t.a = 0 ∧ t.y = 0) ∨ t.kind = 3 ∨ (t.kind = 4 ∧ t.a = 0 ∧ t.x = 0 ∧ t.y = 0)
def okT (n : Int) (t : GTerm) : Prop := (t.kind = 1 ∨ t.kind = 3 → 0 ≤ t.a ∧ t.a < n) ∧ zT t
def okX (m : Int) (t : GTerm) : Prop := (t.kind = 2 ∨ t.kind = 3 → 0 ≤ t.x ∧ t.x ≤ m) ∧ (t.kind = 3 → 0 ≤ t.y ∧ t.y ≤ m ∧ t.x ≠ t.y)
theorem okX.mono {m n : Int} {t : GTerm} (h : okX m t) (hm : m ≤ n) : okX n t := ⟨fun k => by have := h.1 k; omega, fun k => by have := h.2 k; omega⟩
def tgt (g : Gl2G) : Prop := ∀ b ∈ g.f.blocks, okX g.f.blocks.length b.term
structure okB (n : Int) (ps : List GPhi) (is : List GInst) : Prop where
 ps : ∀ p ∈ ps, okPn n p
 is : ∀ i ∈ is, okIn n i
theorem okB.mono {n m : Int} {ps : List GPhi} {is : List GInst} (h : okB n ps is) (hm : n ≤ m) : okB m ps is :=
 ⟨fun p hp => ⟨(h.ps p hp).1.mono hm, (h.ps p hp).2⟩, fun i hi => ⟨(h.is i hi).1, (h.is i hi).2.1.mono hm, (h.is i hi).2.2⟩⟩
theorem okT.mono {n m : Int} {t : GTerm} (h : okT n t) (hm : n ≤ m) : okT m t := ⟨fun ht => ⟨(h.1 ht).1, by have := (h.1 ht).2; omega⟩, h.2⟩
def okBl (n : Int) (b : GBlock) : Prop := okB n b.phis b.insts ∧ okT n b.term
theorem okBl.mono {n m : Int} {b : GBlock} (h : okBl n b) (hm : n ≤ m) : okBl m b := ⟨h.1.mono hm, h.2.mono hm⟩
structure okGd (d : Int) (k : Nat) (g : Gl2G) : Prop where
 ids : g.ids.length ≤ k
 ws : g.ws.length = g.ids.length
 n0 : 0 ≤ g.next
 n1 : g.next ≤ (k : Int)
 insts : g.b.insts.length ≤ k
 phis : g.b.phis.length ≤ k
 blocks : g.f.blocks.length ≤ k
 params : g.f.params.length ≤ k
 pw : ∀ w ∈ g.f.params, isW w
 ret : isW g.f.ret
 rows : ∀ b ∈ g.f.blocks, b.phis.length ≤ k ∧ b.insts.length ≤ k
 cur : okB (g.next + d) g.b.phis g.b.insts
 okbs : ∀ b ∈ g.f.blocks, okBl (g.next + d) b
 idsIn : inN g.next g.ids
 nx : g.next + d = (g.f.params.length : Int) + sumz g.f.blocks + g.b.phis.length + g.b.insts.length
abbrev okG (k : Nat) (g : Gl2G) : Prop := okGd 0 k g
theorem okGd.mono {d : Int} {k k' : Nat} {g : Gl2G} (h : okGd d k g) (hk : k ≤ k') : okGd d k' g :=
 ⟨Nat.le_trans h.ids hk, h.ws, h.n0, by have := h.n1; omega, Nat.le_trans h.insts hk, Nat.le_trans h.phis hk, Nat.le_trans h.blocks hk, Nat.le_trans h.params hk, h.pw, h.ret, fun b hb => ⟨Nat.le_trans (h.rows b hb).1 hk, Nat.le_trans (h.rows b hb).2 hk⟩, h.cur, h.okbs, h.idsIn, h.nx⟩
def Sm (g g' : Gl2G) : Prop := g'.f = g.f ∧ g'.b.phis = g.b.phis
theorem Sm.trans {a b c : Gl2G} (h : Sm a b) (h' : Sm b c) : Sm a c := ⟨h'.1.trans h.1, h'.2.trans h.2⟩
theorem Sm.refl (a : Gl2G) : Sm a a := ⟨rfl, rfl⟩
structure okP (rets : List Int) (pars : List (List Int)) : Prop where
 len : pars.length = rets.length
 small : rets.length ≤ 2
 rw_ : ∀ w ∈ rets, isW w
 rows : ∀ l ∈ pars, l.length ≤ 4 ∧ ∀ w ∈ l, isW w
section
variable {k : Nat} {g : Gl2G} {gr : Gl1Rd} {rets : List Int} {pars : List (List Int)}
theorem X7u (h : okGd 1 k g) (hk : k ≤ KM) (w : Int) : Run (Z2f g gr rets pars w) (fun y => okG (k + 1) y.2.1 ∧ y.2.2 = gr ∧ y.2.1.f = g.f ∧ y.2.1.b = g.b ∧ y.1 = g.next ∧ y.2.1.next = g.next + 1) := by
 have hL := Y4c
 obtain ⟨h1, h2, h3, h4, h5, h6, h7, h8, h9, h10, h11, h12, h13, h14, h15⟩ := h
 unfold KM at hk
 unfold Z2f
 refine Run.bind (R := fun _ => True) (Run.yes (by simp only [List.length_nil]; omega) (Run.yes (by simp only [List.nil_append, List.length_singleton]; omega) (Run.mk trivial))) (fun _ _ => ?_)
 refine Run.yes (by simp only [List.length_nil]; omega) (Run.yes (by simp only [List.nil_append, List.length_singleton]; omega) (Run.yes (Y5 (by simp only; omega) (by simp only; omega)) (Run.yes (Y5 (by simp only; omega) (by simp only; omega)) (Run.mk ⟨?_, rfl, rfl, rfl, by simp only; omega, by simp only⟩))))
 refine ⟨by simp; omega, by simp [h2], by simp only; omega, by simp only; omega, by simp only; omega, by simp only; omega, by simp only; omega, by simp only; omega, h9, h10, fun b hb => ⟨by have := (h11 b hb).1; omega, by have := (h11 b hb).2; omega⟩, by simpa using h12, by simpa using h13, fun x hx => ?_, by simp only; omega⟩
 simp only [List.nil_append, List.mem_append, List.mem_singleton] at hx
 simp only
 rcases hx with hx | rfl
 ·have := h14 x hx
  omega
 ·omega
theorem Z3g (h : okG k g) (hr : okRd gr) (hk : k + 1 ≤ KM) (i : GInst) (hi : okIn g.next i) : Run (X2 g gr rets pars i) (fun y => okG (k + 2) y.2.1 ∧ okRd y.2.2 ∧ Sm g y.2.1 ∧ (W3 i ≠ 0 → 0 ≤ y.1 ∧ y.1 < y.2.1.next) ∧ g.next ≤ y.2.1.next) := by
 have hL := Y4c
 have h0 := h
 obtain ⟨h1, h2, h3, h4, h5, h6, h7, h8, h9, h10, h11, h12, h13, h14, h15⟩ := h
 unfold KM at hk
 have h12' : okB (g.next + 1) g.b.phis (g.b.insts ++ [i]) := by
  refine ⟨fun p hp => (h12.mono (by omega)).ps p hp, fun j hj => ?_⟩
  rcases List.mem_append.1 hj with hj | hj
  ·exact (h12.mono (by omega)).is j hj
  ·simp only [List.mem_singleton] at hj
   subst hj
   exact ⟨hi.1, hi.2.1.mono (by omega), hi.2.2⟩
 have h13' : ∀ b ∈ g.f.blocks, okBl (g.next + 1) b := fun b hb => (h13 b hb).mono (by omega)
 unfold X2
 refine Run.yes (by simp only [List.length_singleton]; omega) (Run.if (fun hw => Run.yes (Y5 (by omega) (by omega)) (Run.mk ⟨?_, hr, ⟨rfl, rfl⟩, fun hn => absurd (by simpa using hw) hn, by simp only; omega⟩)) (fun _ => ?_))
 ·exact ⟨by simp only; omega, h2, by simp only; omega, by simp only; omega, by simp; omega, by simp only; omega, by simp only; omega, by simp only; omega, h9, h10, fun b hb => ⟨by have := (h11 b hb).1; omega, by have := (h11 b hb).2; omega⟩, by simpa using h12', by simpa using h13', h14.mono (by simp only; omega), by simp; omega⟩
 ·refine Run.bind (X7u (k := k + 1) ?_ (by unfold KM; omega) _) ?_
  ·exact ⟨by simp only; omega, h2, by simp only; omega, by simp only; omega, by simp; omega, by simp only; omega, by simp only; omega, by simp only; omega, h9, h10, fun b hb => ⟨by have := (h11 b hb).1; omega, by have := (h11 b hb).2; omega⟩, h12', h13', h14, by simp; omega⟩
  ·rintro ⟨x, g', r'⟩ ⟨g1, rfl, g3, g4, g5, g6⟩
   simp only at g5 g6
   exact Run.mk ⟨g1, hr, ⟨g3, by simp only at g4 ⊢; rw [g4]⟩, fun _ => by simp only; omega, by simp only; omega⟩
theorem Z0v (h : okG k g) (hr : okRd gr) (hk : k + 1 ≤ KM) {w : Int} (hw : isW w) : Run (Y8 g gr rets pars w) (fun y => okG (k + 2) y.2.1 ∧ okRd y.2.2 ∧ Sm g y.2.1 ∧ 0 ≤ y.1 ∧ y.1 < y.2.1.next ∧ g.next ≤ y.2.1.next) := by
 have hL := Y4c
 have h1 := h.ids
 have h2 := h.ws
 have hk' := hk
 unfold KM at hk
 unfold Y8
 refine Run.bind (R := fun l => l.length ≤ k ∧ inN g.next l) (Run.loop (fun s => 0 ≤ s.2 ∧ s.2 ≤ (g.ids.length : Int) ∧ (s.1.length : Int) ≤ s.2 ∧ inN g.next s.1) (fun s => (g.ids.length - s.2).toNat) ⟨Int.le_refl _, by omega, by simp, by simp [inN]⟩ ?_) ?_
 ·rintro ⟨l, i⟩ ⟨a1, a2, a3, a4⟩
  simp only at a1 a2 a3 a4 ⊢
  refine Run.if (fun hi => ?_) (fun hi => Run.out ⟨by omega, a4⟩)
  have hi : i < (g.ids.length : Int) := by simpa using hi
  refine Run.yes (by omega) (Run.if (fun _ => Run.yes (by omega) (Run.yes (by simp only [List.length_singleton]; omega) (Run.yes (Y5 (by omega) (by omega)) (Run.nx ?_)))) (fun _ => Run.yes (Y5 (by omega) (by omega)) (Run.nx ?_)))
  ·refine ⟨⟨by simp only; omega, by simp only; omega, by simp; omega, fun x hx => ?_⟩, by simp only; omega⟩
   rcases List.mem_append.1 hx with hx | hx
   ·exact a4 x hx
   ·simp only [List.mem_singleton] at hx
    subst hx
    exact h.idsIn _ (X5 (by omega))
  ·exact ⟨⟨by simp only; omega, by simp only; omega, by simp only; omega, a4⟩, by simp only; omega⟩
 rintro fit ⟨hf, hfi⟩
 refine Run.bind (R := fun y => okRd y.1 ∧ (y.2 = false → fit ≠ [])) (Run.if (fun _ => Run.mk ⟨hr, fun h => by cases h⟩) (fun hn => Run.bind (X3m hr (Y5 (by omega) (by omega))) ?_)) ?_
 ·rintro ⟨b, r'⟩ g1
  exact Run.mk ⟨g1, fun _ e => hn (by simp [e])⟩
 rintro ⟨r', b⟩ ⟨g1, g2⟩
 simp only at g1 g2 ⊢
 refine Run.if (fun _ => Run.bind (X4r g1 hw) ?_) (fun hb => Run.bind (U4 g1 _) ?_)
 ·rintro ⟨x, r2⟩ ⟨g3, gv, _⟩
  have e1 : 0 ≤ IntKind.u64.wrap w := by rcases hw with rfl | rfl | rfl | rfl <;> decide
  have e3 : IntKind.i64.wrap (1 * 2 ^ min (Int.toNat (IntKind.u64.wrap w)) (IntKind.bits .i64)) ≠ 0 := by rcases hw with rfl | rfl | rfl | rfl <;> decide
  refine Run.yes e1 (Run.yes e3 (Run.bind (Z3g h g3 hk' _ ⟨.inr ⟨by simp, by simp⟩, by simp [inN, opsI], by simp, Y0j hw (by
   have ht := W1r hw
   have m1 := Y4f (a := x) (n := 7) gv (by omega)
   have m2 := Y4f (a := Int.tmod x 7) (n := topW w + 1) m1.1 (by omega)
   rw [X8a hw]
   show 0 ≤ Int.tmod (Int.tmod x 7) (topW w + 1) ∧ Int.tmod (Int.tmod x 7) (topW w + 1) ≤ topW w
   omega)⟩) ?_))
  rintro ⟨x, g', r3⟩ ⟨g4, g5, g6, g7, g8⟩
  have g9 := g7 (by rcases hw with rfl | rfl | rfl | rfl <;> simp [W3, Z7])
  exact Run.mk ⟨g4, g5, g6, g9.1, g9.2, g8⟩
 ·rintro ⟨x, r2⟩ ⟨g3, g4, _⟩
  have hne : fit ≠ [] := g2 (by simpa using hb)
  have hp : 0 < fit.length := List.length_pos_iff.2 hne
  simp only at g3 g4 ⊢
  generalize hz : (if decide (x ≥ (fit.length : Int)) = true then (fit.length : Int) - 1 else x) = z
  have hx : 0 ≤ z ∧ z < (fit.length : Int) := by
   subst hz
   split
   ·omega
   ·rename_i hx
    have hx : ¬ x ≥ (fit.length : Int) := by simpa using hx
    omega
  exact Run.yes hx (Run.mk ⟨h.mono (by omega), g3, Sm.refl _, (hfi _ (X5 hx)).1, (hfi _ (X5 hx)).2, Int.le_refl _⟩)
theorem W1v (bs : List GBlock) (b : GBlock) : sumz (bs ++ [b]) = sumz bs + sz b := by simp [sumz]
theorem Z8n (h : okG k g) (hr : okRd gr) (hk : k ≤ KM) (t : GTerm) (ht : okT g.next t) : Run (U2 g gr rets pars t) (fun y => okG (k + 1) y.1 ∧ okRd y.2 ∧ y.1.f.blocks = g.f.blocks ++ [⟨g.b.phis, g.b.insts, t⟩] ∧ y.1.f.params = g.f.params ∧ y.1.b.phis = [] ∧ y.1.next = g.next ∧ y.1.b.insts = []) := by
 have hL := Y4c
 obtain ⟨h1, h2, h3, h4, h5, h6, h7, h8, h9, h10, h11, h12, h13, h14, h15⟩ := h
 unfold KM at hk
 unfold U2
 refine Run.yes (by omega) (Run.mk ⟨?_, hr, rfl, rfl, rfl, rfl, rfl⟩)
 refine ⟨by simp only; omega, h2, by simp only; omega, by simp only; omega, by simp, by simp, by simp; omega, by simp only; omega, h9, h10, fun b hb => ?_, ⟨by simp, by simp⟩, fun b hb => ?_, h14, ?_⟩
 ·rcases List.mem_append.1 hb with hb | hb
  ·exact ⟨by have := (h11 b hb).1; omega, by have := (h11 b hb).2; omega⟩
  ·simp only [List.mem_singleton] at hb
   subst hb
   exact ⟨by simp only; omega, by simp only; omega⟩
 ·rcases List.mem_append.1 hb with hb | hb
  ·exact h13 b hb
  ·simp only [List.mem_singleton] at hb
   subst hb
   exact ⟨h12, by simpa using ht⟩
 ·rw [W1v]
  simp only [sz, List.length_nil]
  omega
theorem X3i (h : okG k g) (hr : okRd gr) (hk : k + 1 ≤ KM) (w : Int) (ins : List Int) (hi : inN g.next ins) (hi2 : ins.length ≤ 10) (hw : isW w) (hi3 : 1 ≤ ins.length := by simp) : Run (Z0z g gr rets pars w ins) (fun y => okG (k + 2) y.2.1 ∧ okRd y.2.2 ∧ y.2.1.f = g.f ∧ y.2.1.b.phis = g.b.phis ++ [⟨w, ins⟩] ∧ 0 ≤ y.1 ∧ y.1 < y.2.1.next ∧ g.next ≤ y.2.1.next) := by
 have hL := Y4c
 obtain ⟨h1, h2, h3, h4, h5, h6, h7, h8, h9, h10, h11, h12, h13, h14, h15⟩ := h
 unfold KM at hk
 unfold Z0z
 refine Run.yes (by omega) (Run.bind (X7u (k := k + 1) ?_ (by unfold KM; omega) _) ?_)
 ·refine ⟨by simp only; omega, h2, by simp only; omega, by simp only; omega, by simp only; omega, by simp; omega, by simp only; omega, by simp only; omega, h9, h10, fun b hb => ⟨by have := (h11 b hb).1; omega, by have := (h11 b hb).2; omega⟩, ⟨fun p hp => ?_, (h12.mono (by simp only; omega)).is⟩, fun b hb => (h13 b hb).mono (by simp only; omega), h14, by simp; omega⟩
  rcases List.mem_append.1 hp with hp | hp
  ·exact (h12.mono (by simp only; omega)).ps p hp
  ·simp only [List.mem_singleton] at hp
   subst hp
   exact ⟨hi.mono (by simp only; omega), hi2, hw, hi3⟩
 ·rintro ⟨x, g', r'⟩ ⟨g1, rfl, g3, g4, g5, g6⟩
  simp only at g5 g6
  exact Run.mk ⟨g1, hr, g3, by simp only at g4 ⊢; rw [g4], by simp only; omega, by simp only; omega, by simp only; omega⟩
theorem W6u (h : okG k g) (hr : okRd gr) (hp : okP rets pars) (hk : k + 30 ≤ KM) : Run (Z4n g gr rets pars) (fun y => okG (k + 30) y.1 ∧ okRd y.2 ∧ Sm g y.1 ∧ g.next ≤ y.1.next) := by
 have hL := Y4c
 have hl := hp.len
 have hs := hp.small
 unfold KM at hk
 unfold Z4n
 refine Run.if (fun _ => Run.mk ⟨h.mono (by omega), hr, Sm.refl _, Int.le_refl _⟩) (fun hn => Run.bind (U4 hr _) ?_)
 have hn : ¬ (rets.length : Int) = 0 := by simpa using hn
 rintro ⟨c, r1⟩ ⟨g1, g2, g3⟩
 have g3 := g3 (by omega)
 simp only at g1 g2 g3 ⊢
 have hc : 0 ≤ c ∧ c < (pars.length : Int) := by omega
 have hrow := hp.rows _ (X5 hc)
 refine Run.bind (R := fun y => okG (k + 20) y.1 ∧ okRd y.2.1 ∧ Sm g y.1 ∧ y.2.2.length ≤ 4 ∧ g.next ≤ y.1.next ∧ inN y.1.next y.2.2) (Run.loop (fun s => okG (k + 2 * s.2.2.2.toNat) s.1 ∧ okRd s.2.1 ∧ Sm g s.1 ∧ 0 ≤ s.2.2.2 ∧ s.2.2.2 ≤ ((at_ pars c).length : Int) ∧ (s.2.2.1.length : Int) = s.2.2.2 ∧ g.next ≤ s.1.next ∧ inN s.1.next s.2.2.1) (fun s => ((at_ pars c).length - s.2.2.2).toNat) ⟨h, g1, Sm.refl _, Int.le_refl _, by simp only; omega, rfl, Int.le_refl _, by simp [inN]⟩ ?_) ?_
 ·rintro ⟨ga, ra, l, i⟩ ⟨b1, b2, b3, b4, b5, b6, b7, b8⟩
  simp only at b1 b2 b3 b4 b5 b6 b7 b8 ⊢
  have hrl := hrow.1
  refine Run.yes hc (Run.if (fun hi => ?_) (fun hi => Run.out ⟨b1.mono (by omega), b2, b3, by simp only; omega, b7, b8⟩))
  have hi : i < ((at_ pars c).length : Int) := by simpa using hi
  refine Run.yes hc (Run.yes ⟨b4, hi⟩ (Run.bind (Z0v b1 b2 (by unfold KM; omega) (hrow.2 _ (X5 ⟨b4, hi⟩))) ?_))
  rintro ⟨x, gb, rb⟩ ⟨c1, c2, c3, c4, c5, c6⟩
  simp only at c4 c5 c6
  refine Run.yes (by simp only [List.length_singleton]; omega) (Run.yes (Y5 (by omega) (by omega)) (Run.nx ⟨⟨c1.mono (by simp only; omega), c2, b3.trans c3, by simp only; omega, by simp only; omega, by simp; omega, by simp only; omega, fun z hz => ?_⟩, by simp only; omega⟩))
  rcases List.mem_append.1 hz with hz | hz
  ·exact b8.mono c6 z hz
  ·simp only [List.mem_singleton] at hz
   subst hz
   exact ⟨c4, c5⟩
 ·rintro ⟨ga, ra, l⟩ ⟨b1, b2, b3, b4, b5, b6⟩
  simp only at b1 b2 b3 b4 b5 b6 ⊢
  refine Run.yes ⟨g2, g3⟩ (Run.bind (Z3g b1 b2 (by unfold KM; omega) _ ⟨.inr ⟨by simp, by simp⟩, by simpa [opsI] using b6, Nat.le_trans b4 (by decide), fr_call (hp.rw_ _ (X5 ⟨g2, g3⟩)) ⟨g2, by omega⟩ b4⟩) ?_)
  rintro ⟨x, gb, rb⟩ ⟨c1, c2, c3, c4, c5⟩
  exact Run.mk ⟨c1.mono (by omega), c2, b3.trans c3, (by (try simp only at *) <;> omega)⟩
theorem Y3g (h : okG k g) (hr : okRd gr) (hp : okP rets pars) {n : Int} (hn : n ≤ 10) (hk : k + 400 ≤ KM) : Run (K4 g gr rets pars n) (fun y => okG (k + 400) y.1 ∧ okRd y.2 ∧ Sm g y.1 ∧ g.next ≤ y.1.next) := by
 unfold KM at hk
 unfold K4
 refine Run.bind (R := fun (y : Gl2G × Gl1Rd) => okG (k + 400) y.1 ∧ okRd y.2 ∧ Sm g y.1 ∧ g.next ≤ y.1.next) (Run.loop (fun s => okG (k + 30 * s.2.2.toNat) s.1 ∧ okRd s.2.1 ∧ Sm g s.1 ∧ 0 ≤ s.2.2 ∧ s.2.2 ≤ 10 ∧ g.next ≤ s.1.next) (fun s => (10 - s.2.2).toNat) ⟨h, hr, Sm.refl _, by simp only; omega, by simp only; omega, Int.le_refl _⟩ ?_) (fun y hy => Run.mk hy)
 rintro ⟨ga, ra, i⟩ ⟨b1, b2, b3, b4, b5, b6⟩
 simp only at b1 b2 b3 b4 b5 b6 ⊢
 refine Run.if (fun hi => ?_) (fun hi => Run.out ⟨b1.mono (by omega), b2, b3, b6⟩)
 have hi : i < n := by simp only [Bool.and_eq_true, decide_eq_true_eq] at hi; exact hi.1
 refine Run.bind (Y2n b2) ?_
 rintro ⟨w, r1⟩ ⟨c1, c2⟩
 refine Run.bind (U4 c1 14) ?_
 rintro ⟨x, r2⟩ ⟨d1, d2, d3⟩
 simp only at c1 c2 d1 d2 d3 ⊢
 have fin : ∀ {m : Nat} {ga' : Gl2G} {ra' : Gl1Rd}, okG m ga' → okRd ra' → Sm ga ga' → ga.next ≤ ga'.next → m ≤ k + 30 * i.toNat + 30 → Run (if inI (i + 1) then some (Sum.inl (ga', ra', i + 1) : (Gl2G × Gl1Rd × Int) ⊕ (Gl2G × Gl1Rd)) else none)
   (W7c (fun s => okG (k + 30 * s.2.2.toNat) s.1 ∧ okRd s.2.1 ∧ Sm g s.1 ∧ 0 ≤ s.2.2 ∧ s.2.2 ≤ 10 ∧ g.next ≤ s.1.next) (fun s => (10 - s.2.2).toNat) ((10 - i).toNat) (fun r => okG (k + 400) r.1 ∧ okRd r.2 ∧ Sm g r.1 ∧ g.next ≤ r.1.next)) := fun k1 k2 k3 k5 k4 =>
  Run.yes (Y5 (by omega) (by omega)) (Run.nx ⟨⟨k1.mono (by simp only; omega), k2, b3.trans k3, by simp only; omega, by simp only; omega, by simp only; omega⟩, by simp only; omega⟩)
 refine Run.if (fun _ => ?_) (fun _ => Run.if (fun _ => ?_) (fun _ => Run.if (fun _ => ?_) (fun _ => Run.if (fun _ => ?_) (fun _ => Run.if (fun _ => ?_) (fun _ => Run.if (fun _ => ?_) (fun _ => Run.if (fun _ => ?_) (fun _ => Run.if (fun _ => ?_) (fun _ => Run.if (fun _ => ?_) (fun _ => ?_)))))))))
 ·refine Run.bind (X4r d1 c2) ?_
  rintro ⟨v, r3⟩ ⟨e1, e2⟩
  refine Run.bind (Z3g b1 e1 (by unfold KM; omega) _ ⟨.inr ⟨by simp, by simp⟩, by intro z hz; simp [opsI] at hz <;> (try simp only at *) <;> omega, by simp, Y0j c2 e2⟩) ?_
  rintro ⟨y, g4, r4⟩ ⟨f1, f2, f3, f4, f5⟩
  exact fin f1 f2 f3 (by (try simp only at *) <;> omega) (by omega)
 ·refine Run.bind (Z0v b1 d1 (by unfold KM; omega) (.inl rfl)) ?_
  rintro ⟨y, g3, r3⟩ ⟨e1, e2, e3, e4, e5, e6⟩
  refine Run.bind (Z0v e1 e2 (by unfold KM; omega) c2) ?_
  rintro ⟨y, g4, r4⟩ ⟨f1, f2, f3, f4, f5, f6⟩
  refine Run.bind (Z0v f1 f2 (by unfold KM; omega) c2) ?_
  rintro ⟨y, g5, r5⟩ ⟨a1, a2, a3, a4, a5, a6⟩
  refine Run.bind (Z3g a1 a2 (by unfold KM; omega) _ ⟨.inr ⟨by simp, by simp⟩, by intro z hz; simp [opsI] at hz <;> (try simp only at *) <;> omega, by simp, W3y c2⟩) ?_
  rintro ⟨y, g6, r6⟩ ⟨q1, q2, q3, q4, q5⟩
  exact fin q1 q2 (((e3.trans f3).trans a3).trans q3) (by (try simp only at *) <;> omega) (by omega)
 ·refine Run.bind (Z0v b1 d1 (by unfold KM; omega) (.inr (.inl rfl))) ?_
  rintro ⟨y, g3, r3⟩ ⟨e1, e2, e3, e4, e5, e6⟩
  refine Run.bind (R := fun y => okG (k + 30 * i.toNat + 2 + 2) y.1 ∧ okRd y.2 ∧ Sm ga y.1 ∧ ga.next ≤ y.1.next) (Run.bind (U4 e2 2) ?_) ?_
  ·rintro ⟨y1, r4⟩ ⟨f1, f2, f3⟩
   have f3 := f3 (by omega)
   refine Run.yes ⟨f2, by simpa using f3⟩ (Run.bind (U4 f1 2) ?_)
   rintro ⟨y2, r5⟩ ⟨a1, a2, a3⟩
   have a3 := a3 (by omega)
   refine Run.yes ⟨a2, by simpa using a3⟩ (Run.bind (Z3g e1 a1 (by unfold KM; omega) _ ⟨.inr (by have : y1 = 0 ∨ y1 = 1 := (by simp only at f2 f3; omega); rcases this with rfl | rfl <;> simp [at_]), by have : y1 = 0 ∨ y1 = 1 := (by simp only at f2 f3; omega); rcases this with rfl | rfl <;> (intro z hz; simp [opsI, at_] at hz <;> (try simp only at *) <;> omega), by simp, W3z (by have : y2 = 0 ∨ y2 = 1 := (by simp only at a2 a3; omega); rcases this with rfl | rfl <;> simp [at_, isW]) (by have : y1 = 0 ∨ y1 = 1 := (by simp only at f2 f3; omega); rcases this with rfl | rfl <;> simp [at_])⟩) ?_)
   rintro ⟨y3, g6, r6⟩ ⟨q1, q2, q3, q4, q5⟩
   exact Run.mk ⟨q1, q2, e3.trans q3, (by (try simp only at *) <;> omega)⟩
  ·rintro ⟨g7, r7⟩ ⟨q1, q2, q3, q4⟩
   exact fin q1 q2 q3 (by (try simp only at *) <;> omega) (by omega)
 ·refine Run.bind (Z0v b1 d1 (by unfold KM; omega) (.inr (.inr (.inr rfl)))) ?_
  rintro ⟨y, g3, r3⟩ ⟨e1, e2, e3, e4, e5, e6⟩
  refine Run.bind (U4 e2 3) ?_
  rintro ⟨y1, r4⟩ ⟨f1, f2, f3⟩
  have f3 := f3 (by omega)
  refine Run.yes ⟨f2, by simpa using f3⟩ (Run.bind (Z3g e1 f1 (by unfold KM; omega) _ ⟨.inr ⟨by simp, by simp⟩, by intro z hz; simp [opsI] at hz <;> (try simp only at *) <;> omega, by simp, W3z (by have : y1 = 0 ∨ y1 = 1 ∨ y1 = 2 := (by simp only at f2 f3; omega); rcases this with rfl | rfl | rfl <;> simp [at_, isW]) (by decide)⟩) ?_)
  rintro ⟨y3, g6, r6⟩ ⟨q1, q2, q3, q4, q5⟩
  exact fin q1 q2 (e3.trans q3) (by (try simp only at *) <;> omega) (by omega)
 ·refine Run.bind (U4 d1 34) ?_
  rintro ⟨y1, r4⟩ ⟨f1, f2, f3⟩
  refine Run.bind (Z3g b1 f1 (by unfold KM; omega) _ ⟨.inr ⟨by simp, by simp⟩, by intro z hz; simp [opsI] at hz <;> (try simp only at *) <;> omega, by simp, Y0j (.inr (.inr (.inr rfl))) ⟨f2, by have := f3 (by omega); simp only at this; simp [topW]; omega⟩⟩) ?_
  rintro ⟨y3, g6, r6⟩ ⟨q1, q2, q3, q4, q5⟩
  have q4 := q4 (by simp [W3, Z7, W6, Y4])
  refine Run.bind (Z3g q1 q2 (by unfold KM; omega) _ ⟨.inr ⟨by simp, by simp⟩, by intro z hz; simp [opsI] at hz <;> (try simp only at *) <;> omega, by simp, fr_load⟩) ?_
  rintro ⟨y4, g7, r7⟩ ⟨e1, e2, e3, e4, e5⟩
  exact fin e1 e2 (q3.trans e3) (by (try simp only at *) <;> omega) (by omega)
 ·refine Run.bind (U4 d1 33) ?_
  rintro ⟨y1, r4⟩ ⟨f1, f2, f3⟩
  refine Run.bind (Z3g b1 f1 (by unfold KM; omega) _ ⟨.inr ⟨by simp, by simp⟩, by intro z hz; simp [opsI] at hz <;> (try simp only at *) <;> omega, by simp, Y0j (.inr (.inr (.inr rfl))) ⟨f2, by have := f3 (by omega); simp only at this; simp [topW]; omega⟩⟩) ?_
  rintro ⟨y3, g6, r6⟩ ⟨q1, q2, q3, q4, q5⟩
  have q4 := q4 (by simp [W3, Z7, W6, Y4])
  refine Run.bind (Z0v q1 q2 (by unfold KM; omega) (.inr (.inl rfl))) ?_
  rintro ⟨y5, g8, r8⟩ ⟨a1, a2, a3, a4, a5, a6⟩
  refine Run.bind (Z3g a1 a2 (by unfold KM; omega) _ ⟨.inl rfl, by intro z hz; simp [opsI] at hz <;> (try simp only at *) <;> omega, by simp, W6g⟩) ?_
  rintro ⟨y4, g7, r7⟩ ⟨e1, e2, e3, e4, e5⟩
  exact fin e1 e2 ((q3.trans a3).trans e3) (by (try simp only at *) <;> omega) (by omega)
 ·refine Run.bind (Z0v b1 d1 (by unfold KM; omega) c2) ?_
  rintro ⟨y, g3, r3⟩ ⟨e1, e2, e3, e4, e5, e6⟩
  refine Run.bind (Z3g e1 e2 (by unfold KM; omega) _ ⟨.inl rfl, by intro z hz; simp [opsI] at hz <;> (try simp only at *) <;> omega, by simp, W6h⟩) ?_
  rintro ⟨y3, g6, r6⟩ ⟨q1, q2, q3, q4, q5⟩
  exact fin q1 q2 (e3.trans q3) (by (try simp only at *) <;> omega) (by omega)
 ·refine Run.bind (Z0v b1 d1 (by unfold KM; omega) c2) ?_
  rintro ⟨y, g3, r3⟩ ⟨e1, e2, e3, e4, e5, e6⟩
  refine Run.bind (Z3g e1 e2 (by unfold KM; omega) _ ⟨.inr ⟨by simp, by simp⟩, by intro z hz; simp [opsI] at hz <;> (try simp only at *) <;> omega, by simp, fr_copy c2⟩) ?_
  rintro ⟨y3, g6, r6⟩ ⟨q1, q2, q3, q4, q5⟩
  exact fin q1 q2 (e3.trans q3) (by (try simp only at *) <;> omega) (by omega)
 ·refine Run.bind (W6u b1 d1 hp (by unfold KM; omega)) ?_
  rintro ⟨g6, r6⟩ ⟨q1, q2, q3, q4⟩
  exact fin q1 q2 q3 (by (try simp only at *) <;> omega) (by omega)
 ·refine Run.bind (Z0v b1 d1 (by unfold KM; omega) c2) ?_
  rintro ⟨y, g3, r3⟩ ⟨e1, e2, e3, e4, e5, e6⟩
  refine Run.bind (Z0v e1 e2 (by unfold KM; omega) c2) ?_
  rintro ⟨y, g4, r4⟩ ⟨f1, f2, f3, f4, f5, f6⟩
  refine Run.bind (U4 f2 17) ?_
  rintro ⟨y1, r5⟩ ⟨a1, a2, a3⟩
  have a3 := a3 (by omega)
  simp only at a1 a2 a3 ⊢
  refine Run.yes (Y5 (by omega) (by omega)) (Run.bind (Z3g f1 a1 (by unfold KM; omega) _ ⟨.inr ⟨by simp only; omega, by simp only; omega⟩, by intro z hz; simp only [opsI] at hz; rw [if_pos (.inl ⟨by omega, by omega⟩)] at hz; simp at hz; (try simp only at *); omega, by simp, X9c c2 ⟨by omega, by omega⟩⟩) ?_)
  rintro ⟨y3, g6, r6⟩ ⟨q1, q2, q3, q4, q5⟩
  exact fin q1 q2 ((e3.trans f3).trans q3) (by (try simp only at *) <;> omega) (by omega)
theorem X8b {g' : Gl2G} {b : GBlock} (e : g'.f.blocks = g.f.blocks ++ [b]) (hg : tgt g) (hb : okX (g.f.blocks.length : Int) b.term) : ∀ x ∈ g'.f.blocks, okX ((g'.f.blocks.length : Int) - 1) x.term := by
 intro x hx
 have el : ((g'.f.blocks.length : Int) - 1) = (g.f.blocks.length : Int) := by rw [e]; simp
 rw [el]
 rw [e] at hx
 rcases List.mem_append.1 hx with hx | hx
 ·exact hg x hx
 ·simp only [List.mem_singleton] at hx
  subst hx
  exact hb
theorem X4u {g' : Gl2G} {a b c : GBlock} (e : g'.f.blocks = ((g.f.blocks ++ [a]) ++ [b]) ++ [c]) (hg : tgt g) (ha : okX ((g.f.blocks.length : Int) + 3) a.term) (hb : okX ((g.f.blocks.length : Int) + 3) b.term) (hc : okX ((g.f.blocks.length : Int) + 3) c.term) : tgt g' := by
 intro x hx
 have el : (g'.f.blocks.length : Int) = (g.f.blocks.length : Int) + 3 := by rw [e]; simp
 rw [el]
 rw [e] at hx
 simp only [List.mem_append, List.mem_singleton] at hx
 rcases hx with ((hx | rfl) | rfl) | rfl
 ·exact (hg x hx).mono (by omega)
 ·exact ha
 ·exact hb
 ·exact hc
theorem W6p (h : okG k g) (hr : okRd gr) (hk : k + 10 ≤ KM) : Run (Z4m g gr rets pars) (fun y => okG (k + 10) y.1 ∧ okRd y.2 ∧ y.1.f.params = g.f.params ∧ 0 < y.1.f.blocks.length ∧ y.1.b.phis = [] ∧ y.1.b.insts = [] ∧ (tgt g → ∀ b ∈ y.1.f.blocks, okX ((y.1.f.blocks.length : Int) - 1) b.term)) := by
 unfold KM at hk
 unfold Z4m
 refine Run.bind (X3m hr (Y5 (by omega) (by omega))) ?_
 rintro ⟨b, r1⟩ e1
 refine Run.if (fun _ => Run.bind (Z8n h e1 (by unfold KM; omega) _ ⟨by intro ht; simp at ht, .inr (.inr (.inr ⟨rfl, rfl, rfl, rfl⟩))⟩) ?_) (fun _ => Run.bind (Z0v h e1 (by unfold KM; omega) h.ret) ?_)
 ·rintro ⟨g2, r2⟩ ⟨a1, a2, a5, a4, a6, a7, a8⟩
  exact Run.mk ⟨a1.mono (by omega), a2, a4, by simp only at a5 ⊢; rw [a5]; simp, a6, a8, fun hg => X8b a5 hg (by constructor <;> simp)⟩
 ·rintro ⟨y, g2, r2⟩ ⟨a1, a2, a3, a4, a5, a6⟩
  refine Run.bind (Z8n a1 a2 (by unfold KM; omega) _ ⟨fun _ => ⟨a4, a5⟩, .inl ⟨rfl, rfl, rfl⟩⟩) ?_
  rintro ⟨g3, r3⟩ ⟨b1, b2, b5, b4, b6, b7, b8⟩
  exact Run.mk ⟨b1.mono (by omega), b2, b4.trans (congrArg GFunc.params a3.1), by simp only at b5 ⊢; rw [b5]; simp, b6, b8, fun hg => X8b (by rw [b5, a3.1]) hg (by constructor <;> simp)⟩
theorem okG.put {ids ws : List Int} {k' : Nat} {g' : Gl2G} (h : okG k g) (h' : okG k' g') (hk : k ≤ k') (hn : g.next ≤ g'.next) : okG k' ({ f := g'.f, b := g'.b, next := g'.next, ids := g.ids, ws := g.ws } : Gl2G) :=
 ⟨Nat.le_trans h.ids hk, h.ws, h'.n0, h'.n1, h'.insts, h'.phis, h'.blocks, h'.params, h'.pw, h'.ret, h'.rows, h'.cur, h'.okbs, h.idsIn.mono hn, h'.nx⟩
theorem X9d (h : okG k g) (hr : okRd gr) (hp : okP rets pars) (hk : k + 1000 ≤ KM) : Run (Z2q g gr rets pars) (fun y => okG (k + 1000) y.1 ∧ okRd y.2 ∧ y.1.f.params = g.f.params ∧ g.next ≤ y.1.next ∧ (tgt g → tgt y.1)) := by
 unfold KM at hk
 unfold Z2q
 refine Run.bind (Z0v h hr (by unfold KM; omega) (.inl rfl)) ?_
 rintro ⟨c, g1, r1⟩ ⟨a1, a2, a3, a4, a5, a6⟩
 refine Run.bind (Z8n a1 a2 (by unfold KM; omega) _ ⟨fun _ => ⟨a4, a5⟩, .inr (.inr (.inl rfl))⟩) ?_
 rintro ⟨g2, r2⟩ ⟨b1, b2, b3, b4, _, b6, _⟩
 refine Run.bind (U4 b2 3) ?_
 rintro ⟨n1, r3⟩ ⟨c1, c2, c3⟩
 have c3 := c3 (by omega)
 refine Run.bind (Y3g b1 c1 hp (by simp only at c3 ⊢; omega) (by unfold KM; omega)) ?_
 rintro ⟨g4, r4⟩ ⟨d1, d2, d3, d4⟩
 refine Run.bind (Y2n d2) ?_
 rintro ⟨w, r5⟩ ⟨e1, e2⟩
 refine Run.bind (Z0v d1 e1 (by unfold KM; omega) e2) ?_
 rintro ⟨x6, g6, r6⟩ ⟨f1, f2, f3, f4, f5, f6⟩
 refine Run.bind (Z0v f1 f2 (by unfold KM; omega) (.inr (.inl rfl))) ?_
 rintro ⟨x7, g7, r7⟩ ⟨p1, p2, p3, p4, p5, p6⟩
 refine Run.bind (Z8n p1 p2 (by unfold KM; omega) _ ⟨by intro ht; simp at ht, .inr (.inl ⟨rfl, rfl, rfl⟩)⟩) ?_
 rintro ⟨g8, r8⟩ ⟨q1, q2, q3, q4, _, q6, _⟩
 refine Run.bind (U4 q2 3) ?_
 rintro ⟨n2, r9⟩ ⟨s1, s2, s3⟩
 have s3 := s3 (by omega)
 refine Run.bind (Y3g (b1.put (ids := []) (ws := []) q1 (by omega) (by (try simp only at *) <;> omega)) s1 hp (by simp only at s3 ⊢; omega) (by unfold KM; omega)) ?_
 rintro ⟨g10, r10⟩ ⟨t1, t2, t3, t4⟩
 refine Run.bind (Z0v t1 t2 (by unfold KM; omega) e2) ?_
 rintro ⟨x11, g11, r11⟩ ⟨u1, u2, u3, u4, u5, u6⟩
 refine Run.bind (Z0v u1 u2 (by unfold KM; omega) (.inr (.inl rfl))) ?_
 rintro ⟨x12, g12, r12⟩ ⟨v1, v2, v3, v4, v5, v6⟩
 refine Run.bind (Z8n v1 v2 (by unfold KM; omega) _ ⟨by intro ht; simp at ht, .inr (.inl ⟨rfl, rfl, rfl⟩)⟩) ?_
 rintro ⟨g13, r13⟩ ⟨w1, w2, w3, w4, _, w6, _⟩
 refine Run.bind (X3i (b1.put (ids := []) (ws := []) w1 (by omega) (by (try simp only at *) <;> omega)) w2 (by unfold KM; omega) _ _ (by intro z hz; simp at hz; (try simp only at *) <;> omega) (by simp) e2) ?_
 rintro ⟨x14, g14, r14⟩ ⟨y1, y2, y3, y4, y5, y6, y7⟩
 refine Run.bind (X3i y1 y2 (by unfold KM; omega) _ _ (by intro z hz; simp at hz; (try simp only at *) <;> omega) (by simp) (.inr (.inl rfl))) ?_
 rintro ⟨x15, g15, r15⟩ ⟨z1, z2, z3, z4, z5, z6, z7⟩
 refine Run.mk ⟨z1.mono (by omega), z2, ?_, (by (try simp only at *) <;> omega), ?_⟩
 rotate_left
 ·intro hg
  simp only at b3 q3 w3 z3 y3
  refine X4u (g := g) (by rw [z3, y3, w3, v3.1, u3.1, t3.1, q3, p3.1, f3.1, d3.1, b3, a3.1]) hg ?_ ?_ ?_
  ·constructor <;> simp <;> omega
  ·constructor <;> simp <;> omega
  ·constructor <;> simp <;> omega
 have e1 := congrArg GFunc.params a3.1
 have e2 := congrArg GFunc.params d3.1
 have e3 := congrArg GFunc.params f3.1
 have e4' := congrArg GFunc.params p3.1
 have e5' := congrArg GFunc.params t3.1
 have e6' := congrArg GFunc.params u3.1
 have e7 := congrArg GFunc.params v3.1
 have e8 := congrArg GFunc.params y3
 have e9 := congrArg GFunc.params z3
 simp only at e1 e2 e3 e4' e5' e6' e7 e8 e9 b4 q4 w4 ⊢
 rw [e9, e8, w4, e7, e6', e5', q4, e4', e3, e2, b4, e1]
theorem at_mid (l : List GBlock) (a b c : GBlock) : at_ (((l ++ [a]) ++ [b]) ++ [c]) ((l.length : Int) + 1) = b := by
 have e : ((l.length : Int) + 1) = ((l.length + 1 : Nat) : Int) := by omega
 rw [e, Z5k (by simp)]
 simp [List.getElem_append]
theorem X7s {α : Type} [Inhabited α] {xs : List α} {n : Int} (h : 0 ≤ n ∧ n < (xs.length : Int)) (x : α) : at_ (xs.set n.toNat x) n = x := by
 obtain ⟨m, rfl⟩ := Int.eq_ofNat_of_zero_le h.1
 rw [Z5k (by simp; omega)]
 simp
theorem W5h {bs : List GBlock} {n : Int} (h : 0 ≤ n ∧ n < (bs.length : Int)) {x : GBlock} (hx : sz x = sz (at_ bs n)) : sumz (bs.set n.toNat x) = sumz bs := by
 obtain ⟨m, rfl⟩ := Int.eq_ofNat_of_zero_le h.1
 have hm : m < bs.length := by omega
 rw [Z5k hm] at hx
 simp only [Int.toNat_natCast, sumz]
 clear h
 induction bs generalizing m with
 | nil => simp at hm
 | cons b bs ih =>
  cases m with
  | zero => simp at hx; simp [hx]
  | succ m =>
   simp only [List.set_cons_succ, List.map_cons, List.sum_cons]
   rw [ih m (by simpa using hm) (by simpa using hx)]
theorem X8r (h : okG k g) (hr : okRd gr) (hp : okP rets pars) (hk : k + 1000 ≤ KM) : Run (Z2p g gr rets pars) (fun y => okG (k + 1000) y.1 ∧ okRd y.2 ∧ y.1.f.params = g.f.params ∧ g.next ≤ y.1.next ∧ (tgt g → tgt y.1)) := by
 unfold KM at hk
 unfold Z2p
 refine Run.bind (U4 hr 5) ?_
 rintro ⟨x1, r1⟩ ⟨a1, av, av2⟩
 have av2 := av2 (by omega)
 refine Run.bind (Z3g h a1 (by unfold KM; omega) _ ⟨.inr ⟨by simp, by simp⟩, by intro z hz; simp [opsI] at hz <;> (try simp only at *) <;> omega, by simp, Y0j (.inr (.inl rfl)) ⟨av, by simp only at av2; simp [topW]; omega⟩⟩) ?_
 rintro ⟨x2, g2, r2⟩ ⟨b1, b2, b3, b4, b5⟩
 have b4 := b4 (by simp [W3, Z7, W6, Y4])
 refine Run.bind (Y2n b2) ?_
 rintro ⟨w, r3⟩ ⟨c1, c2⟩
 refine Run.bind (Z0v b1 c1 (by unfold KM; omega) c2) ?_
 rintro ⟨x4, g4, r4⟩ ⟨d1, d2, d3, d4, d5, d6⟩
 refine Run.bind (Z8n d1 d2 (by unfold KM; omega) _ ⟨by intro ht; simp at ht, .inr (.inl ⟨rfl, rfl, rfl⟩)⟩) ?_
 rintro ⟨g5, r5⟩ ⟨e1, e2, e3, e4, e5, e6, _⟩
 refine Run.bind (X3i e1 e2 (by unfold KM; omega) _ _ (by intro z hz; simp at hz; (try simp only at *) <;> omega) (by simp) (.inr (.inl rfl))) ?_
 rintro ⟨x6, g6, r6⟩ ⟨f1, f2, f3, f4, f5, f6, f7⟩
 refine Run.bind (X3i f1 f2 (by unfold KM; omega) _ _ (by intro z hz; simp at hz; (try simp only at *) <;> omega) (by simp) c2) ?_
 rintro ⟨x7, g7, r7⟩ ⟨p1, p2, p3, p4, p5, p6, p7⟩
 refine Run.bind (Z3g p1 p2 (by unfold KM; omega) _ ⟨.inr ⟨by simp, by simp⟩, by intro z hz; simp [opsI] at hz <;> (try simp only at *) <;> omega, by simp, Y0j (.inr (.inl rfl)) (by decide)⟩) ?_
 rintro ⟨x8, g8, r8⟩ ⟨q1, q2, q3, q4, q5⟩
 have q4 := q4 (by simp [W3, Z7, W6, Y4])
 refine Run.bind (Z3g q1 q2 (by unfold KM; omega) _ ⟨.inr ⟨by simp, by simp⟩, by intro z hz; simp [opsI] at hz <;> (try simp only at *) <;> omega, by simp, X9c (.inr (.inl rfl)) (by decide)⟩) ?_
 rintro ⟨x9, g9, r9⟩ ⟨s1, s2, s3, s4, s5⟩
 have s4 := s4 (by simp [W3, Z7, W6, Y4])
 refine Run.bind (Z8n s1 s2 (by unfold KM; omega) _ ⟨fun _ => s4, .inr (.inr (.inl rfl))⟩) ?_
 rintro ⟨g10, r10⟩ ⟨t1, t2, t3, t4, t5, t6, _⟩
 refine Run.bind (Z3g t1 t2 (by unfold KM; omega) _ ⟨.inr ⟨by simp, by simp⟩, by intro z hz; simp [opsI] at hz <;> (try simp only at *) <;> omega, by simp, Y0j (.inr (.inl rfl)) (by decide)⟩) ?_
 rintro ⟨x11, g11, r11⟩ ⟨u1, u2, u3, u4, u5⟩
 have u4 := u4 (by simp [W3, Z7, W6, Y4])
 refine Run.bind (Z3g u1 u2 (by unfold KM; omega) _ ⟨.inr ⟨by simp, by simp⟩, by intro z hz; simp [opsI] at hz <;> (try simp only at *) <;> omega, by simp, X9c (.inr (.inl rfl)) (by decide)⟩) ?_
 rintro ⟨x12, g12, r12⟩ ⟨v1, v2, v3, v4, v5⟩
 have v4 := v4 (by simp [W3, Z7, W6, Y4])
 refine Run.bind (U4 v2 3) ?_
 rintro ⟨n13, r13⟩ ⟨w1, w2, w3⟩
 have w3 := w3 (by omega)
 refine Run.bind (Y3g v1 w1 hp (by simp only at w3 ⊢; omega) (by unfold KM; omega)) ?_
 rintro ⟨g14, r14⟩ ⟨y1, y2, y3, y4⟩
 refine Run.bind (Z0v y1 y2 (by unfold KM; omega) c2) ?_
 rintro ⟨x15, g15, r15⟩ ⟨z1, z2, z3, z4, z5, z6⟩
 refine Run.bind (R := fun (y : Gl2G × Gl1Rd × Int) => okG (k + 500) y.1 ∧ okRd y.2.1 ∧ Sm g15 y.1 ∧ 0 ≤ y.2.2 ∧ y.2.2 < y.1.next ∧ g15.next ≤ y.1.next) (Run.if (fun _ => Run.bind (Z3g z1 z2 (by unfold KM; omega) _ ⟨.inr ⟨by simp, by simp⟩, by intro z hz; simp [opsI] at hz <;> (try simp only at *) <;> omega, by simp, X9c c2 (by decide)⟩) ?_) (fun _ => Run.mk ⟨z1.mono (by omega), z2, Sm.refl _, z4, z5, Int.le_refl _⟩)) ?_
 ·rintro ⟨x16, g16, r16⟩ ⟨j1, j2, j3, j4, j5⟩
  have j4 := j4 (by rcases c2 with h | h | h | h <;> simp only at h <;> simp [h, W3, Z7, W6, Y4])
  exact Run.mk ⟨j1.mono (by omega), j2, j3, j4.1, j4.2, j5⟩
 rintro ⟨g16, r16, x16⟩ ⟨j1, j2, j3, j4, j5, j6⟩
 refine Run.bind (Z8n j1 j2 (by unfold KM; omega) _ ⟨by intro ht; simp at ht, .inr (.inl ⟨rfl, rfl, rfl⟩)⟩) ?_
 rintro ⟨g17, r17⟩ ⟨k1, k2, k3, k4, k5, k6, _⟩
 simp only at *
 have hb10 : g10.f.blocks = (g.f.blocks ++ [⟨g4.b.phis, g4.b.insts, { kind := 2, a := 0, x := (g.f.blocks.length : Int) + 1, y := 0 }⟩]) ++ [⟨[⟨8, [x2, 0]⟩, ⟨w, [x4, 0]⟩], g9.b.insts, { kind := 3, a := x9, x := (g.f.blocks.length : Int) + 2, y := (g.f.blocks.length : Int) + 3 }⟩] := by
  rw [t3, s3.1, q3.1, p3, f3, e3, d3.1, b3.1, s3.2, q3.2, p4, f4, e5]
  rfl
 have hb17 : g17.f.blocks = (((g.f.blocks ++ [⟨g4.b.phis, g4.b.insts, { kind := 2, a := 0, x := (g.f.blocks.length : Int) + 1, y := 0 }⟩]) ++ [⟨[⟨8, [x2, 0]⟩, ⟨w, [x4, 0]⟩], g9.b.insts, { kind := 3, a := x9, x := (g.f.blocks.length : Int) + 2, y := (g.f.blocks.length : Int) + 3 }⟩]) ++ [⟨g16.b.phis, g16.b.insts, { kind := 2, a := 0, x := (g.f.blocks.length : Int) + 1, y := 0 }⟩]) := by
  rw [k3, j3.1, z3.1, y3.1, v3.1, u3.1, hb10]
 have hat : at_ g17.f.blocks ((g.f.blocks.length : Int) + 1) = ⟨[⟨8, [x2, 0]⟩, ⟨w, [x4, 0]⟩], g9.b.insts, { kind := 3, a := x9, x := (g.f.blocks.length : Int) + 2, y := (g.f.blocks.length : Int) + 3 }⟩ := by rw [hb17]; exact at_mid _ _ _ _
 have hlt : 0 ≤ (g.f.blocks.length : Int) + 1 ∧ (g.f.blocks.length : Int) + 1 < (g17.f.blocks.length : Int) := by rw [hb17]; simp; omega
 have hpar : g17.f.params = g.f.params := by
  rw [k4, j3.1, z3.1, y3.1, v3.1, u3.1, t4, s3.1, q3.1, p3, f3, e4, d3.1, b3.1]
 have hi9 := s1.insts
 have hid := t1.ids
 have hws := t1.ws
 have hidn := t1.idsIn
 obtain ⟨h1, h2, h3, h4, h5, h6, h7, h8, h9, h10, h11, h12, h13, h14, h15⟩ := k1
 have hold := h13 _ (X5 hlt)
 have hw8 : isW 8 := .inr (.inl rfl)
 rw [hat] at hold
 simp only [hat]
 refine Run.yes hlt (Run.yes (by simp) (Run.yes (by simp [at_]) (Run.yes (by simpa using hlt) ?_)))
 simp only [X7s hlt]
 refine Run.yes (by simp) (Run.yes (by simp [at_]) (Run.mk ⟨?_, k2, ?_, ?_, ?_⟩))
 rotate_left
 ·exact hpar
 ·simp only
  omega
 ·intro hg
  have h17 : tgt g17 := by
   refine X4u (g := g) hb17 hg ?_ ?_ ?_
   ·constructor <;> simp <;> omega
   ·constructor <;> simp <;> omega
   ·constructor <;> simp <;> omega
  have hx := h17 _ (X5 hlt)
  rw [hat] at hx
  intro b hb
  simp only [List.length_set] at hb ⊢
  rcases List.mem_or_eq_of_mem_set hb with hb | rfl
  ·rcases List.mem_or_eq_of_mem_set hb with hb | rfl
   ·exact h17 b hb
   ·exact hx
  ·exact hx
 refine ⟨by simp only; omega, hws, by simp only; omega, by simp only; omega, by simp only; omega, by simp only; omega, by simp; omega, by simp only; omega, h9, h10, fun b hb => ?_, h12, fun b hb => ?_, hidn.mono (by simp only; omega), ?_⟩
 ·rcases List.mem_or_eq_of_mem_set hb with hb | rfl
  ·rcases List.mem_or_eq_of_mem_set hb with hb | rfl
   ·exact ⟨by have := (h11 b hb).1; omega, by have := (h11 b hb).2; omega⟩
   ·exact ⟨by simp, by simp only; omega⟩
  ·exact ⟨by simp, by simp only; omega⟩
 ·rcases List.mem_or_eq_of_mem_set hb with hb | rfl
  ·rcases List.mem_or_eq_of_mem_set hb with hb | rfl
   ·exact h13 b hb
   ·refine ⟨⟨?_, hold.1.is⟩, hold.2⟩
    simp [okPn, inN, at_, c2, hw8]
    omega
  ·refine ⟨⟨?_, hold.1.is⟩, hold.2⟩
   simp [okPn, inN, at_, c2, hw8]
   omega
 ·rw [List.set_set, W5h hlt (by rw [hat]; simp [sz])]
  exact h15
end
structure okFn (f : GFunc) : Prop where
 okbs : ∀ b ∈ f.blocks, okBl (cnt f) b
 params : f.params.length ≤ 4
 pw : ∀ w ∈ f.params, isW w
 ret : isW f.ret
 blocks : f.blocks.length ≤ 100000
 ne : 0 < f.blocks.length
 rows : ∀ b ∈ f.blocks, b.phis.length ≤ 100000 ∧ b.insts.length ≤ 100000
 tg : ∀ b ∈ f.blocks, okX ((f.blocks.length : Int) - 1) b.term
theorem tgt_f {g g' : Gl2G} (e : g'.f = g.f) (h : tgt g) : tgt g' := by
 unfold tgt
 rw [e]
 exact h
theorem fn_run {r : Gl1Rd} {rets : List Int} {pars : List (List Int)} (hr : okRd r) (hp : okP rets pars) : Run (Z5u r rets pars) (fun y => okFn y.1 ∧ okRd y.2) := by
 have hL := Y4c
 unfold Z5u
 refine Run.bind (Y2n hr) ?_
 rintro ⟨w, r1⟩ ⟨a1, a2⟩
 refine Run.bind (U4 a1 3) ?_
 rintro ⟨n, r2⟩ ⟨b1, b2, b3⟩
 have b3 := b3 (by omega)
 simp only at a1 a2 b1 b2 b3 ⊢
 refine Run.bind (R := fun y => okRd y.1 ∧ okG 4 y.2 ∧ y.2.f.blocks = []) (Run.loop (fun s => okRd s.1 ∧ okG (2 * (n - s.2.2).toNat) s.2.1 ∧ 0 ≤ s.2.2 ∧ s.2.2 ≤ n ∧ s.2.1.f.blocks = []) (fun s => s.2.2.toNat) ⟨b1, ?_, b2, Int.le_refl _, rfl⟩ ?_) ?_
 ·exact ⟨by simp, rfl, Int.le_refl _, by simp only; omega, by simp, by simp, by simp, by simp, by simp, a2, by simp, ⟨by simp, by simp⟩, by simp, by simp [inN], by simp [sumz]⟩
 ·rintro ⟨ra, ga, i⟩ ⟨c1, c2, c3, c4, c5⟩
  simp only at c1 c2 c3 c4 c5 ⊢
  refine Run.if (fun hi => ?_) (fun hi => Run.out ⟨c1, c2.mono (by omega), c5⟩)
  have hi : i > 0 := by simpa using hi
  refine Run.bind (Y2n c1) ?_
  rintro ⟨v, rb⟩ ⟨d1, d2⟩
  have hcp := c2.params
  refine Run.yes (by simp only [List.length_singleton]; omega) (Run.bind (X7u (k := 2 * (n - i).toNat + 1) ?_ (by unfold KM; omega) _) ?_)
  ·obtain ⟨h1, h2, h3, h4, h5, h6, h7, h8, h9, h10, h11, h12, h13, h14, h15⟩ := c2
   refine ⟨by simp only; omega, h2, by simp only; omega, by simp only; omega, by simp only; omega, by simp only; omega, by simp only; omega, by simp; omega, fun x hx => ?_, h10, fun b hb => ⟨by have := (h11 b hb).1; omega, by have := (h11 b hb).2; omega⟩, h12.mono (by simp only; omega), fun b hb => (h13 b hb).mono (by simp only; omega), h14, by simp; omega⟩
   rcases List.mem_append.1 hx with hx | hx
   ·exact h9 x hx
   ·simp only [List.mem_singleton] at hx
    subst hx
    exact d2
  ·rintro ⟨x, gb, rc⟩ ⟨e1, rfl, e3, _, _, _⟩
   exact Run.yes (Y5 (by omega) (by omega)) (Run.nx ⟨⟨d1, e1.mono (by simp only; omega), by simp only; omega, by simp only; omega, (congrArg GFunc.blocks e3).trans c5⟩, by simp only; omega⟩)
 rintro ⟨r3, g3⟩ ⟨c1, c2, cb⟩
 have ct : tgt g3 := fun b hb => by simp only at cb; rw [cb] at hb; cases hb
 have hpl := c2.params
 have hpw := c2.pw
 simp only at hpl hpw c1 c2 ⊢
 refine Run.bind (U4 c1 5) ?_
 rintro ⟨n4, r4⟩ ⟨d1, d2, d3⟩
 have d3 := d3 (by omega)
 simp only at d1 d2 d3 ⊢
 refine Run.yes (Y5 (by omega) (by omega)) (Run.bind (Y3g c2 d1 hp (by omega) (by unfold KM; omega)) ?_)
 rintro ⟨g5, r5⟩ ⟨e1, e2, e3, _⟩
 have q5 := congrArg GFunc.params e3.1
 have t5 : tgt g5 := tgt_f e3.1 ct
 simp only at q5
 refine Run.bind (R := fun y => okG 5000 y.2 ∧ okRd y.1 ∧ y.2.f.params = g3.f.params ∧ tgt y.2) (Run.bind (U4 e2 4) ?_) ?_
 ·rintro ⟨n6, r6⟩ ⟨f1, f2, f3⟩
  refine Run.if (fun _ => Run.bind (X9d e1 f1 hp (by unfold KM; omega)) ?_) (fun _ => Run.if (fun _ => Run.bind (X8r e1 f1 hp (by unfold KM; omega)) ?_) (fun _ => Run.if (fun _ => Run.bind (X9d e1 f1 hp (by unfold KM; omega)) ?_) (fun _ => Run.mk ⟨e1.mono (by omega), f1, q5, t5⟩)))
  ·rintro ⟨g7, r7⟩ ⟨p1, p2, p3, _, p5⟩
   exact Run.mk ⟨p1.mono (by omega), p2, p3.trans q5, p5 t5⟩
  ·rintro ⟨g7, r7⟩ ⟨p1, p2, p3, _, p5⟩
   exact Run.mk ⟨p1.mono (by omega), p2, p3.trans q5, p5 t5⟩
  ·rintro ⟨g7, r7⟩ ⟨p1, p2, p3, _, p5⟩
   refine Run.bind (U4 p2 3) ?_
   rintro ⟨n8, r8⟩ ⟨s1, s2, s3⟩
   have s3 := s3 (by omega)
   refine Run.bind (Y3g p1 s1 hp (by simp only at s3 ⊢; omega) (by unfold KM; omega)) ?_
   rintro ⟨g9, r9⟩ ⟨t1, t2, t3, _⟩
   refine Run.bind (X8r t1 t2 hp (by unfold KM; omega)) ?_
   rintro ⟨g10, r10⟩ ⟨u1, u2, u3, _, u5⟩
   exact Run.mk ⟨u1.mono (by omega), u2, u3.trans ((congrArg GFunc.params t3.1).trans (p3.trans q5)), u5 (tgt_f t3.1 (p5 t5))⟩
 rintro ⟨r11, g11⟩ ⟨p1, p2, p3, p4⟩
 refine Run.bind (U4 p2 3) ?_
 rintro ⟨n12, r12⟩ ⟨s1, s2, s3⟩
 have s3 := s3 (by omega)
 refine Run.bind (Y3g p1 s1 hp (by simp only at s3 ⊢; omega) (by unfold KM; omega)) ?_
 rintro ⟨g13, r13⟩ ⟨t1, t2, t3, _⟩
 refine Run.bind (W6p t1 t2 (by unfold KM; omega)) ?_
 rintro ⟨g14, r14⟩ ⟨u1, u2, u3, u4, u5, u6, u7⟩
 have q : g14.f.params = g3.f.params := u3.trans ((congrArg GFunc.params t3.1).trans p3)
 have hc : g14.next = (cnt g14.f : Int) := by
  have := u1.nx
  simp only at u5 u6 this
  rw [u5, u6] at this
  simp only [List.length_nil] at this
  unfold cnt
  omega
 have hb : ∀ b ∈ g14.f.blocks, okBl (cnt g14.f) b := fun b hb => (u1.okbs b hb).mono (by simp only; omega)
 refine Run.mk ⟨⟨hb, ?_, ?_, u1.ret, Nat.le_trans u1.blocks (by omega), u4, fun b hb => ⟨Nat.le_trans (u1.rows b hb).1 (by omega), Nat.le_trans (u1.rows b hb).2 (by omega)⟩, u7 (tgt_f t3.1 p4)⟩, u2⟩
 ·simp only
  rw [q]
  exact hpl
 ·simp only
  rw [q]
  exact hpw
end
section
def pre (f : GFunc) (k : Nat) : Nat := f.params.length + sumz (f.blocks.take k)
theorem Y4x {f : GFunc} {k : Nat} (h : k < f.blocks.length) : pre f (k + 1) = pre f k + sz (at_ f.blocks (k : Int)) := by
 unfold pre sumz
 rw [Z5k h, List.take_add_one, List.getElem?_eq_getElem h, List.map_append, List.sum_append]
 simp only [Option.toList, List.map_cons, List.map_nil, List.sum_cons, List.sum_nil]
 omega
theorem W1w {bs : List GBlock} {n : Nat} (h : ∀ b ∈ bs, sz b ≤ n) : sumz bs ≤ bs.length * n := by
 induction bs with
 | nil => simp [sumz]
 | cons b bs ih =>
  have h1 := ih (fun c hc => h c (List.mem_cons_of_mem _ hc))
  have h2 := h b (List.mem_cons_self ..)
  unfold sumz at h1 ⊢
  simp only [List.map_cons, List.sum_cons, List.length_cons, Nat.add_mul]
  omega
theorem okFn.szle {f : GFunc} (h : okFn f) : ∀ b ∈ f.blocks, sz b ≤ 200000 := fun b hb => by
 have := h.rows b hb
 unfold sz
 omega
theorem okFn.pre_le {f : GFunc} (h : okFn f) (k : Nat) : pre f k ≤ 100000000000 := by
 have h1 := W1w (bs := f.blocks.take k) (n := 200000) (fun b hb => h.szle b (List.mem_of_mem_take hb))
 have h2 := h.blocks
 have h3 := h.params
 have h4 : (f.blocks.take k).length ≤ 100000 := by rw [List.length_take]; omega
 have h5 : (f.blocks.take k).length * 200000 ≤ 100000 * 200000 := Nat.mul_le_mul_right _ h4
 unfold pre
 omega
theorem X3d (f : GFunc) : pre f f.blocks.length = cnt f := by
 unfold pre cnt
 rw [List.take_length]
theorem W0g {f : GFunc} (h : okFn f) : Z1c f = some (cnt f : Int) := by
 unfold Z1c
 generalize hB : Y6 _ _ = L
 have hb := h.blocks
 rw [Y3n hB (fun k => ((pre f k : Int), (k : Int))) f.blocks.length (cnt f : Int) ?_ ?_ ?_]
 ·rfl
 ·simp [pre, sumz]
 ·intro k hk
  have h0 : 0 ≤ (k : Int) ∧ (k : Int) < (f.blocks.length : Int) := by omega
  have h1 := h.rows _ (X5 h0)
  have h2 := h.pre_le k
  have e : ((at_ f.blocks (k : Int)).phis.length : Int) + ((at_ f.blocks (k : Int)).insts.length : Int) = (sz (at_ f.blocks (k : Int)) : Int) := by simp [sz]
  have h3 := h.szle _ (X5 h0)
  simp only
  rw [if_pos (by simp; omega), if_pos h0, if_pos h0, if_pos (Y5 (by omega) (by omega)), e, Z6r (n := (sz _ : Int)) (by omega) (by omega), Z6r (by omega) (by omega), Y4x hk]
  simp
 ·simp only
  rw [if_neg (by simp), X3d]
structure okF (f : GFunc) : Prop where
 ok : okFn f
 nb : f.blocks.length ≤ 10
 nv : cnt f ≤ 60
theorem W3a : okF { params := ([] : List Int), ret := 8, blocks := [({ phis := ([] : List GPhi), insts := [({ op_ := 21, w := 8, a := 0, b := 0, c := 0, imm := 7, args := ([] : List Int) } : GInst)], term := (({ kind := 1, a := 0, x := 0, y := 0 } : GTerm)) } : GBlock)] } := by
 refine ⟨⟨?_, by simp, by simp, .inr (.inl rfl), by simp, by simp, by simp, ?_⟩, by simp, by simp [cnt, sumz, sz]⟩
 ·intro b hb
  simp only [List.mem_singleton] at hb
  subst hb
  refine ⟨⟨by simp, fun i hi => ?_⟩, fun _ => by simp [cnt, sumz, sz], .inl ⟨rfl, rfl, rfl⟩⟩
  simp only [List.mem_singleton] at hi
  subst hi
  exact ⟨.inr ⟨by simp, by simp⟩, by simp [inN, opsI], by simp, Y0j (.inr (.inl rfl)) (by decide)⟩
 ·intro b hb
  simp only [List.mem_singleton] at hb
  subst hb
  constructor <;> simp
theorem X1w {r : Gl1Rd} (hr : okRd r) : Run (Z0r r) (fun y => okRd y.2 ∧ 0 < y.1.funcs.length ∧ y.1.funcs.length ≤ 2 ∧ ∀ f ∈ y.1.funcs, okF f) := by
 have hL := Y4c
 unfold Z0r
 refine Run.bind (U4 hr 2) ?_
 rintro ⟨n, r1⟩ ⟨a1, a2, a3⟩
 have a3 := a3 (by omega)
 simp only at a1 a2 a3 ⊢
 refine Run.yes (Y5 (by omega) (by omega)) (Run.bind (R := fun y => okRd y.1 ∧ 0 < y.2.length ∧ y.2.length ≤ 2 ∧ ∀ f ∈ y.2, okF f) (Run.loop (fun s => okRd s.1 ∧ ((s.2.1.length : Int) + s.2.2.2.2 = 1 + n) ∧ 0 ≤ s.2.2.2.2 ∧ s.2.2.1.length = s.2.1.length ∧ okP s.2.2.1 s.2.2.2.1 ∧ ∀ f ∈ s.2.1, okF f) (fun s => s.2.2.2.2.toNat) ⟨a1, by simp, by simp only; omega, rfl, ⟨rfl, by simp, by simp, by simp⟩, by simp⟩ ?_) ?_)
 ·rintro ⟨ra, fs, rets, pars, i⟩ ⟨b1, b2, b3, b4, b5, b6⟩
  simp only at b1 b2 b3 b4 b5 b6 ⊢
  refine Run.if (fun hi => ?_) (fun hi => Run.out ⟨b1, ?_, ?_, b6⟩)
  ·have hi : i > 0 := by simpa using hi
   refine Run.bind (fn_run b1 b5) ?_
   rintro ⟨f, rb⟩ ⟨c1, c2⟩
   simp only at c1 c2 ⊢
   refine Run.bind (R := okF) (Run.bind (R := fun b => b = false → okF f) (Run.bind (R := fun x => x = (cnt f : Int)) ⟨_, W0g c1, rfl⟩ ?_) ?_) ?_
   ·rintro x rfl
    refine Run.if (fun _ => Run.mk (fun h => by cases h)) (fun hx => Run.mk (fun h => ?_))
    have hx : ¬ (cnt f : Int) > 60 := by simpa using hx
    have h : ¬ (f.blocks.length : Int) > 10 := by simpa using h
    exact ⟨c1, by omega, by omega⟩
   ·intro b hb
    refine Run.if (fun _ => Run.mk W3a) (fun h => Run.mk (hb (by simpa using h)))
   ·intro g hg
    have hp := b5.len
    refine Run.yes (by simp only [List.length_singleton]; omega) (Run.yes (by simp only [List.length_singleton]; omega) (Run.yes (by simp only [List.length_singleton]; omega) (Run.yes (Y5 (by omega) (by omega)) (Run.nx ⟨⟨c2, by simp; omega, by simp only; omega, by simp; omega, ⟨by simp; omega, by simp; omega, ?_, ?_⟩, ?_⟩, by simp only; omega⟩))))
    ·intro w hw
     rcases List.mem_append.1 hw with hw | hw
     ·exact b5.rw_ w hw
     ·simp only [List.mem_singleton] at hw
      subst hw
      exact hg.ok.ret
    ·intro w hw
     rcases List.mem_append.1 hw with hw | hw
     ·exact b5.rows w hw
     ·simp only [List.mem_singleton] at hw
      subst hw
      exact ⟨hg.ok.params, hg.ok.pw⟩
    ·intro w hw
     rcases List.mem_append.1 hw with hw | hw
     ·exact b6 w hw
     ·simp only [List.mem_singleton] at hw
      subst hw
      exact hg
  ·have hi : ¬ i > 0 := by simpa using hi
   simp only; omega
  ·have hi : ¬ i > 0 := by simpa using hi
   simp only; omega
 ·rintro ⟨r2, fs⟩ ⟨b1, b2, b3, b4⟩
  exact Run.mk ⟨b1, b2, b3, b4⟩
end
section
theorem wrap_le (k : Int) : IntKind.i64.wrap k ≤ 9223372036854775807 := by
 have h1 := Int.emod_lt_of_pos k (show (0 : Int) < 18446744073709551616 by omega)
 have e : IntKind.i64.wrap k = if (true && decide (k % 18446744073709551616 ≥ 9223372036854775808)) = true then k % 18446744073709551616 - 18446744073709551616 else k % 18446744073709551616 := rfl
 rw [e]
 by_cases h : k % 18446744073709551616 ≥ 9223372036854775808
 ·rw [if_pos (by simpa using h)]; omega
 ·rw [if_neg (by simpa using h)]; omega
theorem near_le {r : Gl1Rd} {low high : Int} {y : Int × Gl1Rd} (h : Z0a r low high = some y) (h1 : low ≤ 9223372036854775807) (h2 : high ≤ 9223372036854775807) : y.1 ≤ 9223372036854775807 := by
 unfold Z0a at h
 cases e : Z5 r 8 with
 | none => rw [e] at h; cases h
 | some x =>
  rw [e, obs] at h
  split at h
  ·cases h; exact h1
  ·split at h
   ·cases h; exact h2
   ·split at h
    ·cases h; exact h1
    ·cases e2 : Q8 x.2 with
     | none => rw [e2] at h; cases h
     | some w =>
      rw [e2, obs] at h
      split at h
      ·split at h
       ·cases h; exact wrap_le _
       ·cases h
      ·cases h
theorem off_le {r : Gl1Rd} {low high : Int} {y : Int × Gl1Rd} (h : V0 r low high = some y) (h1 : low ≤ 9223372036854775807) (h2 : high ≤ 9223372036854775806) : y.1 ≤ 9223372036854775807 := by
 unfold V0 at h
 cases e : J7 r 24 with
 | none => rw [e] at h; cases h
 | some x =>
  rw [e, obs] at h
  split at h
  ·split at h
   ·split at h
    ·cases e2 : Z5 x.2 4 with
     | none => rw [e2] at h; cases h
     | some w =>
      rw [e2, obs] at h
      split at h
      ·rename_i hw
       have hm := X5 hw
       cases h
       simp only [List.mem_cons, List.not_mem_nil, or_false] at hm
       simp only
       omega
      ·cases h
    ·cases h
   ·cases h
  ·cases e2 : Z0a x.2 low high with
   | none => rw [e2] at h; cases h
   | some w =>
    rw [e2, obs] at h
    cases h
    exact near_le e2 h1 (by omega)
theorem Y0h {r : Gl1Rd} (h : okRd r) {low high : Int} (hl : -1000000 ≤ low) (hlh : low ≤ high) (hh : high ≤ 1000000) : Run (V0 r low high) (fun y => okRd y.2 ∧ y.1 ≤ 9223372036854775807) := by
 obtain ⟨y, e, hy⟩ := off_run h (low := low) (high := high) (Y5 (by omega) (by omega)) (Y5 (by omega) (by omega)) (fun _ => by
  rw [Z6r (by omega) (by omega)]
  refine ⟨Y5 (by omega) (by omega), ?_⟩
  have hk : IntKind.u64.wrap (high - low + 1) = high - low + 1 := IntWalk.u64_in _ (by omega)
  omega)
 exact ⟨y, e, hy, off_le e (by omega) (by omega)⟩
end
section
def endL (t : GTerm) : List Int := if t.kind = 1 ∨ t.kind = 3 then [t.a] else []
def namedB (b : GBlock) : List Int := b.phis.flatMap (·.ins) ++ b.insts.flatMap opsI ++ endL b.term
def all (f : GFunc) : List Int := f.blocks.flatMap namedB
end
section
def pl : List GBlock → Nat → Nat → Option (Nat × Nat)
 | [], _, _ => none
 | x :: xs, b, n => if n < sz x then some (b, n) else pl xs (b + 1) (n - sz x)
def plI : Option (Nat × Nat) → Int × Int
 | none => (-2, 0)
 | some x => ((x.1 : Int), (x.2 : Int))
def W1 (f : GFunc) (id : Int) : Int × Int :=
 if id < 0 then (-2, 0) else if id < (f.params.length : Int) then (-1, id) else plI (pl f.blocks 0 (id - f.params.length).toNat)
theorem W2s : ∀ (xs : List GBlock) (b n : Nat), sumz xs ≤ n → pl xs b n = none
 | [], _, _, _ => rfl
 | x :: xs, b, n, h => by
  have h' : sz x + sumz xs ≤ n := by simpa [sumz] using h
  unfold pl
  rw [if_neg (by omega)]
  exact W2s xs _ _ (by omega)
theorem W2r : ∀ (xs : List GBlock) (b n : Nat), n < sumz xs → ∃ c a, pl xs b n = some (c, a)
 | [], _, _, h => by simp [sumz] at h
 | x :: xs, b, n, h => by
  have h' : n < sz x + sumz xs := by simpa [sumz] using h
  unfold pl
  by_cases hn : n < sz x
  ·rw [if_pos hn]; exact ⟨_, _, rfl⟩
  ·rw [if_neg hn]; exact W2r xs _ _ (by omega)
theorem pl_in : ∀ (xs : List GBlock) (b n c a : Nat), pl xs b n = some (c, a) → b ≤ c ∧ a ≤ n ∧ ∃ x, xs[c - b]? = some x ∧ a < sz x
 | [], _, _, _, _, h => by simp [pl] at h
 | x :: xs, b, n, c, a, h => by
  unfold pl at h
  by_cases hn : n < sz x
  ·rw [if_pos hn] at h
   simp only [Option.some.injEq, Prod.mk.injEq] at h
   obtain ⟨rfl, rfl⟩ := h
   exact ⟨Nat.le_refl _, Nat.le_refl _, x, by simp, hn⟩
  ·rw [if_neg hn] at h
   obtain ⟨h1, h2, y, h3, h4⟩ := pl_in xs _ _ _ _ h
   refine ⟨by omega, by omega, y, ?_, h4⟩
   rw [show c - b = (c - (b + 1)) + 1 from by omega, List.getElem?_cons_succ]
   exact h3
theorem Y7m {f : GFunc} {id : Int} (h : id < 0 ∨ (cnt f : Int) ≤ id) : W1 f id = (-2, 0) := by
 unfold W1
 by_cases h0 : id < 0
 ·rw [if_pos h0]
 ·have h1 : (cnt f : Int) ≤ id := by omega
  unfold cnt at h1
  rw [if_neg h0, if_neg (by omega), W2s _ _ _ (by omega)]
  rfl
theorem W4g {f : GFunc} {k : Nat} (h : k < f.blocks.length) : f.blocks.drop k = at_ f.blocks (k : Int) :: f.blocks.drop (k + 1) := by
 rw [Z5k h]
 exact List.drop_eq_getElem_cons h
noncomputable def typ (f : GFunc) (id : Int) : Int :=
 if (W1 f id).1 = -2 then -1 else if (W1 f id).1 = -1 then at_ f.params (W1 f id).2 else
 if (W1 f id).2 < ((at_ f.blocks (W1 f id).1).phis.length : Int) then (at_ (at_ f.blocks (W1 f id).1).phis (W1 f id).2).w
 else W3 (at_ (at_ f.blocks (W1 f id).1).insts ((W1 f id).2 - (at_ f.blocks (W1 f id).1).phis.length))
theorem Z5d (f : GFunc) (id : Int) : W1 f id = (-2, 0) ∨ (W1 f id = (-1, id) ∧ 0 ≤ id ∧ id < (f.params.length : Int)) ∨
  ((0 ≤ (W1 f id).1 ∧ (W1 f id).1 < (f.blocks.length : Int)) ∧ 0 ≤ (W1 f id).2 ∧ (W1 f id).2 < (sz (at_ f.blocks (W1 f id).1) : Int)) := by
 unfold W1
 by_cases h0 : id < 0
 ·rw [if_pos h0]; exact .inl rfl
 ·rw [if_neg h0]
  by_cases hp : id < (f.params.length : Int)
  ·rw [if_pos hp]; exact .inr (.inl ⟨rfl, by omega, hp⟩)
  ·rw [if_neg hp]
   cases e : pl f.blocks 0 (id - (f.params.length : Int)).toNat with
   | none => exact .inl rfl
   | some x =>
    obtain ⟨c, a⟩ := x
    obtain ⟨_, _, x, h1, h2⟩ := pl_in _ _ _ _ _ e
    have hc : c < f.blocks.length := by
     have := (List.getElem?_eq_some_iff.1 h1).1
     omega
    refine .inr (.inr ⟨⟨by simp [plI], by simp only [plI]; omega⟩, by simp [plI], ?_⟩)
    simp only [plI]
    rw [Z5k hc]
    have := (List.getElem?_eq_some_iff.1 h1).2
    simp only [Nat.sub_zero] at this
    rw [this]
    omega
theorem W5d {i : GInst} (h : okI i) : Z4c i = W3 i := by
 unfold Z4c W3 U3 Z3 Z7 Z2d W6 U3 Z3 Z7 X0 Y4
 by_cases h1 : i.op_ ≥ 1 ∧ i.op_ ≤ 17
 ·have e : (decide (i.op_ ≥ 1) && decide (i.op_ ≤ 17)) = true := by simp [h1.1, h1.2]
  simp [e]
 ·have e : (decide (i.op_ ≥ 1) && decide (i.op_ ≤ 17)) = false := by
   cases hx : (decide (i.op_ ≥ 1) && decide (i.op_ ≤ 17)) with
   | false => rfl
   | true => exact absurd (by simpa using hx) h1
  simp only [e]
  rcases h with h | ⟨h2, h3⟩
  ·simp [h]
  ·simp [h2, h3]
end
end Go.Proofs.YtghdhjgoicnbcaaGreat.AM
