import Derived.Test.YtghdhjgoicnbcaaGreatMc3
set_option linter.unusedVariables false
set_option linter.unusedSimpArgs false
namespace Go.Proofs.YtghdhjgoicnbcaaGreat.AM
open Go
section
set_option maxHeartbeats 8000000
set_option maxRecDepth 100000
attribute [local irreducible] aopK K0 Wp St WpO
noncomputable def Y1b (code : List Int) : Bool :=
 (decide (((List.length code : Int)) > 1048576))
theorem X5v (code : List Int) : Sim Tryz.prog 13 [.one (.bs () 1 (List.map (iK .u8) code))] [] (.u (.one (.bool ((Y1b code))))) [] := by
 generalize hm : Y1b code = r
 refine fN 6 0 Tryz.func13 [.tmp 2] fun B hB0 => ?_
 unfold Y1b at hm
 refine yG ?_
 intro k1 hm
 cases hm
 exact rZ1
noncomputable def Z3c (code : List Int) : Gl1Rd :=
 (({ b := code, p := 0 } : Gl1Rd))
theorem Y2s (code : List Int) : Sim Tryz.prog 58 [.one (.bs () 1 (List.map (iK .u8) code))] [] (.u (.one (.ptr () 0 0 0))) [⟨(), 2, [J3 false ((Z3c code))]⟩] := by
 generalize hm : Z3c code = r
 refine fN 6 0 Tryz.func58 [.tmp 2] fun B hB0 => ?_
 unfold Z3c at hm
 refine yG ?_
 intro _ hm
 cases hm
 exact rG1 [0]
noncomputable def Q9 (vr : Gl1Rd) : Option (Int × Gl1Rd) :=
 (if decide (vr.p ≥ ((List.length vr.b : Int))) = true then
 (some ((0, vr)))
 else
 (if inI (vr.p + 1) then
 (if inI (((({ b := vr.b, p := vr.p + 1 } : Gl1Rd)).p) - 1) then
 (if 0 ≤ (((({ b := vr.b, p := vr.p + 1 } : Gl1Rd)).p) - 1) ∧ (((({ b := vr.b, p := vr.p + 1 } : Gl1Rd)).p) - 1) < (List.length ((({ b := vr.b, p := vr.p + 1 } : Gl1Rd)).b) : Int) then
 (some ((IntKind.i64.wrap (at_ ((({ b := vr.b, p := vr.p + 1 } : Gl1Rd)).b) (((({ b := vr.b, p := vr.p + 1 } : Gl1Rd)).p) - 1)), ({ b := vr.b, p := vr.p + 1 } : Gl1Rd))))
 else none)
 else none)
 else none))
theorem Z4h {vr : Gl1Rd} {r : Int × Gl1Rd} (hm : Q9 vr = some r) : Sim Tryz.prog 115 [.one (.ptr () 0 0 0)] [⟨(), 2, [J3 false vr]⟩] (.u (.one (.int .i64 r.1))) [⟨(), 2, [J3 false r.2]⟩] := by
 refine fN 32 1 Tryz.func115 [.tmp 2] fun B hB0 => ?_
 unfold Q9 at hm
 refine Wp.seq ?_
 refine X4 ?_
 refine nO (x_as rfl rfl ?_)
 refine W5 ?_
 refine Wp.seq ?_
 refine Wp.seq ?_
 refine Z3m (Y := sysC _) Z3i ?_
 refine tK 0 0 rfl (kV ?_)
 refine tK 1 1 rfl (kN ?_)
 refine tK 2 1 rfl (kF ?_)
 refine tK 3 1 rfl (kD ?_)
 refine tK 4 0 rfl (kV ?_)
 refine tK 5 1 rfl (kN ?_)
 refine tK 6 1 rfl (kF ?_)
 refine tK 7 1 rfl (kD ?_)
 refine tK 8 0 rfl (Y7q N22 rfl fun hL1 => ?_)
 refine tK 9 0 rfl (Z2n T3 rfl rfl rfl ?_)
 refine aN ?_
 refine bS hm (fun hb2 hm => ?_) fun hb2 hm => ?_
 refine yG ?_
 intro _ hm
 cases hm
 exact rG1 [0]
 refine K3 ?_
 refine Wp.seq ?_
 refine X4 ?_
 refine yR ?_
 intro k1 hm
 refine W5 ?_
 refine Wp.seq ?_
 refine Z3m (Y := sysC _) Z3i ?_
 refine tK 0 0 rfl (kV ?_)
 refine tK 1 1 rfl (kN ?_)
 refine tK 2 1 rfl (kF ?_)
 refine tK 3 1 rfl (kD ?_)
 refine tK 4 0 rfl (kV ?_)
 refine tK 5 1 rfl (kN ?_)
 refine tK 6 1 rfl (kF ?_)
 refine tK 7 1 rfl (kD ?_)
 obtain ⟨h4, hm⟩ := Y1 hm
 refine tK 8 0 rfl (X7v T3 rfl rfl h4 ?_)
 obtain ⟨h5, hm⟩ := Y1 hm
 refine tK 9 0 rfl (Z8q E22 rfl rfl h5 ?_)
 refine tK 10 0 rfl (K8 T5 rfl rfl rfl ?_)
 refine tK 11 0 rfl (W5a T5 T3 rfl rfl ?_)
 refine tK 12 0 rfl (x_as rfl rfl ?_)
 refine aN ?_
 refine Z1s ?_
 cases hm
 exact rG1 [0]
noncomputable def Z5 (vr : Gl1Rd) (n : Int) : Option (Int × Gl1Rd) :=
 (if decide (n ≤ 1) = true then
 (some ((0, vr)))
 else
 (if decide (n ≤ 256) = true then
 (Option.bind (Q9 vr) fun x3 =>
 (if n ≠ 0 then
 (some ((Int.tmod x3.1 n, x3.2)))
 else none))
 else
 (Option.bind (Q9 vr) fun x6 =>
 (Option.bind (Q9 x6.2) fun x8 =>
 (if n ≠ 0 then
 (some ((Int.tmod (IntKind.i64.wrap ((IntKind.i64.wrap (x6.1 * 256)) + x8.1)) n, x8.2)))
 else none)))))
theorem Z2 {vr : Gl1Rd} {n : Int} {r : Int × Gl1Rd} (hm : Z5 vr n = some r) : Sim Tryz.prog 60 [.one (.ptr () 0 0 0), .one (.int .i64 n)] [⟨(), 2, [J3 false vr]⟩] (.u (.one (.int .i64 r.1))) [⟨(), 2, [J3 false r.2]⟩] := by
 refine fN 24 1 Tryz.func60 [.tmp 4] fun B hB0 => ?_
 have fW := trivial
 unfold Z5 at hm
 refine yG ?_
 intro _ hm
 refine bS hm (fun hb1 hm => ?_) fun hb1 hm => ?_
 refine yG ?_
 intro _ hm
 cases hm
 exact rG1 [0]
 refine yG ?_
 intro _ hm
 refine bS hm (fun hb2 hm => ?_) fun hb2 hm => ?_
 refine yG ?_
 intro _ hm
 obtain ⟨x3, h4, hm⟩ := Z0 hm
 refine nO (cG [0] (Z4h h4) ?_)
 refine yG ?_
 intro k1 hm
 cases hm
 exact rG1 [0]
 refine yG ?_
 intro _ hm
 obtain ⟨x6, h7, hm⟩ := Z0 hm
 refine nO (cG [0] (Z4h h7) ?_)
 refine yG ?_
 intro _ hm
 obtain ⟨x8, h9, hm⟩ := Z0 hm
 refine nO (cG [0] (Z4h h9) ?_)
 refine nO (Y2m T3 rfl rfl rfl ?_)
 refine yG ?_
 intro k2 hm
 cases hm
 exact rG1 [0]
noncomputable def J7 (vr : Gl1Rd) (n : Int) : Option (Bool × Gl1Rd) :=
 (Option.bind (Z5 vr n) fun x1 =>
 (if inI (n - 1) then
 (some (((x1.1 == (n - 1)), x1.2)))
 else none))
theorem Z4g {vr : Gl1Rd} {n : Int} {r : Bool × Gl1Rd} (hm : J7 vr n = some r) : Sim Tryz.prog 61 [.one (.ptr () 0 0 0), .one (.int .i64 n)] [⟨(), 2, [J3 false vr]⟩] (.u (.one (.bool r.1))) [⟨(), 2, [J3 false r.2]⟩] := by
 refine fN 11 1 Tryz.func61 [.tmp 4] fun B hB0 => ?_
 unfold J7 at hm
 refine yG ?_
 intro _ hm
 obtain ⟨x1, h2, hm⟩ := Z0 hm
 refine nO (cG [0] (Z2 h2) ?_)
 refine yG ?_
 intro k1 hm
 cases hm
 exact rG1 [0]
noncomputable def J8 (vr : Gl1Rd) : Option (Int × Gl1Rd) :=
 (Option.bind (Z5 vr 4) fun x1 =>
 (if 0 ≤ x1.1 ∧ x1.1 < (List.length ([32, 8, 1, 16]) : Int) then
 (some ((at_ ([32, 8, 1, 16]) x1.1, x1.2)))
 else none))
theorem Z1k {vr : Gl1Rd} {r : Int × Gl1Rd} (hm : J8 vr = some r) : Sim Tryz.prog 63 [.one (.ptr () 0 0 0)] [⟨(), 2, [J3 false vr]⟩] (.u (.one (.int .i64 r.1))) [⟨(), 2, [J3 false r.2]⟩] := by
 refine fN 8 1 Tryz.func63 [.tmp 2] fun B hB0 => ?_
 unfold J8 at hm
 refine yG ?_
 intro _ hm
 refine nO (kM (iL) ([32, 8, 1, 16]) ?_)
 refine yG ?_
 intro _ hm
 obtain ⟨x1, h2, hm⟩ := Z0 hm
 refine nO (cG [0] (Z2 h2) ?_)
 refine yG ?_
 intro k1 hm
 cases hm
 exact rG1 [0]
noncomputable def Z2f (g : Gl2G) (gr : Gl1Rd) (grets : List Int) (gpars : List (List Int)) (w : Int) : Option (Int × Gl2G × Gl1Rd) :=
 (Option.bind ((if (List.length (([] : List Int)) + List.length g.ids) * 8 ≤ 140737488355328 ∧ List.length (([] : List Int)) + List.length g.ids ≤ LIM then
 (if (List.length ((([] : List Int)) ++ g.ids) + List.length ([g.next])) * 8 ≤ 140737488355328 ∧ List.length ((([] : List Int)) ++ g.ids) + List.length ([g.next]) ≤ LIM then
 (some (()))
 else none)
 else none)) fun (j1 : Unit) =>
 (if (List.length (([] : List Int)) + List.length ((({ f := g.f, b := g.b, next := g.next, ids := ((([] : List Int)) ++ g.ids) ++ ([g.next]), ws := g.ws } : Gl2G)).ws)) * 8 ≤ 140737488355328 ∧ List.length (([] : List Int)) + List.length ((({ f := g.f, b := g.b, next := g.next, ids := ((([] : List Int)) ++ g.ids) ++ ([g.next]), ws := g.ws } : Gl2G)).ws) ≤ LIM then
 (if (List.length ((([] : List Int)) ++ ((({ f := g.f, b := g.b, next := g.next, ids := ((([] : List Int)) ++ g.ids) ++ ([g.next]), ws := g.ws } : Gl2G)).ws)) + List.length ([w])) * 8 ≤ 140737488355328 ∧ List.length ((([] : List Int)) ++ ((({ f := g.f, b := g.b, next := g.next, ids := ((([] : List Int)) ++ g.ids) ++ ([g.next]), ws := g.ws } : Gl2G)).ws)) + List.length ([w]) ≤ LIM then
 (if inI (((({ f := g.f, b := g.b, next := g.next, ids := ((([] : List Int)) ++ g.ids) ++ ([g.next]), ws := g.ws } : Gl2G)).next) + 1) then
 (if inI ((((({ f := g.f, b := g.b, next := g.next, ids := ((([] : List Int)) ++ g.ids) ++ ([g.next]), ws := g.ws } : Gl2G)).next) + 1) - 1) then
 (some (((((({ f := g.f, b := g.b, next := g.next, ids := ((([] : List Int)) ++ g.ids) ++ ([g.next]), ws := g.ws } : Gl2G)).next) + 1) - 1, ({ f := ((({ f := g.f, b := g.b, next := g.next, ids := ((([] : List Int)) ++ g.ids) ++ ([g.next]), ws := g.ws } : Gl2G)).f), b := ({ phis := ((({ f := g.f, b := g.b, next := g.next, ids := ((([] : List Int)) ++ g.ids) ++ ([g.next]), ws := g.ws } : Gl2G)).b).phis, insts := ((({ f := g.f, b := g.b, next := g.next, ids := ((([] : List Int)) ++ g.ids) ++ ([g.next]), ws := g.ws } : Gl2G)).b).insts, term := (((({ f := g.f, b := g.b, next := g.next, ids := ((([] : List Int)) ++ g.ids) ++ ([g.next]), ws := g.ws } : Gl2G)).b).term) } : GBlock), next := ((({ f := g.f, b := g.b, next := g.next, ids := ((([] : List Int)) ++ g.ids) ++ ([g.next]), ws := g.ws } : Gl2G)).next) + 1, ids := (({ f := g.f, b := g.b, next := g.next, ids := ((([] : List Int)) ++ g.ids) ++ ([g.next]), ws := g.ws } : Gl2G)).ids, ws := ((([] : List Int)) ++ ((({ f := g.f, b := g.b, next := g.next, ids := ((([] : List Int)) ++ g.ids) ++ ([g.next]), ws := g.ws } : Gl2G)).ws)) ++ ([w]) } : Gl2G), gr)))
 else none)
 else none)
 else none)
 else none))
theorem Z8u {g : Gl2G} {gr : Gl1Rd} {grets : List Int} {gpars : List (List Int)} {w : Int} {r : Int × Gl2G × Gl1Rd} (hm : Z2f g gr grets gpars w = some r) : Sim Tryz.prog 192 [.one (.ptr () 0 0 0), .one (.int .i64 w)] [⟨(), 15, [hl2G (.ptr () 1 0 0) (.ref () 2 0 (List.length grets)) (.ref () 3 0 (List.length gpars)) g]⟩, ⟨(), 2, [J3 false gr]⟩, ⟨(), 1, List.map iL grets⟩, ⟨(), 1, List.map (lL false 1 iL) gpars⟩] (.u (.one (.int .i64 r.1))) [⟨(), 15, [hl2G (.ptr () 1 0 0) (.ref () 2 0 (List.length grets)) (.ref () 3 0 (List.length gpars)) r.2.1]⟩, ⟨(), 2, [J3 false r.2.2]⟩, ⟨(), 1, List.map iL grets⟩, ⟨(), 1, List.map (lL false 1 iL) gpars⟩] := by
 refine fN 44 4 Tryz.func192 [.tmp 4] fun B hB0 => ?_
 unfold Z2f at hm
 refine Wp.seq ?_
 refine X4 ?_
 refine nO (x_as rfl rfl ?_)
 refine W5 ?_
 refine Wp.seq ?_
 obtain ⟨j1, hj4, hm⟩ := Z0 hm
 refine V6 (St 44 [(0, vP 0), (1, vI w)] [(0, oL 15 (hl2G (.ptr () 1 0 0) (.ref () 2 0 (List.length grets)) (.ref () 3 0 (List.length gpars)) (({ f := g.f, b := g.b, next := g.next, ids := ((([] : List Int)) ++ g.ids) ++ ([g.next]), ws := g.ws } : Gl2G)))), (1, oL 2 (J3 false gr)), (2, oM 1 iL grets), (3, oM 1 (lL false 1 iL) gpars)] 4) ?_ ?_
 replace hm := hj4
 refine Z3m (Y := sysC _) Z3i ?_
 refine tK 0 0 rfl (kV ?_)
 refine tK 2 0 rfl (kV ?_)
 refine tD 3 1 [4, 5, 6, 12, 13, 14, 15] rfl (kN ?_)
 refine tD 4 1 [5, 6, 12, 13, 14, 15] rfl (kF ?_)
 refine tD 5 1 [6, 12, 13, 14, 15] rfl (kD ?_)
 refine tK 7 0 rfl (kV ?_)
 refine t_2 1 8 rfl rfl (by decide +kernel) ?_ ?_
 refine (kM (iL) (([] : List Int)) ?_)
 refine t_2 6 8 rfl rfl (by decide +kernel) ?_ ?_
 obtain ⟨h2, hm⟩ := Y1 hm
 refine (kA h2 ?_)
 refine tD 8 1 [9, 10, 11, 12, 13, 14, 15] rfl (kN ?_)
 refine tD 9 1 [10, 11, 12, 13, 14, 15] rfl (kF ?_)
 refine tD 10 1 [11, 12, 13, 14, 15] rfl (kD ?_)
 refine oK 11 rfl (kM (iL) ([g.next]) ?_)
 obtain ⟨h3, hm⟩ := Y1 hm
 refine oK 12 rfl (kA h3 ?_)
 refine tD 13 1 [14, 15] rfl (kN ?_)
 refine tK 14 1 rfl (kF ?_)
 refine oK 15 rfl (kS ?_)
 refine aN ?_
 cases hm
 exact (GhB.trans (q_cl 0 7 11) ((GhB.trans (q_cb 0 11) (vW [0, 1, 2, 3]))))
 refine (kN ?_)
 refine t_2 6 9 rfl rfl (by decide +kernel) ?_ ?_
 obtain ⟨h2, hm⟩ := Y1 hm
 refine (kA h2 ?_)
 refine tD 9 1 [10, 11, 12, 13, 14, 15] rfl (kF ?_)
 refine tD 10 1 [11, 12, 13, 14, 15] rfl (kD ?_)
 refine oK 11 rfl (kM (iL) ([g.next]) ?_)
 obtain ⟨h3, hm⟩ := Y1 hm
 refine oK 12 rfl (kA h3 ?_)
 refine tD 13 1 [14, 15] rfl (kN ?_)
 refine tK 14 1 rfl (kF ?_)
 refine oK 15 rfl (kS ?_)
 refine aN ?_
 cases hm
 exact (GhB.trans (q_cl 0 7 11) ((GhB.trans (q_cb 0 11) (vW [0, 1, 2, 3]))))
 refine (kF ?_)
 refine t_2 6 10 rfl rfl (by decide +kernel) ?_ ?_
 obtain ⟨h2, hm⟩ := Y1 hm
 refine (kA h2 ?_)
 refine tD 10 1 [11, 12, 13, 14, 15] rfl (kD ?_)
 refine oK 11 rfl (kM (iL) ([g.next]) ?_)
 obtain ⟨h3, hm⟩ := Y1 hm
 refine oK 12 rfl (kA h3 ?_)
 refine tD 13 1 [14, 15] rfl (kN ?_)
 refine tK 14 1 rfl (kF ?_)
 refine oK 15 rfl (kS ?_)
 refine aN ?_
 cases hm
 exact (GhB.trans (q_cl 0 7 11) ((GhB.trans (q_cb 0 11) (vW [0, 1, 2, 3]))))
 refine (kD ?_)
 refine t_2 6 11 rfl rfl (by decide +kernel) ?_ ?_
 obtain ⟨h2, hm⟩ := Y1 hm
 refine (kA h2 ?_)
 refine oK 11 rfl (kM (iL) ([g.next]) ?_)
 obtain ⟨h3, hm⟩ := Y1 hm
 refine oK 12 rfl (kA h3 ?_)
 refine tD 13 1 [14, 15] rfl (kN ?_)
 refine tK 14 1 rfl (kF ?_)
 refine oK 15 rfl (kS ?_)
 refine aN ?_
 cases hm
 exact (GhB.trans (q_cl 0 7 11) ((GhB.trans (q_cb 0 11) (vW [0, 1, 2, 3]))))
 refine (kM (iL) ([g.next]) ?_)
 obtain ⟨h2, hm⟩ := Y1 hm
 refine oK 6 rfl (kA h2 ?_)
 obtain ⟨h3, hm⟩ := Y1 hm
 refine oK 12 rfl (kA h3 ?_)
 refine tD 13 1 [14, 15] rfl (kN ?_)
 refine tK 14 1 rfl (kF ?_)
 refine oK 15 rfl (kS ?_)
 refine aN ?_
 cases hm
 exact (GhB.trans (q_cl 0 7 11) ((GhB.trans (q_cb 0 11) (vW [0, 1, 2, 3]))))
 refine (kN ?_)
 refine t_2 1 9 rfl rfl (by decide +kernel) ?_ ?_
 refine (kM (iL) (([] : List Int)) ?_)
 refine t_2 6 9 rfl rfl (by decide +kernel) ?_ ?_
 obtain ⟨h2, hm⟩ := Y1 hm
 refine (kA h2 ?_)
 refine tD 9 1 [10, 11, 12, 13, 14, 15] rfl (kF ?_)
 refine tD 10 1 [11, 12, 13, 14, 15] rfl (kD ?_)
 refine oK 11 rfl (kM (iL) ([g.next]) ?_)
 obtain ⟨h3, hm⟩ := Y1 hm
 refine oK 12 rfl (kA h3 ?_)
 refine tD 13 1 [14, 15] rfl (kN ?_)
 refine tK 14 1 rfl (kF ?_)
 refine oK 15 rfl (kS ?_)
 refine aN ?_
 cases hm
 exact (GhB.trans (q_cl 0 7 11) ((GhB.trans (q_cb 0 11) (vW [0, 1, 2, 3]))))
 refine (kF ?_)
 refine t_2 6 10 rfl rfl (by decide +kernel) ?_ ?_
 obtain ⟨h2, hm⟩ := Y1 hm
 refine (kA h2 ?_)
 refine tD 10 1 [11, 12, 13, 14, 15] rfl (kD ?_)
 refine oK 11 rfl (kM (iL) ([g.next]) ?_)
 obtain ⟨h3, hm⟩ := Y1 hm
 refine oK 12 rfl (kA h3 ?_)
 refine tD 13 1 [14, 15] rfl (kN ?_)
 refine tK 14 1 rfl (kF ?_)
 refine oK 15 rfl (kS ?_)
 refine aN ?_
 cases hm
 exact (GhB.trans (q_cl 0 7 11) ((GhB.trans (q_cb 0 11) (vW [0, 1, 2, 3]))))
 refine (kD ?_)
 refine t_2 6 11 rfl rfl (by decide +kernel) ?_ ?_
 obtain ⟨h2, hm⟩ := Y1 hm
 refine (kA h2 ?_)
 refine oK 11 rfl (kM (iL) ([g.next]) ?_)
 obtain ⟨h3, hm⟩ := Y1 hm
 refine oK 12 rfl (kA h3 ?_)
 refine tD 13 1 [14, 15] rfl (kN ?_)
 refine tK 14 1 rfl (kF ?_)
 refine oK 15 rfl (kS ?_)
 refine aN ?_
 cases hm
 exact (GhB.trans (q_cl 0 7 11) ((GhB.trans (q_cb 0 11) (vW [0, 1, 2, 3]))))
 refine (kM (iL) ([g.next]) ?_)
 obtain ⟨h2, hm⟩ := Y1 hm
 refine oK 6 rfl (kA h2 ?_)
 obtain ⟨h3, hm⟩ := Y1 hm
 refine oK 12 rfl (kA h3 ?_)
 refine tD 13 1 [14, 15] rfl (kN ?_)
 refine tK 14 1 rfl (kF ?_)
 refine oK 15 rfl (kS ?_)
 refine aN ?_
 cases hm
 exact (GhB.trans (q_cl 0 7 11) ((GhB.trans (q_cb 0 11) (vW [0, 1, 2, 3]))))
 refine (kF ?_)
 refine t_2 1 10 rfl rfl (by decide +kernel) ?_ ?_
 refine (kM (iL) (([] : List Int)) ?_)
 refine t_2 6 10 rfl rfl (by decide +kernel) ?_ ?_
 obtain ⟨h2, hm⟩ := Y1 hm
 refine (kA h2 ?_)
 refine tD 10 1 [11, 12, 13, 14, 15] rfl (kD ?_)
 refine oK 11 rfl (kM (iL) ([g.next]) ?_)
 obtain ⟨h3, hm⟩ := Y1 hm
 refine oK 12 rfl (kA h3 ?_)
 refine tD 13 1 [14, 15] rfl (kN ?_)
 refine tK 14 1 rfl (kF ?_)
 refine oK 15 rfl (kS ?_)
 refine aN ?_
 cases hm
 exact (GhB.trans (q_cl 0 7 11) ((GhB.trans (q_cb 0 11) (vW [0, 1, 2, 3]))))
 refine (kD ?_)
 refine t_2 6 11 rfl rfl (by decide +kernel) ?_ ?_
 obtain ⟨h2, hm⟩ := Y1 hm
 refine (kA h2 ?_)
 refine oK 11 rfl (kM (iL) ([g.next]) ?_)
 obtain ⟨h3, hm⟩ := Y1 hm
 refine oK 12 rfl (kA h3 ?_)
 refine tD 13 1 [14, 15] rfl (kN ?_)
 refine tK 14 1 rfl (kF ?_)
 refine oK 15 rfl (kS ?_)
 refine aN ?_
 cases hm
 exact (GhB.trans (q_cl 0 7 11) ((GhB.trans (q_cb 0 11) (vW [0, 1, 2, 3]))))
 refine (kM (iL) ([g.next]) ?_)
 obtain ⟨h2, hm⟩ := Y1 hm
 refine oK 6 rfl (kA h2 ?_)
 obtain ⟨h3, hm⟩ := Y1 hm
 refine oK 12 rfl (kA h3 ?_)
 refine tD 13 1 [14, 15] rfl (kN ?_)
 refine tK 14 1 rfl (kF ?_)
 refine oK 15 rfl (kS ?_)
 refine aN ?_
 cases hm
 exact (GhB.trans (q_cl 0 7 11) ((GhB.trans (q_cb 0 11) (vW [0, 1, 2, 3]))))
 refine (kD ?_)
 refine t_2 1 11 rfl rfl (by decide +kernel) ?_ ?_
 refine (kM (iL) (([] : List Int)) ?_)
 refine t_2 6 11 rfl rfl (by decide +kernel) ?_ ?_
 obtain ⟨h2, hm⟩ := Y1 hm
 refine (kA h2 ?_)
 refine oK 11 rfl (kM (iL) ([g.next]) ?_)
 obtain ⟨h3, hm⟩ := Y1 hm
 refine oK 12 rfl (kA h3 ?_)
 refine tD 13 1 [14, 15] rfl (kN ?_)
 refine tK 14 1 rfl (kF ?_)
 refine oK 15 rfl (kS ?_)
 refine aN ?_
 cases hm
 exact (GhB.trans (q_cl 0 7 11) ((GhB.trans (q_cb 0 11) (vW [0, 1, 2, 3]))))
 refine (kM (iL) ([g.next]) ?_)
 obtain ⟨h2, hm⟩ := Y1 hm
 refine oK 6 rfl (kA h2 ?_)
 obtain ⟨h3, hm⟩ := Y1 hm
 refine oK 12 rfl (kA h3 ?_)
 refine tD 13 1 [14, 15] rfl (kN ?_)
 refine tK 14 1 rfl (kF ?_)
 refine oK 15 rfl (kS ?_)
 refine aN ?_
 cases hm
 exact (GhB.trans (q_cl 0 7 11) ((GhB.trans (q_cb 0 11) (vW [0, 1, 2, 3]))))
 refine (kM (iL) ([g.next]) ?_)
 refine oK 1 rfl (kM (iL) (([] : List Int)) ?_)
 obtain ⟨h2, hm⟩ := Y1 hm
 refine oK 6 rfl (kA h2 ?_)
 obtain ⟨h3, hm⟩ := Y1 hm
 refine oK 12 rfl (kA h3 ?_)
 refine tD 13 1 [14, 15] rfl (kN ?_)
 refine tK 14 1 rfl (kF ?_)
 refine oK 15 rfl (kS ?_)
 refine aN ?_
 cases hm
 exact (GhB.trans (q_cl 0 7 11) ((GhB.trans (q_cb 0 11) (vW [0, 1, 2, 3]))))
 refine yG ?_
 intro _ hm
 refine nO (kM (iL) (([] : List Int)) ?_)
 refine yG ?_
 intro k1 hm
 refine nO (kM (iL) ([w]) ?_)
 refine yR ?_
 intro k2 hm
 refine W5 ?_
 refine Wp.seq ?_
 refine gH (q_cl 0 7 12) ?_
 refine gH (q_cb 0 12) ?_
 refine yG ?_
 intro k3 hm
 cases hm
 exact rG1 [0, 1, 2, 3]
noncomputable def Q8 (vr : Gl1Rd) : Option (Int × Gl1Rd) :=
 (Option.bind (Y6 (fun (st1 : Gl1Rd × Int × Int) =>
 ((if decide (st1.2.2 < 8) = true then
 (Option.bind (Q9 st1.1) fun x4 =>
 (if inI (st1.2.2 + 1) then
 (some (Sum.inl ((x4.2, bits .or .u64 (IntKind.u64.wrap (st1.2.1 * 2 ^ min (Int.toNat 8) (IntKind.bits .u64))) (IntKind.u64.wrap x4.1), st1.2.2 + 1))))
 else none))
 else
 (some (Sum.inr (((st1.1, st1.2.1)))))) : Option ((Gl1Rd × Int × Int) ⊕ ((Gl1Rd × Int))))) (vr, 0, 0)) fun (j2 : Gl1Rd × Int) =>
 (some ((j2.2, j2.1))))
theorem Y0g {vr : Gl1Rd} {r : Int × Gl1Rd} (hm : Q8 vr = some r) : Sim Tryz.prog 197 [.one (.ptr () 0 0 0)] [⟨(), 2, [J3 false vr]⟩] (.u (.one (.int .u64 r.1))) [⟨(), 2, [J3 false r.2]⟩] := by
 refine fN 16 1 Tryz.func197 [.tmp 2] fun B hB0 => ?_
 unfold Q8 at hm
 refine yG ?_
 intro _ hm
 obtain ⟨j2, hl8, hm⟩ := Z0 hm
 refine lP hl8 (fun st1 => St 16 [(0, vP 0), (3, .u (.one (.int .u64 st1.2.1))), (4, vI st1.2.2)] [(0, oL 2 (J3 false st1.1))] 1) (fun j2 => (.exit 0, St 16 [(3, .u (.one (.int .u64 j2.2)))] [(0, oL 2 (J3 false j2.1))] 1)) (vW [0]) ?_ ?_
 intro st1 x hm
 refine yG ?_
 intro _ hm
 refine bS hm (fun hb3 hm => ?_) fun hb3 hm => ?_
 refine yG ?_
 intro _ hm
 obtain ⟨x4, h5, hm⟩ := Z0 hm
 refine nO (cG [0] (Z4h h5) ?_)
 refine yG ?_
 intro k1 hm
 cases hm
 exact ⟨rfl, vW [0]⟩
 refine V2 ?_
 cases hm
 exact ⟨rfl, vW [0]⟩
 refine yG ?_
 intro _ hm
 cases hm
 exact rG1 [0]
noncomputable def Z1h (vr : Gl1Rd) (w : Int) : Option (Int × Gl1Rd) :=
 (if 0 ≤ (IntKind.u64.wrap w) then
 (Option.bind (Z5 vr 7) fun x2 =>
 (if (x2.1 == 0) = true then
 (some ((0, x2.2)))
 else
 (if (x2.1 == 1) = true then
 (some ((1, x2.2)))
 else
 (if (x2.1 == 2) = true then
 (if inI ((IntKind.i64.wrap (1 * 2 ^ min (Int.toNat (IntKind.u64.wrap w)) (IntKind.bits .i64))) - 1) then
 (some (((IntKind.i64.wrap (1 * 2 ^ min (Int.toNat (IntKind.u64.wrap w)) (IntKind.bits .i64))) - 1, x2.2)))
 else none)
 else
 (if (x2.1 == 3) = true then
 (some ((IntKind.i64.wrap (Int.tdiv (IntKind.i64.wrap (1 * 2 ^ min (Int.toNat (IntKind.u64.wrap w)) (IntKind.bits .i64))) 2), x2.2)))
 else
 (Option.bind (Q8 x2.2) fun x9 =>
 (if (IntKind.i64.wrap (1 * 2 ^ min (Int.toNat (IntKind.u64.wrap w)) (IntKind.bits .i64))) ≠ 0 then
 (some ((Int.tmod (IntKind.i64.wrap (x9.1 / 2 ^ min (Int.toNat 1) (IntKind.bits .u64))) (IntKind.i64.wrap (1 * 2 ^ min (Int.toNat (IntKind.u64.wrap w)) (IntKind.bits .i64))), x9.2)))
 else none)))))))
 else none)
theorem Z9r {vr : Gl1Rd} {w : Int} {r : Int × Gl1Rd} (hm : Z1h vr w = some r) : Sim Tryz.prog 239 [.one (.ptr () 0 0 0), .one (.int .i64 w)] [⟨(), 2, [J3 false vr]⟩] (.u (.one (.int .i64 r.1))) [⟨(), 2, [J3 false r.2]⟩] := by
 refine fN 29 1 Tryz.func239 [.tmp 4] fun B hB0 => ?_
 unfold Z1h at hm
 refine yG ?_
 intro k1 hm
 obtain ⟨x2, h3, hm⟩ := Z0 hm
 refine nO (cG [0] (Z2 h3) ?_)
 refine yG ?_
 intro _ hm
 refine bS hm (fun hb4 hm => ?_) fun hb4 hm => ?_
 refine yG ?_
 intro _ hm
 cases hm
 exact rG1 [0]
 refine yG ?_
 intro _ hm
 refine bS hm (fun hb5 hm => ?_) fun hb5 hm => ?_
 refine yG ?_
 intro _ hm
 cases hm
 exact rG1 [0]
 refine yG ?_
 intro _ hm
 refine bS hm (fun hb6 hm => ?_) fun hb6 hm => ?_
 refine yG ?_
 intro k2 hm
 cases hm
 exact rG1 [0]
 refine yG ?_
 intro _ hm
 refine bS hm (fun hb8 hm => ?_) fun hb8 hm => ?_
 refine yG ?_
 intro _ hm
 cases hm
 exact rG1 [0]
 refine yG ?_
 intro _ hm
 obtain ⟨x9, h10, hm⟩ := Z0 hm
 refine nO (cG [0] (Y0g h10) ?_)
 refine yG ?_
 intro k3 hm
 cases hm
 exact rG1 [0]
noncomputable def Z7 (n : Int) (low : Int) (high : Int) : Bool :=
 ((decide (n ≥ low) && decide (n ≤ high)))
theorem V3 (n : Int) (low : Int) (high : Int) : Sim Tryz.prog 81 [.one (.int .i64 n), .one (.int .i64 low), .one (.int .i64 high)] [] (.u (.one (.bool ((Z7 n low high))))) [] := by
 generalize hm : Z7 n low high = r
 refine fN 15 0 Tryz.func81 [.tmp 6] fun B hB0 => ?_
 unfold Z7 at hm
 refine Wp.seq ?_
 refine X4 ?_
 refine nO (x_as rfl rfl ?_)
 refine W5 ?_
 refine Wp.seq ?_
 refine V6 (St 15 [(6, vB ((decide (n ≥ low) && decide (n ≤ high))))] [] 0) ?_ ?_
 refine yG ?_
 intro _ hm
 refine gO_s rfl rfl rfl (fun hb2 => ?_) (fun hb2 => ?_)
 refine yG ?_
 intro _ hm
 exact w_ [] (.cons (by simp only [hb2, BO]; rfl) rfl .nil) .nil (by decide) (hB_0 hB0)
 refine yG ?_
 intro _ hm
 exact w_ [] (.cons (by simp only [hb2, BO]; rfl) rfl .nil) .nil (by decide) (hB_0 hB0)
 refine Z1s ?_
 cases hm
 exact rZ1
noncomputable def Y4 (w : Int) : Bool :=
 (((w == 1) || ((w == 8) || ((w == 16) || (w == 32)))))
theorem Z1v (w : Int) : Sim Tryz.prog 132 [.one (.int .i64 w)] [] (.u (.one (.bool ((Y4 w))))) [] := by
 generalize hm : Y4 w = r
 refine fN 17 0 Tryz.func132 [.tmp 2] fun B hB0 => ?_
 unfold Y4 at hm
 refine Wp.seq ?_
 refine X4 ?_
 refine nO (x_as rfl rfl ?_)
 refine W5 ?_
 refine Wp.seq ?_
 refine V6 (St 17 [(2, vB (((w == 1) || ((w == 8) || ((w == 16) || (w == 32))))))] [] 0) ?_ ?_
 refine yG ?_
 intro _ hm
 refine gO_s rfl rfl rfl (fun hb2 => ?_) (fun hb2 => ?_)
 refine yG ?_
 intro _ hm
 refine gO_s rfl rfl rfl (fun hb3 => ?_) (fun hb3 => ?_)
 refine yG ?_
 intro _ hm
 refine gO_s rfl rfl rfl (fun hb4 => ?_) (fun hb4 => ?_)
 refine yG ?_
 intro _ hm
 exact w_ [] (.cons (by simp only [hb2, hb3, hb4, BO]; rfl) rfl .nil) .nil (by decide) (hB_0 hB0)
 refine yG ?_
 intro _ hm
 exact w_ [] (.cons (by simp only [hb2, hb3, hb4, BO]; rfl) rfl .nil) .nil (by decide) (hB_0 hB0)
 refine yG ?_
 intro _ hm
 exact w_ [] (.cons (by simp only [hb2, hb3, BO]; rfl) rfl .nil) .nil (by decide) (hB_0 hB0)
 refine yG ?_
 intro _ hm
 exact w_ [] (.cons (by simp only [hb2, BO]; rfl) rfl .nil) .nil (by decide) (hB_0 hB0)
 refine Z1s ?_
 cases hm
 exact rZ1
noncomputable def W6 (op_ : Int) (w : Int) : Int :=
 (if ((!((Y4 w))) || (!((Z7 op_ 1 17)))) = true then
 0
 else
 (if decide (op_ ≥ 14) = true then
 1
 else
 w))
theorem Y3v (op_ : Int) (w : Int) : Sim Tryz.prog 208 [.one (.int .i64 op_), .one (.int .i64 w)] [] (.u (.one (.int .i64 ((W6 op_ w))))) [] := by
 generalize hm : W6 op_ w = r
 refine fN 16 0 Tryz.func208 [.tmp 4] fun B hB0 => ?_
 unfold W6 at hm
 refine Wp.seq ?_
 refine X4 ?_
 refine nO (x_as rfl rfl ?_)
 refine W5 ?_
 refine Wp.seq ?_
 refine Wp.seq ?_
 refine V6 (St 16 [(0, vI op_), (1, vI w), (12, vB (((!((Y4 w))) || (!((Z7 op_ 1 17))))))] [] 0) ?_ ?_
 refine yG ?_
 intro _ hm
 refine nO (Z6 (cB (Z1v w) ?_))
 refine yG ?_
 intro _ hm
 refine gO_s rfl rfl rfl (fun hb2 => ?_) (fun hb2 => ?_)
 refine yG ?_
 intro _ hm
 refine gO_t rfl rfl rfl (Z6 (cB (V3 op_ 1 17) ?_))
 refine yG ?_
 intro _ hm
 exact w_ [] (.cons rfl rfl (.cons rfl rfl (.cons (by simp only [hb2, BO]; rfl) rfl .nil))) .nil (by decide) (hB_0 hB0)
 refine yG ?_
 intro _ hm
 exact w_ [] (.cons rfl rfl (.cons rfl rfl (.cons (by simp only [hb2, BO]; rfl) rfl .nil))) .nil (by decide) (hB_0 hB0)
 refine bS hm (fun hb3 hm => ?_) fun hb3 hm => ?_
 refine yG ?_
 intro _ hm
 cases hm
 exact rZ1
 refine yG ?_
 intro _ hm
 refine bS hm (fun hb4 hm => ?_) fun hb4 hm => ?_
 refine yG ?_
 intro _ hm
 cases hm
 exact rZ1
 refine yG ?_
 intro _ hm
 cases hm
 exact rZ1
noncomputable def W3 (i : GInst) : Int :=
 (if (Z7 i.op_ 1 17) = true then
 ((W6 i.op_ i.w))
 else
 i.w)
theorem Y2a (i : GInst) : Sim Tryz.prog 138 [.agg (Q3 false i)] [] (.u (.one (.int .i64 ((W3 i))))) [] := by
 generalize hm : W3 i = r
 refine fN 13 0 Tryz.func138 [.tmp 2] fun B hB0 => ?_
 unfold W3 at hm
 refine yG ?_
 intro _ hm
 refine nO (Z6 (cB (V3 i.op_ 1 17) ?_))
 refine W5 ?_
 refine bS hm (fun hb1 hm => ?_) fun hb1 hm => ?_
 refine yG ?_
 intro _ hm
 refine nO (Z6 (cB (Y3v i.op_ i.w) ?_))
 refine yG ?_
 intro _ hm
 cases hm
 exact rZ1
 refine yG ?_
 intro _ hm
 cases hm
 exact rZ1
noncomputable def X2 (g : Gl2G) (gr : Gl1Rd) (grets : List Int) (gpars : List (List Int)) (i : GInst) : Option (Int × Gl2G × Gl1Rd) :=
 (if (List.length g.b.insts + List.length ([i])) * 72 ≤ 140737488355328 ∧ List.length g.b.insts + List.length ([i]) ≤ LIM then
 (if (((W3 i)) == 0) = true then
 (if inI (g.next + 1) then
 (some (((-1), ({ f := g.f, b := ({ phis := g.b.phis, insts := g.b.insts ++ ([i]), term := g.b.term } : GBlock), next := g.next + 1, ids := g.ids, ws := g.ws } : Gl2G), gr)))
 else none)
 else
 (Option.bind (Z2f (({ f := g.f, b := ({ phis := g.b.phis, insts := g.b.insts ++ ([i]), term := g.b.term } : GBlock), next := g.next, ids := g.ids, ws := g.ws } : Gl2G)) gr grets gpars ((W3 i))) fun x4 =>
 (some ((x4.1, x4.2.1, x4.2.2)))))
 else none)
theorem X3 {g : Gl2G} {gr : Gl1Rd} {grets : List Int} {gpars : List (List Int)} {i : GInst} {r : Int × Gl2G × Gl1Rd} (hm : X2 g gr grets gpars i = some r) : Sim Tryz.prog 238 [.one (.ptr () 0 0 0), .agg (Q3 false i)] [⟨(), 15, [hl2G (.ptr () 1 0 0) (.ref () 2 0 (List.length grets)) (.ref () 3 0 (List.length gpars)) g]⟩, ⟨(), 2, [J3 false gr]⟩, ⟨(), 1, List.map iL grets⟩, ⟨(), 1, List.map (lL false 1 iL) gpars⟩] (.u (.one (.int .i64 r.1))) [⟨(), 15, [hl2G (.ptr () 1 0 0) (.ref () 2 0 (List.length grets)) (.ref () 3 0 (List.length gpars)) r.2.1]⟩, ⟨(), 2, [J3 false r.2.2]⟩, ⟨(), 1, List.map iL grets⟩, ⟨(), 1, List.map (lL false 1 iL) gpars⟩] := by
 refine fN 32 4 Tryz.func238 [.tmp 4] fun B hB0 => ?_
 unfold X2 at hm
 refine Wp.seq ?_
 refine X4 ?_
 refine yR ?_
 intro _ hm
 refine W5 ?_
 refine Wp.seq ?_
 refine gH (q_op 0 5) ?_
 refine Z3m (Y := sysC _) Z3i ?_
 refine tK 0 0 rfl (kV ?_)
 refine tK 1 0 rfl (kV ?_)
 refine tD 2 1 [3, 4, 5, 8, 9, 10, 11, 12] rfl (kN ?_)
 refine tD 3 1 [4, 5, 8, 9, 10, 11, 12] rfl (kF ?_)
 refine tD 4 1 [5, 8, 9, 10, 11, 12] rfl (kF ?_)
 refine tK 5 1 rfl (kD ?_)
 refine tD 6 1 [7, 8, 9, 10, 11, 12] rfl (kW ?_)
 refine oK 7 rfl (kM (Q3 false) ([i]) ?_)
 obtain ⟨h1, hm⟩ := Y1 hm
 refine oK 8 rfl (kA h1 ?_)
 refine tD 9 1 [10, 11, 12] rfl (kN ?_)
 refine tD 10 1 [11, 12] rfl (kF ?_)
 refine tK 11 1 rfl (kF ?_)
 refine oK 12 rfl (kS ?_)
 refine aN ?_
 refine Wp.seq ?_
 refine gH (q_cl 0 7 5) ?_
 refine X4 ?_
 refine nO (kW ?_)
 refine nO (Z6 (cB (Y2a i) ?_))
 refine yG ?_
 intro _ hm
 refine bS hm (fun hb2 hm => ?_) fun hb2 hm => ?_
 refine yG ?_
 intro k1 hm
 cases hm
 exact rG1 [0, 1, 2, 3]
 refine yG ?_
 intro _ hm
 obtain ⟨x4, h5, hm⟩ := Z0 hm
 refine nO (cG [0, 1, 2, 3] (Z8u h5) ?_)
 refine yG ?_
 intro _ hm
 cases hm
 exact rG1 [0, 1, 2, 3]
noncomputable def Y8 (g : Gl2G) (gr : Gl1Rd) (grets : List Int) (gpars : List (List Int)) (w : Int) : Option (Int × Gl2G × Gl1Rd) :=
 (Option.bind (Y6 (fun (st1 : (List Int) × Int) =>
 ((if decide (st1.2 < ((List.length g.ids : Int))) = true then
 (if 0 ≤ st1.2 ∧ st1.2 < (List.length g.ws : Int) then
 (if ((at_ g.ws st1.2) == w) = true then
 (if 0 ≤ st1.2 ∧ st1.2 < (List.length g.ids : Int) then
 (if (List.length st1.1 + List.length ([at_ g.ids st1.2])) * 8 ≤ 140737488355328 ∧ List.length st1.1 + List.length ([at_ g.ids st1.2]) ≤ LIM then
 (if inI (st1.2 + 1) then
 (some (Sum.inl ((st1.1 ++ ([at_ g.ids st1.2]), st1.2 + 1))))
 else none)
 else none)
 else none)
 else
 (if inI (st1.2 + 1) then
 (some (Sum.inl ((st1.1, st1.2 + 1))))
 else none))
 else none)
 else
 (some (Sum.inr st1.1))) : Option (((List Int) × Int) ⊕ (((List Int)))))) (([] : List Int), 0)) fun (j2 : (List Int)) =>
 (Option.bind ((if (((List.length j2 : Int)) == 0) = true then
 (some ((gr, true)))
 else
 (Option.bind (J7 gr 5) fun x16 =>
 (some ((x16.2, x16.1)))))) fun (j13 : Gl1Rd × Bool) =>
 (if j13.2 = true then
 (Option.bind (Z1h j13.1 w) fun x20 =>
 (if 0 ≤ (IntKind.u64.wrap w) then
 (if (IntKind.i64.wrap (1 * 2 ^ min (Int.toNat (IntKind.u64.wrap w)) (IntKind.bits .i64))) ≠ 0 then
 (Option.bind (X2 g x20.2 grets gpars (({ op_ := 21, w := w, a := 0, b := 0, c := 0, imm := Int.tmod (Int.tmod x20.1 7) (IntKind.i64.wrap (1 * 2 ^ min (Int.toNat (IntKind.u64.wrap w)) (IntKind.bits .i64))), args := ([] : List Int) } : GInst))) fun x24 =>
 (some ((x24.1, x24.2.1, x24.2.2))))
 else none)
 else none))
 else
 (Option.bind (Z5 j13.1 (((List.length j2 : Int)) + 2)) fun x27 =>
 (if 0 ≤ ((if decide (x27.1 ≥ ((List.length j2 : Int))) = true then ((List.length j2 : Int)) - 1 else x27.1)) ∧ ((if decide (x27.1 ≥ ((List.length j2 : Int))) = true then ((List.length j2 : Int)) - 1 else x27.1)) < (List.length j2 : Int) then
 (some ((at_ j2 ((if decide (x27.1 ≥ ((List.length j2 : Int))) = true then ((List.length j2 : Int)) - 1 else x27.1)), g, x27.2)))
 else none)))))
theorem X1 {g : Gl2G} {gr : Gl1Rd} {grets : List Int} {gpars : List (List Int)} {w : Int} {r : Int × Gl2G × Gl1Rd} (hm : Y8 g gr grets gpars w = some r) : Sim Tryz.prog 240 [.one (.ptr () 0 0 0), .one (.int .i64 w)] [⟨(), 15, [hl2G (.ptr () 1 0 0) (.ref () 2 0 (List.length grets)) (.ref () 3 0 (List.length gpars)) g]⟩, ⟨(), 2, [J3 false gr]⟩, ⟨(), 1, List.map iL grets⟩, ⟨(), 1, List.map (lL false 1 iL) gpars⟩] (.u (.one (.int .i64 r.1))) [⟨(), 15, [hl2G (.ptr () 1 0 0) (.ref () 2 0 (List.length grets)) (.ref () 3 0 (List.length gpars)) r.2.1]⟩, ⟨(), 2, [J3 false r.2.2]⟩, ⟨(), 1, List.map iL grets⟩, ⟨(), 1, List.map (lL false 1 iL) gpars⟩] := by
 refine fN 81 4 Tryz.func240 [.tmp 4] fun B hB0 => ?_
 unfold Y8 at hm
 refine yG ?_
 intro _ hm
 refine nO (kM (iL) (([] : List Int)) ?_)
 refine yG ?_
 intro _ hm
 obtain ⟨j2, hl12, hm⟩ := Z0 hm
 refine lP hl12 (fun st1 => St 81 [(0, vP 0), (1, vI w), (5, vR 4 (List.length st1.1)), (6, vI st1.2)] [(0, oL 15 (hl2G (.ptr () 1 0 0) (.ref () 2 0 (List.length grets)) (.ref () 3 0 (List.length gpars)) g)), (1, oL 2 (J3 false gr)), (2, oM 1 iL grets), (3, oM 1 (lL false 1 iL) gpars), (4, oM 1 iL st1.1)] 5) (fun j2 => (.exit 0, St 81 [(0, vP 0), (1, vI w), (5, vR 4 (List.length j2))] [(0, oL 15 (hl2G (.ptr () 1 0 0) (.ref () 2 0 (List.length grets)) (.ref () 3 0 (List.length gpars)) g)), (1, oL 2 (J3 false gr)), (2, oM 1 iL grets), (3, oM 1 (lL false 1 iL) gpars), (4, oM 1 iL j2)] 5)) (vW [0, 1, 2, 3, 4]) ?_ ?_
 intro st1 x hm
 refine yG ?_
 intro k1 hm
 refine bS hm (fun hb4 hm => ?_) fun hb4 hm => ?_
 refine yG ?_
 intro k2 hm
 refine bS hm (fun hb6 hm => ?_) fun hb6 hm => ?_
 refine yG ?_
 intro k3 hm
 refine nO (kM (iL) ([at_ g.ids st1.2]) ?_)
 refine yG ?_
 intro k4 hm
 cases hm
 exact ⟨rfl, vW [0, 1, 2, 3, 6]⟩
 refine yG ?_
 intro k5 hm
 cases hm
 exact ⟨rfl, vW [0, 1, 2, 3, 4]⟩
 refine V2 ?_
 cases hm
 exact ⟨rfl, vW [0, 1, 2, 3, 4]⟩
 refine Wp.seq ?_
 refine Wp.seq ?_
 obtain ⟨j13, hj18, hm⟩ := Z0 hm
 refine V6 (St 81 [(0, vP 0), (1, vI w), (5, vR 4 (List.length j2)), (46, vB j13.2)] [(0, oL 15 (hl2G (.ptr () 1 0 0) (.ref () 2 0 (List.length grets)) (.ref () 3 0 (List.length gpars)) g)), (1, oL 2 (J3 false j13.1)), (2, oM 1 iL grets), (3, oM 1 (lL false 1 iL) gpars), (4, oM 1 iL j2)] 5) ?_ ?_
 replace hm := hj18
 refine yG ?_
 intro k6 hm
 refine bG0 hm (fun hb15 hm => ?_) fun hb15 hm => ?_
 refine yG ?_
 intro _ hm
 obtain ⟨x16, h17, hm⟩ := Z0 hm
 refine gO_t rfl rfl rfl (cG [1] (Z4g h17) ?_)
 refine yG ?_
 intro _ hm
 cases hm
 exact vW [0, 1, 2, 3, 4]
 refine yG ?_
 intro _ hm
 cases hm
 exact vW [0, 1, 2, 3, 4]
 refine bS hm (fun hb19 hm => ?_) fun hb19 hm => ?_
 refine yG ?_
 intro _ hm
 obtain ⟨x20, h21, hm⟩ := Z0 hm
 refine nO (cG [1] (Z9r h21) ?_)
 refine nO (W4z T2 rfl rfl (by decide) ?_)
 refine nO (x_mv rfl rfl ?_)
 refine nO (W5a T2 T172 rfl rfl ?_)
 obtain ⟨h22, hm⟩ := Y1 hm
 refine nO (x_shl T2 rfl rfl h22 ?_)
 obtain ⟨h23, hm⟩ := Y1 hm
 refine nO (W4z T2 rfl rfl h23 ?_)
 refine nO (x_bu (cells := [.int .i64 21, .int .i64 w, .int .i64 0, .int .i64 0, .int .i64 0, .int .i64 (Int.tmod (Int.tmod x20.1 7) (IntKind.i64.wrap (1 * 2 ^ min (Int.toNat (IntKind.u64.wrap w)) (IntKind.bits .i64)))), .nl]) T29 rfl rfl rfl ?_)
 refine WpO.ghb (q_nb 60 6 1) ?_
 obtain ⟨x24, h25, hm⟩ := Z0 hm
 refine nO (cG [0, 1, 2, 3] (X3 h25) ?_)
 refine yG ?_
 intro _ hm
 cases hm
 exact rG1 [0, 1, 2, 3]
 refine yG ?_
 intro k7 hm
 obtain ⟨x27, h28, hm⟩ := Z0 hm
 refine nO (cG [1] (Z2 h28) ?_)
 refine nO (x_as rfl rfl ?_)
 refine W5 ?_
 refine Wp.seq ?_
 refine V6 (St 81 [(5, vR 4 (List.length j2)), (7, vI ((if decide (x27.1 ≥ ((List.length j2 : Int))) = true then ((List.length j2 : Int)) - 1 else x27.1)))] [(0, oL 15 (hl2G (.ptr () 1 0 0) (.ref () 2 0 (List.length grets)) (.ref () 3 0 (List.length gpars)) g)), (1, oL 2 (J3 false x27.2)), (2, oM 1 iL grets), (3, oM 1 (lL false 1 iL) gpars), (4, oM 1 iL j2)] 5) ?_ ?_
 refine yG ?_
 intro k8 hm
 refine c_s rfl rfl (fun hb31 => ?_) (fun hb31 => ?_)
 refine yG ?_
 intro k9 hm
 exact w_ [0, 1, 2, 3, 4] (.cons rfl rfl (.cons (by simp only [hb31, BO]; rfl) rfl .nil)) (.lit rfl rfl (.lit rfl rfl (.map rfl (.map rfl (.map rfl .nil))))) (by decide) (hB_n 4 hB0 rfl)
 refine K3 ?_
 exact w_ [0, 1, 2, 3, 4] (.cons rfl rfl (.cons (by simp only [hb31, BO]; rfl) rfl .nil)) (.lit rfl rfl (.lit rfl rfl (.map rfl (.map rfl (.map rfl .nil))))) (by decide) (hB_n 4 hB0 rfl)
 refine yG ?_
 intro k10 hm
 cases hm
 exact rG1 [0, 1, 2, 3]
noncomputable def Z4n (g : Gl2G) (gr : Gl1Rd) (grets : List Int) (gpars : List (List Int)) : Option (Gl2G × Gl1Rd) :=
 (if (((List.length grets : Int)) == 0) = true then
 (some ((g, gr)))
 else
 (Option.bind (Z5 gr ((List.length grets : Int))) fun x4 =>
 (Option.bind (Y6 (fun (st6 : Gl2G × Gl1Rd × (List Int) × Int) =>
 ((if 0 ≤ x4.1 ∧ x4.1 < (List.length gpars : Int) then
 (if decide (st6.2.2.2 < ((List.length (at_ gpars x4.1) : Int))) = true then
 (if 0 ≤ x4.1 ∧ x4.1 < (List.length gpars : Int) then
 (if 0 ≤ st6.2.2.2 ∧ st6.2.2.2 < (List.length (at_ gpars x4.1) : Int) then
 (Option.bind (Y8 st6.1 st6.2.1 grets gpars (at_ (at_ gpars x4.1) st6.2.2.2)) fun x13 =>
 (if (List.length st6.2.2.1 + List.length ([x13.1])) * 8 ≤ 140737488355328 ∧ List.length st6.2.2.1 + List.length ([x13.1]) ≤ LIM then
 (if inI (st6.2.2.2 + 1) then
 (some (Sum.inl ((x13.2.1, x13.2.2, st6.2.2.1 ++ ([x13.1]), st6.2.2.2 + 1))))
 else none)
 else none))
 else none)
 else none)
 else
 (some (Sum.inr (((st6.1, st6.2.1, st6.2.2.1))))))
 else none) : Option ((Gl2G × Gl1Rd × (List Int) × Int) ⊕ ((Gl2G × Gl1Rd × (List Int)))))) (g, x4.2, ([] : List Int), 0)) fun (j7 : Gl2G × Gl1Rd × (List Int)) =>
 (if 0 ≤ x4.1 ∧ x4.1 < (List.length grets : Int) then
 (Option.bind (X2 j7.1 j7.2.1 grets gpars (({ op_ := 26, w := at_ grets x4.1, a := 0, b := 0, c := 0, imm := x4.1, args := j7.2.2 } : GInst))) fun x20 =>
 (some ((x20.2.1, x20.2.2))))
 else none))))
theorem Y6f {g : Gl2G} {gr : Gl1Rd} {grets : List Int} {gpars : List (List Int)} {r : Gl2G × Gl1Rd} (hm : Z4n g gr grets gpars = some r) : Sim Tryz.prog 241 [.one (.ptr () 0 0 0)] [⟨(), 15, [hl2G (.ptr () 1 0 0) (.ref () 2 0 (List.length grets)) (.ref () 3 0 (List.length gpars)) g]⟩, ⟨(), 2, [J3 false gr]⟩, ⟨(), 1, List.map iL grets⟩, ⟨(), 1, List.map (lL false 1 iL) gpars⟩] (.tup []) [⟨(), 15, [hl2G (.ptr () 1 0 0) (.ref () 2 0 (List.length grets)) (.ref () 3 0 (List.length gpars)) r.1]⟩, ⟨(), 2, [J3 false r.2]⟩, ⟨(), 1, List.map iL grets⟩, ⟨(), 1, List.map (lL false 1 iL) gpars⟩] := by
 refine fN 61 4 Tryz.func241 [] fun B hB0 => ?_
 unfold Z4n at hm
 refine yG ?_
 intro k1 hm
 refine bS hm (fun hb2 hm => ?_) fun hb2 hm => ?_
 refine Z1s ?_
 cases hm
 exact rGt [0, 1, 2, 3]
 refine K3 ?_
 refine Wp.seq ?_
 refine Z3m (Y := sysG _) Z3i ?_
 refine tK 0 0 rfl (kV ?_)
 refine tD 1 1 [2, 3, 9, 10] rfl (kN ?_)
 refine tD 2 1 [3, 9, 10] rfl (kF ?_)
 refine tK 3 1 rfl (kD ?_)
 refine tK 4 0 rfl (kV ?_)
 refine tD 5 1 [6, 7, 8, 9, 10] rfl (kN ?_)
 refine tD 6 1 [7, 8, 9, 10] rfl (kF ?_)
 refine tD 7 1 [8, 9, 10] rfl (kD ?_)
 refine tK 8 1 rfl (X6k rfl N24 rfl rfl fun hL3 => ?_)
 obtain ⟨x4, h5, hm⟩ := Z0 hm
 refine oK 9 rfl (cgG [1] (Z2 h5) ?_)
 refine tK 10 0 rfl (x_as rfl rfl ?_)
 refine aN ?_
 refine Wp.seq ?_
 refine X4 ?_
 refine nO (kM (iL) (([] : List Int)) ?_)
 refine yG ?_
 intro _ hm
 obtain ⟨j7, hl18, hm⟩ := Z0 hm
 refine lP hl18 (fun st6 => St 61 [(0, vP 0), (2, vI x4.1), (3, vR 4 (List.length st6.2.2.1)), (4, vI st6.2.2.2)] [(0, oL 15 (hl2G (.ptr () 1 0 0) (.ref () 2 0 (List.length grets)) (.ref () 3 0 (List.length gpars)) st6.1)), (1, oL 2 (J3 false st6.2.1)), (2, oM 1 iL grets), (3, oM 1 (lL false 1 iL) gpars), (4, oM 1 iL st6.2.2.1)] 5) (fun j7 => (.exit 0, St 61 [(0, vP 0), (2, vI x4.1), (3, vR 4 (List.length j7.2.2))] [(0, oL 15 (hl2G (.ptr () 1 0 0) (.ref () 2 0 (List.length grets)) (.ref () 3 0 (List.length gpars)) j7.1)), (1, oL 2 (J3 false j7.2.1)), (2, oM 1 iL grets), (3, oM 1 (lL false 1 iL) gpars), (4, oM 1 iL j7.2.2)] 5)) (vW [0, 1, 2, 3, 4]) ?_ ?_
 intro st6 x hm
 refine yG ?_
 intro k2 hm
 refine bS hm (fun hb10 hm => ?_) fun hb10 hm => ?_
 refine yG ?_
 intro k3 hm
 obtain ⟨x13, h14, hm⟩ := Z0 hm
 refine nO (cG [0, 1, 2, 3] (X1 h14) ?_)
 refine nO (kM (iL) ([x13.1]) ?_)
 refine yG ?_
 intro k4 hm
 cases hm
 exact ⟨rfl, vW [0, 1, 2, 3, 6]⟩
 refine V2 ?_
 cases hm
 exact ⟨rfl, vW [0, 1, 2, 3, 4]⟩
 refine X4 ?_
 refine nO (x_mv rfl rfl ?_)
 refine nO (x_mv rfl rfl ?_)
 refine nO (X1f rfl rfl rfl ?_)
 refine nO (Y0e rfl F167_6 rfl rfl ?_)
 refine nO (Y2i rfl T24 rfl rfl rfl rfl rfl ?_)
 refine nO (x_mv rfl rfl ?_)
 obtain ⟨h19, hm⟩ := Y1 hm
 refine nO (Q2 rfl E24 rfl rfl rfl h19 ?_)
 refine nO (Z5q rfl T2 rfl rfl h19 rfl rfl ?_)
 refine nO (x_mv rfl rfl ?_)
 refine nO (x_mv rfl rfl ?_)
 refine WpO.ghb (f_frz 4 [3, 58] rfl (Z9j _) (.cons rfl (by simp) (.cons rfl (by simp) .nil)) rfl) ?_
 refine yG ?_
 intro _ hm
 obtain ⟨x20, h21, hm⟩ := Z0 hm
 refine nO (cG [0, 1, 2, 3] (X3 h21) ?_)
 refine W5 ?_
 cases hm
 exact rGt [0, 1, 2, 3]
noncomputable def K4 (g : Gl2G) (gr : Gl1Rd) (grets : List Int) (gpars : List (List Int)) (n : Int) : Option (Gl2G × Gl1Rd) :=
 (Option.bind (Y6 (fun (st1 : Gl2G × Gl1Rd × Int) =>
 ((if (decide (st1.2.2 < n) && decide (st1.1.next < 40)) = true then
 (Option.bind (J8 st1.2.1) fun x6 =>
 (Option.bind (Z5 x6.2 14) fun x8 =>
 (if (x8.1 == 0) = true then
 (Option.bind (Z1h x8.2 x6.1) fun x11 =>
 (Option.bind (X2 st1.1 x11.2 grets gpars (({ op_ := 21, w := x6.1, a := 0, b := 0, c := 0, imm := x11.1, args := ([] : List Int) } : GInst))) fun x13 =>
 (if inI (st1.2.2 + 1) then
 (some (Sum.inl ((x13.2.1, x13.2.2, st1.2.2 + 1))))
 else none)))
 else
 (if (x8.1 == 1) = true then
 (Option.bind (Y8 st1.1 x8.2 grets gpars 1) fun x17 =>
 (Option.bind (Y8 x17.2.1 x17.2.2 grets gpars x6.1) fun x19 =>
 (Option.bind (Y8 x19.2.1 x19.2.2 grets gpars x6.1) fun x21 =>
 (Option.bind (X2 x21.2.1 x21.2.2 grets gpars (({ op_ := 22, w := x6.1, a := x17.1, b := x19.1, c := x21.1, imm := 0, args := ([] : List Int) } : GInst))) fun x23 =>
 (if inI (st1.2.2 + 1) then
 (some (Sum.inl ((x23.2.1, x23.2.2, st1.2.2 + 1))))
 else none)))))
 else
 (if (x8.1 == 2) = true then
 (Option.bind (Y8 st1.1 x8.2 grets gpars 8) fun x27 =>
 (Option.bind ((Option.bind (Z5 x27.2.2 2) fun x30 =>
 (if 0 ≤ x30.1 ∧ x30.1 < (List.length ([18, 19]) : Int) then
 (Option.bind (Z5 x30.2 2) fun x33 =>
 (if 0 ≤ x33.1 ∧ x33.1 < (List.length ([16, 32]) : Int) then
 (Option.bind (X2 x27.2.1 x33.2 grets gpars (({ op_ := at_ ([18, 19]) x30.1, w := at_ ([16, 32]) x33.1, a := x27.1, b := 0, c := 0, imm := 0, args := ([] : List Int) } : GInst))) fun x36 =>
 (some ((x36.2.1, x36.2.2))))
 else none))
 else none))) fun (j29 : Gl2G × Gl1Rd) =>
 (if inI (st1.2.2 + 1) then
 (some (Sum.inl ((j29.1, j29.2, st1.2.2 + 1))))
 else none)))
 else
 (if (x8.1 == 3) = true then
 (Option.bind (Y8 st1.1 x8.2 grets gpars 32) fun x41 =>
 (Option.bind (Z5 x41.2.2 3) fun x43 =>
 (if 0 ≤ x43.1 ∧ x43.1 < (List.length ([1, 8, 16]) : Int) then
 (Option.bind (X2 x41.2.1 x43.2 grets gpars (({ op_ := 20, w := at_ ([1, 8, 16]) x43.1, a := x41.1, b := 0, c := 0, imm := 0, args := ([] : List Int) } : GInst))) fun x46 =>
 (if inI (st1.2.2 + 1) then
 (some (Sum.inl ((x46.2.1, x46.2.2, st1.2.2 + 1))))
 else none))
 else none)))
 else
 (if (x8.1 == 4) = true then
 (Option.bind (Z5 x8.2 34) fun x50 =>
 (Option.bind (X2 st1.1 x50.2 grets gpars (({ op_ := 21, w := 32, a := 0, b := 0, c := 0, imm := x50.1, args := ([] : List Int) } : GInst))) fun x52 =>
 (Option.bind (X2 x52.2.1 x52.2.2 grets gpars (({ op_ := 23, w := 8, a := x52.1, b := 0, c := 0, imm := 0, args := ([] : List Int) } : GInst))) fun x54 =>
 (if inI (st1.2.2 + 1) then
 (some (Sum.inl ((x54.2.1, x54.2.2, st1.2.2 + 1))))
 else none))))
 else
 (if (x8.1 == 5) = true then
 (Option.bind (Z5 x8.2 33) fun x58 =>
 (Option.bind (X2 st1.1 x58.2 grets gpars (({ op_ := 21, w := 32, a := 0, b := 0, c := 0, imm := x58.1, args := ([] : List Int) } : GInst))) fun x60 =>
 (Option.bind (Y8 x60.2.1 x60.2.2 grets gpars 8) fun x62 =>
 (Option.bind (X2 x62.2.1 x62.2.2 grets gpars (({ op_ := 24, w := 0, a := x60.1, b := x62.1, c := 0, imm := 0, args := ([] : List Int) } : GInst))) fun x64 =>
 (if inI (st1.2.2 + 1) then
 (some (Sum.inl ((x64.2.1, x64.2.2, st1.2.2 + 1))))
 else none)))))
 else
 (if (x8.1 == 6) = true then
 (Option.bind (Y8 st1.1 x8.2 grets gpars x6.1) fun x68 =>
 (Option.bind (X2 x68.2.1 x68.2.2 grets gpars (({ op_ := 25, w := 0, a := x68.1, b := 0, c := 0, imm := 0, args := ([] : List Int) } : GInst))) fun x70 =>
 (if inI (st1.2.2 + 1) then
 (some (Sum.inl ((x70.2.1, x70.2.2, st1.2.2 + 1))))
 else none)))
 else
 (if (x8.1 == 7) = true then
 (Option.bind (Y8 st1.1 x8.2 grets gpars x6.1) fun x74 =>
 (Option.bind (X2 x74.2.1 x74.2.2 grets gpars (({ op_ := 27, w := x6.1, a := x74.1, b := 0, c := 0, imm := 0, args := ([] : List Int) } : GInst))) fun x76 =>
 (if inI (st1.2.2 + 1) then
 (some (Sum.inl ((x76.2.1, x76.2.2, st1.2.2 + 1))))
 else none)))
 else
 (if (x8.1 == 8) = true then
 (Option.bind (Z4n st1.1 x8.2 grets gpars) fun x80 =>
 (if inI (st1.2.2 + 1) then
 (some (Sum.inl ((x80.1, x80.2, st1.2.2 + 1))))
 else none))
 else
 (Option.bind (Y8 st1.1 x8.2 grets gpars x6.1) fun x83 =>
 (Option.bind (Y8 x83.2.1 x83.2.2 grets gpars x6.1) fun x85 =>
 (Option.bind (Z5 x85.2.2 17) fun x87 =>
 (if inI (1 + x87.1) then
 (Option.bind (X2 x85.2.1 x87.2 grets gpars (({ op_ := 1 + x87.1, w := x6.1, a := x83.1, b := x85.1, c := 0, imm := 0, args := ([] : List Int) } : GInst))) fun x90 =>
 (if inI (st1.2.2 + 1) then
 (some (Sum.inl ((x90.2.1, x90.2.2, st1.2.2 + 1))))
 else none))
 else none)))))))))))))))
 else
 (some (Sum.inr (((st1.1, st1.2.1)))))) : Option ((Gl2G × Gl1Rd × Int) ⊕ ((Gl2G × Gl1Rd))))) (g, gr, 0)) fun (j2 : Gl2G × Gl1Rd) =>
 (some ((j2.1, j2.2))))
theorem Z1g {g : Gl2G} {gr : Gl1Rd} {grets : List Int} {gpars : List (List Int)} {n : Int} {r : Gl2G × Gl1Rd} (hm : K4 g gr grets gpars n = some r) : Sim Tryz.prog 193 [.one (.ptr () 0 0 0), .one (.int .i64 n)] [⟨(), 15, [hl2G (.ptr () 1 0 0) (.ref () 2 0 (List.length grets)) (.ref () 3 0 (List.length gpars)) g]⟩, ⟨(), 2, [J3 false gr]⟩, ⟨(), 1, List.map iL grets⟩, ⟨(), 1, List.map (lL false 1 iL) gpars⟩] (.tup []) [⟨(), 15, [hl2G (.ptr () 1 0 0) (.ref () 2 0 (List.length grets)) (.ref () 3 0 (List.length gpars)) r.1]⟩, ⟨(), 2, [J3 false r.2]⟩, ⟨(), 1, List.map iL grets⟩, ⟨(), 1, List.map (lL false 1 iL) gpars⟩] := by
 refine fN 181 4 Tryz.func193 [] fun B hB0 => ?_
 unfold K4 at hm
 refine yG ?_
 intro _ hm
 obtain ⟨j2, hl94, hm⟩ := Z0 hm
 refine lP hl94 (fun st1 => St 181 [(0, vP 0), (1, vI n), (4, vI st1.2.2)] [(0, oL 15 (hl2G (.ptr () 1 0 0) (.ref () 2 0 (List.length grets)) (.ref () 3 0 (List.length gpars)) st1.1)), (1, oL 2 (J3 false st1.2.1)), (2, oM 1 iL grets), (3, oM 1 (lL false 1 iL) gpars)] 4) (fun j2 => (.exit 0, St 181 [] [(0, oL 15 (hl2G (.ptr () 1 0 0) (.ref () 2 0 (List.length grets)) (.ref () 3 0 (List.length gpars)) j2.1)), (1, oL 2 (J3 false j2.2)), (2, oM 1 iL grets), (3, oM 1 (lL false 1 iL) gpars)] 4)) (vW [0, 1, 2, 3]) ?_ ?_
 intro st1 x hm
 refine Wp.seq ?_
 refine Wp.seq ?_
 refine V6 (St 181 [(0, vP 0), (1, vI n), (4, vI st1.2.2), (27, vB ((decide (st1.2.2 < n) && decide (st1.1.next < 40))))] [(0, oL 15 (hl2G (.ptr () 1 0 0) (.ref () 2 0 (List.length grets)) (.ref () 3 0 (List.length gpars)) st1.1)), (1, oL 2 (J3 false st1.2.1)), (2, oM 1 iL grets), (3, oM 1 (lL false 1 iL) gpars)] 4) ?_ ?_
 refine yG ?_
 intro _ hm
 refine gO_s rfl rfl rfl (fun hb4 => ?_) (fun hb4 => ?_)
 refine yG ?_
 intro _ hm
 exact w_ [0, 1, 2, 3] (.cons rfl rfl (.cons rfl rfl (.cons rfl rfl (.cons (by simp only [hb4, BO]; rfl) rfl .nil)))) (.lit rfl rfl (.lit rfl rfl (.map rfl (.map rfl .nil)))) (by decide) (hB_n 4 hB0 rfl)
 refine yG ?_
 intro _ hm
 exact w_ [0, 1, 2, 3] (.cons rfl rfl (.cons rfl rfl (.cons rfl rfl (.cons (by simp only [hb4, BO]; rfl) rfl .nil)))) (.lit rfl rfl (.lit rfl rfl (.map rfl (.map rfl .nil)))) (by decide) (hB_n 4 hB0 rfl)
 refine bS hm (fun hb5 hm => ?_) fun hb5 hm => ?_
 refine yG ?_
 intro _ hm
 obtain ⟨x6, h7, hm⟩ := Z0 hm
 refine nO (cG [1] (Z1k h7) ?_)
 refine yG ?_
 intro _ hm
 obtain ⟨x8, h9, hm⟩ := Z0 hm
 refine nO (cG [1] (Z2 h9) ?_)
 refine yG ?_
 intro _ hm
 refine bS hm (fun hb10 hm => ?_) fun hb10 hm => ?_
 refine yG ?_
 intro _ hm
 obtain ⟨x11, h12, hm⟩ := Z0 hm
 refine nO (cG [1] (Z9r h12) ?_)
 refine nO (x_bu (cells := [.int .i64 21, .int .i64 x6.1, .int .i64 0, .int .i64 0, .int .i64 0, .int .i64 x11.1, .nl]) T29 rfl rfl rfl ?_)
 refine WpO.ghb (q_nb 68 6 1) ?_
 obtain ⟨x13, h14, hm⟩ := Z0 hm
 refine nO (cG [0, 1, 2, 3] (X3 h14) ?_)
 refine yG ?_
 intro k1 hm
 cases hm
 exact ⟨rfl, vW [0, 1, 2, 3]⟩
 refine yG ?_
 intro _ hm
 refine bS hm (fun hb16 hm => ?_) fun hb16 hm => ?_
 refine yG ?_
 intro _ hm
 obtain ⟨x17, h18, hm⟩ := Z0 hm
 refine nO (cG [0, 1, 2, 3] (X1 h18) ?_)
 refine yG ?_
 intro _ hm
 obtain ⟨x19, h20, hm⟩ := Z0 hm
 refine nO (cG [0, 1, 2, 3] (X1 h20) ?_)
 refine yG ?_
 intro _ hm
 obtain ⟨x21, h22, hm⟩ := Z0 hm
 refine nO (cG [0, 1, 2, 3] (X1 h22) ?_)
 refine nO (x_as rfl rfl ?_)
 refine W5 ?_
 refine X4 ?_
 refine nO (x_mv rfl rfl ?_)
 refine nO (x_mv rfl rfl ?_)
 refine nO (x_mv rfl rfl ?_)
 refine nO (x_mv rfl rfl ?_)
 refine nO (x_mv rfl rfl ?_)
 refine nO (x_bu (cells := [.int .i64 22, .int .i64 x6.1, .int .i64 x17.1, .int .i64 x19.1, .int .i64 x21.1, .int .i64 0, .nl]) T29 rfl rfl rfl ?_)
 refine WpO.ghb (q_nb 85 6 1) ?_
 obtain ⟨x23, h24, hm⟩ := Z0 hm
 refine nO (cG [0, 1, 2, 3] (X3 h24) ?_)
 refine yG ?_
 intro k2 hm
 cases hm
 exact ⟨rfl, vW [0, 1, 2, 3]⟩
 refine yG ?_
 intro _ hm
 refine bS hm (fun hb26 hm => ?_) fun hb26 hm => ?_
 refine yG ?_
 intro _ hm
 obtain ⟨x27, h28, hm⟩ := Z0 hm
 refine nO (cG [0, 1, 2, 3] (X1 h28) ?_)
 refine nO (x_as rfl rfl ?_)
 refine W5 ?_
 obtain ⟨j29, hj38, hm⟩ := Z0 hm
 refine V6 (St 181 [(0, vP 0), (1, vI n), (4, vI st1.2.2)] [(0, oL 15 (hl2G (.ptr () 1 0 0) (.ref () 2 0 (List.length grets)) (.ref () 3 0 (List.length gpars)) j29.1)), (1, oL 2 (J3 false j29.2)), (2, oM 1 iL grets), (3, oM 1 (lL false 1 iL) gpars)] 4) ?_ ?_
 replace hm := hj38
 refine Z3m (Y := sysH _ [1] [110]) Z3i ?_
 obtain ⟨x30, h31, hm⟩ := Z0 hm
 have hS17_6 := (Z2 h31)
 obtain ⟨h32, hm⟩ := Y1 hm
 obtain ⟨x33, h34, hm⟩ := Z0 hm
 have hS17_14 := (Z2 h34)
 obtain ⟨h35, hm⟩ := Y1 hm
 obtain ⟨x36, h37, hm⟩ := Z0 hm
 have hS17_19 := (X3 h37)
 refine tK 0 0 rfl (kV ?_)
 refine tK 2 0 rfl (kV ?_)
 refine tD 3 1 [4, 5, 6, 7, 8, 14, 15, 16, 18, 19] rfl (kN ?_)
 refine tD 4 1 [5, 6, 7, 8, 14, 15, 16, 18, 19] rfl (kF ?_)
 refine tD 5 1 [6, 7, 8, 14, 15, 16, 18, 19] rfl (kD ?_)
 refine tK 10 0 rfl (kV ?_)
 refine tE 11 [12, 13, 14, 15, 16, 18, 19] rfl (kN ?_)
 refine tE 12 [13, 14, 15, 16, 18, 19] rfl (kF ?_)
 refine tE 13 [14, 15, 16, 18, 19] rfl (kD ?_)
 refine tK 17 0 rfl (kV ?_)
 refine t_n 1 [6, 9] (by decide +kernel) (.cons (wy rfl (Y4q (enc := iL) ([18, 19]) A24 rfl rfl rfl rfl ?_)) (.cons (wy rfl (Z6q (H := [1]) (X := [110]) (v := .u (.one (.int .i64 x30.1))) (nobs := []) (oa' := _) (nx' := 4) hS17_6 [1] rfl (by decide) (h_c rfl h_n) rfl (g_1 rfl rfl rfl (g_1 rfl rfl rfl g_n)) EntC.h rfl rfl rfl rfl ?_ rfl)) (.cons (wy rfl (Y4q (enc := iL) ([16, 32]) A24 rfl rfl rfl rfl ?_)) .nil)))
 refine t_n 6 [9] (by decide +kernel) (.cons (wy rfl (Z6q (H := [1]) (X := [110]) (v := .u (.one (.int .i64 x30.1))) (nobs := []) (oa' := _) (nx' := 5) hS17_6 [1] rfl (by decide) (h_c rfl h_n) rfl (g_1 rfl rfl rfl (g_1 rfl rfl rfl g_n)) EntC.h rfl rfl rfl rfl ?_ rfl)) (.cons (wy rfl (Y4q (enc := iL) ([16, 32]) A24 rfl rfl rfl rfl ?_)) .nil))
 refine tE 7 [8, 18, 19] rfl (Q2 rfl E24 rfl rfl rfl h32 ?_)
 refine tE 8 [18, 19] rfl (Z5q rfl T2 rfl rfl h32 rfl rfl ?_)
 refine t_n 9 [14] (by decide +kernel) (.cons (wy rfl (Y4q (enc := iL) ([16, 32]) A24 rfl rfl rfl rfl ?_)) (.cons (wy rfl (Z6q (H := [1]) (X := [110]) (v := .u (.one (.int .i64 x33.1))) (nobs := []) (oa' := _) (nx' := 5) hS17_14 [1] rfl (by decide) (h_c rfl h_n) rfl (g_1 rfl rfl rfl (g_1 rfl rfl rfl g_n)) EntC.h rfl rfl rfl rfl ?_ rfl)) .nil))
 refine oK 14 rfl (Z6q (H := [1]) (X := [110]) (v := .u (.one (.int .i64 x33.1))) (nobs := []) (oa' := _) (nx' := 6) hS17_14 [1] rfl (by decide) (h_c rfl h_n) rfl (g_1 rfl rfl rfl (g_1 rfl rfl rfl g_n)) EntC.h rfl rfl rfl rfl ?_ rfl)
 refine tD 15 1 [16, 18, 19] rfl (Q2 rfl E24 rfl rfl rfl h35 ?_)
 refine tD 16 1 [18, 19] rfl (Z5q rfl T2 rfl rfl h35 rfl rfl ?_)
 refine tK 18 0 rfl (kB ([.int .i64 (at_ ([18, 19]) x30.1), .int .i64 (at_ ([16, 32]) x33.1), .int .i64 x27.1, .int .i64 0, .int .i64 0, .int .i64 0, .nl]) ?_)
 refine oK 19 rfl (Z6q (H := [1]) (X := [110]) (v := .u (.one (.int .i64 x36.1))) (nobs := []) (oa' := _) (nx' := 6) hS17_19 [0, 1, 2, 3] rfl (by decide) (h_c rfl (h_c rfl (h_c (hrow rfl) (h_c (hrow rfl) h_n)))) (by simp only [hl2G, K9, KO] <;> rfl) (g_1 rfl rfl rfl (g_an rfl (.cons (.same rfl) (.cons (.same rfl) (.cons (.same rfl) (.cons (.same rfl) (.cons (.same rfl) (.cons (.same rfl) (.cons .nl .nil))))))) rfl g_n)) EntC.h rfl rfl (by simp only [hl2G, oaG, updO, Z6v, Z3f, HO] <;> rfl) rfl ?_ rfl)
 refine aN ?_
 cases hm
 exact vW [0, 1, 2, 3]
 refine oK 9 rfl (kM (iL) ([16, 32]) ?_)
 refine tD 15 1 [16, 18, 19] rfl (Q2 rfl E24 rfl rfl rfl h35 ?_)
 refine tD 16 1 [18, 19] rfl (Z5q rfl T2 rfl rfl h35 rfl rfl ?_)
 refine tK 18 0 rfl (kB ([.int .i64 (at_ ([18, 19]) x30.1), .int .i64 (at_ ([16, 32]) x33.1), .int .i64 x27.1, .int .i64 0, .int .i64 0, .int .i64 0, .nl]) ?_)
 refine oK 19 rfl (Z6q (H := [1]) (X := [110]) (v := .u (.one (.int .i64 x36.1))) (nobs := []) (oa' := _) (nx' := 6) hS17_19 [0, 1, 2, 3] rfl (by decide) (h_c rfl (h_c rfl (h_c (hrow rfl) (h_c (hrow rfl) h_n)))) (by simp only [hl2G, K9, KO] <;> rfl) (g_1 rfl rfl rfl (g_an rfl (.cons (.same rfl) (.cons (.same rfl) (.cons (.same rfl) (.cons (.same rfl) (.cons (.same rfl) (.cons (.same rfl) (.cons .nl .nil))))))) rfl g_n)) EntC.h rfl rfl (by simp only [hl2G, oaG, updO, Z6v, Z3f, HO] <;> rfl) rfl ?_ rfl)
 refine aN ?_
 cases hm
 exact vW [0, 1, 2, 3]
 refine oK 6 rfl (Z6q (H := [1]) (X := [110]) (v := .u (.one (.int .i64 x30.1))) (nobs := []) (oa' := _) (nx' := 6) hS17_6 [1] rfl (by decide) (h_c rfl h_n) rfl (g_1 rfl rfl rfl (g_1 rfl rfl rfl g_n)) EntC.h rfl rfl rfl rfl ?_ rfl)
 refine tE 7 [8, 18, 19] rfl (Q2 rfl E24 rfl rfl rfl h32 ?_)
 refine tE 8 [18, 19] rfl (Z5q rfl T2 rfl rfl h32 rfl rfl ?_)
 refine oK 14 rfl (Z6q (H := [1]) (X := [110]) (v := .u (.one (.int .i64 x33.1))) (nobs := []) (oa' := _) (nx' := 6) hS17_14 [1] rfl (by decide) (h_c rfl h_n) rfl (g_1 rfl rfl rfl (g_1 rfl rfl rfl g_n)) EntC.h rfl rfl rfl rfl ?_ rfl)
 refine tD 15 1 [16, 18, 19] rfl (Q2 rfl E24 rfl rfl rfl h35 ?_)
 refine tD 16 1 [18, 19] rfl (Z5q rfl T2 rfl rfl h35 rfl rfl ?_)
 refine tK 18 0 rfl (kB ([.int .i64 (at_ ([18, 19]) x30.1), .int .i64 (at_ ([16, 32]) x33.1), .int .i64 x27.1, .int .i64 0, .int .i64 0, .int .i64 0, .nl]) ?_)
 refine oK 19 rfl (Z6q (H := [1]) (X := [110]) (v := .u (.one (.int .i64 x36.1))) (nobs := []) (oa' := _) (nx' := 6) hS17_19 [0, 1, 2, 3] rfl (by decide) (h_c rfl (h_c rfl (h_c (hrow rfl) (h_c (hrow rfl) h_n)))) (by simp only [hl2G, K9, KO] <;> rfl) (g_1 rfl rfl rfl (g_an rfl (.cons (.same rfl) (.cons (.same rfl) (.cons (.same rfl) (.cons (.same rfl) (.cons (.same rfl) (.cons (.same rfl) (.cons .nl .nil))))))) rfl g_n)) EntC.h rfl rfl (by simp only [hl2G, oaG, updO, Z6v, Z3f, HO] <;> rfl) rfl ?_ rfl)
 refine aN ?_
 cases hm
 exact vW [0, 1, 2, 3]
 refine t_n 1 [9, 14] (by decide +kernel) (.cons (wy rfl (Y4q (enc := iL) ([18, 19]) A24 rfl rfl rfl rfl ?_)) (.cons (wy rfl (Y4q (enc := iL) ([16, 32]) A24 rfl rfl rfl rfl ?_)) (.cons (wy rfl (Z6q (H := [1]) (X := [110]) (v := .u (.one (.int .i64 x33.1))) (nobs := []) (oa' := _) (nx' := 4) hS17_14 [1] rfl (by decide) (h_c rfl h_n) rfl (g_1 rfl rfl rfl (g_1 rfl rfl rfl g_n)) EntC.h rfl rfl rfl rfl ?_ rfl)) .nil)))
 refine tE 7 [8, 18, 19] rfl (Q2 rfl E24 rfl rfl rfl h32 ?_)
 refine tE 8 [18, 19] rfl (Z5q rfl T2 rfl rfl h32 rfl rfl ?_)
 refine t_n 9 [14] (by decide +kernel) (.cons (wy rfl (Y4q (enc := iL) ([16, 32]) A24 rfl rfl rfl rfl ?_)) (.cons (wy rfl (Z6q (H := [1]) (X := [110]) (v := .u (.one (.int .i64 x33.1))) (nobs := []) (oa' := _) (nx' := 5) hS17_14 [1] rfl (by decide) (h_c rfl h_n) rfl (g_1 rfl rfl rfl (g_1 rfl rfl rfl g_n)) EntC.h rfl rfl rfl rfl ?_ rfl)) .nil))
 refine oK 14 rfl (Z6q (H := [1]) (X := [110]) (v := .u (.one (.int .i64 x33.1))) (nobs := []) (oa' := _) (nx' := 6) hS17_14 [1] rfl (by decide) (h_c rfl h_n) rfl (g_1 rfl rfl rfl (g_1 rfl rfl rfl g_n)) EntC.h rfl rfl rfl rfl ?_ rfl)
 refine tD 15 1 [16, 18, 19] rfl (Q2 rfl E24 rfl rfl rfl h35 ?_)
 refine tD 16 1 [18, 19] rfl (Z5q rfl T2 rfl rfl h35 rfl rfl ?_)
 refine tK 18 0 rfl (kB ([.int .i64 (at_ ([18, 19]) x30.1), .int .i64 (at_ ([16, 32]) x33.1), .int .i64 x27.1, .int .i64 0, .int .i64 0, .int .i64 0, .nl]) ?_)
 refine oK 19 rfl (Z6q (H := [1]) (X := [110]) (v := .u (.one (.int .i64 x36.1))) (nobs := []) (oa' := _) (nx' := 6) hS17_19 [0, 1, 2, 3] rfl (by decide) (h_c rfl (h_c rfl (h_c (hrow rfl) (h_c (hrow rfl) h_n)))) (by simp only [hl2G, K9, KO] <;> rfl) (g_1 rfl rfl rfl (g_an rfl (.cons (.same rfl) (.cons (.same rfl) (.cons (.same rfl) (.cons (.same rfl) (.cons (.same rfl) (.cons (.same rfl) (.cons .nl .nil))))))) rfl g_n)) EntC.h rfl rfl (by simp only [hl2G, oaG, updO, Z6v, Z3f, HO] <;> rfl) rfl ?_ rfl)
 refine aN ?_
 cases hm
 exact vW [0, 1, 2, 3]
 refine oK 9 rfl (kM (iL) ([16, 32]) ?_)
 refine tD 15 1 [16, 18, 19] rfl (Q2 rfl E24 rfl rfl rfl h35 ?_)
 refine tD 16 1 [18, 19] rfl (Z5q rfl T2 rfl rfl h35 rfl rfl ?_)
 refine tK 18 0 rfl (kB ([.int .i64 (at_ ([18, 19]) x30.1), .int .i64 (at_ ([16, 32]) x33.1), .int .i64 x27.1, .int .i64 0, .int .i64 0, .int .i64 0, .nl]) ?_)
 refine oK 19 rfl (Z6q (H := [1]) (X := [110]) (v := .u (.one (.int .i64 x36.1))) (nobs := []) (oa' := _) (nx' := 6) hS17_19 [0, 1, 2, 3] rfl (by decide) (h_c rfl (h_c rfl (h_c (hrow rfl) (h_c (hrow rfl) h_n)))) (by simp only [hl2G, K9, KO] <;> rfl) (g_1 rfl rfl rfl (g_an rfl (.cons (.same rfl) (.cons (.same rfl) (.cons (.same rfl) (.cons (.same rfl) (.cons (.same rfl) (.cons (.same rfl) (.cons .nl .nil))))))) rfl g_n)) EntC.h rfl rfl (by simp only [hl2G, oaG, updO, Z6v, Z3f, HO] <;> rfl) rfl ?_ rfl)
 refine aN ?_
 cases hm
 exact vW [0, 1, 2, 3]
 refine t_n 1 [14] (by decide +kernel) (.cons (wy rfl (Y4q (enc := iL) ([18, 19]) A24 rfl rfl rfl rfl ?_)) (.cons (wy rfl (Z6q (H := [1]) (X := [110]) (v := .u (.one (.int .i64 x33.1))) (nobs := []) (oa' := _) (nx' := 5) hS17_14 [1] rfl (by decide) (h_c rfl h_n) rfl (g_1 rfl rfl rfl (g_1 rfl rfl rfl g_n)) EntC.h rfl rfl rfl rfl ?_ rfl)) .nil))
 refine tE 7 [8, 18, 19] rfl (Q2 rfl E24 rfl rfl rfl h32 ?_)
 refine tE 8 [18, 19] rfl (Z5q rfl T2 rfl rfl h32 rfl rfl ?_)
 refine oK 14 rfl (Z6q (H := [1]) (X := [110]) (v := .u (.one (.int .i64 x33.1))) (nobs := []) (oa' := _) (nx' := 6) hS17_14 [1] rfl (by decide) (h_c rfl h_n) rfl (g_1 rfl rfl rfl (g_1 rfl rfl rfl g_n)) EntC.h rfl rfl rfl rfl ?_ rfl)
 refine tD 15 1 [16, 18, 19] rfl (Q2 rfl E24 rfl rfl rfl h35 ?_)
 refine tD 16 1 [18, 19] rfl (Z5q rfl T2 rfl rfl h35 rfl rfl ?_)
 refine tK 18 0 rfl (kB ([.int .i64 (at_ ([18, 19]) x30.1), .int .i64 (at_ ([16, 32]) x33.1), .int .i64 x27.1, .int .i64 0, .int .i64 0, .int .i64 0, .nl]) ?_)
 refine oK 19 rfl (Z6q (H := [1]) (X := [110]) (v := .u (.one (.int .i64 x36.1))) (nobs := []) (oa' := _) (nx' := 6) hS17_19 [0, 1, 2, 3] rfl (by decide) (h_c rfl (h_c rfl (h_c (hrow rfl) (h_c (hrow rfl) h_n)))) (by simp only [hl2G, K9, KO] <;> rfl) (g_1 rfl rfl rfl (g_an rfl (.cons (.same rfl) (.cons (.same rfl) (.cons (.same rfl) (.cons (.same rfl) (.cons (.same rfl) (.cons (.same rfl) (.cons .nl .nil))))))) rfl g_n)) EntC.h rfl rfl (by simp only [hl2G, oaG, updO, Z6v, Z3f, HO] <;> rfl) rfl ?_ rfl)
 refine aN ?_
 cases hm
 exact vW [0, 1, 2, 3]
 refine tD 15 1 [16, 18, 19] rfl (Q2 rfl E24 rfl rfl rfl h35 ?_)
 refine tD 16 1 [18, 19] rfl (Z5q rfl T2 rfl rfl h35 rfl rfl ?_)
 refine oK 1 rfl (kM (iL) ([18, 19]) ?_)
 refine tD 7 1 [8, 18, 19] rfl (Q2 rfl E24 rfl rfl rfl h32 ?_)
 refine tD 8 1 [18, 19] rfl (Z5q rfl T2 rfl rfl h32 rfl rfl ?_)
 refine tK 18 0 rfl (kB ([.int .i64 (at_ ([18, 19]) x30.1), .int .i64 (at_ ([16, 32]) x33.1), .int .i64 x27.1, .int .i64 0, .int .i64 0, .int .i64 0, .nl]) ?_)
 refine oK 19 rfl (Z6q (H := [1]) (X := [110]) (v := .u (.one (.int .i64 x36.1))) (nobs := []) (oa' := _) (nx' := 6) hS17_19 [0, 1, 2, 3] rfl (by decide) (h_c rfl (h_c rfl (h_c (hrow rfl) (h_c (hrow rfl) h_n)))) (by simp only [hl2G, K9, KO] <;> rfl) (g_1 rfl rfl rfl (g_an rfl (.cons (.same rfl) (.cons (.same rfl) (.cons (.same rfl) (.cons (.same rfl) (.cons (.same rfl) (.cons (.same rfl) (.cons .nl .nil))))))) rfl g_n)) EntC.h rfl rfl (by simp only [hl2G, oaG, updO, Z6v, Z3f, HO] <;> rfl) rfl ?_ rfl)
 refine aN ?_
 cases hm
 exact vW [0, 1, 2, 3]
 refine t_n 1 [9] (by decide +kernel) (.cons (wy rfl (Y4q (enc := iL) ([18, 19]) A24 rfl rfl rfl rfl ?_)) (.cons (wy rfl (Y4q (enc := iL) ([16, 32]) A24 rfl rfl rfl rfl ?_)) .nil))
 refine tD 7 1 [8, 18, 19] rfl (Q2 rfl E24 rfl rfl rfl h32 ?_)
 refine tD 8 1 [18, 19] rfl (Z5q rfl T2 rfl rfl h32 rfl rfl ?_)
 refine oK 9 rfl (kM (iL) ([16, 32]) ?_)
 refine tD 15 1 [16, 18, 19] rfl (Q2 rfl E24 rfl rfl rfl h35 ?_)
 refine tD 16 1 [18, 19] rfl (Z5q rfl T2 rfl rfl h35 rfl rfl ?_)
 refine tK 18 0 rfl (kB ([.int .i64 (at_ ([18, 19]) x30.1), .int .i64 (at_ ([16, 32]) x33.1), .int .i64 x27.1, .int .i64 0, .int .i64 0, .int .i64 0, .nl]) ?_)
 refine oK 19 rfl (Z6q (H := [1]) (X := [110]) (v := .u (.one (.int .i64 x36.1))) (nobs := []) (oa' := _) (nx' := 6) hS17_19 [0, 1, 2, 3] rfl (by decide) (h_c rfl (h_c rfl (h_c (hrow rfl) (h_c (hrow rfl) h_n)))) (by simp only [hl2G, K9, KO] <;> rfl) (g_1 rfl rfl rfl (g_an rfl (.cons (.same rfl) (.cons (.same rfl) (.cons (.same rfl) (.cons (.same rfl) (.cons (.same rfl) (.cons (.same rfl) (.cons .nl .nil))))))) rfl g_n)) EntC.h rfl rfl (by simp only [hl2G, oaG, updO, Z6v, Z3f, HO] <;> rfl) rfl ?_ rfl)
 refine aN ?_
 cases hm
 exact vW [0, 1, 2, 3]
 refine tD 15 1 [16, 18, 19] rfl (Q2 rfl E24 rfl rfl rfl h35 ?_)
 refine tD 16 1 [18, 19] rfl (Z5q rfl T2 rfl rfl h35 rfl rfl ?_)
 refine oK 1 rfl (kM (iL) ([18, 19]) ?_)
 refine tD 7 1 [8, 18, 19] rfl (Q2 rfl E24 rfl rfl rfl h32 ?_)
 refine tD 8 1 [18, 19] rfl (Z5q rfl T2 rfl rfl h32 rfl rfl ?_)
 refine tK 18 0 rfl (kB ([.int .i64 (at_ ([18, 19]) x30.1), .int .i64 (at_ ([16, 32]) x33.1), .int .i64 x27.1, .int .i64 0, .int .i64 0, .int .i64 0, .nl]) ?_)
 refine oK 19 rfl (Z6q (H := [1]) (X := [110]) (v := .u (.one (.int .i64 x36.1))) (nobs := []) (oa' := _) (nx' := 6) hS17_19 [0, 1, 2, 3] rfl (by decide) (h_c rfl (h_c rfl (h_c (hrow rfl) (h_c (hrow rfl) h_n)))) (by simp only [hl2G, K9, KO] <;> rfl) (g_1 rfl rfl rfl (g_an rfl (.cons (.same rfl) (.cons (.same rfl) (.cons (.same rfl) (.cons (.same rfl) (.cons (.same rfl) (.cons (.same rfl) (.cons .nl .nil))))))) rfl g_n)) EntC.h rfl rfl (by simp only [hl2G, oaG, updO, Z6v, Z3f, HO] <;> rfl) rfl ?_ rfl)
 refine aN ?_
 cases hm
 exact vW [0, 1, 2, 3]
 refine t_n 1 [6] (by decide +kernel) (.cons (wy rfl (Y4q (enc := iL) ([18, 19]) A24 rfl rfl rfl rfl ?_)) (.cons (wy rfl (Z6q (H := [1]) (X := [110]) (v := .u (.one (.int .i64 x30.1))) (nobs := []) (oa' := _) (nx' := 5) hS17_6 [1] rfl (by decide) (h_c rfl h_n) rfl (g_1 rfl rfl rfl (g_1 rfl rfl rfl g_n)) EntC.h rfl rfl rfl rfl ?_ rfl)) .nil))
 refine oK 6 rfl (Z6q (H := [1]) (X := [110]) (v := .u (.one (.int .i64 x30.1))) (nobs := []) (oa' := _) (nx' := 6) hS17_6 [1] rfl (by decide) (h_c rfl h_n) rfl (g_1 rfl rfl rfl (g_1 rfl rfl rfl g_n)) EntC.h rfl rfl rfl rfl ?_ rfl)
 refine tE 7 [8, 18, 19] rfl (Q2 rfl E24 rfl rfl rfl h32 ?_)
 refine tE 8 [18, 19] rfl (Z5q rfl T2 rfl rfl h32 rfl rfl ?_)
 refine oK 14 rfl (Z6q (H := [1]) (X := [110]) (v := .u (.one (.int .i64 x33.1))) (nobs := []) (oa' := _) (nx' := 6) hS17_14 [1] rfl (by decide) (h_c rfl h_n) rfl (g_1 rfl rfl rfl (g_1 rfl rfl rfl g_n)) EntC.h rfl rfl rfl rfl ?_ rfl)
 refine tD 15 1 [16, 18, 19] rfl (Q2 rfl E24 rfl rfl rfl h35 ?_)
 refine tD 16 1 [18, 19] rfl (Z5q rfl T2 rfl rfl h35 rfl rfl ?_)
 refine tK 18 0 rfl (kB ([.int .i64 (at_ ([18, 19]) x30.1), .int .i64 (at_ ([16, 32]) x33.1), .int .i64 x27.1, .int .i64 0, .int .i64 0, .int .i64 0, .nl]) ?_)
 refine oK 19 rfl (Z6q (H := [1]) (X := [110]) (v := .u (.one (.int .i64 x36.1))) (nobs := []) (oa' := _) (nx' := 6) hS17_19 [0, 1, 2, 3] rfl (by decide) (h_c rfl (h_c rfl (h_c (hrow rfl) (h_c (hrow rfl) h_n)))) (by simp only [hl2G, K9, KO] <;> rfl) (g_1 rfl rfl rfl (g_an rfl (.cons (.same rfl) (.cons (.same rfl) (.cons (.same rfl) (.cons (.same rfl) (.cons (.same rfl) (.cons (.same rfl) (.cons .nl .nil))))))) rfl g_n)) EntC.h rfl rfl (by simp only [hl2G, oaG, updO, Z6v, Z3f, HO] <;> rfl) rfl ?_ rfl)
 refine aN ?_
 cases hm
 exact vW [0, 1, 2, 3]
 refine t_n 1 [14] (by decide +kernel) (.cons (wy rfl (Y4q (enc := iL) ([18, 19]) A24 rfl rfl rfl rfl ?_)) (.cons (wy rfl (Z6q (H := [1]) (X := [110]) (v := .u (.one (.int .i64 x33.1))) (nobs := []) (oa' := _) (nx' := 5) hS17_14 [1] rfl (by decide) (h_c rfl h_n) rfl (g_1 rfl rfl rfl (g_1 rfl rfl rfl g_n)) EntC.h rfl rfl rfl rfl ?_ rfl)) .nil))
 refine tE 7 [8, 18, 19] rfl (Q2 rfl E24 rfl rfl rfl h32 ?_)
 refine tE 8 [18, 19] rfl (Z5q rfl T2 rfl rfl h32 rfl rfl ?_)
 refine oK 14 rfl (Z6q (H := [1]) (X := [110]) (v := .u (.one (.int .i64 x33.1))) (nobs := []) (oa' := _) (nx' := 6) hS17_14 [1] rfl (by decide) (h_c rfl h_n) rfl (g_1 rfl rfl rfl (g_1 rfl rfl rfl g_n)) EntC.h rfl rfl rfl rfl ?_ rfl)
 refine tD 15 1 [16, 18, 19] rfl (Q2 rfl E24 rfl rfl rfl h35 ?_)
 refine tD 16 1 [18, 19] rfl (Z5q rfl T2 rfl rfl h35 rfl rfl ?_)
 refine tK 18 0 rfl (kB ([.int .i64 (at_ ([18, 19]) x30.1), .int .i64 (at_ ([16, 32]) x33.1), .int .i64 x27.1, .int .i64 0, .int .i64 0, .int .i64 0, .nl]) ?_)
 refine oK 19 rfl (Z6q (H := [1]) (X := [110]) (v := .u (.one (.int .i64 x36.1))) (nobs := []) (oa' := _) (nx' := 6) hS17_19 [0, 1, 2, 3] rfl (by decide) (h_c rfl (h_c rfl (h_c (hrow rfl) (h_c (hrow rfl) h_n)))) (by simp only [hl2G, K9, KO] <;> rfl) (g_1 rfl rfl rfl (g_an rfl (.cons (.same rfl) (.cons (.same rfl) (.cons (.same rfl) (.cons (.same rfl) (.cons (.same rfl) (.cons (.same rfl) (.cons .nl .nil))))))) rfl g_n)) EntC.h rfl rfl (by simp only [hl2G, oaG, updO, Z6v, Z3f, HO] <;> rfl) rfl ?_ rfl)
 refine aN ?_
 cases hm
 exact vW [0, 1, 2, 3]
 refine tD 15 1 [16, 18, 19] rfl (Q2 rfl E24 rfl rfl rfl h35 ?_)
 refine tD 16 1 [18, 19] rfl (Z5q rfl T2 rfl rfl h35 rfl rfl ?_)
 refine oK 1 rfl (kM (iL) ([18, 19]) ?_)
 refine tD 7 1 [8, 18, 19] rfl (Q2 rfl E24 rfl rfl rfl h32 ?_)
 refine tD 8 1 [18, 19] rfl (Z5q rfl T2 rfl rfl h32 rfl rfl ?_)
 refine tK 18 0 rfl (kB ([.int .i64 (at_ ([18, 19]) x30.1), .int .i64 (at_ ([16, 32]) x33.1), .int .i64 x27.1, .int .i64 0, .int .i64 0, .int .i64 0, .nl]) ?_)
 refine oK 19 rfl (Z6q (H := [1]) (X := [110]) (v := .u (.one (.int .i64 x36.1))) (nobs := []) (oa' := _) (nx' := 6) hS17_19 [0, 1, 2, 3] rfl (by decide) (h_c rfl (h_c rfl (h_c (hrow rfl) (h_c (hrow rfl) h_n)))) (by simp only [hl2G, K9, KO] <;> rfl) (g_1 rfl rfl rfl (g_an rfl (.cons (.same rfl) (.cons (.same rfl) (.cons (.same rfl) (.cons (.same rfl) (.cons (.same rfl) (.cons (.same rfl) (.cons .nl .nil))))))) rfl g_n)) EntC.h rfl rfl (by simp only [hl2G, oaG, updO, Z6v, Z3f, HO] <;> rfl) rfl ?_ rfl)
 refine aN ?_
 cases hm
 exact vW [0, 1, 2, 3]
 refine yG ?_
 intro k3 hm
 cases hm
 exact ⟨rfl, vW [0, 1, 2, 3]⟩
 refine yG ?_
 intro _ hm
 refine bS hm (fun hb40 hm => ?_) fun hb40 hm => ?_
 refine yG ?_
 intro _ hm
 obtain ⟨x41, h42, hm⟩ := Z0 hm
 refine nO (cG [0, 1, 2, 3] (X1 h42) ?_)
 refine yG ?_
 intro _ hm
 refine nO (kM (iL) ([1, 8, 16]) ?_)
 refine yG ?_
 intro _ hm
 obtain ⟨x43, h44, hm⟩ := Z0 hm
 refine nO (cG [1] (Z2 h44) ?_)
 obtain ⟨h45, hm⟩ := Y1 hm
 refine nO (Q2 rfl E24 rfl rfl rfl h45 ?_)
 refine nO (Z5q rfl T2 rfl rfl h45 rfl rfl ?_)
 refine nO (x_mv rfl rfl ?_)
 refine nO (x_bu (cells := [.int .i64 20, .int .i64 (at_ ([1, 8, 16]) x43.1), .int .i64 x41.1, .int .i64 0, .int .i64 0, .int .i64 0, .nl]) T29 rfl rfl rfl ?_)
 refine WpO.ghb (q_nb 125 6 1) ?_
 obtain ⟨x46, h47, hm⟩ := Z0 hm
 refine nO (cG [0, 1, 2, 3] (X3 h47) ?_)
 refine yG ?_
 intro k4 hm
 cases hm
 exact ⟨rfl, vW [0, 1, 2, 3]⟩
 refine yG ?_
 intro _ hm
 refine bS hm (fun hb49 hm => ?_) fun hb49 hm => ?_
 refine yG ?_
 intro _ hm
 obtain ⟨x50, h51, hm⟩ := Z0 hm
 refine nO (cG [1] (Z2 h51) ?_)
 refine nO (x_bu (cells := [.int .i64 21, .int .i64 32, .int .i64 0, .int .i64 0, .int .i64 0, .int .i64 x50.1, .nl]) T29 rfl rfl rfl ?_)
 refine WpO.ghb (q_nb 135 6 1) ?_
 obtain ⟨x52, h53, hm⟩ := Z0 hm
 refine nO (cG [0, 1, 2, 3] (X3 h53) ?_)
 refine nO (x_as rfl rfl ?_)
 refine W5 ?_
 refine X4 ?_
 refine nO (x_mv rfl rfl ?_)
 refine nO (x_mv rfl rfl ?_)
 refine nO (x_bu (cells := [.int .i64 23, .int .i64 8, .int .i64 x52.1, .int .i64 0, .int .i64 0, .int .i64 0, .nl]) T29 rfl rfl rfl ?_)
 refine WpO.ghb (q_nb 139 6 1) ?_
 obtain ⟨x54, h55, hm⟩ := Z0 hm
 refine nO (cG [0, 1, 2, 3] (X3 h55) ?_)
 refine yG ?_
 intro k5 hm
 cases hm
 exact ⟨rfl, vW [0, 1, 2, 3]⟩
 refine yG ?_
 intro _ hm
 refine bS hm (fun hb57 hm => ?_) fun hb57 hm => ?_
 refine yG ?_
 intro _ hm
 obtain ⟨x58, h59, hm⟩ := Z0 hm
 refine nO (cG [1] (Z2 h59) ?_)
 refine nO (x_bu (cells := [.int .i64 21, .int .i64 32, .int .i64 0, .int .i64 0, .int .i64 0, .int .i64 x58.1, .nl]) T29 rfl rfl rfl ?_)
 refine WpO.ghb (q_nb 149 6 1) ?_
 obtain ⟨x60, h61, hm⟩ := Z0 hm
 refine nO (cG [0, 1, 2, 3] (X3 h61) ?_)
 refine yG ?_
 intro _ hm
 obtain ⟨x62, h63, hm⟩ := Z0 hm
 refine nO (cG [0, 1, 2, 3] (X1 h63) ?_)
 refine nO (x_as rfl rfl ?_)
 refine W5 ?_
 refine X4 ?_
 refine nO (x_mv rfl rfl ?_)
 refine nO (x_mv rfl rfl ?_)
 refine nO (x_mv rfl rfl ?_)
 refine nO (x_bu (cells := [.int .i64 24, .int .i64 0, .int .i64 x60.1, .int .i64 x62.1, .int .i64 0, .int .i64 0, .nl]) T29 rfl rfl rfl ?_)
 refine WpO.ghb (q_nb 156 6 1) ?_
 obtain ⟨x64, h65, hm⟩ := Z0 hm
 refine nO (cG [0, 1, 2, 3] (X3 h65) ?_)
 refine yG ?_
 intro k6 hm
 cases hm
 exact ⟨rfl, vW [0, 1, 2, 3]⟩
 refine yG ?_
 intro _ hm
 refine bS hm (fun hb67 hm => ?_) fun hb67 hm => ?_
 refine yG ?_
 intro _ hm
 obtain ⟨x68, h69, hm⟩ := Z0 hm
 refine nO (cG [0, 1, 2, 3] (X1 h69) ?_)
 refine nO (x_as rfl rfl ?_)
 refine W5 ?_
 refine X4 ?_
 refine nO (x_mv rfl rfl ?_)
 refine nO (x_mv rfl rfl ?_)
 refine nO (x_bu (cells := [.int .i64 25, .int .i64 0, .int .i64 x68.1, .int .i64 0, .int .i64 0, .int .i64 0, .nl]) T29 rfl rfl rfl ?_)
 refine WpO.ghb (q_nb 165 6 1) ?_
 obtain ⟨x70, h71, hm⟩ := Z0 hm
 refine nO (cG [0, 1, 2, 3] (X3 h71) ?_)
 refine yG ?_
 intro k7 hm
 cases hm
 exact ⟨rfl, vW [0, 1, 2, 3]⟩
 refine yG ?_
 intro _ hm
 refine bS hm (fun hb73 hm => ?_) fun hb73 hm => ?_
 refine yG ?_
 intro _ hm
 obtain ⟨x74, h75, hm⟩ := Z0 hm
 refine nO (cG [0, 1, 2, 3] (X1 h75) ?_)
 refine nO (x_as rfl rfl ?_)
 refine W5 ?_
 refine X4 ?_
 refine nO (x_mv rfl rfl ?_)
 refine nO (x_mv rfl rfl ?_)
 refine nO (x_mv rfl rfl ?_)
 refine nO (x_bu (cells := [.int .i64 27, .int .i64 x6.1, .int .i64 x74.1, .int .i64 0, .int .i64 0, .int .i64 0, .nl]) T29 rfl rfl rfl ?_)
 refine WpO.ghb (q_nb 175 6 1) ?_
 obtain ⟨x76, h77, hm⟩ := Z0 hm
 refine nO (cG [0, 1, 2, 3] (X3 h77) ?_)
 refine yG ?_
 intro k8 hm
 cases hm
 exact ⟨rfl, vW [0, 1, 2, 3]⟩
 refine yG ?_
 intro _ hm
 refine bS hm (fun hb79 hm => ?_) fun hb79 hm => ?_
 refine yG ?_
 intro _ hm
 obtain ⟨x80, h81, hm⟩ := Z0 hm
 refine nO (cG [0, 1, 2, 3] (Y6f h81) ?_)
 refine yG ?_
 intro k9 hm
 cases hm
 exact ⟨rfl, vW [0, 1, 2, 3]⟩
 refine yG ?_
 intro _ hm
 obtain ⟨x83, h84, hm⟩ := Z0 hm
 refine nO (cG [0, 1, 2, 3] (X1 h84) ?_)
 refine yG ?_
 intro _ hm
 obtain ⟨x85, h86, hm⟩ := Z0 hm
 refine nO (cG [0, 1, 2, 3] (X1 h86) ?_)
 refine yG ?_
 intro _ hm
 obtain ⟨x87, h88, hm⟩ := Z0 hm
 refine nO (cG [1] (Z2 h88) ?_)
 obtain ⟨h89, hm⟩ := Y1 hm
 refine nO (Y4a T3 rfl rfl h89 ?_)
 refine nO (x_mv rfl rfl ?_)
 refine nO (x_mv rfl rfl ?_)
 refine nO (x_mv rfl rfl ?_)
 refine nO (x_bu (cells := [.int .i64 (1 + x87.1), .int .i64 x6.1, .int .i64 x83.1, .int .i64 x85.1, .int .i64 0, .int .i64 0, .nl]) T29 rfl rfl rfl ?_)
 refine WpO.ghb (q_nb 56 6 1) ?_
 obtain ⟨x90, h91, hm⟩ := Z0 hm
 refine nO (cG [0, 1, 2, 3] (X3 h91) ?_)
 refine yG ?_
 intro k10 hm
 cases hm
 exact ⟨rfl, vW [0, 1, 2, 3]⟩
 refine V2 ?_
 cases hm
 exact ⟨rfl, vW [0, 1, 2, 3]⟩
 cases hm
 exact rGt [0, 1, 2, 3]
noncomputable def U2 (g : Gl2G) (gr : Gl1Rd) (grets : List Int) (gpars : List (List Int)) (t : GTerm) : Option (Gl2G × Gl1Rd) :=
 (if (List.length g.f.blocks + 1) * 80 ≤ 140737488355328 ∧ List.length g.f.blocks + 1 ≤ LIM then
 (some ((({ f := ({ params := g.f.params, ret := g.f.ret, blocks := g.f.blocks ++ [({ phis := g.b.phis, insts := g.b.insts, term := t } : GBlock)] } : GFunc), b := ({ phis := ([] : List GPhi), insts := ([] : List GInst), term := ({ kind := 0, a := 0, x := 0, y := 0 } : GTerm) } : GBlock), next := g.next, ids := g.ids, ws := g.ws } : Gl2G), gr)))
 else none)
theorem K1 {g : Gl2G} {gr : Gl1Rd} {grets : List Int} {gpars : List (List Int)} {t : GTerm} {r : Gl2G × Gl1Rd} (hm : U2 g gr grets gpars t = some r) : Sim Tryz.prog 242 [.one (.ptr () 0 0 0), .agg (Y3z t)] [⟨(), 15, [hl2G (.ptr () 1 0 0) (.ref () 2 0 (List.length grets)) (.ref () 3 0 (List.length gpars)) g]⟩, ⟨(), 2, [J3 false gr]⟩, ⟨(), 1, List.map iL grets⟩, ⟨(), 1, List.map (lL false 1 iL) gpars⟩] (.tup []) [⟨(), 15, [hl2G (.ptr () 1 0 0) (.ref () 2 0 (List.length grets)) (.ref () 3 0 (List.length gpars)) r.1]⟩, ⟨(), 2, [J3 false r.2]⟩, ⟨(), 1, List.map iL grets⟩, ⟨(), 1, List.map (lL false 1 iL) gpars⟩] := by
 refine fN 28 4 Tryz.func242 [] fun B hB0 => ?_
 unfold U2 at hm
 refine yG ?_
 intro _ hm
 refine nO (kW ?_)
 refine yR ?_
 intro _ hm
 refine W5 ?_
 refine Wp.seq ?_
 refine gH (q_op 0 3) ?_
 refine gH (q_op 0 4) ?_
 refine gH (q_op 0 5) ?_
 refine Z3m (Y := sysC _) Z3i ?_
 refine tK 0 0 rfl (kV ?_)
 refine tK 1 0 rfl (kV ?_)
 refine tD 2 1 [3, 4, 5, 11, 12, 13, 14, 15] rfl (kN ?_)
 refine tD 3 1 [4, 5, 11, 12, 13, 14, 15] rfl (kF ?_)
 refine tD 4 1 [5, 11, 12, 13, 14, 15] rfl (kF ?_)
 refine tK 5 1 rfl (kD ?_)
 refine tK 6 0 rfl (kV ?_)
 refine tD 7 1 [8, 9, 10, 11, 12, 13, 14, 15] rfl (kN ?_)
 refine tD 8 1 [9, 10, 11, 12, 13, 14, 15] rfl (kF ?_)
 refine tD 9 1 [10, 11, 12, 13, 14, 15] rfl (kL (.agg [.ref () 6 0 (List.length g.b.phis), .ref () 7 0 (List.length g.b.insts), .int .i64 t.kind, .int .i64 t.a, .int .i64 t.x, .int .i64 t.y]) ?_)
 refine oK 10 rfl (x_bs (rows := [[.ref () 6 0 (List.length g.b.phis), .ref () 7 0 (List.length g.b.insts), .int .i64 t.kind, .int .i64 t.a, .int .i64 t.x, .int .i64 t.y]]) A25 rfl rfl rfl ?_)
 obtain ⟨h1, hm⟩ := Y1 hm
 refine oK 11 rfl (x_apg (rows := List.map (W2 true) g.f.blocks ++ [[.ref () 6 0 (List.length g.b.phis), .ref () 7 0 (List.length g.b.insts), .int .i64 t.kind, .int .i64 t.a, .int .i64 t.x, .int .i64 t.y]]) (len' := List.length g.f.blocks + 1) A25 N25 rfl rfl (by simp) rfl (X9z rfl rfl) rfl (by simpa using h1) rfl (by simp) ?_)
 refine tD 12 1 [13, 14, 15] rfl (kN ?_)
 refine tD 13 1 [14, 15] rfl (kF ?_)
 refine tK 14 1 rfl (kF ?_)
 refine oK 15 rfl (kS ?_)
 refine aN ?_
 refine gH (f_cl (rows2 := List.map (ePhi true) g.b.phis) (rows' := List.map (W2 true) g.f.blocks ++ [[.os () 2 (List.map (ePhi true) g.b.phis), .ref () 7 0 (List.length g.b.insts), .int .i64 t.kind, .int .i64 t.a, .int .i64 t.x, .int .i64 t.y]]) 9 6 (List.length g.f.blocks) 0 rfl rfl rfl (Z3h (enc := ePhi true) (g.b.phis)) Y4n rfl (by simp) X4i) ?_
 refine gH (f_cl (rows2 := List.map (Q3 false) g.b.insts) (rows' := List.map (W2 true) (g.f.blocks ++ [({ phis := g.b.phis, insts := g.b.insts, term := t } : GBlock)])) 9 7 (List.length g.f.blocks) 1 rfl rfl rfl (Z3h (enc := Q3 false) (g.b.insts)) Y4n rfl (by simp) (X4j rfl)) ?_
 refine gH (q_cl 0 9 3) ?_
 refine yG ?_
 intro _ hm
 cases hm
 exact rGth [0, 1, 2, 3] (hg := (q_nlcR 0 4 2).trans ((q_czR 0 10 4).trans ((q_nlcR 0 5 7).trans (q_czR 0 11 5))))
end
section
set_option maxHeartbeats 8000000
set_option maxRecDepth 100000
attribute [local irreducible] aopK K0 Wp St WpO
noncomputable def Z0z (g : Gl2G) (gr : Gl1Rd) (grets : List Int) (gpars : List (List Int)) (w : Int) (ins : List Int) : Option (Int × Gl2G × Gl1Rd) :=
 (if (List.length g.b.phis + 1) * 32 ≤ 140737488355328 ∧ List.length g.b.phis + 1 ≤ LIM then
 (Option.bind (Z2f (({ f := g.f, b := ({ phis := g.b.phis ++ [({ w := w, ins := ins } : GPhi)], insts := g.b.insts, term := g.b.term } : GBlock), next := g.next, ids := g.ids, ws := g.ws } : Gl2G)) gr grets gpars w) fun x2 =>
 (some ((x2.1, x2.2.1, x2.2.2))))
 else none)
theorem Z6i {g : Gl2G} {gr : Gl1Rd} {grets : List Int} {gpars : List (List Int)} {w : Int} {ins : List Int} {r : Int × Gl2G × Gl1Rd} (hm : Z0z g gr grets gpars w ins = some r) : Sim Tryz.prog 243 [.one (.ptr () 0 0 0), .one (.int .i64 w), .one (.os () 1 (List.map iL ins))] [⟨(), 15, [hl2G (.ptr () 1 0 0) (.ref () 2 0 (List.length grets)) (.ref () 3 0 (List.length gpars)) g]⟩, ⟨(), 2, [J3 false gr]⟩, ⟨(), 1, List.map iL grets⟩, ⟨(), 1, List.map (lL false 1 iL) gpars⟩] (.u (.one (.int .i64 r.1))) [⟨(), 15, [hl2G (.ptr () 1 0 0) (.ref () 2 0 (List.length grets)) (.ref () 3 0 (List.length gpars)) r.2.1]⟩, ⟨(), 2, [J3 false r.2.2]⟩, ⟨(), 1, List.map iL grets⟩, ⟨(), 1, List.map (lL false 1 iL) gpars⟩] := by
 refine fN 24 4 Tryz.func243 [.tmp 6] fun B hB0 => ?_
 unfold Z0z at hm
 refine gH (f_ops (len := List.length ins) (u' := .one (.ref () 4 0 (List.length ins))) 2 0 1 rfl rfl rfl (by simp) rfl) ?_
 refine Wp.seq ?_
 refine X4 ?_
 refine nO (x_as rfl rfl ?_)
 refine W5 ?_
 refine Wp.seq ?_
 refine X4 ?_
 refine nO (x_mv rfl rfl ?_)
 refine nO (x_mv rfl rfl ?_)
 refine nO (X1f rfl rfl rfl ?_)
 refine nO (Y0e rfl F167_2 rfl rfl ?_)
 refine nO (Y0e rfl W1g rfl rfl ?_)
 refine WpO.ghb (q_op 0 4) ?_
 refine yG ?_
 intro _ hm
 refine nO (x_bs (rows := [[.int .i64 w, .ref () 4 0 (List.length ins)]]) A48 rfl rfl rfl ?_)
 obtain ⟨h1, hm⟩ := Y1 hm
 refine nO (x_apg (rows := List.map (ePhi true) g.b.phis ++ [[.int .i64 w, .ref () 4 0 (List.length ins)]]) (len' := List.length g.b.phis + 1) A48 N48 rfl rfl (by simp) rfl (X9z rfl rfl) rfl (by simpa using h1) rfl (by simp) ?_)
 refine yR ?_
 intro _ hm
 refine W5 ?_
 refine Wp.seq ?_
 refine gH (f_cl (rows2 := List.map iL ins) (rows' := List.map (ePhi true) (g.b.phis ++ [({ w := w, ins := ins } : GPhi)])) 7 4 (List.length g.b.phis) 1 rfl rfl rfl (Z3h (enc := iL) (ins)) Y4n rfl (by simp) (X4j rfl)) ?_
 refine gH (q_cl 0 7 4) ?_
 refine yG ?_
 intro _ hm
 obtain ⟨x2, h3, hm⟩ := Z0 hm
 refine nO (cG [0, 1, 2, 3] (Z8u h3) ?_)
 refine yG ?_
 intro _ hm
 cases hm
 exact rG1 [0, 1, 2, 3]
noncomputable def Z2q (g : Gl2G) (gr : Gl1Rd) (grets : List Int) (gpars : List (List Int)) : Option (Gl2G × Gl1Rd) :=
 (Option.bind (Y8 g gr grets gpars 1) fun x2 =>
 (Option.bind (U2 x2.2.1 x2.2.2 grets gpars (({ kind := 3, a := x2.1, x := ((List.length g.f.blocks : Int)) + 1, y := ((List.length g.f.blocks : Int)) + 2 } : GTerm))) fun x4 =>
 (Option.bind (Z5 x4.2 3) fun x6 =>
 (Option.bind (K4 x4.1 x6.2 grets gpars x6.1) fun x8 =>
 (Option.bind (J8 x8.2) fun x10 =>
 (Option.bind (Y8 x8.1 x10.2 grets gpars x10.1) fun x12 =>
 (Option.bind (Y8 x12.2.1 x12.2.2 grets gpars 8) fun x14 =>
 (Option.bind (U2 x14.2.1 x14.2.2 grets gpars (({ kind := 2, a := 0, x := ((List.length g.f.blocks : Int)) + 3, y := 0 } : GTerm))) fun x16 =>
 (Option.bind (Z5 x16.2 3) fun x18 =>
 (Option.bind (K4 (({ f := x16.1.f, b := x16.1.b, next := x16.1.next, ids := x4.1.ids, ws := x4.1.ws } : Gl2G)) x18.2 grets gpars x18.1) fun x20 =>
 (Option.bind (Y8 x20.1 x20.2 grets gpars x10.1) fun x22 =>
 (Option.bind (Y8 x22.2.1 x22.2.2 grets gpars 8) fun x24 =>
 (Option.bind (U2 x24.2.1 x24.2.2 grets gpars (({ kind := 2, a := 0, x := ((List.length g.f.blocks : Int)) + 3, y := 0 } : GTerm))) fun x26 =>
 (Option.bind (Z0z (({ f := x26.1.f, b := x26.1.b, next := x26.1.next, ids := x4.1.ids, ws := x4.1.ws } : Gl2G)) x26.2 grets gpars x10.1 ([x12.1, x22.1])) fun x28 =>
 (Option.bind (Z0z x28.2.1 x28.2.2 grets gpars 8 ([x14.1, x24.1])) fun x30 =>
 (some ((x30.2.1, x30.2.2))))))))))))))))))
theorem Y0w {g : Gl2G} {gr : Gl1Rd} {grets : List Int} {gpars : List (List Int)} {r : Gl2G × Gl1Rd} (hm : Z2q g gr grets gpars = some r) : Sim Tryz.prog 194 [.one (.ptr () 0 0 0)] [⟨(), 15, [hl2G (.ptr () 1 0 0) (.ref () 2 0 (List.length grets)) (.ref () 3 0 (List.length gpars)) g]⟩, ⟨(), 2, [J3 false gr]⟩, ⟨(), 1, List.map iL grets⟩, ⟨(), 1, List.map (lL false 1 iL) gpars⟩] (.tup []) [⟨(), 15, [hl2G (.ptr () 1 0 0) (.ref () 2 0 (List.length grets)) (.ref () 3 0 (List.length gpars)) r.1]⟩, ⟨(), 2, [J3 false r.2]⟩, ⟨(), 1, List.map iL grets⟩, ⟨(), 1, List.map (lL false 1 iL) gpars⟩] := by
 refine fN 101 4 Tryz.func194 [] fun B hB0 => ?_
 unfold Z2q at hm
 refine Wp.seq ?_
 refine X4 ?_
 refine nO (x_mv rfl rfl ?_)
 refine nO (X1f rfl rfl rfl ?_)
 refine nO (Y0e rfl X2q rfl rfl ?_)
 refine nO (Y0e rfl W4x rfl rfl ?_)
 refine WpO.ghb (q_op 0 3) ?_
 refine yR ?_
 intro k1 hm
 refine W5 ?_
 refine Wp.seq ?_
 refine gH (q_cl 0 4 3) ?_
 refine yG ?_
 intro _ hm
 obtain ⟨x2, h3, hm⟩ := Z0 hm
 refine nO (cG [0, 1, 2, 3] (X1 h3) ?_)
 refine yG ?_
 intro _ hm
 obtain ⟨x4, h5, hm⟩ := Z0 hm
 refine nO (cG [0, 1, 2, 3] (K1 h5) ?_)
 refine yG ?_
 intro _ hm
 obtain ⟨x6, h7, hm⟩ := Z0 hm
 refine nO (cG [1] (Z2 h7) ?_)
 obtain ⟨x8, h9, hm⟩ := Z0 hm
 refine nO (cG [0, 1, 2, 3] (Z1g h9) ?_)
 refine yG ?_
 intro _ hm
 obtain ⟨x10, h11, hm⟩ := Z0 hm
 refine nO (cG [1] (Z1k h11) ?_)
 refine yG ?_
 intro _ hm
 obtain ⟨x12, h13, hm⟩ := Z0 hm
 refine nO (cG [0, 1, 2, 3] (X1 h13) ?_)
 refine yG ?_
 intro _ hm
 obtain ⟨x14, h15, hm⟩ := Z0 hm
 refine nO (cG [0, 1, 2, 3] (X1 h15) ?_)
 refine yG ?_
 intro _ hm
 obtain ⟨x16, h17, hm⟩ := Z0 hm
 refine nO (cG [0, 1, 2, 3] (K1 h17) ?_)
 refine yG ?_
 intro _ hm
 obtain ⟨x18, h19, hm⟩ := Z0 hm
 refine nO (cG [1] (Z2 h19) ?_)
 obtain ⟨x20, h21, hm⟩ := Z0 hm
 refine nO (cG [0, 1, 2, 3] (Z1g h21) ?_)
 refine yG ?_
 intro _ hm
 obtain ⟨x22, h23, hm⟩ := Z0 hm
 refine nO (cG [0, 1, 2, 3] (X1 h23) ?_)
 refine yG ?_
 intro _ hm
 obtain ⟨x24, h25, hm⟩ := Z0 hm
 refine nO (cG [0, 1, 2, 3] (X1 h25) ?_)
 refine yG ?_
 intro _ hm
 obtain ⟨x26, h27, hm⟩ := Z0 hm
 refine nO (cG [0, 1, 2, 3] (K1 h27) ?_)
 refine yG ?_
 intro _ hm
 refine nO (kM (iL) ([x12.1, x22.1]) ?_)
 obtain ⟨x28, h29, hm⟩ := Z0 hm
 refine nO (cO [0, 1, 2, 3] [5] (Z6i h29) ?_)
 refine yG ?_
 intro _ hm
 refine nO (kM (iL) ([x14.1, x24.1]) ?_)
 obtain ⟨x30, h31, hm⟩ := Z0 hm
 refine nO (cO [0, 1, 2, 3] [6] (Z6i h31) ?_)
 refine W5 ?_
 cases hm
 exact rGt [0, 1, 2, 3]
noncomputable def Z2p (g : Gl2G) (gr : Gl1Rd) (grets : List Int) (gpars : List (List Int)) : Option (Gl2G × Gl1Rd) :=
 (Option.bind (Z5 gr 5) fun x2 =>
 (Option.bind (X2 g x2.2 grets gpars (({ op_ := 21, w := 8, a := 0, b := 0, c := 0, imm := x2.1, args := ([] : List Int) } : GInst))) fun x4 =>
 (Option.bind (J8 x4.2.2) fun x6 =>
 (Option.bind (Y8 x4.2.1 x6.2 grets gpars x6.1) fun x8 =>
 (Option.bind (U2 x8.2.1 x8.2.2 grets gpars (({ kind := 2, a := 0, x := ((List.length g.f.blocks : Int)) + 1, y := 0 } : GTerm))) fun x10 =>
 (Option.bind (Z0z x10.1 x10.2 grets gpars 8 ([x4.1, 0])) fun x12 =>
 (Option.bind (Z0z x12.2.1 x12.2.2 grets gpars x6.1 ([x8.1, 0])) fun x14 =>
 (Option.bind (X2 x14.2.1 x14.2.2 grets gpars (({ op_ := 21, w := 8, a := 0, b := 0, c := 0, imm := 0, args := ([] : List Int) } : GInst))) fun x16 =>
 (Option.bind (X2 x16.2.1 x16.2.2 grets gpars (({ op_ := 15, w := 8, a := x12.1, b := x16.1, c := 0, imm := 0, args := ([] : List Int) } : GInst))) fun x18 =>
 (Option.bind (U2 x18.2.1 x18.2.2 grets gpars (({ kind := 3, a := x18.1, x := ((List.length g.f.blocks : Int)) + 2, y := ((List.length g.f.blocks : Int)) + 3 } : GTerm))) fun x20 =>
 (Option.bind (X2 x20.1 x20.2 grets gpars (({ op_ := 21, w := 8, a := 0, b := 0, c := 0, imm := 1, args := ([] : List Int) } : GInst))) fun x22 =>
 (Option.bind (X2 x22.2.1 x22.2.2 grets gpars (({ op_ := 2, w := 8, a := x12.1, b := x22.1, c := 0, imm := 0, args := ([] : List Int) } : GInst))) fun x24 =>
 (Option.bind (Z5 x24.2.2 3) fun x26 =>
 (Option.bind (K4 x24.2.1 x26.2 grets gpars x26.1) fun x28 =>
 (Option.bind (Y8 x28.1 x28.2 grets gpars x6.1) fun x30 =>
 (Option.bind ((if (x30.1 == x14.1) = true then
 (Option.bind (X2 x30.2.1 x30.2.2 grets gpars (({ op_ := 1, w := x6.1, a := x14.1, b := x8.1, c := 0, imm := 0, args := ([] : List Int) } : GInst))) fun x34 =>
 (some ((x34.2.1, x34.2.2, x34.1))))
 else
 (some ((x30.2.1, x30.2.2, x30.1))))) fun (j32 : Gl2G × Gl1Rd × Int) =>
 (Option.bind (U2 j32.1 j32.2.1 grets gpars (({ kind := 2, a := 0, x := ((List.length g.f.blocks : Int)) + 1, y := 0 } : GTerm))) fun x37 =>
 (if 0 ≤ (((List.length g.f.blocks : Int)) + 1) ∧ (((List.length g.f.blocks : Int)) + 1) < (List.length x37.1.f.blocks : Int) then
 (if (0 : Int) ≤ 0 ∧ 0 < (List.length ((at_ x37.1.f.blocks (((List.length g.f.blocks : Int)) + 1)).phis) : Int) then
 (if (0 : Int) ≤ 1 ∧ 1 < (List.length ((at_ ((at_ x37.1.f.blocks (((List.length g.f.blocks : Int)) + 1)).phis) 0).ins) : Int) then
 (if 0 ≤ (((List.length g.f.blocks : Int)) + 1) ∧ (((List.length g.f.blocks : Int)) + 1) < (List.length (List.set x37.1.f.blocks (Int.toNat (((List.length g.f.blocks : Int)) + 1)) (({ phis := List.set ((at_ x37.1.f.blocks (((List.length g.f.blocks : Int)) + 1)).phis) (Int.toNat 0) (({ w := (at_ ((at_ x37.1.f.blocks (((List.length g.f.blocks : Int)) + 1)).phis) 0).w, ins := List.set ((at_ ((at_ x37.1.f.blocks (((List.length g.f.blocks : Int)) + 1)).phis) 0).ins) (Int.toNat 1) x24.1 } : GPhi)), insts := (at_ x37.1.f.blocks (((List.length g.f.blocks : Int)) + 1)).insts, term := ((at_ x37.1.f.blocks (((List.length g.f.blocks : Int)) + 1)).term) } : GBlock))) : Int) then
 (if (0 : Int) ≤ 1 ∧ 1 < (List.length ((at_ (List.set x37.1.f.blocks (Int.toNat (((List.length g.f.blocks : Int)) + 1)) (({ phis := List.set ((at_ x37.1.f.blocks (((List.length g.f.blocks : Int)) + 1)).phis) (Int.toNat 0) (({ w := (at_ ((at_ x37.1.f.blocks (((List.length g.f.blocks : Int)) + 1)).phis) 0).w, ins := List.set ((at_ ((at_ x37.1.f.blocks (((List.length g.f.blocks : Int)) + 1)).phis) 0).ins) (Int.toNat 1) x24.1 } : GPhi)), insts := (at_ x37.1.f.blocks (((List.length g.f.blocks : Int)) + 1)).insts, term := ((at_ x37.1.f.blocks (((List.length g.f.blocks : Int)) + 1)).term) } : GBlock))) (((List.length g.f.blocks : Int)) + 1)).phis) : Int) then
 (if (0 : Int) ≤ 1 ∧ 1 < (List.length ((at_ ((at_ (List.set x37.1.f.blocks (Int.toNat (((List.length g.f.blocks : Int)) + 1)) (({ phis := List.set ((at_ x37.1.f.blocks (((List.length g.f.blocks : Int)) + 1)).phis) (Int.toNat 0) (({ w := (at_ ((at_ x37.1.f.blocks (((List.length g.f.blocks : Int)) + 1)).phis) 0).w, ins := List.set ((at_ ((at_ x37.1.f.blocks (((List.length g.f.blocks : Int)) + 1)).phis) 0).ins) (Int.toNat 1) x24.1 } : GPhi)), insts := (at_ x37.1.f.blocks (((List.length g.f.blocks : Int)) + 1)).insts, term := ((at_ x37.1.f.blocks (((List.length g.f.blocks : Int)) + 1)).term) } : GBlock))) (((List.length g.f.blocks : Int)) + 1)).phis) 1).ins) : Int) then
 (some ((({ f := ({ params := x37.1.f.params, ret := x37.1.f.ret, blocks := List.set (List.set x37.1.f.blocks (Int.toNat (((List.length g.f.blocks : Int)) + 1)) (({ phis := List.set ((at_ x37.1.f.blocks (((List.length g.f.blocks : Int)) + 1)).phis) (Int.toNat 0) (({ w := (at_ ((at_ x37.1.f.blocks (((List.length g.f.blocks : Int)) + 1)).phis) 0).w, ins := List.set ((at_ ((at_ x37.1.f.blocks (((List.length g.f.blocks : Int)) + 1)).phis) 0).ins) (Int.toNat 1) x24.1 } : GPhi)), insts := (at_ x37.1.f.blocks (((List.length g.f.blocks : Int)) + 1)).insts, term := ((at_ x37.1.f.blocks (((List.length g.f.blocks : Int)) + 1)).term) } : GBlock))) (Int.toNat (((List.length g.f.blocks : Int)) + 1)) (({ phis := List.set ((at_ (List.set x37.1.f.blocks (Int.toNat (((List.length g.f.blocks : Int)) + 1)) (({ phis := List.set ((at_ x37.1.f.blocks (((List.length g.f.blocks : Int)) + 1)).phis) (Int.toNat 0) (({ w := (at_ ((at_ x37.1.f.blocks (((List.length g.f.blocks : Int)) + 1)).phis) 0).w, ins := List.set ((at_ ((at_ x37.1.f.blocks (((List.length g.f.blocks : Int)) + 1)).phis) 0).ins) (Int.toNat 1) x24.1 } : GPhi)), insts := (at_ x37.1.f.blocks (((List.length g.f.blocks : Int)) + 1)).insts, term := ((at_ x37.1.f.blocks (((List.length g.f.blocks : Int)) + 1)).term) } : GBlock))) (((List.length g.f.blocks : Int)) + 1)).phis) (Int.toNat 1) (({ w := (at_ ((at_ (List.set x37.1.f.blocks (Int.toNat (((List.length g.f.blocks : Int)) + 1)) (({ phis := List.set ((at_ x37.1.f.blocks (((List.length g.f.blocks : Int)) + 1)).phis) (Int.toNat 0) (({ w := (at_ ((at_ x37.1.f.blocks (((List.length g.f.blocks : Int)) + 1)).phis) 0).w, ins := List.set ((at_ ((at_ x37.1.f.blocks (((List.length g.f.blocks : Int)) + 1)).phis) 0).ins) (Int.toNat 1) x24.1 } : GPhi)), insts := (at_ x37.1.f.blocks (((List.length g.f.blocks : Int)) + 1)).insts, term := ((at_ x37.1.f.blocks (((List.length g.f.blocks : Int)) + 1)).term) } : GBlock))) (((List.length g.f.blocks : Int)) + 1)).phis) 1).w, ins := List.set ((at_ ((at_ (List.set x37.1.f.blocks (Int.toNat (((List.length g.f.blocks : Int)) + 1)) (({ phis := List.set ((at_ x37.1.f.blocks (((List.length g.f.blocks : Int)) + 1)).phis) (Int.toNat 0) (({ w := (at_ ((at_ x37.1.f.blocks (((List.length g.f.blocks : Int)) + 1)).phis) 0).w, ins := List.set ((at_ ((at_ x37.1.f.blocks (((List.length g.f.blocks : Int)) + 1)).phis) 0).ins) (Int.toNat 1) x24.1 } : GPhi)), insts := (at_ x37.1.f.blocks (((List.length g.f.blocks : Int)) + 1)).insts, term := ((at_ x37.1.f.blocks (((List.length g.f.blocks : Int)) + 1)).term) } : GBlock))) (((List.length g.f.blocks : Int)) + 1)).phis) 1).ins) (Int.toNat 1) j32.2.2 } : GPhi)), insts := (at_ (List.set x37.1.f.blocks (Int.toNat (((List.length g.f.blocks : Int)) + 1)) (({ phis := List.set ((at_ x37.1.f.blocks (((List.length g.f.blocks : Int)) + 1)).phis) (Int.toNat 0) (({ w := (at_ ((at_ x37.1.f.blocks (((List.length g.f.blocks : Int)) + 1)).phis) 0).w, ins := List.set ((at_ ((at_ x37.1.f.blocks (((List.length g.f.blocks : Int)) + 1)).phis) 0).ins) (Int.toNat 1) x24.1 } : GPhi)), insts := (at_ x37.1.f.blocks (((List.length g.f.blocks : Int)) + 1)).insts, term := ((at_ x37.1.f.blocks (((List.length g.f.blocks : Int)) + 1)).term) } : GBlock))) (((List.length g.f.blocks : Int)) + 1)).insts, term := ((at_ (List.set x37.1.f.blocks (Int.toNat (((List.length g.f.blocks : Int)) + 1)) (({ phis := List.set ((at_ x37.1.f.blocks (((List.length g.f.blocks : Int)) + 1)).phis) (Int.toNat 0) (({ w := (at_ ((at_ x37.1.f.blocks (((List.length g.f.blocks : Int)) + 1)).phis) 0).w, ins := List.set ((at_ ((at_ x37.1.f.blocks (((List.length g.f.blocks : Int)) + 1)).phis) 0).ins) (Int.toNat 1) x24.1 } : GPhi)), insts := (at_ x37.1.f.blocks (((List.length g.f.blocks : Int)) + 1)).insts, term := ((at_ x37.1.f.blocks (((List.length g.f.blocks : Int)) + 1)).term) } : GBlock))) (((List.length g.f.blocks : Int)) + 1)).term) } : GBlock)) } : GFunc), b := x37.1.b, next := x37.1.next, ids := x20.1.ids, ws := x20.1.ws } : Gl2G), x37.2)))
 else none)
 else none)
 else none)
 else none)
 else none)
 else none))))))))))))))))))
theorem Y0v {g : Gl2G} {gr : Gl1Rd} {grets : List Int} {gpars : List (List Int)} {r : Gl2G × Gl1Rd} (hm : Z2p g gr grets gpars = some r) : Sim Tryz.prog 195 [.one (.ptr () 0 0 0)] [⟨(), 15, [hl2G (.ptr () 1 0 0) (.ref () 2 0 (List.length grets)) (.ref () 3 0 (List.length gpars)) g]⟩, ⟨(), 2, [J3 false gr]⟩, ⟨(), 1, List.map iL grets⟩, ⟨(), 1, List.map (lL false 1 iL) gpars⟩] (.tup []) [⟨(), 15, [hl2G (.ptr () 1 0 0) (.ref () 2 0 (List.length grets)) (.ref () 3 0 (List.length gpars)) r.1]⟩, ⟨(), 2, [J3 false r.2]⟩, ⟨(), 1, List.map iL grets⟩, ⟨(), 1, List.map (lL false 1 iL) gpars⟩] := by
 refine fN 145 4 Tryz.func195 [] fun B hB0 => ?_
 unfold Z2p at hm
 refine Wp.seq ?_
 refine X4 ?_
 refine nO (x_mv rfl rfl ?_)
 refine nO (X1f rfl rfl rfl ?_)
 refine nO (Y0e rfl X2q rfl rfl ?_)
 refine nO (Y0e rfl W4x rfl rfl ?_)
 refine WpO.ghb (q_op 0 3) ?_
 refine yR ?_
 intro k1 hm
 refine W5 ?_
 refine Wp.seq ?_
 refine gH (q_cl 0 4 3) ?_
 refine yG ?_
 intro _ hm
 obtain ⟨x2, h3, hm⟩ := Z0 hm
 refine nO (cG [1] (Z2 h3) ?_)
 refine nO (x_bu (cells := [.int .i64 21, .int .i64 8, .int .i64 0, .int .i64 0, .int .i64 0, .int .i64 x2.1, .nl]) T29 rfl rfl rfl ?_)
 refine WpO.ghb (q_nb 27 6 1) ?_
 obtain ⟨x4, h5, hm⟩ := Z0 hm
 refine nO (cG [0, 1, 2, 3] (X3 h5) ?_)
 refine yG ?_
 intro _ hm
 obtain ⟨x6, h7, hm⟩ := Z0 hm
 refine nO (cG [1] (Z1k h7) ?_)
 refine yG ?_
 intro _ hm
 obtain ⟨x8, h9, hm⟩ := Z0 hm
 refine nO (cG [0, 1, 2, 3] (X1 h9) ?_)
 refine yG ?_
 intro _ hm
 obtain ⟨x10, h11, hm⟩ := Z0 hm
 refine nO (cG [0, 1, 2, 3] (K1 h11) ?_)
 refine yG ?_
 intro _ hm
 refine nO (kM (iL) ([x4.1, 0]) ?_)
 obtain ⟨x12, h13, hm⟩ := Z0 hm
 refine nO (cO [0, 1, 2, 3] [5] (Z6i h13) ?_)
 refine yG ?_
 intro _ hm
 refine nO (kM (iL) ([x8.1, 0]) ?_)
 obtain ⟨x14, h15, hm⟩ := Z0 hm
 refine nO (cO [0, 1, 2, 3] [6] (Z6i h15) ?_)
 refine nO (x_as rfl rfl ?_)
 refine W5 ?_
 refine Wp.seq ?_
 refine X4 ?_
 refine nO (x_mv rfl rfl ?_)
 refine nO (x_bu (cells := [.int .i64 21, .int .i64 8, .int .i64 0, .int .i64 0, .int .i64 0, .int .i64 0, .nl]) T29 rfl rfl rfl ?_)
 refine WpO.ghb (q_nb 52 6 1) ?_
 obtain ⟨x16, h17, hm⟩ := Z0 hm
 refine nO (cG [0, 1, 2, 3] (X3 h17) ?_)
 refine nO (x_as rfl rfl ?_)
 refine W5 ?_
 refine Wp.seq ?_
 refine X4 ?_
 refine nO (x_mv rfl rfl ?_)
 refine nO (x_mv rfl rfl ?_)
 refine nO (x_mv rfl rfl ?_)
 refine nO (x_bu (cells := [.int .i64 15, .int .i64 8, .int .i64 x12.1, .int .i64 x16.1, .int .i64 0, .int .i64 0, .nl]) T29 rfl rfl rfl ?_)
 refine WpO.ghb (q_nb 57 6 1) ?_
 obtain ⟨x18, h19, hm⟩ := Z0 hm
 refine nO (cG [0, 1, 2, 3] (X3 h19) ?_)
 refine yG ?_
 intro _ hm
 obtain ⟨x20, h21, hm⟩ := Z0 hm
 refine nO (cG [0, 1, 2, 3] (K1 h21) ?_)
 refine W5 ?_
 refine Wp.seq ?_
 refine X4 ?_
 refine yR ?_
 intro _ hm
 refine W5 ?_
 refine Wp.seq ?_
 refine X4 ?_
 refine yR ?_
 intro _ hm
 refine W5 ?_
 refine Wp.seq ?_
 refine X4 ?_
 refine nO (x_mv rfl rfl ?_)
 refine nO (x_bu (cells := [.int .i64 21, .int .i64 8, .int .i64 0, .int .i64 0, .int .i64 0, .int .i64 1, .nl]) T29 rfl rfl rfl ?_)
 refine WpO.ghb (q_nb 76 6 1) ?_
 obtain ⟨x22, h23, hm⟩ := Z0 hm
 refine nO (cG [0, 1, 2, 3] (X3 h23) ?_)
 refine nO (x_as rfl rfl ?_)
 refine W5 ?_
 refine Wp.seq ?_
 refine X4 ?_
 refine nO (x_mv rfl rfl ?_)
 refine nO (x_mv rfl rfl ?_)
 refine nO (x_mv rfl rfl ?_)
 refine nO (x_bu (cells := [.int .i64 2, .int .i64 8, .int .i64 x12.1, .int .i64 x22.1, .int .i64 0, .int .i64 0, .nl]) T29 rfl rfl rfl ?_)
 refine WpO.ghb (q_nb 81 6 1) ?_
 obtain ⟨x24, h25, hm⟩ := Z0 hm
 refine nO (cG [0, 1, 2, 3] (X3 h25) ?_)
 refine yG ?_
 intro _ hm
 obtain ⟨x26, h27, hm⟩ := Z0 hm
 refine nO (cG [1] (Z2 h27) ?_)
 obtain ⟨x28, h29, hm⟩ := Z0 hm
 refine nO (cG [0, 1, 2, 3] (Z1g h29) ?_)
 refine yG ?_
 intro _ hm
 obtain ⟨x30, h31, hm⟩ := Z0 hm
 refine nO (cG [0, 1, 2, 3] (X1 h31) ?_)
 refine nO (x_as rfl rfl ?_)
 refine W5 ?_
 refine Wp.seq ?_
 obtain ⟨j32, hj36, hm⟩ := Z0 hm
 refine V6 (St 145 [(0, vP 0), (2, vI ((List.length g.f.blocks : Int))), (10, .u (.one (.bs () 1 (List.map iL x20.1.ids)))), (11, .u (.one (.bs () 1 (List.map iL x20.1.ws)))), (13, vI x24.1), (14, vI j32.2.2)] [(0, oL 15 (hl2G (.ptr () 1 0 0) (.ref () 2 0 (List.length grets)) (.ref () 3 0 (List.length gpars)) j32.1)), (1, oL 2 (J3 false j32.2.1)), (2, oM 1 iL grets), (3, oM 1 (lL false 1 iL) gpars)] 4) ?_ ?_
 replace hm := hj36
 refine yG ?_
 intro _ hm
 refine bS hm (fun hb33 hm => ?_) fun hb33 hm => ?_
 refine X4 ?_
 refine nO (x_mv rfl rfl ?_)
 refine nO (x_mv rfl rfl ?_)
 refine nO (x_mv rfl rfl ?_)
 refine nO (x_mv rfl rfl ?_)
 refine nO (x_bu (cells := [.int .i64 1, .int .i64 x6.1, .int .i64 x14.1, .int .i64 x8.1, .int .i64 0, .int .i64 0, .nl]) T29 rfl rfl rfl ?_)
 refine WpO.ghb (q_nb 100 6 1) ?_
 obtain ⟨x34, h35, hm⟩ := Z0 hm
 refine nO (cG [0, 1, 2, 3] (X3 h35) ?_)
 refine yG ?_
 intro _ hm
 cases hm
 exact vW [0, 1, 2, 3]
 refine K3 ?_
 cases hm
 exact vW [0, 1, 2, 3]
 refine yG ?_
 intro _ hm
 obtain ⟨x37, h38, hm⟩ := Z0 hm
 refine nO (cG [0, 1, 2, 3] (K1 h38) ?_)
 refine W5 ?_
 refine Wp.seq ?_
 refine X4 ?_
 refine nO (x_mv rfl rfl ?_)
 refine nO (X1f rfl rfl rfl ?_)
 refine nO (Y0e rfl X2q rfl rfl ?_)
 refine nO (Y0e rfl W4x rfl rfl ?_)
 refine WpO.ghb (q_op 0 3) ?_
 refine nO (Y2i rfl T25 rfl rfl rfl rfl rfl ?_)
 refine nO (x_mv rfl rfl ?_)
 refine nO (Y4a T2 rfl rfl (by unfold inI; omega) ?_)
 obtain ⟨h39, hm⟩ := Y1 hm
 refine nO (Q2 rfl E25 rfl rfl rfl h39 ?_)
 refine nO (Y0e rfl W1g rfl rfl ?_)
 refine WpO.ghb (X5m 4 0 h39) ?_
 refine nO (Y2i rfl T48 rfl rfl (Z4p h39) rfl rfl ?_)
 obtain ⟨h40, hm⟩ := Y1 hm
 refine nO (Q2 rfl E48 rfl rfl rfl h40 ?_)
 refine nO (Y0e rfl W7d rfl rfl ?_)
 refine WpO.ghb (X5m 5 1 h40) ?_
 refine nO (Y2i rfl T24 rfl rfl (Z4p h40) rfl rfl ?_)
 refine yG ?_
 intro k2 hm
 refine nO (Y0d x24.1 T2 rfl rfl rfl k2.2 rfl rfl rfl rfl ?_)
 refine WpO.ghb (W2n (({ w := (at_ ((at_ x37.1.f.blocks (((List.length g.f.blocks : Int)) + 1)).phis) 0).w, ins := List.set ((at_ ((at_ x37.1.f.blocks (((List.length g.f.blocks : Int)) + 1)).phis) 0).ins) (Int.toNat 1) x24.1 } : GPhi)) 5 6 1 h40) ?_
 refine WpO.ghb (W2n (({ phis := List.set ((at_ x37.1.f.blocks (((List.length g.f.blocks : Int)) + 1)).phis) (Int.toNat 0) (({ w := (at_ ((at_ x37.1.f.blocks (((List.length g.f.blocks : Int)) + 1)).phis) 0).w, ins := List.set ((at_ ((at_ x37.1.f.blocks (((List.length g.f.blocks : Int)) + 1)).phis) 0).ins) (Int.toNat 1) x24.1 } : GPhi)), insts := (at_ x37.1.f.blocks (((List.length g.f.blocks : Int)) + 1)).insts, term := ((at_ x37.1.f.blocks (((List.length g.f.blocks : Int)) + 1)).term) } : GBlock)) 4 5 0 h39) ?_
 refine W5 ?_
 refine Wp.seq ?_
 refine gH (q_cl 0 4 3) ?_
 refine X4 ?_
 refine nO (x_mv rfl rfl ?_)
 refine nO (X1f rfl rfl rfl ?_)
 refine nO (Y0e rfl X2q rfl rfl ?_)
 refine nO (Y0e rfl W4x rfl rfl ?_)
 refine WpO.ghb (q_op 0 3) ?_
 refine nO (Y2i rfl T25 rfl rfl rfl rfl rfl ?_)
 refine nO (x_mv rfl rfl ?_)
 refine nO (Y4a T2 rfl rfl (by unfold inI; omega) ?_)
 obtain ⟨h42, hm⟩ := Y1 hm
 refine nO (Q2 rfl E25 rfl rfl rfl h42 ?_)
 refine nO (Y0e rfl W1g rfl rfl ?_)
 refine WpO.ghb (X5m 7 0 h42) ?_
 refine nO (Y2i rfl T48 rfl rfl (Z4p h42) rfl rfl ?_)
 obtain ⟨h43, hm⟩ := Y1 hm
 refine nO (Q2 rfl E48 rfl rfl rfl h43 ?_)
 refine nO (Y0e rfl W7d rfl rfl ?_)
 refine WpO.ghb (X5m 8 1 h43) ?_
 refine nO (Y2i rfl T24 rfl rfl (Z4p h43) rfl rfl ?_)
 refine yG ?_
 intro k3 hm
 refine nO (Y0d j32.2.2 T2 rfl rfl rfl k3.2 rfl rfl rfl rfl ?_)
 refine WpO.ghb (W2n (({ w := (at_ ((at_ (List.set x37.1.f.blocks (Int.toNat (((List.length g.f.blocks : Int)) + 1)) (({ phis := List.set ((at_ x37.1.f.blocks (((List.length g.f.blocks : Int)) + 1)).phis) (Int.toNat 0) (({ w := (at_ ((at_ x37.1.f.blocks (((List.length g.f.blocks : Int)) + 1)).phis) 0).w, ins := List.set ((at_ ((at_ x37.1.f.blocks (((List.length g.f.blocks : Int)) + 1)).phis) 0).ins) (Int.toNat 1) x24.1 } : GPhi)), insts := (at_ x37.1.f.blocks (((List.length g.f.blocks : Int)) + 1)).insts, term := ((at_ x37.1.f.blocks (((List.length g.f.blocks : Int)) + 1)).term) } : GBlock))) (((List.length g.f.blocks : Int)) + 1)).phis) 1).w, ins := List.set ((at_ ((at_ (List.set x37.1.f.blocks (Int.toNat (((List.length g.f.blocks : Int)) + 1)) (({ phis := List.set ((at_ x37.1.f.blocks (((List.length g.f.blocks : Int)) + 1)).phis) (Int.toNat 0) (({ w := (at_ ((at_ x37.1.f.blocks (((List.length g.f.blocks : Int)) + 1)).phis) 0).w, ins := List.set ((at_ ((at_ x37.1.f.blocks (((List.length g.f.blocks : Int)) + 1)).phis) 0).ins) (Int.toNat 1) x24.1 } : GPhi)), insts := (at_ x37.1.f.blocks (((List.length g.f.blocks : Int)) + 1)).insts, term := ((at_ x37.1.f.blocks (((List.length g.f.blocks : Int)) + 1)).term) } : GBlock))) (((List.length g.f.blocks : Int)) + 1)).phis) 1).ins) (Int.toNat 1) j32.2.2 } : GPhi)) 8 9 1 h43) ?_
 refine WpO.ghb (W2n (({ phis := List.set ((at_ (List.set x37.1.f.blocks (Int.toNat (((List.length g.f.blocks : Int)) + 1)) (({ phis := List.set ((at_ x37.1.f.blocks (((List.length g.f.blocks : Int)) + 1)).phis) (Int.toNat 0) (({ w := (at_ ((at_ x37.1.f.blocks (((List.length g.f.blocks : Int)) + 1)).phis) 0).w, ins := List.set ((at_ ((at_ x37.1.f.blocks (((List.length g.f.blocks : Int)) + 1)).phis) 0).ins) (Int.toNat 1) x24.1 } : GPhi)), insts := (at_ x37.1.f.blocks (((List.length g.f.blocks : Int)) + 1)).insts, term := ((at_ x37.1.f.blocks (((List.length g.f.blocks : Int)) + 1)).term) } : GBlock))) (((List.length g.f.blocks : Int)) + 1)).phis) (Int.toNat 1) (({ w := (at_ ((at_ (List.set x37.1.f.blocks (Int.toNat (((List.length g.f.blocks : Int)) + 1)) (({ phis := List.set ((at_ x37.1.f.blocks (((List.length g.f.blocks : Int)) + 1)).phis) (Int.toNat 0) (({ w := (at_ ((at_ x37.1.f.blocks (((List.length g.f.blocks : Int)) + 1)).phis) 0).w, ins := List.set ((at_ ((at_ x37.1.f.blocks (((List.length g.f.blocks : Int)) + 1)).phis) 0).ins) (Int.toNat 1) x24.1 } : GPhi)), insts := (at_ x37.1.f.blocks (((List.length g.f.blocks : Int)) + 1)).insts, term := ((at_ x37.1.f.blocks (((List.length g.f.blocks : Int)) + 1)).term) } : GBlock))) (((List.length g.f.blocks : Int)) + 1)).phis) 1).w, ins := List.set ((at_ ((at_ (List.set x37.1.f.blocks (Int.toNat (((List.length g.f.blocks : Int)) + 1)) (({ phis := List.set ((at_ x37.1.f.blocks (((List.length g.f.blocks : Int)) + 1)).phis) (Int.toNat 0) (({ w := (at_ ((at_ x37.1.f.blocks (((List.length g.f.blocks : Int)) + 1)).phis) 0).w, ins := List.set ((at_ ((at_ x37.1.f.blocks (((List.length g.f.blocks : Int)) + 1)).phis) 0).ins) (Int.toNat 1) x24.1 } : GPhi)), insts := (at_ x37.1.f.blocks (((List.length g.f.blocks : Int)) + 1)).insts, term := ((at_ x37.1.f.blocks (((List.length g.f.blocks : Int)) + 1)).term) } : GBlock))) (((List.length g.f.blocks : Int)) + 1)).phis) 1).ins) (Int.toNat 1) j32.2.2 } : GPhi)), insts := (at_ (List.set x37.1.f.blocks (Int.toNat (((List.length g.f.blocks : Int)) + 1)) (({ phis := List.set ((at_ x37.1.f.blocks (((List.length g.f.blocks : Int)) + 1)).phis) (Int.toNat 0) (({ w := (at_ ((at_ x37.1.f.blocks (((List.length g.f.blocks : Int)) + 1)).phis) 0).w, ins := List.set ((at_ ((at_ x37.1.f.blocks (((List.length g.f.blocks : Int)) + 1)).phis) 0).ins) (Int.toNat 1) x24.1 } : GPhi)), insts := (at_ x37.1.f.blocks (((List.length g.f.blocks : Int)) + 1)).insts, term := ((at_ x37.1.f.blocks (((List.length g.f.blocks : Int)) + 1)).term) } : GBlock))) (((List.length g.f.blocks : Int)) + 1)).insts, term := ((at_ (List.set x37.1.f.blocks (Int.toNat (((List.length g.f.blocks : Int)) + 1)) (({ phis := List.set ((at_ x37.1.f.blocks (((List.length g.f.blocks : Int)) + 1)).phis) (Int.toNat 0) (({ w := (at_ ((at_ x37.1.f.blocks (((List.length g.f.blocks : Int)) + 1)).phis) 0).w, ins := List.set ((at_ ((at_ x37.1.f.blocks (((List.length g.f.blocks : Int)) + 1)).phis) 0).ins) (Int.toNat 1) x24.1 } : GPhi)), insts := (at_ x37.1.f.blocks (((List.length g.f.blocks : Int)) + 1)).insts, term := ((at_ x37.1.f.blocks (((List.length g.f.blocks : Int)) + 1)).term) } : GBlock))) (((List.length g.f.blocks : Int)) + 1)).term) } : GBlock)) 7 8 0 h42) ?_
 refine W5 ?_
 refine Wp.seq ?_
 refine gH (q_cl 0 7 3) ?_
 refine yG ?_
 intro _ hm
 cases hm
 exact rGt [0, 1, 2, 3]
noncomputable def Z4m (g : Gl2G) (gr : Gl1Rd) (grets : List Int) (gpars : List (List Int)) : Option (Gl2G × Gl1Rd) :=
 (Option.bind (J7 gr 14) fun x1 =>
 (if x1.1 = true then
 (Option.bind (U2 g x1.2 grets gpars (({ kind := 4, a := 0, x := 0, y := 0 } : GTerm))) fun x4 =>
 (some ((x4.1, x4.2))))
 else
 (Option.bind (Y8 g x1.2 grets gpars g.f.ret) fun x6 =>
 (Option.bind (U2 x6.2.1 x6.2.2 grets gpars (({ kind := 1, a := x6.1, x := 0, y := 0 } : GTerm))) fun x8 =>
 (some ((x8.1, x8.2)))))))
theorem Y6e {g : Gl2G} {gr : Gl1Rd} {grets : List Int} {gpars : List (List Int)} {r : Gl2G × Gl1Rd} (hm : Z4m g gr grets gpars = some r) : Sim Tryz.prog 196 [.one (.ptr () 0 0 0)] [⟨(), 15, [hl2G (.ptr () 1 0 0) (.ref () 2 0 (List.length grets)) (.ref () 3 0 (List.length gpars)) g]⟩, ⟨(), 2, [J3 false gr]⟩, ⟨(), 1, List.map iL grets⟩, ⟨(), 1, List.map (lL false 1 iL) gpars⟩] (.tup []) [⟨(), 15, [hl2G (.ptr () 1 0 0) (.ref () 2 0 (List.length grets)) (.ref () 3 0 (List.length gpars)) r.1]⟩, ⟨(), 2, [J3 false r.2]⟩, ⟨(), 1, List.map iL grets⟩, ⟨(), 1, List.map (lL false 1 iL) gpars⟩] := by
 refine fN 22 4 Tryz.func196 [] fun B hB0 => ?_
 unfold Z4m at hm
 refine yG ?_
 intro _ hm
 obtain ⟨x1, h2, hm⟩ := Z0 hm
 refine nO (cG [1] (Z4g h2) ?_)
 refine W5 ?_
 refine bS hm (fun hb3 hm => ?_) fun hb3 hm => ?_
 refine yG ?_
 intro _ hm
 obtain ⟨x4, h5, hm⟩ := Z0 hm
 refine nO (cG [0, 1, 2, 3] (K1 h5) ?_)
 refine W5 ?_
 refine Z1s ?_
 cases hm
 exact rGt [0, 1, 2, 3]
 refine yG ?_
 intro _ hm
 obtain ⟨x6, h7, hm⟩ := Z0 hm
 refine nO (cG [0, 1, 2, 3] (X1 h7) ?_)
 refine yG ?_
 intro _ hm
 obtain ⟨x8, h9, hm⟩ := Z0 hm
 refine nO (cG [0, 1, 2, 3] (K1 h9) ?_)
 refine W5 ?_
 cases hm
 exact rGt [0, 1, 2, 3]
noncomputable def Z5u (vr : Gl1Rd) (rets : List Int) (pars : List (List Int)) : Option (GFunc × Gl1Rd) :=
 (Option.bind (J8 vr) fun x1 =>
 (Option.bind (Z5 x1.2 3) fun x3 =>
 (Option.bind (Y6 (fun (st5 : Gl1Rd × Gl2G × Int) =>
 ((if decide (st5.2.2 > 0) = true then
 (Option.bind (J8 st5.1) fun x8 =>
 (if (List.length st5.2.1.f.params + List.length ([x8.1])) * 8 ≤ 140737488355328 ∧ List.length st5.2.1.f.params + List.length ([x8.1]) ≤ LIM then
 (Option.bind (Z2f (({ f := ({ params := st5.2.1.f.params ++ ([x8.1]), ret := st5.2.1.f.ret, blocks := st5.2.1.f.blocks } : GFunc), b := st5.2.1.b, next := st5.2.1.next, ids := st5.2.1.ids, ws := st5.2.1.ws } : Gl2G)) x8.2 rets pars x8.1) fun x11 =>
 (if inI (st5.2.2 - 1) then
 (some (Sum.inl ((x11.2.2, x11.2.1, st5.2.2 - 1))))
 else none))
 else none))
 else
 (some (Sum.inr (((st5.1, st5.2.1)))))) : Option ((Gl1Rd × Gl2G × Int) ⊕ ((Gl1Rd × Gl2G))))) (x3.2, ({ f := ({ params := ([] : List Int), ret := x1.1, blocks := ([] : List GBlock) } : GFunc), b := ({ phis := ([] : List GPhi), insts := ([] : List GInst), term := ({ kind := 0, a := 0, x := 0, y := 0 } : GTerm) } : GBlock), next := 0, ids := ([] : List Int), ws := ([] : List Int) } : Gl2G), x3.1)) fun (j6 : Gl1Rd × Gl2G) =>
 (Option.bind (Z5 j6.1 5) fun x16 =>
 (if inI (1 + x16.1) then
 (Option.bind (K4 j6.2 x16.2 rets pars (1 + x16.1)) fun x19 =>
 (Option.bind ((Option.bind (Z5 x19.2 4) fun x22 =>
 (if (x22.1 == 0) = true then
 (Option.bind (Z2q x19.1 x22.2 rets pars) fun x25 =>
 (some ((x25.2, x25.1))))
 else
 (if (x22.1 == 1) = true then
 (Option.bind (Z2p x19.1 x22.2 rets pars) fun x28 =>
 (some ((x28.2, x28.1))))
 else
 (if (x22.1 == 2) = true then
 (Option.bind (Z2q x19.1 x22.2 rets pars) fun x31 =>
 (Option.bind (Z5 x31.2 3) fun x33 =>
 (Option.bind (K4 x31.1 x33.2 rets pars x33.1) fun x35 =>
 (Option.bind (Z2p x35.1 x35.2 rets pars) fun x37 =>
 (some ((x37.2, x37.1)))))))
 else
 (some ((x22.2, x19.1)))))))) fun (j21 : Gl1Rd × Gl2G) =>
 (Option.bind (Z5 j21.1 3) fun x40 =>
 (Option.bind (K4 j21.2 x40.2 rets pars x40.1) fun x42 =>
 (Option.bind (Z4m x42.1 x42.2 rets pars) fun x44 =>
 (some ((({ params := x44.1.f.params, ret := x44.1.f.ret, blocks := x44.1.f.blocks } : GFunc), x44.2))))))))
 else none)))))
theorem Y7u {vr : Gl1Rd} {rets : List Int} {pars : List (List Int)} {r : GFunc × Gl1Rd} (hm : Z5u vr rets pars = some r) : Sim Tryz.prog 114 [.one (.ptr () 0 0 0), .one (.ref () 1 0 (List.length rets)), .one (.ref () 2 0 (List.length pars))] [⟨(), 2, [J3 false vr]⟩, ⟨(), 1, List.map iL rets⟩, ⟨(), 1, List.map (lL false 1 iL) pars⟩] (.u (.agg (Z9 true r.1))) [⟨(), 2, [J3 false r.2]⟩, ⟨(), 1, List.map iL rets⟩, ⟨(), 1, List.map (lL false 1 iL) pars⟩] := by
 refine fN 79 3 Tryz.func114 [.cell 6 27] fun B hB0 => ?_
 unfold Z5u at hm
 refine Wp.seq ?_
 refine X4 ?_
 refine nO (x_al T27 (r := [.nl, .int .i64 0, .nl]) rfl rfl ?_)
 refine W5 ?_
 refine Wp.seq ?_
 refine X4 ?_
 refine nO (x_mv rfl rfl ?_)
 refine nO (x_mv rfl rfl ?_)
 refine nO (x_mv rfl rfl ?_)
 refine nO (x_bu (cells := [.ptr () 0 0 0, .nl, .int .i64 0, .nl, .nl, .nl, .int .i64 0, .int .i64 0, .int .i64 0, .int .i64 0, .int .i64 0, .nl, .nl, .ref () 1 0 (List.length rets), .ref () 2 0 (List.length pars)]) T167 rfl rfl rfl ?_)
 refine WpO.ghb (q_nb 13 11 1) ?_
 refine WpO.ghb (q_nb 13 12 1) ?_
 refine yR ?_
 intro _ hm
 refine W5 ?_
 refine Wp.seq ?_
 refine gH (W2m 4 1 1) ?_
 refine gH (q_cz 4 5 1) ?_
 refine gH (W2m 4 3 6) ?_
 refine gH (q_cz 4 6 3) ?_
 refine gH (W2m 4 4 2) ?_
 refine gH (q_cz 4 7 4) ?_
 refine gH (W2m 4 5 7) ?_
 refine gH (q_cz 4 8 5) ?_
 refine yG ?_
 intro _ hm
 obtain ⟨x1, h2, hm⟩ := Z0 hm
 refine nO (cG [0] (Z1k h2) ?_)
 refine yG ?_
 intro _ hm
 obtain ⟨x3, h4, hm⟩ := Z0 hm
 refine nO (cG [0] (Z2 h4) ?_)
 refine yG ?_
 intro _ hm
 obtain ⟨j6, hl15, hm⟩ := Z0 hm
 refine lP hl15 (fun st5 => St 79 [(0, vP 0), (6, vP 3), (7, vP 4), (8, vI st5.2.2)] [(0, oL 2 (J3 false st5.1)), (1, oM 1 iL rets), (2, oM 1 (lL false 1 iL) pars), (3, oL 3 [.nl, .int .i64 0, .nl]), (4, oL 15 (hl2G (.ptr () 0 0 0) (.ref () 1 0 (List.length rets)) (.ref () 2 0 (List.length pars)) st5.2.1))] 5) (fun j6 => (.exit 0, St 79 [(0, vP 0), (6, vP 3), (7, vP 4)] [(0, oL 2 (J3 false j6.1)), (1, oM 1 iL rets), (2, oM 1 (lL false 1 iL) pars), (3, oL 3 [.nl, .int .i64 0, .nl]), (4, oL 15 (hl2G (.ptr () 0 0 0) (.ref () 1 0 (List.length rets)) (.ref () 2 0 (List.length pars)) j6.2))] 5)) (vW [0, 1, 2, 3, 4]) ?_ ?_
 intro st5 x hm
 refine yG ?_
 intro _ hm
 refine bS hm (fun hb7 hm => ?_) fun hb7 hm => ?_
 refine yG ?_
 intro _ hm
 obtain ⟨x8, h9, hm⟩ := Z0 hm
 refine nO (cG [0] (Z1k h9) ?_)
 refine nO (x_as rfl rfl ?_)
 refine W5 ?_
 refine Wp.seq ?_
 refine X4 ?_
 refine nO (x_mv rfl rfl ?_)
 refine nO (x_mv rfl rfl ?_)
 refine nO (X1f rfl rfl rfl ?_)
 refine nO (Y0e rfl X2q rfl rfl ?_)
 refine nO (Y0e rfl F27_0 rfl rfl ?_)
 refine WpO.ghb (q_op 4 1) ?_
 refine yG ?_
 intro _ hm
 refine nO (kM (iL) ([x8.1]) ?_)
 refine yR ?_
 intro k1 hm
 refine W5 ?_
 refine gH (q_cl 4 7 1) ?_
 refine yG ?_
 intro _ hm
 obtain ⟨x11, h12, hm⟩ := Z0 hm
 refine nO (cG [4, 0, 1, 2] (Z8u h12) ?_)
 refine yG ?_
 intro k2 hm
 cases hm
 exact ⟨rfl, vW [0, 1, 2, 3, 4]⟩
 refine V2 ?_
 cases hm
 exact ⟨rfl, vW [0, 1, 2, 3, 4]⟩
 refine yG ?_
 intro _ hm
 obtain ⟨x16, h17, hm⟩ := Z0 hm
 refine nO (cG [0] (Z2 h17) ?_)
 refine yG ?_
 intro k3 hm
 obtain ⟨x19, h20, hm⟩ := Z0 hm
 refine nO (cG [4, 0, 1, 2] (Z1g h20) ?_)
 refine W5 ?_
 refine Wp.seq ?_
 obtain ⟨j21, hj39, hm⟩ := Z0 hm
 refine V6 (St 79 [(0, vP 0), (6, vP 3), (7, vP 4)] [(0, oL 2 (J3 false j21.1)), (1, oM 1 iL rets), (2, oM 1 (lL false 1 iL) pars), (3, oL 3 [.nl, .int .i64 0, .nl]), (4, oL 15 (hl2G (.ptr () 0 0 0) (.ref () 1 0 (List.length rets)) (.ref () 2 0 (List.length pars)) j21.2))] 5) ?_ ?_
 replace hm := hj39
 refine yG ?_
 intro _ hm
 obtain ⟨x22, h23, hm⟩ := Z0 hm
 refine nO (cG [0] (Z2 h23) ?_)
 refine yG ?_
 intro _ hm
 refine bS hm (fun hb24 hm => ?_) fun hb24 hm => ?_
 refine yG ?_
 intro _ hm
 obtain ⟨x25, h26, hm⟩ := Z0 hm
 refine nO (cG [4, 0, 1, 2] (Y0w h26) ?_)
 refine W5 ?_
 cases hm
 exact vW [0, 1, 2, 3, 4]
 refine yG ?_
 intro _ hm
 refine bS hm (fun hb27 hm => ?_) fun hb27 hm => ?_
 refine yG ?_
 intro _ hm
 obtain ⟨x28, h29, hm⟩ := Z0 hm
 refine nO (cG [4, 0, 1, 2] (Y0v h29) ?_)
 refine W5 ?_
 cases hm
 exact vW [0, 1, 2, 3, 4]
 refine yG ?_
 intro _ hm
 refine bS hm (fun hb30 hm => ?_) fun hb30 hm => ?_
 refine yG ?_
 intro _ hm
 obtain ⟨x31, h32, hm⟩ := Z0 hm
 refine nO (cG [4, 0, 1, 2] (Y0w h32) ?_)
 refine yG ?_
 intro _ hm
 obtain ⟨x33, h34, hm⟩ := Z0 hm
 refine nO (cG [0] (Z2 h34) ?_)
 obtain ⟨x35, h36, hm⟩ := Z0 hm
 refine nO (cG [4, 0, 1, 2] (Z1g h36) ?_)
 refine yG ?_
 intro _ hm
 obtain ⟨x37, h38, hm⟩ := Z0 hm
 refine nO (cG [4, 0, 1, 2] (Y0v h38) ?_)
 refine W5 ?_
 cases hm
 exact vW [0, 1, 2, 3, 4]
 refine K3 ?_
 cases hm
 exact vW [0, 1, 2, 3, 4]
 refine yG ?_
 intro _ hm
 obtain ⟨x40, h41, hm⟩ := Z0 hm
 refine nO (cG [0] (Z2 h41) ?_)
 obtain ⟨x42, h43, hm⟩ := Z0 hm
 refine nO (cG [4, 0, 1, 2] (Z1g h43) ?_)
 refine yG ?_
 intro _ hm
 obtain ⟨x44, h45, hm⟩ := Z0 hm
 refine nO (cG [4, 0, 1, 2] (Y6e h45) ?_)
 refine W5 ?_
 refine Wp.seq ?_
 refine X4 ?_
 refine nO (x_mv rfl rfl ?_)
 refine nO (X1f rfl rfl rfl ?_)
 refine nO (Y0e rfl X2q rfl rfl ?_)
 refine WpO.ghb (q_op 4 1) ?_
 refine WpO.ghb (q_op 4 3) ?_
 refine nO (kL (.agg [.ref () 5 0 (List.length x44.1.f.params), .int .i64 x44.1.f.ret, .ref () 6 0 (List.length x44.1.f.blocks)]) ?_)
 refine yG ?_
 intro _ hm
 cases hm
 exact rG1h [0, 1, 2] (hg := (f_frR 0 0 rfl rfl rfl (by first | rfl | simp) rfl rfl).trans (Z3b 0 2 rfl rfl rfl rfl))
noncomputable def Z1c (f : GFunc) : Option Int :=
 (Option.bind (Y6 (fun (st2 : Int × Int) =>
 ((if decide (st2.2 < ((List.length f.blocks : Int))) = true then
 (if 0 ≤ st2.2 ∧ st2.2 < (List.length f.blocks : Int) then
 (if 0 ≤ st2.2 ∧ st2.2 < (List.length f.blocks : Int) then
 (if inI (st2.2 + 1) then
 (some (Sum.inl ((IntKind.i64.wrap (st2.1 + (IntKind.i64.wrap (((List.length ((at_ f.blocks st2.2).phis) : Int)) + ((List.length ((at_ f.blocks st2.2).insts) : Int))))), st2.2 + 1))))
 else none)
 else none)
 else none)
 else
 (some (Sum.inr st2.1))) : Option ((Int × Int) ⊕ (Int)))) ((List.length f.params : Int), 0)) fun (j3 : Int) =>
 (some j3))
theorem Y2c {f : GFunc} {r : Int} (hm : Z1c f = some r) : Sim Tryz.prog 62 [.agg (Z9 false f)] [] (.u (.one (.int .i64 r))) [] := by
 refine fN 33 0 Tryz.func62 [.tmp 2] fun B hB0 => ?_
 have fW := trivial
 unfold Z1c at hm
 refine yG ?_
 intro k1 hm
 obtain ⟨j3, hl12, hm⟩ := Z0 hm
 refine lP hl12 (fun st2 => St 33 [(1, vP 0), (3, vI st2.1), (4, vI st2.2)] [(0, oL 3 (Z9 false f))] 1) (fun j3 => (.exit 0, St 33 [(3, vI j3)] [] 0)) (vW [0]) ?_ ?_
 intro st2 x hm
 refine yG ?_
 intro k2 hm
 refine bS hm (fun hb5 hm => ?_) fun hb5 hm => ?_
 refine K3 ?_
 refine Wp.seq ?_
 refine Wp.block ?_
 refine Z3m (Y := sysC _) Z3i ?_
 refine tK 0 0 rfl (kV ?_)
 refine tK 1 1 rfl (kF ?_)
 refine tK 2 1 rfl (kD ?_)
 refine tK 3 0 rfl (kV ?_)
 obtain ⟨h6, hm⟩ := Y1 hm
 refine tK 4 0 rfl (Z8q E25 rfl rfl h6 ?_)
 refine tK 5 0 rfl (Y8z W1g rfl ?_)
 refine tK 6 0 rfl (K8 T48 rfl rfl rfl ?_)
 refine tK 7 0 rfl (Y7q N48 rfl fun hL7 => ?_)
 refine tK 8 1 rfl (kF ?_)
 refine tK 9 1 rfl (kD ?_)
 refine tK 10 0 rfl (kV ?_)
 obtain ⟨h8, hm⟩ := Y1 hm
 refine tK 11 0 rfl (Z8q E25 rfl rfl h8 ?_)
 refine tK 12 0 rfl (Y8z F53_1 rfl ?_)
 refine tK 13 0 rfl (K8 T49 rfl rfl rfl ?_)
 refine tK 14 0 rfl (Y7q N49 rfl fun hL9 => ?_)
 refine tK 15 0 rfl (Y2m T3 rfl rfl rfl ?_)
 refine tK 16 0 rfl (Y2m T2 rfl rfl rfl ?_)
 refine tK 17 0 rfl (x_as rfl rfl ?_)
 refine aN ?_
 refine yG ?_
 intro k3 hm
 cases hm
 exact ⟨rfl, vW [0]⟩
 refine V2 ?_
 cases hm
 exact ⟨rfl, vW []⟩
 refine yG ?_
 intro _ hm
 cases hm
 exact rZ1
noncomputable def Z0r (vr : Gl1Rd) : Option (GModule × Gl1Rd) :=
 (Option.bind (Z5 vr 2) fun x1 =>
 (if inI (1 + x1.1) then
 (Option.bind (Y6 (fun (st5 : Gl1Rd × (List GFunc) × (List Int) × (List (List Int)) × Int) =>
 ((if decide (st5.2.2.2.2 > 0) = true then
 (Option.bind (Z5u st5.1 st5.2.2.1 st5.2.2.2.1) fun x8 =>
 (Option.bind ((Option.bind ((Option.bind (Z1c x8.1) fun x12 =>
 (if decide (x12 > 60) = true then
 (some true)
 else
 (some (decide (((List.length x8.1.blocks : Int)) > 10)))))) fun (j11 : Bool) =>
 (if j11 = true then
 (some (({ params := ([] : List Int), ret := 8, blocks := (([] : List GBlock)) ++ [({ phis := ([] : List GPhi), insts := [({ op_ := 21, w := 8, a := 0, b := 0, c := 0, imm := 7, args := ([] : List Int) } : GInst)], term := (({ kind := 1, a := 0, x := 0, y := 0 } : GTerm)) } : GBlock)] } : GFunc)))
 else
 (some x8.1)))) fun (j10 : GFunc) =>
 (if (List.length st5.2.1 + List.length ([j10])) * 56 ≤ 140737488355328 ∧ List.length st5.2.1 + List.length ([j10]) ≤ LIM then
 (if (List.length st5.2.2.1 + List.length ([j10.ret])) * 8 ≤ 140737488355328 ∧ List.length st5.2.2.1 + List.length ([j10.ret]) ≤ LIM then
 (if (List.length st5.2.2.2.1 + List.length ([j10.params])) * 24 ≤ 140737488355328 ∧ List.length st5.2.2.2.1 + List.length ([j10.params]) ≤ LIM then
 (if inI (st5.2.2.2.2 - 1) then
 (some (Sum.inl ((x8.2, st5.2.1 ++ [j10], st5.2.2.1 ++ ([j10.ret]), st5.2.2.2.1 ++ ([j10.params]), st5.2.2.2.2 - 1))))
 else none)
 else none)
 else none)
 else none)))
 else
 (some (Sum.inr (((st5.1, st5.2.1)))))) : Option ((Gl1Rd × (List GFunc) × (List Int) × (List (List Int)) × Int) ⊕ ((Gl1Rd × (List GFunc)))))) (x1.2, ([] : List GFunc), ([] : List Int), ([] : List (List Int)), 1 + x1.1)) fun (j6 : Gl1Rd × (List GFunc)) =>
 (some ((({ funcs := j6.2 } : GModule), j6.1))))
 else none))
theorem Z9a {vr : Gl1Rd} {r : GModule × Gl1Rd} (hm : Z0r vr = some r) : Sim Tryz.prog 59 [.one (.ptr () 0 0 0)] [⟨(), 2, [J3 false vr]⟩] (.u (.agg (K7 true r.1))) [⟨(), 2, [J3 false r.2]⟩] := by
 refine fN 54 1 Tryz.func59 [.cell 2 40] fun B hB0 => ?_
 unfold Z0r at hm
 refine yG ?_
 intro _ hm
 refine nO (kM (iL) (([] : List Int)) ?_)
 refine yG ?_
 intro _ hm
 refine nO (kM (lL false 1 iL) (([] : List (List Int))) ?_)
 refine yG ?_
 intro _ hm
 obtain ⟨x1, h2, hm⟩ := Z0 hm
 refine nO (cG [0] (Z2 h2) ?_)
 refine yR ?_
 intro k1 hm
 refine W5 ?_
 refine Wp.block ?_
 refine gH (f_nlc (rows' := [[.ref () 5 0 (List.length ([] : List GFunc))]]) 2 0 0 3 rfl rfl rfl rfl) ?_
 obtain ⟨j6, hl24, hm⟩ := Z0 hm
 refine lP hl24 (fun st5 => St 54 [(0, vP 0), (2, vP 1), (3, vP 2), (4, vR 4 (List.length st5.2.2.1)), (5, vR 5 (List.length st5.2.2.2.1)), (6, vI st5.2.2.2.2)] [(0, oL 2 (J3 false st5.1)), (1, oL 1 [.nl]), (2, oL 1 [.ref () 3 0 (List.length st5.2.1)]), (3, oM 3 (Z9 true) st5.2.1), (4, oM 1 iL st5.2.2.1), (5, oM 1 (lL false 1 iL) st5.2.2.2.1)] 6) (fun j6 => (.exit 0, St 54 [(2, vP 1), (3, vP 2)] [(0, oL 2 (J3 false j6.1)), (1, oL 1 [.nl]), (2, oL 1 [.ref () 3 0 (List.length j6.2)]), (3, oM 3 (Z9 true) j6.2)] 4)) (vW [0, 1, 2, 5, 3, 4]) ?_ ?_
 intro st5 x hm
 refine yG ?_
 intro _ hm
 refine bS hm (fun hb7 hm => ?_) fun hb7 hm => ?_
 refine yG ?_
 intro _ hm
 obtain ⟨x8, h9, hm⟩ := Z0 hm
 refine nO (cG [0, 4, 5] (Y7u h9) ?_)
 refine yR ?_
 intro _ hm
 refine W5 ?_
 refine Wp.seq ?_
 obtain ⟨j10, hj18, hm⟩ := Z0 hm
 refine V6 (St 54 [(0, vP 0), (2, vP 1), (3, vP 2), (4, vR 4 (List.length st5.2.2.1)), (5, vR 5 (List.length st5.2.2.2.1)), (6, vI st5.2.2.2.2), (7, vP 6)] [(0, oL 2 (J3 false x8.2)), (1, oL 1 [.nl]), (2, oL 1 [.ref () 3 0 (List.length st5.2.1)]), (3, oM 3 (Z9 true) st5.2.1), (4, oM 1 iL st5.2.2.1), (5, oM 1 (lL false 1 iL) st5.2.2.2.1), (6, oL 3 (Z9 true j10))] 7) ?_ ?_
 replace hm := hj18
 refine Wp.seq ?_
 refine gH (q_cl 7 6 2) ?_
 obtain ⟨j11, hj16, hm⟩ := Z0 hm
 refine V6 (St 54 [(0, vP 0), (2, vP 1), (3, vP 2), (4, vR 4 (List.length st5.2.2.1)), (5, vR 5 (List.length st5.2.2.2.1)), (6, vI st5.2.2.2.2), (7, vP 6), (30, vB j11)] [(0, oL 2 (J3 false x8.2)), (1, oL 1 [.nl]), (2, oL 1 [.ref () 3 0 (List.length st5.2.1)]), (3, oM 3 (Z9 true) st5.2.1), (4, oM 1 iL st5.2.2.1), (5, oM 1 (lL false 1 iL) st5.2.2.2.1), (6, oL 3 (Z9 true x8.1))] 7) ?_ ?_
 replace hm := hj16
 refine X4 ?_
 refine WpO.ghb (q_op 7 2) ?_
 refine nO (kW ?_)
 obtain ⟨x12, h13, hm⟩ := Z0 hm
 refine nO (Z6 (cB (Y2c h13) ?_))
 refine yG ?_
 intro _ hm
 refine bG0 hm (fun hb14 hm => ?_) fun hb14 hm => ?_
 refine yG ?_
 intro k2 hm
 cases hm
 exact (GhB.trans (q_cl 7 8 2) (vW [0, 1, 2, 3, 4, 5, 7]))
 refine yG ?_
 intro _ hm
 cases hm
 exact (GhB.trans (q_cl 7 8 2) (vW [0, 1, 2, 3, 4, 5, 7]))
 refine bS hm (fun hb17 hm => ?_) fun hb17 hm => ?_
 refine X4 ?_
 refine nO (x_bu (cells := [.int .i64 21, .int .i64 8, .int .i64 0, .int .i64 0, .int .i64 0, .int .i64 7, .nl]) T29 rfl rfl rfl ?_)
 refine WpO.ghb (q_nb 31 6 1) ?_
 refine nO (kM (Q3 false) ([({ op_ := 21, w := 8, a := 0, b := 0, c := 0, imm := 7, args := ([] : List Int) } : GInst)]) ?_)
 refine yG ?_
 intro _ hm
 refine nO (x_bs (rows := List.map (W2 true) (([] : List GBlock)) ++ [[.nl, .ref () 7 0 (List.length ([({ op_ := 21, w := 8, a := 0, b := 0, c := 0, imm := 7, args := ([] : List Int) } : GInst)])), .int .i64 ((({ kind := 1, a := 0, x := 0, y := 0 } : GTerm)).kind), .int .i64 ((({ kind := 1, a := 0, x := 0, y := 0 } : GTerm)).a), .int .i64 ((({ kind := 1, a := 0, x := 0, y := 0 } : GTerm)).x), .int .i64 ((({ kind := 1, a := 0, x := 0, y := 0 } : GTerm)).y)]]) A25 rfl rfl rfl ?_)
 refine yG ?_
 intro _ hm
 cases hm
 exact (GhB.trans (W2m 6 0 1) ((GhB.trans (q_cz 6 9 0) ((GhB.trans (f_cb (e := iL) (e' := iL) (xs := ([] : List Int)) (rows' := [[.bs () 1 (List.map iL (([] : List Int))), .int .i64 8, .ref () 8 0 1]]) 6 0 0 rfl rfl rfl rfl) ((GhB.trans (f_nlc (rows' := List.map (W2 true) (([] : List GBlock)) ++ [[.ref () 10 0 0, .ref () 7 0 (List.length ([({ op_ := 21, w := 8, a := 0, b := 0, c := 0, imm := 7, args := ([] : List Int) } : GInst)])), .int .i64 ((({ kind := 1, a := 0, x := 0, y := 0 } : GTerm)).kind), .int .i64 ((({ kind := 1, a := 0, x := 0, y := 0 } : GTerm)).a), .int .i64 ((({ kind := 1, a := 0, x := 0, y := 0 } : GTerm)).x), .int .i64 ((({ kind := 1, a := 0, x := 0, y := 0 } : GTerm)).y)]]) 8 (List.length (([] : List GBlock))) 0 2 rfl Y4n rfl (by exact X4i)) ((GhB.trans (f_cl (rows2 := List.map (ePhi true) (([] : List GPhi))) (rows' := List.map (W2 true) (([] : List GBlock)) ++ [[.os () 2 (List.map (ePhi true) (([] : List GPhi))), .ref () 7 0 (List.length ([({ op_ := 21, w := 8, a := 0, b := 0, c := 0, imm := 7, args := ([] : List Int) } : GInst)])), .int .i64 ((({ kind := 1, a := 0, x := 0, y := 0 } : GTerm)).kind), .int .i64 ((({ kind := 1, a := 0, x := 0, y := 0 } : GTerm)).a), .int .i64 ((({ kind := 1, a := 0, x := 0, y := 0 } : GTerm)).x), .int .i64 ((({ kind := 1, a := 0, x := 0, y := 0 } : GTerm)).y)]]) 8 10 (List.length (([] : List GBlock))) 0 rfl rfl rfl (Z3h (enc := ePhi true) (([] : List GPhi))) Y4n rfl (by simp) (by exact X4i)) ((GhB.trans (f_cl (rows2 := List.map (Q3 false) ([({ op_ := 21, w := 8, a := 0, b := 0, c := 0, imm := 7, args := ([] : List Int) } : GInst)])) (rows' := List.map (W2 true) ((([] : List GBlock)) ++ [({ phis := ([] : List GPhi), insts := [({ op_ := 21, w := 8, a := 0, b := 0, c := 0, imm := 7, args := ([] : List Int) } : GInst)], term := (({ kind := 1, a := 0, x := 0, y := 0 } : GTerm)) } : GBlock)])) 8 7 (List.length (([] : List GBlock))) 1 rfl rfl rfl (Z3h (enc := Q3 false) ([({ op_ := 21, w := 8, a := 0, b := 0, c := 0, imm := 7, args := ([] : List Int) } : GInst)])) Y4n rfl (by simp) (X4j rfl)) ((GhB.trans (q_cl 6 8 2) (vW [0, 1, 2, 3, 4, 5, 6]))))))))))))))
 refine K3 ?_
 cases hm
 exact vW [0, 1, 2, 3, 4, 5, 6]
 refine Wp.seq ?_
 refine X4 ?_
 refine nO (Y0e rfl F40_0 rfl rfl ?_)
 refine nO (Y2i rfl T38 rfl rfl rfl rfl rfl ?_)
 refine WpO.ghb (q_op 6 2) ?_
 refine nO (kW ?_)
 refine nO (x_bs (rows := List.map (Z9 true) (([] : List GFunc)) ++ [[.bs () 1 (List.map iL j10.params), .int .i64 j10.ret, .ref () 7 0 (List.length j10.blocks)]]) A38 rfl rfl rfl ?_)
 obtain ⟨h19, hm⟩ := Y1 hm
 refine nO (x_apg (rows := List.map (Z9 true) st5.2.1 ++ [[.bs () 1 (List.map iL j10.params), .int .i64 j10.ret, .ref () 7 0 (List.length j10.blocks)]]) (len' := List.length (st5.2.1 ++ ([j10]))) A38 N38 rfl rfl (by simp) rfl (X9z rfl rfl) rfl (by simpa using h19) rfl (by simp) ?_)
 refine yG ?_
 intro _ hm
 refine nO (kM (iL) ([j10.ret]) ?_)
 refine yG ?_
 intro k3 hm
 refine nO (kM (lL false 1 iL) ([j10.params]) ?_)
 refine yR ?_
 intro k4 hm
 refine W5 ?_
 refine gH (f_cl (rows2 := List.map (W2 true) j10.blocks) (rows' := List.map (Z9 true) (st5.2.1 ++ [j10])) 9 7 (List.length st5.2.1) 2 rfl rfl rfl (Z3h (enc := W2 true) (j10.blocks)) Y4n rfl (by simp) (X4j rfl)) ?_
 refine yG ?_
 intro k5 hm
 cases hm
 exact ⟨rfl, vW [0, 1, 2, 9, 11, 13]⟩
 refine V2 ?_
 cases hm
 exact ⟨rfl, vW [0, 1, 2, 3]⟩
 refine Wp.seq ?_
 refine X4 ?_
 refine nO (kW ?_)
 refine yG ?_
 intro _ hm
 cases hm
 exact rG1h [0] (hg := Z3b 0 0 rfl rfl rfl rfl)
noncomputable def Z0a (vr : Gl1Rd) (low : Int) (high : Int) : Option (Int × Gl1Rd) :=
 (Option.bind (Z5 vr 8) fun x1 =>
 (if (x1.1 == 0) = true then
 (some ((low, x1.2)))
 else
 (if (x1.1 == 1) = true then
 (some ((high, x1.2)))
 else
 (if decide (high < low) = true then
 (some ((low, x1.2)))
 else
 (Option.bind (Q8 x1.2) fun x6 =>
 (if inI ((IntKind.i64.wrap (high - low)) + 1) then
 (if (IntKind.u64.wrap ((IntKind.i64.wrap (high - low)) + 1)) ≠ 0 then
 (some ((IntKind.i64.wrap (low + (IntKind.i64.wrap (Int.tmod (x6.1 / 2 ^ min (Int.toNat 1) (IntKind.bits .u64)) (IntKind.u64.wrap ((IntKind.i64.wrap (high - low)) + 1))))), x6.2)))
 else none)
 else none))))))
theorem Y4s {vr : Gl1Rd} {low : Int} {high : Int} {r : Int × Gl1Rd} (hm : Z0a vr low high = some r) : Sim Tryz.prog 116 [.one (.ptr () 0 0 0), .one (.int .i64 low), .one (.int .i64 high)] [⟨(), 2, [J3 false vr]⟩] (.u (.one (.int .i64 r.1))) [⟨(), 2, [J3 false r.2]⟩] := by
 refine fN 31 1 Tryz.func116 [.tmp 6] fun B hB0 => ?_
 have fW := trivial
 unfold Z0a at hm
 refine yG ?_
 intro _ hm
 obtain ⟨x1, h2, hm⟩ := Z0 hm
 refine nO (cG [0] (Z2 h2) ?_)
 refine yG ?_
 intro _ hm
 refine bS hm (fun hb3 hm => ?_) fun hb3 hm => ?_
 refine yG ?_
 intro _ hm
 cases hm
 exact rG1 [0]
 refine yG ?_
 intro _ hm
 refine bS hm (fun hb4 hm => ?_) fun hb4 hm => ?_
 refine yG ?_
 intro _ hm
 cases hm
 exact rG1 [0]
 refine yG ?_
 intro _ hm
 refine bS hm (fun hb5 hm => ?_) fun hb5 hm => ?_
 refine yG ?_
 intro _ hm
 cases hm
 exact rG1 [0]
 refine yG ?_
 intro _ hm
 obtain ⟨x6, h7, hm⟩ := Z0 hm
 refine nO (cG [0] (Y0g h7) ?_)
 refine yG ?_
 intro _ hm
 refine nO (Y2m T2 rfl rfl rfl ?_)
 refine yG ?_
 intro k1 hm
 refine nO (Y2m T2 rfl rfl rfl ?_)
 refine yG ?_
 intro _ hm
 cases hm
 exact rG1 [0]
noncomputable def V0 (vr : Gl1Rd) (low : Int) (high : Int) : Option (Int × Gl1Rd) :=
 (Option.bind (J7 vr 24) fun x1 =>
 (if x1.1 = true then
 (if inI (low - 1) then
 (if inI (high + 1) then
 (Option.bind (Z5 x1.2 4) fun x6 =>
 (if 0 ≤ x6.1 ∧ x6.1 < (List.length ([low - 1, high + 1, (-9223372036854775808), 9223372036854775807]) : Int) then
 (some ((at_ ([low - 1, high + 1, (-9223372036854775808), 9223372036854775807]) x6.1, x6.2)))
 else none))
 else none)
 else none)
 else
 (Option.bind (Z0a x1.2 low high) fun x9 =>
 (some ((x9.1, x9.2))))))
theorem Y0 {vr : Gl1Rd} {low : Int} {high : Int} {r : Int × Gl1Rd} (hm : V0 vr low high = some r) : Sim Tryz.prog 64 [.one (.ptr () 0 0 0), .one (.int .i64 low), .one (.int .i64 high)] [⟨(), 2, [J3 false vr]⟩] (.u (.one (.int .i64 r.1))) [⟨(), 2, [J3 false r.2]⟩] := by
 refine fN 22 1 Tryz.func64 [.tmp 6] fun B hB0 => ?_
 unfold V0 at hm
 refine yG ?_
 intro _ hm
 obtain ⟨x1, h2, hm⟩ := Z0 hm
 refine nO (cG [0] (Z4g h2) ?_)
 refine W5 ?_
 refine bS hm (fun hb3 hm => ?_) fun hb3 hm => ?_
 refine yG ?_
 intro k1 hm
 refine nO (kM (iL) ([low - 1, high + 1, (-9223372036854775808), 9223372036854775807]) ?_)
 refine yG ?_
 intro _ hm
 obtain ⟨x6, h7, hm⟩ := Z0 hm
 refine nO (cG [0] (Z2 h7) ?_)
 refine yG ?_
 intro k2 hm
 cases hm
 exact rG1 [0]
 refine yG ?_
 intro _ hm
 obtain ⟨x9, h10, hm⟩ := Z0 hm
 refine nO (cG [0] (Y4s h10) ?_)
 refine yG ?_
 intro _ hm
 cases hm
 exact rG1 [0]
noncomputable def Z0s (vr : Gl1Rd) : Option (GModule × Gl1Rd) :=
 (Option.bind (Z0r vr) fun x1 =>
 (Option.bind ((Option.bind (Z5 x1.2 ((List.length x1.1.funcs : Int))) fun x5 =>
 (if 0 ≤ x5.1 ∧ x5.1 < (List.length x1.1.funcs : Int) then
 (some ((x5.2, x5.1, (at_ x1.1.funcs x5.1).params, (at_ x1.1.funcs x5.1).ret, (at_ x1.1.funcs x5.1).blocks, (at_ x1.1.funcs x5.1).params, (at_ x1.1.funcs x5.1).ret)))
 else none))) fun (j3 : Gl1Rd × Int × (List Int) × Int × (List GBlock) × (List Int) × Int) =>
 (if 0 ≤ j3.2.1 ∧ j3.2.1 < (List.length x1.1.funcs : Int) then
 (Option.bind (Z5 j3.1 ((List.length j3.2.2.2.2.1 : Int))) fun x11 =>
 (if 0 ≤ x11.1 ∧ x11.1 < (List.length j3.2.2.2.2.1 : Int) then
 (Option.bind ((Option.bind (Z5 x11.2 9) fun x15 =>
 (if (x15.1 == 0) = true then
 (if decide (((List.length ((at_ j3.2.2.2.2.1 x11.1).insts) : Int)) > 0) = true then
 (Option.bind ((Option.bind (Z5 x15.2 ((List.length ((at_ j3.2.2.2.2.1 x11.1).insts) : Int))) fun x22 =>
 (Option.bind (V0 x22.2 0 12) fun x24 =>
 (if 0 ≤ x22.1 ∧ x22.1 < (List.length ((at_ j3.2.2.2.2.1 x11.1).insts) : Int) then
 (some ((x24.2, List.set ((at_ j3.2.2.2.2.1 x11.1).insts) (Int.toNat x22.1) (({ op_ := (at_ ((at_ j3.2.2.2.2.1 x11.1).insts) x22.1).op_, w := (at_ ((at_ j3.2.2.2.2.1 x11.1).insts) x22.1).w, a := x24.1, b := (at_ ((at_ j3.2.2.2.2.1 x11.1).insts) x22.1).b, c := (at_ ((at_ j3.2.2.2.2.1 x11.1).insts) x22.1).c, imm := (at_ ((at_ j3.2.2.2.2.1 x11.1).insts) x22.1).imm, args := (at_ ((at_ j3.2.2.2.2.1 x11.1).insts) x22.1).args } : GInst)))))
 else none)))) fun (j20 : Gl1Rd × (List GInst)) =>
 (some ((j20.1, (at_ j3.2.2.2.2.1 x11.1).phis, j20.2, ((at_ j3.2.2.2.2.1 x11.1).term).kind, ((at_ j3.2.2.2.2.1 x11.1).term).a, ((at_ j3.2.2.2.2.1 x11.1).term).x))))
 else
 (some ((x15.2, (at_ j3.2.2.2.2.1 x11.1).phis, (at_ j3.2.2.2.2.1 x11.1).insts, ((at_ j3.2.2.2.2.1 x11.1).term).kind, ((at_ j3.2.2.2.2.1 x11.1).term).a, ((at_ j3.2.2.2.2.1 x11.1).term).x))))
 else
 (if (x15.1 == 1) = true then
 (if decide (((List.length ((at_ j3.2.2.2.2.1 x11.1).insts) : Int)) > 0) = true then
 (Option.bind ((Option.bind (Z5 x15.2 ((List.length ((at_ j3.2.2.2.2.1 x11.1).insts) : Int))) fun x33 =>
 (Option.bind (V0 x33.2 0 33) fun x35 =>
 (if 0 ≤ x33.1 ∧ x33.1 < (List.length ((at_ j3.2.2.2.2.1 x11.1).insts) : Int) then
 (some ((x35.2, List.set ((at_ j3.2.2.2.2.1 x11.1).insts) (Int.toNat x33.1) (({ op_ := (at_ ((at_ j3.2.2.2.2.1 x11.1).insts) x33.1).op_, w := x35.1, a := (at_ ((at_ j3.2.2.2.2.1 x11.1).insts) x33.1).a, b := (at_ ((at_ j3.2.2.2.2.1 x11.1).insts) x33.1).b, c := (at_ ((at_ j3.2.2.2.2.1 x11.1).insts) x33.1).c, imm := (at_ ((at_ j3.2.2.2.2.1 x11.1).insts) x33.1).imm, args := (at_ ((at_ j3.2.2.2.2.1 x11.1).insts) x33.1).args } : GInst)))))
 else none)))) fun (j31 : Gl1Rd × (List GInst)) =>
 (some ((j31.1, (at_ j3.2.2.2.2.1 x11.1).phis, j31.2, ((at_ j3.2.2.2.2.1 x11.1).term).kind, ((at_ j3.2.2.2.2.1 x11.1).term).a, ((at_ j3.2.2.2.2.1 x11.1).term).x))))
 else
 (some ((x15.2, (at_ j3.2.2.2.2.1 x11.1).phis, (at_ j3.2.2.2.2.1 x11.1).insts, ((at_ j3.2.2.2.2.1 x11.1).term).kind, ((at_ j3.2.2.2.2.1 x11.1).term).a, ((at_ j3.2.2.2.2.1 x11.1).term).x))))
 else
 (if (x15.1 == 2) = true then
 (Option.bind (V0 x15.2 0 4) fun x40 =>
 (some ((x40.2, (at_ j3.2.2.2.2.1 x11.1).phis, (at_ j3.2.2.2.2.1 x11.1).insts, ((at_ j3.2.2.2.2.1 x11.1).term).kind, ((at_ j3.2.2.2.2.1 x11.1).term).a, x40.1))))
 else
 (if (x15.1 == 3) = true then
 (Option.bind (V0 x15.2 0 12) fun x43 =>
 (some ((x43.2, (at_ j3.2.2.2.2.1 x11.1).phis, (at_ j3.2.2.2.2.1 x11.1).insts, ((at_ j3.2.2.2.2.1 x11.1).term).kind, x43.1, ((at_ j3.2.2.2.2.1 x11.1).term).x))))
 else
 (if (x15.1 == 4) = true then
 (if decide (((List.length ((at_ j3.2.2.2.2.1 x11.1).phis) : Int)) > 0) = true then
 (if (0 : Int) ≤ 0 ∧ 0 < (List.length ((at_ j3.2.2.2.2.1 x11.1).phis) : Int) then
 (if 1 ≤ (List.length ((at_ ((at_ j3.2.2.2.2.1 x11.1).phis) 0).ins)) ∧ (List.length ((at_ ((at_ j3.2.2.2.2.1 x11.1).phis) 0).ins)) ≤ List.length ((at_ ((at_ j3.2.2.2.2.1 x11.1).phis) 0).ins) then
 (if (0 : Int) ≤ 0 ∧ 0 < (List.length ((at_ j3.2.2.2.2.1 x11.1).phis) : Int) then
 (some ((x15.2, List.set ((at_ j3.2.2.2.2.1 x11.1).phis) (Int.toNat 0) (({ w := (at_ ((at_ j3.2.2.2.2.1 x11.1).phis) 0).w, ins := List.drop 1 ((at_ ((at_ j3.2.2.2.2.1 x11.1).phis) 0).ins) } : GPhi)), (at_ j3.2.2.2.2.1 x11.1).insts, ((at_ j3.2.2.2.2.1 x11.1).term).kind, ((at_ j3.2.2.2.2.1 x11.1).term).a, ((at_ j3.2.2.2.2.1 x11.1).term).x)))
 else none)
 else none)
 else none)
 else
 (some ((x15.2, (at_ j3.2.2.2.2.1 x11.1).phis, (at_ j3.2.2.2.2.1 x11.1).insts, ((at_ j3.2.2.2.2.1 x11.1).term).kind, ((at_ j3.2.2.2.2.1 x11.1).term).a, ((at_ j3.2.2.2.2.1 x11.1).term).x))))
 else
 (if (x15.1 == 5) = true then
 (if decide (((List.length ((at_ j3.2.2.2.2.1 x11.1).insts) : Int)) > 0) = true then
 (Option.bind ((Option.bind (Z5 x15.2 ((List.length ((at_ j3.2.2.2.2.1 x11.1).insts) : Int))) fun x56 =>
 (Option.bind (V0 x56.2 1 27) fun x58 =>
 (if 0 ≤ x56.1 ∧ x56.1 < (List.length ((at_ j3.2.2.2.2.1 x11.1).insts) : Int) then
 (some ((x58.2, List.set ((at_ j3.2.2.2.2.1 x11.1).insts) (Int.toNat x56.1) (({ op_ := x58.1, w := (at_ ((at_ j3.2.2.2.2.1 x11.1).insts) x56.1).w, a := (at_ ((at_ j3.2.2.2.2.1 x11.1).insts) x56.1).a, b := (at_ ((at_ j3.2.2.2.2.1 x11.1).insts) x56.1).b, c := (at_ ((at_ j3.2.2.2.2.1 x11.1).insts) x56.1).c, imm := (at_ ((at_ j3.2.2.2.2.1 x11.1).insts) x56.1).imm, args := (at_ ((at_ j3.2.2.2.2.1 x11.1).insts) x56.1).args } : GInst)))))
 else none)))) fun (j54 : Gl1Rd × (List GInst)) =>
 (some ((j54.1, (at_ j3.2.2.2.2.1 x11.1).phis, j54.2, ((at_ j3.2.2.2.2.1 x11.1).term).kind, ((at_ j3.2.2.2.2.1 x11.1).term).a, ((at_ j3.2.2.2.2.1 x11.1).term).x))))
 else
 (some ((x15.2, (at_ j3.2.2.2.2.1 x11.1).phis, (at_ j3.2.2.2.2.1 x11.1).insts, ((at_ j3.2.2.2.2.1 x11.1).term).kind, ((at_ j3.2.2.2.2.1 x11.1).term).a, ((at_ j3.2.2.2.2.1 x11.1).term).x))))
 else
 (if (x15.1 == 6) = true then
 (if decide (((List.length ((at_ j3.2.2.2.2.1 x11.1).phis) : Int)) > 0) = true then
 (if (0 : Int) ≤ 0 ∧ 0 < (List.length ((at_ j3.2.2.2.2.1 x11.1).phis) : Int) then
 (Option.bind (V0 x15.2 0 20) fun x66 =>
 (if (0 : Int) ≤ 0 ∧ 0 < (List.length ((at_ ((at_ j3.2.2.2.2.1 x11.1).phis) 0).ins) : Int) then
 (some ((x66.2, List.set ((at_ j3.2.2.2.2.1 x11.1).phis) (Int.toNat 0) (({ w := (at_ ((at_ j3.2.2.2.2.1 x11.1).phis) 0).w, ins := List.set ((at_ ((at_ j3.2.2.2.2.1 x11.1).phis) 0).ins) (Int.toNat 0) x66.1 } : GPhi)), (at_ j3.2.2.2.2.1 x11.1).insts, ((at_ j3.2.2.2.2.1 x11.1).term).kind, ((at_ j3.2.2.2.2.1 x11.1).term).a, ((at_ j3.2.2.2.2.1 x11.1).term).x)))
 else none))
 else none)
 else
 (some ((x15.2, (at_ j3.2.2.2.2.1 x11.1).phis, (at_ j3.2.2.2.2.1 x11.1).insts, ((at_ j3.2.2.2.2.1 x11.1).term).kind, ((at_ j3.2.2.2.2.1 x11.1).term).a, ((at_ j3.2.2.2.2.1 x11.1).term).x))))
 else
 (if (x15.1 == 7) = true then
 (Option.bind (V0 x15.2 1 4) fun x70 =>
 (some ((x70.2, (at_ j3.2.2.2.2.1 x11.1).phis, (at_ j3.2.2.2.2.1 x11.1).insts, x70.1, ((at_ j3.2.2.2.2.1 x11.1).term).a, ((at_ j3.2.2.2.2.1 x11.1).term).x))))
 else
 (some ((x15.2, (at_ j3.2.2.2.2.1 x11.1).phis, (at_ j3.2.2.2.2.1 x11.1).insts, ((at_ j3.2.2.2.2.1 x11.1).term).kind, ((at_ j3.2.2.2.2.1 x11.1).term).a, ((at_ j3.2.2.2.2.1 x11.1).term).x))))))))))))) fun (j14 : Gl1Rd × (List GPhi) × (List GInst) × Int × Int × Int) =>
 (if 0 ≤ x11.1 ∧ x11.1 < (List.length j3.2.2.2.2.1 : Int) then
 (some ((({ funcs := List.set x1.1.funcs (Int.toNat j3.2.1) (({ params := j3.2.2.1, ret := j3.2.2.2.1, blocks := List.set j3.2.2.2.2.1 (Int.toNat x11.1) (({ phis := j14.2.1, insts := j14.2.2.1, term := ({ kind := j14.2.2.2.1, a := j14.2.2.2.2.1, x := j14.2.2.2.2.2, y := ((at_ j3.2.2.2.2.1 x11.1).term).y } : GTerm) } : GBlock)) } : GFunc)) } : GModule), j14.1)))
 else none))
 else none))
 else none)))
theorem Z9b {vr : Gl1Rd} {r : GModule × Gl1Rd} (hm : Z0s vr = some r) : Sim Tryz.prog 77 [.one (.ptr () 0 0 0)] [⟨(), 2, [J3 false vr]⟩] (.u (.agg [.os () 3 (List.map (Z9 false) r.1.funcs)])) [⟨(), 2, [J3 false r.2]⟩] := by
 refine fN 135 1 Tryz.func77 [.cell 2 40] fun B hB0 => ?_
 unfold Z0s at hm
 refine yG ?_
 intro _ hm
 obtain ⟨x1, h2, hm⟩ := Z0 hm
 refine nO (cG [0] (Z9a h2) ?_)
 refine yR ?_
 intro _ hm
 refine W5 ?_
 refine Wp.seq ?_
 obtain ⟨j3, hj8, hm⟩ := Z0 hm
 refine V6 (St 135 [(0, vP 0), (2, vP 1), (3, vP 2), (4, vP 5)] [(0, oL 2 (J3 false j3.1)), (1, oL 1 [.nl]), (2, oL 1 [.ref () 3 0 (List.length x1.1.funcs)]), (3, some ⟨(), 3, List.set (List.map (Z9 true) x1.1.funcs) (Int.toNat j3.2.1) [.bs () 1 (List.map iL j3.2.2.1), .int .i64 j3.2.2.2.1, .ref () 4 0 (List.length j3.2.2.2.2.1)]⟩), (4, oM 6 (W2 true) j3.2.2.2.2.1), (5, oL 3 [.bs () 1 (List.map iL j3.2.2.2.2.2.1), .int .i64 j3.2.2.2.2.2.2, .ref () 4 0 (List.length j3.2.2.2.2.1)])] 6) ?_ ?_
 replace hm := hj8
 obtain ⟨x5, h6, hm⟩ := Z0 hm
 have hS2_6 := (Z2 h6)
 obtain ⟨h7, hm⟩ := Y1 hm
 refine gH (X5m 2 2 h7) ?_
 refine Z3m (Y := sysH _ [0] []) Z3i ?_
 refine tE 0 [1, 7, 8, 10] rfl (kF ?_)
 refine tE 1 [7, 8, 10] rfl (kD ?_)
 refine tK 2 0 rfl (kV ?_)
 refine tD 3 1 [4, 5, 6, 7, 8, 10] rfl (kF ?_)
 refine tD 4 1 [5, 6, 7, 8, 10] rfl (kD ?_)
 refine tK 5 1 rfl (X6k rfl N38 rfl rfl fun hL4 => ?_)
 refine t_n 6 [9] (by decide +kernel) (.cons (wy rfl (Z6q (H := [0]) (X := []) (v := .u (.one (.int .i64 x5.1))) (nobs := []) (oa' := _) (nx' := 5) hS2_6 [0] rfl (by decide) (h_c rfl h_n) rfl (g_1 rfl rfl rfl (g_1 rfl rfl rfl g_n)) EntC.h rfl rfl rfl rfl ?_ rfl)) (.cons (wy rfl (x_al T27 (r := [.nl, .int .i64 0, .nl]) rfl rfl ?_)) .nil))
 refine tK 7 1 rfl (Q2 rfl E38 rfl rfl rfl h7 ?_)
 refine tK 8 1 rfl (Y2i rfl T27 rfl rfl (Z4p h7) (U6 rfl rfl) rfl ?_)
 refine oK 9 rfl (x_al T27 (r := [.nl, .int .i64 0, .nl]) rfl rfl ?_)
 refine oK 10 rfl (kS ?_)
 refine aN ?_
 cases hm
 exact vW [0, 1, 3, 2, 4, 5]
 refine oK 6 rfl (Z6q (H := [0]) (X := []) (v := .u (.one (.int .i64 x5.1))) (nobs := []) (oa' := _) (nx' := 6) hS2_6 [0] rfl (by decide) (h_c rfl h_n) rfl (g_1 rfl rfl rfl (g_1 rfl rfl rfl g_n)) EntC.h rfl rfl rfl rfl ?_ rfl)
 refine tK 7 1 rfl (Q2 rfl E38 rfl rfl rfl h7 ?_)
 refine tK 8 1 rfl (Y2i rfl T27 rfl rfl (Z4p h7) (U6 rfl rfl) rfl ?_)
 refine oK 10 rfl (kS ?_)
 refine aN ?_
 cases hm
 exact vW [0, 1, 3, 2, 4, 5]
 obtain ⟨h9, hm⟩ := Y1 hm
 refine yG ?_
 intro k1 hm
 obtain ⟨x11, h12, hm⟩ := Z0 hm
 refine nO (cG [0] (Z2 h12) ?_)
 refine nO (x_as rfl rfl ?_)
 refine W5 ?_
 refine Wp.seq ?_
 refine X4 ?_
 refine nO (Y0e rfl W4x rfl rfl ?_)
 refine nO (Y2i rfl T25 rfl rfl rfl rfl rfl ?_)
 refine nO (x_mv rfl rfl ?_)
 obtain ⟨h13, hm⟩ := Y1 hm
 refine nO (Q2 rfl E25 rfl rfl rfl h13 ?_)
 refine WpO.ghb (X5m 4 0 h13) ?_
 refine WpO.ghb (q_opS 4 1 h13) ?_
 refine nO (Y2i rfl T53 rfl rfl (Z4p h13) (U6 rfl rfl) rfl ?_)
 refine yR ?_
 intro _ hm
 refine W5 ?_
 refine Wp.seq ?_
 obtain ⟨j14, hj72, hm⟩ := Z0 hm
 refine V6 (St 135 [(2, vP 1), (3, vP 2), (4, vP 7), (5, vI x11.1), (6, vP 8)] [(0, oL 2 (J3 false j14.1)), (1, oL 1 [.nl]), (2, oL 1 [.ref () 3 0 (List.length x1.1.funcs)]), (3, some ⟨(), 3, List.set (List.map (Z9 true) x1.1.funcs) (Int.toNat j3.2.1) [.bs () 1 (List.map iL j3.2.2.1), .int .i64 j3.2.2.2.1, .ref () 4 0 (List.length j3.2.2.2.2.1)]⟩), (4, some ⟨(), 6, List.set (List.map (W2 true) j3.2.2.2.2.1) (Int.toNat x11.1) [.ref () 5 0 (List.length j14.2.1), .ref () 6 0 (List.length j14.2.2.1), .int .i64 (((at_ j3.2.2.2.2.1 x11.1).term).kind), .int .i64 (((at_ j3.2.2.2.2.1 x11.1).term).a), .int .i64 (((at_ j3.2.2.2.2.1 x11.1).term).x), .int .i64 (((at_ j3.2.2.2.2.1 x11.1).term).y)]⟩), (5, oM 2 (ePhi true) j14.2.1), (6, oM 7 (Q3 false) j14.2.2.1), (7, oL 3 [.bs () 1 (List.map iL j3.2.2.2.2.2.1), .int .i64 j3.2.2.2.2.2.2, .ref () 4 0 (List.length j3.2.2.2.2.1)]), (8, oL 6 [.ref () 5 0 (List.length j14.2.1), .ref () 6 0 (List.length j14.2.2.1), .int .i64 j14.2.2.2.1, .int .i64 j14.2.2.2.2.1, .int .i64 j14.2.2.2.2.2, .int .i64 (((at_ j3.2.2.2.2.1 x11.1).term).y)])] 9) ?_ ?_
 replace hm := hj72
 refine yG ?_
 intro _ hm
 obtain ⟨x15, h16, hm⟩ := Z0 hm
 refine nO (cG [0] (Z2 h16) ?_)
 refine yG ?_
 intro _ hm
 refine bS hm (fun hb17 hm => ?_) fun hb17 hm => ?_
 refine yG ?_
 intro k2 hm
 refine bS hm (fun hb19 hm => ?_) fun hb19 hm => ?_
 obtain ⟨j20, hj27, hm⟩ := Z0 hm
 refine V6 (St 135 [(2, vP 1), (3, vP 2), (4, vP 7), (5, vI x11.1), (6, vP 8)] [(0, oL 2 (J3 false j20.1)), (1, oL 1 [.nl]), (2, oL 1 [.ref () 3 0 (List.length x1.1.funcs)]), (3, some ⟨(), 3, List.set (List.map (Z9 true) x1.1.funcs) (Int.toNat j3.2.1) [.bs () 1 (List.map iL j3.2.2.1), .int .i64 j3.2.2.2.1, .ref () 4 0 (List.length j3.2.2.2.2.1)]⟩), (4, some ⟨(), 6, List.set (List.map (W2 true) j3.2.2.2.2.1) (Int.toNat x11.1) [.ref () 5 0 (List.length ((at_ j3.2.2.2.2.1 x11.1).phis)), .ref () 6 0 (List.length j20.2), .int .i64 (((at_ j3.2.2.2.2.1 x11.1).term).kind), .int .i64 (((at_ j3.2.2.2.2.1 x11.1).term).a), .int .i64 (((at_ j3.2.2.2.2.1 x11.1).term).x), .int .i64 (((at_ j3.2.2.2.2.1 x11.1).term).y)]⟩), (5, oM 2 (ePhi true) ((at_ j3.2.2.2.2.1 x11.1).phis)), (6, oM 7 (Q3 false) j20.2), (7, oL 3 [.bs () 1 (List.map iL j3.2.2.2.2.2.1), .int .i64 j3.2.2.2.2.2.2, .ref () 4 0 (List.length j3.2.2.2.2.1)]), (8, oL 6 [.ref () 5 0 (List.length ((at_ j3.2.2.2.2.1 x11.1).phis)), .ref () 6 0 (List.length j20.2), .int .i64 (((at_ j3.2.2.2.2.1 x11.1).term).kind), .int .i64 (((at_ j3.2.2.2.2.1 x11.1).term).a), .int .i64 (((at_ j3.2.2.2.2.1 x11.1).term).x), .int .i64 (((at_ j3.2.2.2.2.1 x11.1).term).y)])] 9) ?_ ?_
 replace hm := hj27
 refine Z3m (Y := sysG _) Z3i ?_
 refine tK 2 0 rfl (kV ?_)
 refine tD 3 1 [4, 5, 6, 8, 9, 10, 11] rfl (kF ?_)
 refine tD 4 1 [5, 6, 8, 9, 10, 11] rfl (kD ?_)
 refine tD 5 1 [6, 8, 9, 10, 11] rfl (X6k rfl N49 rfl rfl fun hL21 => ?_)
 refine tK 7 0 rfl (kV ?_)
 refine t_2 0 6 rfl rfl (by decide +kernel) ?_ ?_
 refine (kF ?_)
 refine t_2 1 6 rfl rfl (by decide +kernel) ?_ ?_
 refine (kD ?_)
 obtain ⟨x22, h23, hm⟩ := Z0 hm
 refine oK 6 rfl (cgG [0] (Z2 h23) ?_)
 obtain ⟨x24, h25, hm⟩ := Z0 hm
 refine oK 8 rfl (cgG [0] (Y0 h25) ?_)
 obtain ⟨h26, hm⟩ := Y1 hm
 refine tD 9 1 [10, 11] rfl (Q2 rfl E49 rfl rfl rfl h26 ?_)
 refine tK 10 1 rfl (kF ?_)
 refine oK 11 rfl (Y0d (({ op_ := (at_ ((at_ j3.2.2.2.2.1 x11.1).insts) x22.1).op_, w := (at_ ((at_ j3.2.2.2.2.1 x11.1).insts) x22.1).w, a := x24.1, b := (at_ ((at_ j3.2.2.2.2.1 x11.1).insts) x22.1).b, c := (at_ ((at_ j3.2.2.2.2.1 x11.1).insts) x22.1).c, imm := (at_ ((at_ j3.2.2.2.2.1 x11.1).insts) x22.1).imm, args := (at_ ((at_ j3.2.2.2.2.1 x11.1).insts) x22.1).args } : GInst)) T2 rfl rfl rfl h26 rfl rfl rfl rfl ?_)
 refine aN ?_
 cases hm
 exact vW [0, 1, 2, 3, 4, 6, 7, 5, 8]
 obtain ⟨x22, h23, hm⟩ := Z0 hm
 refine (cgG [0] (Z2 h23) ?_)
 refine t_2 1 8 rfl rfl (by decide +kernel) ?_ ?_
 refine (kD ?_)
 obtain ⟨x24, h25, hm⟩ := Z0 hm
 refine oK 8 rfl (cgG [0] (Y0 h25) ?_)
 obtain ⟨h26, hm⟩ := Y1 hm
 refine tD 9 1 [10, 11] rfl (Q2 rfl E49 rfl rfl rfl h26 ?_)
 refine tK 10 1 rfl (kF ?_)
 refine oK 11 rfl (Y0d (({ op_ := (at_ ((at_ j3.2.2.2.2.1 x11.1).insts) x22.1).op_, w := (at_ ((at_ j3.2.2.2.2.1 x11.1).insts) x22.1).w, a := x24.1, b := (at_ ((at_ j3.2.2.2.2.1 x11.1).insts) x22.1).b, c := (at_ ((at_ j3.2.2.2.2.1 x11.1).insts) x22.1).c, imm := (at_ ((at_ j3.2.2.2.2.1 x11.1).insts) x22.1).imm, args := (at_ ((at_ j3.2.2.2.2.1 x11.1).insts) x22.1).args } : GInst)) T2 rfl rfl rfl h26 rfl rfl rfl rfl ?_)
 refine aN ?_
 cases hm
 exact vW [0, 1, 2, 3, 4, 6, 7, 5, 8]
 obtain ⟨x24, h25, hm⟩ := Z0 hm
 refine (cgG [0] (Y0 h25) ?_)
 refine tK 1 1 rfl (kD ?_)
 obtain ⟨h26, hm⟩ := Y1 hm
 refine tD 9 1 [10, 11] rfl (Q2 rfl E49 rfl rfl rfl h26 ?_)
 refine tK 10 1 rfl (kF ?_)
 refine oK 11 rfl (Y0d (({ op_ := (at_ ((at_ j3.2.2.2.2.1 x11.1).insts) x22.1).op_, w := (at_ ((at_ j3.2.2.2.2.1 x11.1).insts) x22.1).w, a := x24.1, b := (at_ ((at_ j3.2.2.2.2.1 x11.1).insts) x22.1).b, c := (at_ ((at_ j3.2.2.2.2.1 x11.1).insts) x22.1).c, imm := (at_ ((at_ j3.2.2.2.2.1 x11.1).insts) x22.1).imm, args := (at_ ((at_ j3.2.2.2.2.1 x11.1).insts) x22.1).args } : GInst)) T2 rfl rfl rfl h26 rfl rfl rfl rfl ?_)
 refine aN ?_
 cases hm
 exact vW [0, 1, 2, 3, 4, 6, 7, 5, 8]
 obtain ⟨x22, h23, hm⟩ := Z0 hm
 refine (cgG [0] (Z2 h23) ?_)
 refine t_2 0 8 rfl rfl (by decide +kernel) ?_ ?_
 refine (kF ?_)
 refine t_2 1 8 rfl rfl (by decide +kernel) ?_ ?_
 refine (kD ?_)
 obtain ⟨x24, h25, hm⟩ := Z0 hm
 refine oK 8 rfl (cgG [0] (Y0 h25) ?_)
 obtain ⟨h26, hm⟩ := Y1 hm
 refine tD 9 1 [10, 11] rfl (Q2 rfl E49 rfl rfl rfl h26 ?_)
 refine tK 10 1 rfl (kF ?_)
 refine oK 11 rfl (Y0d (({ op_ := (at_ ((at_ j3.2.2.2.2.1 x11.1).insts) x22.1).op_, w := (at_ ((at_ j3.2.2.2.2.1 x11.1).insts) x22.1).w, a := x24.1, b := (at_ ((at_ j3.2.2.2.2.1 x11.1).insts) x22.1).b, c := (at_ ((at_ j3.2.2.2.2.1 x11.1).insts) x22.1).c, imm := (at_ ((at_ j3.2.2.2.2.1 x11.1).insts) x22.1).imm, args := (at_ ((at_ j3.2.2.2.2.1 x11.1).insts) x22.1).args } : GInst)) T2 rfl rfl rfl h26 rfl rfl rfl rfl ?_)
 refine aN ?_
 cases hm
 exact vW [0, 1, 2, 3, 4, 6, 7, 5, 8]
 obtain ⟨x24, h25, hm⟩ := Z0 hm
 refine (cgG [0] (Y0 h25) ?_)
 refine tK 1 1 rfl (kD ?_)
 obtain ⟨h26, hm⟩ := Y1 hm
 refine tD 9 1 [10, 11] rfl (Q2 rfl E49 rfl rfl rfl h26 ?_)
 refine tK 10 1 rfl (kF ?_)
 refine oK 11 rfl (Y0d (({ op_ := (at_ ((at_ j3.2.2.2.2.1 x11.1).insts) x22.1).op_, w := (at_ ((at_ j3.2.2.2.2.1 x11.1).insts) x22.1).w, a := x24.1, b := (at_ ((at_ j3.2.2.2.2.1 x11.1).insts) x22.1).b, c := (at_ ((at_ j3.2.2.2.2.1 x11.1).insts) x22.1).c, imm := (at_ ((at_ j3.2.2.2.2.1 x11.1).insts) x22.1).imm, args := (at_ ((at_ j3.2.2.2.2.1 x11.1).insts) x22.1).args } : GInst)) T2 rfl rfl rfl h26 rfl rfl rfl rfl ?_)
 refine aN ?_
 cases hm
 exact vW [0, 1, 2, 3, 4, 6, 7, 5, 8]
 obtain ⟨x24, h25, hm⟩ := Z0 hm
 refine (cgG [0] (Y0 h25) ?_)
 refine tK 0 1 rfl (kF ?_)
 refine tK 1 1 rfl (kD ?_)
 obtain ⟨h26, hm⟩ := Y1 hm
 refine tD 9 1 [10, 11] rfl (Q2 rfl E49 rfl rfl rfl h26 ?_)
 refine tK 10 1 rfl (kF ?_)
 refine oK 11 rfl (Y0d (({ op_ := (at_ ((at_ j3.2.2.2.2.1 x11.1).insts) x22.1).op_, w := (at_ ((at_ j3.2.2.2.2.1 x11.1).insts) x22.1).w, a := x24.1, b := (at_ ((at_ j3.2.2.2.2.1 x11.1).insts) x22.1).b, c := (at_ ((at_ j3.2.2.2.2.1 x11.1).insts) x22.1).c, imm := (at_ ((at_ j3.2.2.2.2.1 x11.1).insts) x22.1).imm, args := (at_ ((at_ j3.2.2.2.2.1 x11.1).insts) x22.1).args } : GInst)) T2 rfl rfl rfl h26 rfl rfl rfl rfl ?_)
 refine aN ?_
 cases hm
 exact vW [0, 1, 2, 3, 4, 6, 7, 5, 8]
 cases hm
 exact vW [0, 1, 2, 3, 4, 5, 6, 7, 8]
 refine K3 ?_
 cases hm
 exact vW [0, 1, 2, 3, 4, 6, 7, 5, 8]
 refine yG ?_
 intro _ hm
 refine bS hm (fun hb28 hm => ?_) fun hb28 hm => ?_
 refine yG ?_
 intro k3 hm
 refine bS hm (fun hb30 hm => ?_) fun hb30 hm => ?_
 obtain ⟨j31, hj38, hm⟩ := Z0 hm
 refine V6 (St 135 [(2, vP 1), (3, vP 2), (4, vP 7), (5, vI x11.1), (6, vP 8)] [(0, oL 2 (J3 false j31.1)), (1, oL 1 [.nl]), (2, oL 1 [.ref () 3 0 (List.length x1.1.funcs)]), (3, some ⟨(), 3, List.set (List.map (Z9 true) x1.1.funcs) (Int.toNat j3.2.1) [.bs () 1 (List.map iL j3.2.2.1), .int .i64 j3.2.2.2.1, .ref () 4 0 (List.length j3.2.2.2.2.1)]⟩), (4, some ⟨(), 6, List.set (List.map (W2 true) j3.2.2.2.2.1) (Int.toNat x11.1) [.ref () 5 0 (List.length ((at_ j3.2.2.2.2.1 x11.1).phis)), .ref () 6 0 (List.length j31.2), .int .i64 (((at_ j3.2.2.2.2.1 x11.1).term).kind), .int .i64 (((at_ j3.2.2.2.2.1 x11.1).term).a), .int .i64 (((at_ j3.2.2.2.2.1 x11.1).term).x), .int .i64 (((at_ j3.2.2.2.2.1 x11.1).term).y)]⟩), (5, oM 2 (ePhi true) ((at_ j3.2.2.2.2.1 x11.1).phis)), (6, oM 7 (Q3 false) j31.2), (7, oL 3 [.bs () 1 (List.map iL j3.2.2.2.2.2.1), .int .i64 j3.2.2.2.2.2.2, .ref () 4 0 (List.length j3.2.2.2.2.1)]), (8, oL 6 [.ref () 5 0 (List.length ((at_ j3.2.2.2.2.1 x11.1).phis)), .ref () 6 0 (List.length j31.2), .int .i64 (((at_ j3.2.2.2.2.1 x11.1).term).kind), .int .i64 (((at_ j3.2.2.2.2.1 x11.1).term).a), .int .i64 (((at_ j3.2.2.2.2.1 x11.1).term).x), .int .i64 (((at_ j3.2.2.2.2.1 x11.1).term).y)])] 9) ?_ ?_
 replace hm := hj38
 refine Z3m (Y := sysG _) Z3i ?_
 refine tK 2 0 rfl (kV ?_)
 refine tD 3 1 [4, 5, 6, 8, 9, 10, 11] rfl (kF ?_)
 refine tD 4 1 [5, 6, 8, 9, 10, 11] rfl (kD ?_)
 refine tD 5 1 [6, 8, 9, 10, 11] rfl (X6k rfl N49 rfl rfl fun hL32 => ?_)
 refine tK 7 0 rfl (kV ?_)
 refine t_2 0 6 rfl rfl (by decide +kernel) ?_ ?_
 refine (kF ?_)
 refine t_2 1 6 rfl rfl (by decide +kernel) ?_ ?_
 refine (kD ?_)
 obtain ⟨x33, h34, hm⟩ := Z0 hm
 refine oK 6 rfl (cgG [0] (Z2 h34) ?_)
 obtain ⟨x35, h36, hm⟩ := Z0 hm
 refine oK 8 rfl (cgG [0] (Y0 h36) ?_)
 obtain ⟨h37, hm⟩ := Y1 hm
 refine tD 9 1 [10, 11] rfl (Q2 rfl E49 rfl rfl rfl h37 ?_)
 refine tK 10 1 rfl (kF ?_)
 refine oK 11 rfl (Y0d (({ op_ := (at_ ((at_ j3.2.2.2.2.1 x11.1).insts) x33.1).op_, w := x35.1, a := (at_ ((at_ j3.2.2.2.2.1 x11.1).insts) x33.1).a, b := (at_ ((at_ j3.2.2.2.2.1 x11.1).insts) x33.1).b, c := (at_ ((at_ j3.2.2.2.2.1 x11.1).insts) x33.1).c, imm := (at_ ((at_ j3.2.2.2.2.1 x11.1).insts) x33.1).imm, args := (at_ ((at_ j3.2.2.2.2.1 x11.1).insts) x33.1).args } : GInst)) T2 rfl rfl rfl h37 rfl rfl rfl rfl ?_)
 refine aN ?_
 cases hm
 exact vW [0, 1, 2, 3, 4, 6, 7, 5, 8]
 obtain ⟨x33, h34, hm⟩ := Z0 hm
 refine (cgG [0] (Z2 h34) ?_)
 refine t_2 1 8 rfl rfl (by decide +kernel) ?_ ?_
 refine (kD ?_)
 obtain ⟨x35, h36, hm⟩ := Z0 hm
 refine oK 8 rfl (cgG [0] (Y0 h36) ?_)
 obtain ⟨h37, hm⟩ := Y1 hm
 refine tD 9 1 [10, 11] rfl (Q2 rfl E49 rfl rfl rfl h37 ?_)
 refine tK 10 1 rfl (kF ?_)
 refine oK 11 rfl (Y0d (({ op_ := (at_ ((at_ j3.2.2.2.2.1 x11.1).insts) x33.1).op_, w := x35.1, a := (at_ ((at_ j3.2.2.2.2.1 x11.1).insts) x33.1).a, b := (at_ ((at_ j3.2.2.2.2.1 x11.1).insts) x33.1).b, c := (at_ ((at_ j3.2.2.2.2.1 x11.1).insts) x33.1).c, imm := (at_ ((at_ j3.2.2.2.2.1 x11.1).insts) x33.1).imm, args := (at_ ((at_ j3.2.2.2.2.1 x11.1).insts) x33.1).args } : GInst)) T2 rfl rfl rfl h37 rfl rfl rfl rfl ?_)
 refine aN ?_
 cases hm
 exact vW [0, 1, 2, 3, 4, 6, 7, 5, 8]
 obtain ⟨x35, h36, hm⟩ := Z0 hm
 refine (cgG [0] (Y0 h36) ?_)
 refine tK 1 1 rfl (kD ?_)
 obtain ⟨h37, hm⟩ := Y1 hm
 refine tD 9 1 [10, 11] rfl (Q2 rfl E49 rfl rfl rfl h37 ?_)
 refine tK 10 1 rfl (kF ?_)
 refine oK 11 rfl (Y0d (({ op_ := (at_ ((at_ j3.2.2.2.2.1 x11.1).insts) x33.1).op_, w := x35.1, a := (at_ ((at_ j3.2.2.2.2.1 x11.1).insts) x33.1).a, b := (at_ ((at_ j3.2.2.2.2.1 x11.1).insts) x33.1).b, c := (at_ ((at_ j3.2.2.2.2.1 x11.1).insts) x33.1).c, imm := (at_ ((at_ j3.2.2.2.2.1 x11.1).insts) x33.1).imm, args := (at_ ((at_ j3.2.2.2.2.1 x11.1).insts) x33.1).args } : GInst)) T2 rfl rfl rfl h37 rfl rfl rfl rfl ?_)
 refine aN ?_
 cases hm
 exact vW [0, 1, 2, 3, 4, 6, 7, 5, 8]
 obtain ⟨x33, h34, hm⟩ := Z0 hm
 refine (cgG [0] (Z2 h34) ?_)
 refine t_2 0 8 rfl rfl (by decide +kernel) ?_ ?_
 refine (kF ?_)
 refine t_2 1 8 rfl rfl (by decide +kernel) ?_ ?_
 refine (kD ?_)
 obtain ⟨x35, h36, hm⟩ := Z0 hm
 refine oK 8 rfl (cgG [0] (Y0 h36) ?_)
 obtain ⟨h37, hm⟩ := Y1 hm
 refine tD 9 1 [10, 11] rfl (Q2 rfl E49 rfl rfl rfl h37 ?_)
 refine tK 10 1 rfl (kF ?_)
 refine oK 11 rfl (Y0d (({ op_ := (at_ ((at_ j3.2.2.2.2.1 x11.1).insts) x33.1).op_, w := x35.1, a := (at_ ((at_ j3.2.2.2.2.1 x11.1).insts) x33.1).a, b := (at_ ((at_ j3.2.2.2.2.1 x11.1).insts) x33.1).b, c := (at_ ((at_ j3.2.2.2.2.1 x11.1).insts) x33.1).c, imm := (at_ ((at_ j3.2.2.2.2.1 x11.1).insts) x33.1).imm, args := (at_ ((at_ j3.2.2.2.2.1 x11.1).insts) x33.1).args } : GInst)) T2 rfl rfl rfl h37 rfl rfl rfl rfl ?_)
 refine aN ?_
 cases hm
 exact vW [0, 1, 2, 3, 4, 6, 7, 5, 8]
 obtain ⟨x35, h36, hm⟩ := Z0 hm
 refine (cgG [0] (Y0 h36) ?_)
 refine tK 1 1 rfl (kD ?_)
 obtain ⟨h37, hm⟩ := Y1 hm
 refine tD 9 1 [10, 11] rfl (Q2 rfl E49 rfl rfl rfl h37 ?_)
 refine tK 10 1 rfl (kF ?_)
 refine oK 11 rfl (Y0d (({ op_ := (at_ ((at_ j3.2.2.2.2.1 x11.1).insts) x33.1).op_, w := x35.1, a := (at_ ((at_ j3.2.2.2.2.1 x11.1).insts) x33.1).a, b := (at_ ((at_ j3.2.2.2.2.1 x11.1).insts) x33.1).b, c := (at_ ((at_ j3.2.2.2.2.1 x11.1).insts) x33.1).c, imm := (at_ ((at_ j3.2.2.2.2.1 x11.1).insts) x33.1).imm, args := (at_ ((at_ j3.2.2.2.2.1 x11.1).insts) x33.1).args } : GInst)) T2 rfl rfl rfl h37 rfl rfl rfl rfl ?_)
 refine aN ?_
 cases hm
 exact vW [0, 1, 2, 3, 4, 6, 7, 5, 8]
 obtain ⟨x35, h36, hm⟩ := Z0 hm
 refine (cgG [0] (Y0 h36) ?_)
 refine tK 0 1 rfl (kF ?_)
 refine tK 1 1 rfl (kD ?_)
 obtain ⟨h37, hm⟩ := Y1 hm
 refine tD 9 1 [10, 11] rfl (Q2 rfl E49 rfl rfl rfl h37 ?_)
 refine tK 10 1 rfl (kF ?_)
 refine oK 11 rfl (Y0d (({ op_ := (at_ ((at_ j3.2.2.2.2.1 x11.1).insts) x33.1).op_, w := x35.1, a := (at_ ((at_ j3.2.2.2.2.1 x11.1).insts) x33.1).a, b := (at_ ((at_ j3.2.2.2.2.1 x11.1).insts) x33.1).b, c := (at_ ((at_ j3.2.2.2.2.1 x11.1).insts) x33.1).c, imm := (at_ ((at_ j3.2.2.2.2.1 x11.1).insts) x33.1).imm, args := (at_ ((at_ j3.2.2.2.2.1 x11.1).insts) x33.1).args } : GInst)) T2 rfl rfl rfl h37 rfl rfl rfl rfl ?_)
 refine aN ?_
 cases hm
 exact vW [0, 1, 2, 3, 4, 6, 7, 5, 8]
 cases hm
 exact vW [0, 1, 2, 3, 4, 5, 6, 7, 8]
 refine K3 ?_
 cases hm
 exact vW [0, 1, 2, 3, 4, 6, 7, 5, 8]
 refine yG ?_
 intro _ hm
 refine bS hm (fun hb39 hm => ?_) fun hb39 hm => ?_
 refine yG ?_
 intro _ hm
 obtain ⟨x40, h41, hm⟩ := Z0 hm
 refine nO (cG [0] (Y0 h41) ?_)
 refine yG ?_
 intro _ hm
 cases hm
 exact vW [0, 1, 2, 3, 4, 6, 7, 5, 8]
 refine yG ?_
 intro _ hm
 refine bS hm (fun hb42 hm => ?_) fun hb42 hm => ?_
 refine yG ?_
 intro _ hm
 obtain ⟨x43, h44, hm⟩ := Z0 hm
 refine nO (cG [0] (Y0 h44) ?_)
 refine yG ?_
 intro _ hm
 cases hm
 exact vW [0, 1, 2, 3, 4, 6, 7, 5, 8]
 refine yG ?_
 intro _ hm
 refine bS hm (fun hb45 hm => ?_) fun hb45 hm => ?_
 refine yG ?_
 intro k4 hm
 refine bS hm (fun hb47 hm => ?_) fun hb47 hm => ?_
 obtain ⟨h48, hm⟩ := Y1 hm
 obtain ⟨h49, hm⟩ := Y1 hm
 obtain ⟨h50, hm⟩ := Y1 hm
 refine gH (X5m 6 1 h48) ?_
 refine Z3m (Y := sysC _) Z3i ?_
 refine tK 0 1 rfl (kF ?_)
 refine tK 1 1 rfl (kD ?_)
 refine tK 2 1 rfl (kF ?_)
 refine tK 3 1 rfl (kD ?_)
 refine tK 4 1 rfl (Q2 rfl E48 rfl rfl rfl h48 ?_)
 refine tK 5 1 rfl (kF ?_)
 refine tK 6 1 rfl (Y2i rfl T24 rfl rfl (Z4p h48) rfl rfl ?_)
 refine oK 7 rfl (W4y (l := 1) (h := (List.length ((at_ ((at_ j3.2.2.2.2.1 x11.1).phis) 0).ins))) rfl E24 rfl rfl (bd_s (m := 1) rfl (by decide)) bd_n h49 ?_)
 refine tD 8 1 [9, 10] rfl (Q2 rfl E48 rfl rfl rfl h50 ?_)
 refine tK 9 1 rfl (kF ?_)
 refine oK 10 rfl (x_st T24 (rows := List.set (List.map (ePhi true) ((at_ j3.2.2.2.2.1 x11.1).phis)) (Int.toNat 0) [.int .i64 ((at_ ((at_ j3.2.2.2.2.1 x11.1).phis) 0).w), .ref () 9 (0 + 1) (((List.length ((at_ ((at_ j3.2.2.2.2.1 x11.1).phis) 0).ins)) - 1))]) rfl rfl rfl (Z4p h50) rfl rfl rfl (by rw [List.set_set]; rfl) ?_)
 refine aN ?_
 cases hm
 exact (GhB.trans (f_clP (ys := List.drop 1 ((at_ ((at_ j3.2.2.2.2.1 x11.1).phis) 0).ins)) (rows' := List.map (ePhi true) (List.set ((at_ j3.2.2.2.2.1 x11.1).phis) (Int.toNat 0) (({ w := (at_ ((at_ j3.2.2.2.2.1 x11.1).phis) 0).w, ins := List.drop 1 ((at_ ((at_ j3.2.2.2.2.1 x11.1).phis) 0).ins) } : GPhi)))) 6 9 (Int.toNat 0) 1 rfl rfl rfl (Z4p h50) rfl (by simp only [List.drop_zero, Nat.zero_add] <;> exact List.take_of_length_le (by simp)) (Y8h rfl)) (vW [0, 1, 2, 3, 4, 6, 7, 5, 8]))
 refine K3 ?_
 cases hm
 exact vW [0, 1, 2, 3, 4, 6, 7, 5, 8]
 refine yG ?_
 intro _ hm
 refine bS hm (fun hb51 hm => ?_) fun hb51 hm => ?_
 refine yG ?_
 intro k5 hm
 refine bS hm (fun hb53 hm => ?_) fun hb53 hm => ?_
 obtain ⟨j54, hj61, hm⟩ := Z0 hm
 refine V6 (St 135 [(2, vP 1), (3, vP 2), (4, vP 7), (5, vI x11.1), (6, vP 8)] [(0, oL 2 (J3 false j54.1)), (1, oL 1 [.nl]), (2, oL 1 [.ref () 3 0 (List.length x1.1.funcs)]), (3, some ⟨(), 3, List.set (List.map (Z9 true) x1.1.funcs) (Int.toNat j3.2.1) [.bs () 1 (List.map iL j3.2.2.1), .int .i64 j3.2.2.2.1, .ref () 4 0 (List.length j3.2.2.2.2.1)]⟩), (4, some ⟨(), 6, List.set (List.map (W2 true) j3.2.2.2.2.1) (Int.toNat x11.1) [.ref () 5 0 (List.length ((at_ j3.2.2.2.2.1 x11.1).phis)), .ref () 6 0 (List.length j54.2), .int .i64 (((at_ j3.2.2.2.2.1 x11.1).term).kind), .int .i64 (((at_ j3.2.2.2.2.1 x11.1).term).a), .int .i64 (((at_ j3.2.2.2.2.1 x11.1).term).x), .int .i64 (((at_ j3.2.2.2.2.1 x11.1).term).y)]⟩), (5, oM 2 (ePhi true) ((at_ j3.2.2.2.2.1 x11.1).phis)), (6, oM 7 (Q3 false) j54.2), (7, oL 3 [.bs () 1 (List.map iL j3.2.2.2.2.2.1), .int .i64 j3.2.2.2.2.2.2, .ref () 4 0 (List.length j3.2.2.2.2.1)]), (8, oL 6 [.ref () 5 0 (List.length ((at_ j3.2.2.2.2.1 x11.1).phis)), .ref () 6 0 (List.length j54.2), .int .i64 (((at_ j3.2.2.2.2.1 x11.1).term).kind), .int .i64 (((at_ j3.2.2.2.2.1 x11.1).term).a), .int .i64 (((at_ j3.2.2.2.2.1 x11.1).term).x), .int .i64 (((at_ j3.2.2.2.2.1 x11.1).term).y)])] 9) ?_ ?_
 replace hm := hj61
 refine Z3m (Y := sysG _) Z3i ?_
 refine tK 2 0 rfl (kV ?_)
 refine tD 3 1 [4, 5, 6, 8, 9, 10, 11] rfl (kF ?_)
 refine tD 4 1 [5, 6, 8, 9, 10, 11] rfl (kD ?_)
 refine tD 5 1 [6, 8, 9, 10, 11] rfl (X6k rfl N49 rfl rfl fun hL55 => ?_)
 refine tK 7 0 rfl (kV ?_)
 refine t_2 0 6 rfl rfl (by decide +kernel) ?_ ?_
 refine (kF ?_)
 refine t_2 1 6 rfl rfl (by decide +kernel) ?_ ?_
 refine (kD ?_)
 obtain ⟨x56, h57, hm⟩ := Z0 hm
 refine oK 6 rfl (cgG [0] (Z2 h57) ?_)
 obtain ⟨x58, h59, hm⟩ := Z0 hm
 refine oK 8 rfl (cgG [0] (Y0 h59) ?_)
 obtain ⟨h60, hm⟩ := Y1 hm
 refine tD 9 1 [10, 11] rfl (Q2 rfl E49 rfl rfl rfl h60 ?_)
 refine tK 10 1 rfl (kF ?_)
 refine oK 11 rfl (Y0d (({ op_ := x58.1, w := (at_ ((at_ j3.2.2.2.2.1 x11.1).insts) x56.1).w, a := (at_ ((at_ j3.2.2.2.2.1 x11.1).insts) x56.1).a, b := (at_ ((at_ j3.2.2.2.2.1 x11.1).insts) x56.1).b, c := (at_ ((at_ j3.2.2.2.2.1 x11.1).insts) x56.1).c, imm := (at_ ((at_ j3.2.2.2.2.1 x11.1).insts) x56.1).imm, args := (at_ ((at_ j3.2.2.2.2.1 x11.1).insts) x56.1).args } : GInst)) T2 rfl rfl rfl h60 rfl rfl rfl rfl ?_)
 refine aN ?_
 cases hm
 exact vW [0, 1, 2, 3, 4, 6, 7, 5, 8]
 obtain ⟨x56, h57, hm⟩ := Z0 hm
 refine (cgG [0] (Z2 h57) ?_)
 refine t_2 1 8 rfl rfl (by decide +kernel) ?_ ?_
 refine (kD ?_)
 obtain ⟨x58, h59, hm⟩ := Z0 hm
 refine oK 8 rfl (cgG [0] (Y0 h59) ?_)
 obtain ⟨h60, hm⟩ := Y1 hm
 refine tD 9 1 [10, 11] rfl (Q2 rfl E49 rfl rfl rfl h60 ?_)
 refine tK 10 1 rfl (kF ?_)
 refine oK 11 rfl (Y0d (({ op_ := x58.1, w := (at_ ((at_ j3.2.2.2.2.1 x11.1).insts) x56.1).w, a := (at_ ((at_ j3.2.2.2.2.1 x11.1).insts) x56.1).a, b := (at_ ((at_ j3.2.2.2.2.1 x11.1).insts) x56.1).b, c := (at_ ((at_ j3.2.2.2.2.1 x11.1).insts) x56.1).c, imm := (at_ ((at_ j3.2.2.2.2.1 x11.1).insts) x56.1).imm, args := (at_ ((at_ j3.2.2.2.2.1 x11.1).insts) x56.1).args } : GInst)) T2 rfl rfl rfl h60 rfl rfl rfl rfl ?_)
 refine aN ?_
 cases hm
 exact vW [0, 1, 2, 3, 4, 6, 7, 5, 8]
 obtain ⟨x58, h59, hm⟩ := Z0 hm
 refine (cgG [0] (Y0 h59) ?_)
 refine tK 1 1 rfl (kD ?_)
 obtain ⟨h60, hm⟩ := Y1 hm
 refine tD 9 1 [10, 11] rfl (Q2 rfl E49 rfl rfl rfl h60 ?_)
 refine tK 10 1 rfl (kF ?_)
 refine oK 11 rfl (Y0d (({ op_ := x58.1, w := (at_ ((at_ j3.2.2.2.2.1 x11.1).insts) x56.1).w, a := (at_ ((at_ j3.2.2.2.2.1 x11.1).insts) x56.1).a, b := (at_ ((at_ j3.2.2.2.2.1 x11.1).insts) x56.1).b, c := (at_ ((at_ j3.2.2.2.2.1 x11.1).insts) x56.1).c, imm := (at_ ((at_ j3.2.2.2.2.1 x11.1).insts) x56.1).imm, args := (at_ ((at_ j3.2.2.2.2.1 x11.1).insts) x56.1).args } : GInst)) T2 rfl rfl rfl h60 rfl rfl rfl rfl ?_)
 refine aN ?_
 cases hm
 exact vW [0, 1, 2, 3, 4, 6, 7, 5, 8]
 obtain ⟨x56, h57, hm⟩ := Z0 hm
 refine (cgG [0] (Z2 h57) ?_)
 refine t_2 0 8 rfl rfl (by decide +kernel) ?_ ?_
 refine (kF ?_)
 refine t_2 1 8 rfl rfl (by decide +kernel) ?_ ?_
 refine (kD ?_)
 obtain ⟨x58, h59, hm⟩ := Z0 hm
 refine oK 8 rfl (cgG [0] (Y0 h59) ?_)
 obtain ⟨h60, hm⟩ := Y1 hm
 refine tD 9 1 [10, 11] rfl (Q2 rfl E49 rfl rfl rfl h60 ?_)
 refine tK 10 1 rfl (kF ?_)
 refine oK 11 rfl (Y0d (({ op_ := x58.1, w := (at_ ((at_ j3.2.2.2.2.1 x11.1).insts) x56.1).w, a := (at_ ((at_ j3.2.2.2.2.1 x11.1).insts) x56.1).a, b := (at_ ((at_ j3.2.2.2.2.1 x11.1).insts) x56.1).b, c := (at_ ((at_ j3.2.2.2.2.1 x11.1).insts) x56.1).c, imm := (at_ ((at_ j3.2.2.2.2.1 x11.1).insts) x56.1).imm, args := (at_ ((at_ j3.2.2.2.2.1 x11.1).insts) x56.1).args } : GInst)) T2 rfl rfl rfl h60 rfl rfl rfl rfl ?_)
 refine aN ?_
 cases hm
 exact vW [0, 1, 2, 3, 4, 6, 7, 5, 8]
 obtain ⟨x58, h59, hm⟩ := Z0 hm
 refine (cgG [0] (Y0 h59) ?_)
 refine tK 1 1 rfl (kD ?_)
 obtain ⟨h60, hm⟩ := Y1 hm
 refine tD 9 1 [10, 11] rfl (Q2 rfl E49 rfl rfl rfl h60 ?_)
 refine tK 10 1 rfl (kF ?_)
 refine oK 11 rfl (Y0d (({ op_ := x58.1, w := (at_ ((at_ j3.2.2.2.2.1 x11.1).insts) x56.1).w, a := (at_ ((at_ j3.2.2.2.2.1 x11.1).insts) x56.1).a, b := (at_ ((at_ j3.2.2.2.2.1 x11.1).insts) x56.1).b, c := (at_ ((at_ j3.2.2.2.2.1 x11.1).insts) x56.1).c, imm := (at_ ((at_ j3.2.2.2.2.1 x11.1).insts) x56.1).imm, args := (at_ ((at_ j3.2.2.2.2.1 x11.1).insts) x56.1).args } : GInst)) T2 rfl rfl rfl h60 rfl rfl rfl rfl ?_)
 refine aN ?_
 cases hm
 exact vW [0, 1, 2, 3, 4, 6, 7, 5, 8]
 obtain ⟨x58, h59, hm⟩ := Z0 hm
 refine (cgG [0] (Y0 h59) ?_)
 refine tK 0 1 rfl (kF ?_)
 refine tK 1 1 rfl (kD ?_)
 obtain ⟨h60, hm⟩ := Y1 hm
 refine tD 9 1 [10, 11] rfl (Q2 rfl E49 rfl rfl rfl h60 ?_)
 refine tK 10 1 rfl (kF ?_)
 refine oK 11 rfl (Y0d (({ op_ := x58.1, w := (at_ ((at_ j3.2.2.2.2.1 x11.1).insts) x56.1).w, a := (at_ ((at_ j3.2.2.2.2.1 x11.1).insts) x56.1).a, b := (at_ ((at_ j3.2.2.2.2.1 x11.1).insts) x56.1).b, c := (at_ ((at_ j3.2.2.2.2.1 x11.1).insts) x56.1).c, imm := (at_ ((at_ j3.2.2.2.2.1 x11.1).insts) x56.1).imm, args := (at_ ((at_ j3.2.2.2.2.1 x11.1).insts) x56.1).args } : GInst)) T2 rfl rfl rfl h60 rfl rfl rfl rfl ?_)
 refine aN ?_
 cases hm
 exact vW [0, 1, 2, 3, 4, 6, 7, 5, 8]
 cases hm
 exact vW [0, 1, 2, 3, 4, 5, 6, 7, 8]
 refine K3 ?_
 cases hm
 exact vW [0, 1, 2, 3, 4, 6, 7, 5, 8]
 refine yG ?_
 intro _ hm
 refine bS hm (fun hb62 hm => ?_) fun hb62 hm => ?_
 refine yG ?_
 intro k6 hm
 refine bS hm (fun hb64 hm => ?_) fun hb64 hm => ?_
 obtain ⟨h65, hm⟩ := Y1 hm
 obtain ⟨x66, h67, hm⟩ := Z0 hm
 have hS24_6 := (Y0 h67)
 obtain ⟨h68, hm⟩ := Y1 hm
 refine gH (X5m 6 1 h65) ?_
 refine Z3m (Y := sysH _ [0] []) Z3i ?_
 refine tE 0 [1, 2, 3, 4, 7, 8] rfl (kF ?_)
 refine tE 1 [2, 3, 4, 7, 8] rfl (kD ?_)
 refine tE 2 [3, 4, 7, 8] rfl (Q2 rfl E48 rfl rfl rfl h65 ?_)
 refine tE 3 [4, 7, 8] rfl (kF ?_)
 refine tE 4 [7, 8] rfl (Y2i rfl T24 rfl rfl (Z4p h65) rfl rfl ?_)
 refine tK 5 0 rfl (kV ?_)
 refine oK 6 rfl (Z6q (H := [0]) (X := []) (v := .u (.one (.int .i64 x66.1))) (nobs := []) (oa' := _) (nx' := 10) hS24_6 [0] rfl (by decide) (h_c rfl h_n) rfl (g_1 rfl rfl rfl (g_1 rfl rfl rfl (g_1 rfl rfl rfl g_n))) EntC.h rfl rfl rfl rfl ?_ rfl)
 refine tK 7 1 rfl (Q2 rfl E24 rfl rfl rfl h68 ?_)
 refine oK 8 rfl (Y0d x66.1 T2 rfl rfl rfl h68 rfl rfl rfl rfl ?_)
 refine aN ?_
 cases hm
 exact (GhB.trans (W2n (({ w := (at_ ((at_ j3.2.2.2.2.1 x11.1).phis) 0).w, ins := List.set ((at_ ((at_ j3.2.2.2.2.1 x11.1).phis) 0).ins) (Int.toNat 0) x66.1 } : GPhi)) 6 9 1 h65) (vW [0, 1, 2, 3, 4, 6, 7, 5, 8]))
 refine K3 ?_
 cases hm
 exact vW [0, 1, 2, 3, 4, 6, 7, 5, 8]
 refine yG ?_
 intro _ hm
 refine bS hm (fun hb69 hm => ?_) fun hb69 hm => ?_
 refine yG ?_
 intro _ hm
 obtain ⟨x70, h71, hm⟩ := Z0 hm
 refine nO (cG [0] (Y0 h71) ?_)
 refine yG ?_
 intro _ hm
 cases hm
 exact vW [0, 1, 2, 3, 4, 6, 7, 5, 8]
 refine K3 ?_
 cases hm
 exact vW [0, 1, 2, 3, 4, 6, 7, 5, 8]
 refine yG ?_
 intro _ hm
 refine nO (kW ?_)
 refine yG ?_
 intro k7 hm
 refine nO (x_st T53 (rows := List.set (List.map (W2 true) j3.2.2.2.2.1) (Int.toNat x11.1) [.ref () 5 0 (List.length j14.2.1), .ref () 6 0 (List.length j14.2.2.1), .int .i64 j14.2.2.2.1, .int .i64 j14.2.2.2.2.1, .int .i64 j14.2.2.2.2.2, .int .i64 (((at_ j3.2.2.2.2.1 x11.1).term).y)]) rfl rfl rfl (Z4p k7.2) rfl rfl rfl (by rw [List.set_set]; rfl) ?_)
 refine yG ?_
 intro _ hm
 refine nO (kW ?_)
 refine yG ?_
 intro _ hm
 cases hm
 exact rG1h [0] (hg := (W6j (rows2 := List.map (ePhi true) j14.2.1) (rows' := List.set (List.map (W2 true) j3.2.2.2.2.1) (Int.toNat x11.1) [.os () 2 (List.map (ePhi true) j14.2.1), .ref () 6 0 (List.length j14.2.2.1), .int .i64 j14.2.2.2.1, .int .i64 j14.2.2.2.2.1, .int .i64 j14.2.2.2.2.2, .int .i64 (((at_ j3.2.2.2.2.1 x11.1).term).y)]) 4 5 (Int.toNat x11.1) 0 rfl rfl rfl (Z3h (enc := ePhi true) (j14.2.1)) (Z4p k7.2) rfl (by simp) X8d).trans ((W6j (rows2 := List.map (Q3 false) j14.2.2.1) (rows' := List.map (W2 true) (List.set j3.2.2.2.2.1 (Int.toNat x11.1) (({ phis := j14.2.1, insts := j14.2.2.1, term := ({ kind := j14.2.2.2.1, a := j14.2.2.2.2.1, x := j14.2.2.2.2.2, y := ((at_ j3.2.2.2.2.1 x11.1).term).y } : GTerm) } : GBlock)))) 4 6 (Int.toNat x11.1) 1 rfl rfl rfl (Z3h (enc := Q3 false) (j14.2.2.1)) (Z4p k7.2) rfl (by simp) (Y8h rfl)).trans ((W6j (rows2 := List.map (W2 true) (List.set j3.2.2.2.2.1 (Int.toNat x11.1) (({ phis := j14.2.1, insts := j14.2.2.1, term := ({ kind := j14.2.2.2.1, a := j14.2.2.2.2.1, x := j14.2.2.2.2.2, y := ((at_ j3.2.2.2.2.1 x11.1).term).y } : GTerm) } : GBlock)))) (rows' := List.map (Z9 true) (List.set x1.1.funcs (Int.toNat j3.2.1) (({ params := j3.2.2.1, ret := j3.2.2.2.1, blocks := List.set j3.2.2.2.2.1 (Int.toNat x11.1) (({ phis := j14.2.1, insts := j14.2.2.1, term := ({ kind := j14.2.2.2.1, a := j14.2.2.2.2.1, x := j14.2.2.2.2.2, y := ((at_ j3.2.2.2.2.1 x11.1).term).y } : GTerm) } : GBlock)) } : GFunc)))) 3 4 (Int.toNat j3.2.1) 2 rfl rfl rfl (Z3h (enc := W2 true) (List.set j3.2.2.2.2.1 (Int.toNat x11.1) (({ phis := j14.2.1, insts := j14.2.2.1, term := ({ kind := j14.2.2.2.1, a := j14.2.2.2.2.1, x := j14.2.2.2.2.2, y := ((at_ j3.2.2.2.2.1 x11.1).term).y } : GTerm) } : GBlock)))) (Z4p h9) rfl (by simp) (Y8h rfl)).trans ((W4b (e := Z9 true) (e' := Z9 false) (xs := List.set x1.1.funcs (Int.toNat j3.2.1) (({ params := j3.2.2.1, ret := j3.2.2.2.1, blocks := List.set j3.2.2.2.2.1 (Int.toNat x11.1) (({ phis := j14.2.1, insts := j14.2.2.1, term := ({ kind := j14.2.2.2.1, a := j14.2.2.2.2.1, x := j14.2.2.2.2.2, y := ((at_ j3.2.2.2.2.1 x11.1).term).y } : GTerm) } : GBlock)) } : GFunc))) 3 rfl).trans (f_foldl 0 0 rfl rfl rfl (by simp) rfl)))))
noncomputable def Z2a (code : List Int) : Option GModule :=
 (Option.bind (J7 ((Z3c code)) 3) fun x1 =>
 (if x1.1 = true then
 (Option.bind (Z0r x1.2) fun x4 =>
 (some (({ funcs := x4.1.funcs } : GModule))))
 else
 (Option.bind (Z0s x1.2) fun x6 =>
 (some (({ funcs := x6.1.funcs } : GModule))))))
theorem Y3w {code : List Int} {r : GModule} (hm : Z2a code = some r) : Sim Tryz.prog 21 [.one (.bs () 1 (List.map (iK .u8) code))] [] (.u (.agg [.os () 3 (List.map (Z9 false) r.funcs)])) [] := by
 refine fN 12 0 Tryz.func21 [.cell 2 40] fun B hB0 => ?_
 unfold Z2a at hm
 refine yG ?_
 intro _ hm
 refine nO (cG [] (Y2s code) ?_)
 refine yG ?_
 intro _ hm
 obtain ⟨x1, h2, hm⟩ := Z0 hm
 refine nO (cG [1] (Z4g h2) ?_)
 refine W5 ?_
 refine bS hm (fun hb3 hm => ?_) fun hb3 hm => ?_
 refine yG ?_
 intro _ hm
 obtain ⟨x4, h5, hm⟩ := Z0 hm
 refine nO (cG [1] (Z9a h5) ?_)
 refine yG ?_
 intro _ hm
 cases hm
 exact rZ1h (hg := (W4b (e := Z9 true) (e' := Z9 false) (xs := x4.1.funcs) 2 rfl).trans (Z3b 0 0 rfl rfl rfl rfl))
 refine yG ?_
 intro _ hm
 obtain ⟨x6, h7, hm⟩ := Z0 hm
 refine nO (cG [1] (Z9b h7) ?_)
 refine yG ?_
 intro _ hm
 cases hm
 exact rZ1h (hg := Z3b 0 0 rfl rfl rfl rfl)
end
section
set_option maxHeartbeats 8000000
set_option maxRecDepth 100000
attribute [local irreducible] aopK K0 Wp St WpO
noncomputable def Z3 (n : Int) (low : Int) (high : Int) : Bool :=
 ((decide (n ≥ low) && decide (n ≤ high)))
theorem W8 (n : Int) (low : Int) (high : Int) : Sim Tryz.prog 80 [.one (.int .i64 n), .one (.int .i64 low), .one (.int .i64 high)] [] (.u (.one (.bool ((Z3 n low high))))) [] := by
 generalize hm : Z3 n low high = r
 refine fN 15 0 Tryz.func80 [.tmp 6] fun B hB0 => ?_
 unfold Z3 at hm
 refine Wp.seq ?_
 refine X4 ?_
 refine nO (x_as rfl rfl ?_)
 refine W5 ?_
 refine Wp.seq ?_
 refine V6 (St 15 [(6, vB ((decide (n ≥ low) && decide (n ≤ high))))] [] 0) ?_ ?_
 refine yG ?_
 intro _ hm
 refine gO_s rfl rfl rfl (fun hb2 => ?_) (fun hb2 => ?_)
 refine yG ?_
 intro _ hm
 exact w_ [] (.cons (by simp only [hb2, BO]; rfl) rfl .nil) .nil (by decide) (hB_0 hB0)
 refine yG ?_
 intro _ hm
 exact w_ [] (.cons (by simp only [hb2, BO]; rfl) rfl .nil) .nil (by decide) (hB_0 hB0)
 refine Z1s ?_
 cases hm
 exact rZ1
noncomputable def X0 (w : Int) : Bool :=
 (((w == 1) || ((w == 8) || ((w == 16) || (w == 32)))))
theorem Z1y (w : Int) : Sim Tryz.prog 157 [.one (.int .i64 w)] [] (.u (.one (.bool ((X0 w))))) [] := by
 generalize hm : X0 w = r
 refine fN 17 0 Tryz.func157 [.tmp 2] fun B hB0 => ?_
 unfold X0 at hm
 refine Wp.seq ?_
 refine X4 ?_
 refine nO (x_as rfl rfl ?_)
 refine W5 ?_
 refine Wp.seq ?_
 refine V6 (St 17 [(2, vB (((w == 1) || ((w == 8) || ((w == 16) || (w == 32))))))] [] 0) ?_ ?_
 refine yG ?_
 intro _ hm
 refine gO_s rfl rfl rfl (fun hb2 => ?_) (fun hb2 => ?_)
 refine yG ?_
 intro _ hm
 refine gO_s rfl rfl rfl (fun hb3 => ?_) (fun hb3 => ?_)
 refine yG ?_
 intro _ hm
 refine gO_s rfl rfl rfl (fun hb4 => ?_) (fun hb4 => ?_)
 refine yG ?_
 intro _ hm
 exact w_ [] (.cons (by simp only [hb2, hb3, hb4, BO]; rfl) rfl .nil) .nil (by decide) (hB_0 hB0)
 refine yG ?_
 intro _ hm
 exact w_ [] (.cons (by simp only [hb2, hb3, hb4, BO]; rfl) rfl .nil) .nil (by decide) (hB_0 hB0)
 refine yG ?_
 intro _ hm
 exact w_ [] (.cons (by simp only [hb2, hb3, BO]; rfl) rfl .nil) .nil (by decide) (hB_0 hB0)
 refine yG ?_
 intro _ hm
 exact w_ [] (.cons (by simp only [hb2, BO]; rfl) rfl .nil) .nil (by decide) (hB_0 hB0)
 refine Z1s ?_
 cases hm
 exact rZ1
noncomputable def K2 (s : List Int) (f : Int → Option Bool) : Option Int :=
 (Option.bind (Y6 (fun (st2 : Int) =>
 ((if decide (st2 < ((List.length s : Int))) = true then
 (if 0 ≤ st2 ∧ st2 < (List.length s : Int) then
 (Option.bind (f (at_ s st2)) fun x7 =>
 (if x7 = true then
 (some (Sum.inr ((Sum.inl st2))))
 else
 (if inI (st2 + 1) then
 (some (Sum.inl (st2 + 1)))
 else none)))
 else none)
 else
 (some (Sum.inr ((Sum.inr (())))))) : Option ((Int) ⊕ (Int ⊕ Unit)))) 0) fun (y11 : Int ⊕ Unit) => match y11 with
 | (Sum.inl j3) =>
 (some j3)
 | (Sum.inr j4) =>
 (some ((-1))))
theorem Z7r (s : List Int) (fi : FuncId) (fc : List (L Unit)) (f : Int → Option Bool) (hef : Ent Tryz.prog fi) (hcf : CapOk fc) (hsf : ∀ z0 y, f z0 = some y → Sim Tryz.prog fi ([.one (.int .i64 z0)] ++ List.map .one fc) [] (.u (.one (.bool y))) []) {r : Int} (hm : K2 s f = some r) : Sim Tryz.prog 198 [.one (.bs () 1 (List.map iL s)), .one (.fn () fi fc)] [] (.u (.one (.int .i64 r))) [] := by
 refine Y2e (N := 19) (k0 := 0) Tryz.func198 rfl rfl rfl rfl (rs := [.tmp 4]) rfl (by simp [Z1, idsL, List.all_cons, hcf.ids]) rfl fun B hB0 => ?_
 unfold K2 at hm
 refine yG ?_
 intro k1 hm
 obtain ⟨y11, hl12, hm⟩ := Z0 hm
 refine J6 hl12 (fun (st2 : Int) => St 19 [(0, .u (.one (.bs () 1 (List.map iL s)))), (1, .u (.one (.fn () fi fc))), (7, vI ((List.length s : Int))), (8, vI st2)] [] 0) (fun (y : Int ⊕ Unit) => match y with | (Sum.inl j3) => (.ret, St 19 [(4, vI j3)] [] 0) | (Sum.inr j4) => (.exit 0, St 19 [] [] 0)) (w_ [] (.cons rfl rfl (.cons (by rw [Y0u hcf]; rfl) (Z6g hcf _ _) (.cons rfl rfl (.cons rfl rfl .nil)))) .nil (by decide) (hB_0 hB0)) ?_ (by rintro (_ | _) <;> simp) ?_
 intro st2 x hm
 refine yG ?_
 intro _ hm
 refine bS hm (fun hb5 hm => ?_) fun hb5 hm => ?_
 refine yG ?_
 intro k2 hm
 obtain ⟨x7, h8, hm⟩ := Z0 hm
 refine nO (Z6 (Z0e (v := .u (.one (.bool x7))) (nobs := []) (oa' := _) (nx' := 0) rfl (a_1 rfl (b_s rfl) a_n) hcf.bor hef (hsf (at_ s st2) x7 h8) rfl rfl rfl rfl ?_))
 refine W5 ?_
 refine bS hm (fun hb9 hm => ?_) fun hb9 hm => ?_
 refine yG ?_
 intro _ hm
 cases hm
 exact ⟨rfl, vW []⟩
 refine yG ?_
 intro k3 hm
 cases hm
 exact ⟨rfl, w_ [] (.cons rfl rfl (.cons (by rw [Y0u hcf]; rfl) (Z6g hcf _ _) (.cons rfl rfl (.cons rfl rfl .nil)))) .nil (by decide) (hB_0 hB0)⟩
 refine V2 ?_
 cases hm
 exact ⟨rfl, vW []⟩
 rcases y11 with j3 | j4 <;> simp only at hm
 cases hm
 exact rZ1
 refine yG ?_
 intro _ hm
 cases hm
 exact rZ1
noncomputable def Z8 (s : List Int) (f : Int → Option Bool) : Option Bool :=
 (Option.bind (K2 s f) fun x1 =>
 (some (decide (x1 ≥ 0))))
theorem X6 (s : List Int) (fi : FuncId) (fc : List (L Unit)) (f : Int → Option Bool) (hef : Ent Tryz.prog fi) (hcf : CapOk fc) (hsf : ∀ z0 y, f z0 = some y → Sim Tryz.prog fi ([.one (.int .i64 z0)] ++ List.map .one fc) [] (.u (.one (.bool y))) []) {r : Bool} (hm : Z8 s f = some r) : Sim Tryz.prog 118 [.one (.bs () 1 (List.map iL s)), .one (.fn () fi fc)] [] (.u (.one (.bool r))) [] := by
 refine Y2e (N := 9) (k0 := 0) Tryz.func118 rfl rfl rfl rfl (rs := [.tmp 4]) rfl (by simp [Z1, idsL, List.all_cons, hcf.ids]) rfl fun B hB0 => ?_
 unfold Z8 at hm
 refine yG ?_
 intro _ hm
 obtain ⟨x1, h2, hm⟩ := Z0 hm
 refine nO (Z6 (Z0e (v := .u (.one (.int .i64 x1))) (nobs := []) (oa' := _) (nx' := 0) rfl (a_1 rfl (b_s rfl) (a_1 rfl (b_f hcf.bor) a_n)) c_n EntC.h (Z7r s fi fc f hef hcf hsf h2) rfl rfl rfl rfl ?_))
 refine yG ?_
 intro _ hm
 cases hm
 exact rZ1
noncomputable def Z2w (w : Int) : Bool :=
 ((!((X0 w))))
theorem Y6z (w : Int) : Sim Tryz.prog 158 [.one (.int .i64 w)] [] (.u (.one (.bool ((Z2w w))))) [] := by
 generalize hm : Z2w w = r
 refine fN 6 0 Tryz.func158 [.tmp 2] fun B hB0 => ?_
 unfold Z2w at hm
 refine yG ?_
 intro _ hm
 refine nO (Z6 (cB (Z1y w) ?_))
 refine yG ?_
 intro _ hm
 cases hm
 exact rZ1
noncomputable def Z1e (f : GFunc) : Option Int :=
 (Option.bind (Y6 (fun (st3 : Int × Int) =>
 ((if decide (st3.1 < ((List.length f.blocks : Int))) = true then
 (if 0 ≤ st3.1 ∧ st3.1 < (List.length f.blocks : Int) then
 (if inI (st3.2 + (((List.length ((at_ f.blocks st3.1).phis) : Int)) + ((List.length ((at_ f.blocks st3.1).insts) : Int)))) then
 (if inI (st3.1 + 1) then
 (some (Sum.inl ((st3.1 + 1, st3.2 + (((List.length ((at_ f.blocks st3.1).phis) : Int)) + ((List.length ((at_ f.blocks st3.1).insts) : Int)))))))
 else none)
 else none)
 else none)
 else
 (some (Sum.inr st3.2))) : Option ((Int × Int) ⊕ (Int)))) (0, (List.length f.params : Int))) fun (j4 : Int) =>
 (some j4))
theorem Z6n {f : GFunc} {r : Int} (hm : Z1e f = some r) : Sim Tryz.prog 67 [.agg (Z9 false f)] [] (.u (.one (.int .i64 r))) [] := by
 refine fN 27 0 Tryz.func67 [.tmp 2] fun B hB0 => ?_
 unfold Z1e at hm
 refine yG ?_
 intro k1 hm
 obtain ⟨j4, hl12, hm⟩ := Z0 hm
 refine lP hl12 (fun st3 => St 27 [(3, vI st3.2), (10, .u (.one (.bs () 6 (List.map (W2 false) f.blocks)))), (11, vI ((List.length f.blocks : Int))), (12, vI st3.1)] [] 0) (fun j4 => (.exit 0, St 27 [(3, vI j4)] [] 0)) (vW []) ?_ ?_
 intro st3 x hm
 refine yG ?_
 intro _ hm
 refine bS hm (fun hb5 hm => ?_) fun hb5 hm => ?_
 refine yG ?_
 intro k2 hm
 refine nO (K8 T53 rfl (U6 rfl rfl) rfl ?_)
 refine yG ?_
 intro k3 hm
 cases hm
 exact ⟨rfl, vW []⟩
 refine V2 ?_
 cases hm
 exact ⟨rfl, vW []⟩
 refine yG ?_
 intro _ hm
 cases hm
 exact rZ1
noncomputable def Z2v (id : Int) (a : Int) : Option Bool :=
 (if inI (a - 1) then
 (some ((!((Z3 id 0 (a - 1))))))
 else none)
theorem Y4h {id : Int} {a : Int} {r : Bool} (hm : Z2v id a = some r) : Sim Tryz.prog 161 [.one (.int .i64 id), .one (.ip () (iL a))] [] (.u (.one (.bool r))) [] := by
 refine fN 9 0 Tryz.func161 [.tmp 3] fun B hB0 => ?_
 unfold Z2v at hm
 refine yG ?_
 intro k1 hm
 refine nO (Z6 (cB (W8 id 0 (a - 1)) ?_))
 refine yG ?_
 intro _ hm
 cases hm
 exact rZ1
noncomputable def Z1n (p : GPhi) (a : Int) : Option Bool :=
 (Option.bind ((if (!((X0 p.w))) = true then
 (some true)
 else
 (if decide (((List.length p.ins : Int)) > 10) = true then
 (some true)
 else
 (Option.bind (Z8 p.ins ((fun z0 => Z2v z0 a))) fun x5 =>
 (some x5))))) fun (j1 : Bool) =>
 (some j1))
theorem Y6y {p : GPhi} {a : Int} {r : Bool} (hm : Z1n p a = some r) : Sim Tryz.prog 160 [.agg (ePhi false p), .one (.ip () (iL a))] [] (.u (.one (.bool r))) [] := by
 refine fN 20 0 Tryz.func160 [.tmp 3] fun B hB0 => ?_
 unfold Z1n at hm
 refine Wp.seq ?_
 refine X4 ?_
 refine yR ?_
 intro _ hm
 refine W5 ?_
 refine Wp.seq ?_
 obtain ⟨j1, hj7, hm⟩ := Z0 hm
 refine V6 (St 20 [(3, vB j1)] [] 0) ?_ ?_
 replace hm := hj7
 refine yG ?_
 intro _ hm
 refine nO (Z6 (cB (Z1y p.w) ?_))
 refine yG ?_
 intro _ hm
 refine bG0 hm (fun hb2 hm => ?_) fun hb2 hm => ?_
 refine yG ?_
 intro k1 hm
 refine bG0 hm (fun hb4 hm => ?_) fun hb4 hm => ?_
 refine yG ?_
 intro _ hm
 refine gO_t rfl rfl rfl (x_mf (ls := [.ip () (iL a)]) rfl ?_)
 obtain ⟨x5, h6, hm⟩ := Z0 hm
 refine gO_t rfl rfl rfl (Z6 (Z0e (v := .u (.one (.bool x5))) (nobs := []) (oa' := _) (nx' := 1) rfl (a_1 rfl (b_s rfl) (a_1 rfl (b_f (c_c b_ip c_n)) a_n)) c_n EntC.h (X6 p.ins 161 [.ip () (iL a)] (fun z0 => Z2v z0 a) EntC.h rfl (fun z0 y hy => Y4h hy) h6) rfl rfl rfl rfl ?_))
 refine yG ?_
 intro _ hm
 cases hm
 exact vW []
 refine yG ?_
 intro _ hm
 cases hm
 exact vW []
 refine yG ?_
 intro _ hm
 cases hm
 exact vW []
 refine Z1s ?_
 cases hm
 exact rZ1
end
section
set_option maxHeartbeats 8000000
set_option maxRecDepth 100000
attribute [local irreducible] aopK K0 Wp St WpO
noncomputable def U5 (s : List GPhi) (f : GPhi → Option Bool) : Option Int :=
 (Option.bind (Y6 (fun (st2 : Int) =>
 ((if decide (st2 < ((List.length s : Int))) = true then
 (if 0 ≤ st2 ∧ st2 < (List.length s : Int) then
 (Option.bind (f (at_ s st2)) fun x7 =>
 (if x7 = true then
 (some (Sum.inr ((Sum.inl st2))))
 else
 (if inI (st2 + 1) then
 (some (Sum.inl (st2 + 1)))
 else none)))
 else none)
 else
 (some (Sum.inr ((Sum.inr (())))))) : Option ((Int) ⊕ (Int ⊕ Unit)))) 0) fun (y11 : Int ⊕ Unit) => match y11 with
 | (Sum.inl j3) =>
 (some j3)
 | (Sum.inr j4) =>
 (some ((-1))))
theorem Z5b (s : List GPhi) (fi : FuncId) (fc : List (L Unit)) (f : GPhi → Option Bool) (hef : Ent Tryz.prog fi) (hcf : CapOk fc) (hsf : ∀ z0 y, f z0 = some y → Sim Tryz.prog fi ([.agg (ePhi false z0)] ++ List.map .one fc) [] (.u (.one (.bool y))) []) {r : Int} (hm : U5 s f = some r) : Sim Tryz.prog 220 [.one (.bs () 2 (List.map (ePhi false) s)), .one (.fn () fi fc)] [] (.u (.one (.int .i64 r))) [] := by
 refine Y2e (N := 19) (k0 := 0) Tryz.func220 rfl rfl rfl rfl (rs := [.tmp 4]) rfl (by simp [Z1, idsL, List.all_cons, hcf.ids]) rfl fun B hB0 => ?_
 unfold U5 at hm
 refine yG ?_
 intro k1 hm
 obtain ⟨y11, hl12, hm⟩ := Z0 hm
 refine J6 hl12 (fun (st2 : Int) => St 19 [(0, .u (.one (.bs () 2 (List.map (ePhi false) s)))), (1, .u (.one (.fn () fi fc))), (7, vI ((List.length s : Int))), (8, vI st2)] [] 0) (fun (y : Int ⊕ Unit) => match y with | (Sum.inl j3) => (.ret, St 19 [(4, vI j3)] [] 0) | (Sum.inr j4) => (.exit 0, St 19 [] [] 0)) (w_ [] (.cons rfl rfl (.cons (by rw [Y0u hcf]; rfl) (Z6g hcf _ _) (.cons rfl rfl (.cons rfl rfl .nil)))) .nil (by decide) (hB_0 hB0)) ?_ (by rintro (_ | _) <;> simp) ?_
 intro st2 x hm
 refine yG ?_
 intro _ hm
 refine bS hm (fun hb5 hm => ?_) fun hb5 hm => ?_
 refine yG ?_
 intro k2 hm
 refine nO (K8 T55 rfl (U6 rfl rfl) rfl ?_)
 obtain ⟨x7, h8, hm⟩ := Z0 hm
 refine nO (Z6 (Z0e (v := .u (.one (.bool x7))) (nobs := []) (oa' := _) (nx' := 0) rfl (a_a rfl (Z8z rfl) a_n) hcf.bor hef (hsf (at_ s st2) x7 h8) rfl rfl rfl rfl ?_))
 refine W5 ?_
 refine bS hm (fun hb9 hm => ?_) fun hb9 hm => ?_
 refine yG ?_
 intro _ hm
 cases hm
 exact ⟨rfl, vW []⟩
 refine yG ?_
 intro k3 hm
 cases hm
 exact ⟨rfl, w_ [] (.cons rfl rfl (.cons (by rw [Y0u hcf]; rfl) (Z6g hcf _ _) (.cons rfl rfl (.cons rfl rfl .nil)))) .nil (by decide) (hB_0 hB0)⟩
 refine V2 ?_
 cases hm
 exact ⟨rfl, vW []⟩
 rcases y11 with j3 | j4 <;> simp only at hm
 cases hm
 exact rZ1
 refine yG ?_
 intro _ hm
 cases hm
 exact rZ1
noncomputable def Y9 (s : List GPhi) (f : GPhi → Option Bool) : Option Bool :=
 (Option.bind (U5 s f) fun x1 =>
 (some (decide (x1 ≥ 0))))
theorem Z0g (s : List GPhi) (fi : FuncId) (fc : List (L Unit)) (f : GPhi → Option Bool) (hef : Ent Tryz.prog fi) (hcf : CapOk fc) (hsf : ∀ z0 y, f z0 = some y → Sim Tryz.prog fi ([.agg (ePhi false z0)] ++ List.map .one fc) [] (.u (.one (.bool y))) []) {r : Bool} (hm : Y9 s f = some r) : Sim Tryz.prog 159 [.one (.bs () 2 (List.map (ePhi false) s)), .one (.fn () fi fc)] [] (.u (.one (.bool r))) [] := by
 refine Y2e (N := 9) (k0 := 0) Tryz.func159 rfl rfl rfl rfl (rs := [.tmp 4]) rfl (by simp [Z1, idsL, List.all_cons, hcf.ids]) rfl fun B hB0 => ?_
 unfold Y9 at hm
 refine yG ?_
 intro _ hm
 obtain ⟨x1, h2, hm⟩ := Z0 hm
 refine nO (Z6 (Z0e (v := .u (.one (.int .i64 x1))) (nobs := []) (oa' := _) (nx' := 0) rfl (a_1 rfl (b_s rfl) (a_1 rfl (b_f hcf.bor) a_n)) c_n EntC.h (Z5b s fi fc f hef hcf hsf h2) rfl rfl rfl rfl ?_))
 refine yG ?_
 intro _ hm
 cases hm
 exact rZ1
noncomputable def U3 (op_ : Int) : Bool :=
 ((Z3 op_ 1 17))
theorem Z5h (op_ : Int) : Sim Tryz.prog 124 [.one (.int .i64 op_)] [] (.u (.one (.bool ((U3 op_))))) [] := by
 generalize hm : U3 op_ = r
 refine fN 5 0 Tryz.func124 [.tmp 2] fun B hB0 => ?_
 unfold U3 at hm
 refine yG ?_
 intro _ hm
 refine nO (Z6 (cB (W8 op_ 1 17) ?_))
 refine yG ?_
 intro _ hm
 cases hm
 exact rZ1
noncomputable def Z5g (op_ : Int) : Bool :=
 ((Z3 op_ 18 20))
theorem X0h (op_ : Int) : Sim Tryz.prog 126 [.one (.int .i64 op_)] [] (.u (.one (.bool ((Z5g op_))))) [] := by
 generalize hm : Z5g op_ = r
 refine fN 5 0 Tryz.func126 [.tmp 2] fun B hB0 => ?_
 unfold Z5g at hm
 refine yG ?_
 intro _ hm
 refine nO (Z6 (cB (W8 op_ 18 20) ?_))
 refine yG ?_
 intro _ hm
 cases hm
 exact rZ1
noncomputable def Z0d (s : List Int) : Option (List Int) :=
 (if (List.length ([] : List Int) + List.length s) * 8 ≤ 140737488355328 ∧ List.length ([] : List Int) + List.length s ≤ LIM then (some (([] : List Int) ++ s)) else none)
theorem Z9e {s : List Int} {r : List Int} (hm : Z0d s = some r) : Sim Tryz.prog 123 [.one (.bs () 1 (List.map iL s))] [] (.u (.one (.os () 1 (List.map iL r)))) [] := by
 refine Y2e (N := 8) (k0 := 0) Tryz.func123 rfl rfl rfl rfl (rs := [.tmp 2]) rfl rfl rfl fun B hB0 => ?_
 unfold Z0d at hm
 obtain ⟨h1, hm⟩ := Y1 hm
 have hr := Option.some.inj hm
 refine Wp.seq ?_
 refine c_reg (Y := sysA _) ?_
 refine n_ (x_as rfl rfl ?_)
 refine z_ ?_
 refine Wp.seq ?_
 refine Wp.seq ?_
 refine X4 ?_
 refine X6y (Y := sysA _) 1 ?_
 refine n_ (x_mv rfl rfl ?_)
 refine z_ ?_
 refine o_nlq (e := 2) (by kernel_rfl) rfl rfl (fun hq => ?_) ?_
 ·refine W5 ?_
  refine c_t rfl rfl ?_
  refine Wp.seq ?_
  refine c_reg (Y := sysA _) ?_
  refine n_ (x_as rfl rfl ?_)
  refine z_ ?_
  refine Z1s ?_
  have hs : s = [] := List.map_eq_nil_iff.1 hq
  subst hs
  rw [← hr]
  exact ret0 (us' := [.one (.os () 1 (List.map iL (([] : List Int) ++ [])))]) rfl (Y9s rfl rfl rfl Y9t) ((f_nl 0 0 1 true rfl rfl rfl).trans X0r) rfl rfl
 ·refine W5 ?_
  refine c_f rfl rfl ?_
  refine K3 ?_
  refine Wp.seq ?_
  refine c_reg (Y := sysA _) ?_
  refine n_ (Y4q (enc := iL) (([] : List Int)) A24 rfl rfl rfl rfl ?_)
  refine n_ (x_mv rfl rfl ?_)
  refine n_ (W5b (enc := iL) (xs := ([] : List Int)) (ys := s) A24 N24 (X2j _) rfl rfl rfl (W0a _) h1 ?_)
  refine n_ (x_as rfl rfl ?_)
  refine z_ ?_
  refine Z1s ?_
  rw [← hr]
  exact ret0 (us' := [.one (.os () 1 (List.map iL (([] : List Int) ++ s)))]) rfl (Y9s rfl rfl rfl Y9t) ((Z3b 0 0 rfl rfl rfl rfl).trans X0r) rfl rfl
noncomputable def Z1i (i : GInst) : Option (List Int) :=
 (if ((U3 i.op_) || (i.op_ == 24)) = true then
 (some ([i.a, i.b]))
 else
 (if ((Z5g i.op_) || ((i.op_ == 23) || ((i.op_ == 25) || (i.op_ == 27)))) = true then
 (some ([i.a]))
 else
 (if (i.op_ == 22) = true then
 (some ([i.a, i.b, i.c]))
 else
 (if (i.op_ == 26) = true then
 (Option.bind (Z0d i.args) fun x11 =>
 (some x11))
 else
 (some ([]))))))
theorem Z9z {i : GInst} {r : List Int} (hm : Z1i i = some r) : Sim Tryz.prog 117 [.agg (Q3 false i)] [] (.u (.one (.os () 1 (List.map iL r)))) [] := by
 refine fN 57 0 Tryz.func117 [.tmp 2] fun B hB0 => ?_
 unfold Z1i at hm
 refine Wp.seq ?_
 refine X4 ?_
 refine yR ?_
 intro _ hm
 refine W5 ?_
 refine Wp.seq ?_
 refine Wp.block ?_
 refine Wp.seq ?_
 refine V6 (St 57 [(1, vP 0), (3, vB (((U3 i.op_) || (i.op_ == 24))))] [(0, oL 7 (Q3 false i))] 1) ?_ ?_
 refine yG ?_
 intro _ hm
 refine nO (Z6 (cB (Z5h i.op_) ?_))
 refine yG ?_
 intro _ hm
 refine gO_s rfl rfl rfl (fun hb2 => ?_) (fun hb2 => ?_)
 refine yG ?_
 intro _ hm
 exact w_ [0] (.cons rfl rfl (.cons (by simp only [hb2, BO]; rfl) rfl .nil)) (.lit rfl rfl .nil) (by decide) (hB_0 hB0)
 refine yG ?_
 intro _ hm
 exact w_ [0] (.cons rfl rfl (.cons (by simp only [hb2, BO]; rfl) rfl .nil)) (.lit rfl rfl .nil) (by decide) (hB_0 hB0)
 refine bS hm (fun hb3 hm => ?_) fun hb3 hm => ?_
 refine yG ?_
 intro _ hm
 refine nO (kM (iL) ([i.a, i.b]) ?_)
 refine yG ?_
 intro _ hm
 cases hm
 exact rZ1h (hg := Z3b 0 0 rfl rfl rfl rfl)
 refine Wp.seq ?_
 refine V6 (St 57 [(1, vP 0), (17, vB (((Z5g i.op_) || ((i.op_ == 23) || ((i.op_ == 25) || (i.op_ == 27))))))] [(0, oL 7 (Q3 false i))] 1) ?_ ?_
 refine yG ?_
 intro _ hm
 refine nO (Z6 (cB (X0h i.op_) ?_))
 refine yG ?_
 intro _ hm
 refine gO_s rfl rfl rfl (fun hb5 => ?_) (fun hb5 => ?_)
 refine yG ?_
 intro _ hm
 refine gO_s rfl rfl rfl (fun hb6 => ?_) (fun hb6 => ?_)
 refine yG ?_
 intro _ hm
 refine gO_s rfl rfl rfl (fun hb7 => ?_) (fun hb7 => ?_)
 refine yG ?_
 intro _ hm
 exact w_ [0] (.cons rfl rfl (.cons (by simp only [hb5, hb6, hb7, BO]; rfl) rfl .nil)) (.lit rfl rfl .nil) (by decide) (hB_0 hB0)
 refine yG ?_
 intro _ hm
 exact w_ [0] (.cons rfl rfl (.cons (by simp only [hb5, hb6, hb7, BO]; rfl) rfl .nil)) (.lit rfl rfl .nil) (by decide) (hB_0 hB0)
 refine yG ?_
 intro _ hm
 exact w_ [0] (.cons rfl rfl (.cons (by simp only [hb5, hb6, BO]; rfl) rfl .nil)) (.lit rfl rfl .nil) (by decide) (hB_0 hB0)
 refine yG ?_
 intro _ hm
 exact w_ [0] (.cons rfl rfl (.cons (by simp only [hb5, BO]; rfl) rfl .nil)) (.lit rfl rfl .nil) (by decide) (hB_0 hB0)
 refine bS hm (fun hb8 hm => ?_) fun hb8 hm => ?_
 refine yG ?_
 intro _ hm
 refine nO (kM (iL) ([i.a]) ?_)
 refine yG ?_
 intro _ hm
 cases hm
 exact rZ1h (hg := Z3b 0 0 rfl rfl rfl rfl)
 refine yG ?_
 intro _ hm
 refine bS hm (fun hb9 hm => ?_) fun hb9 hm => ?_
 refine yG ?_
 intro _ hm
 refine nO (kM (iL) ([i.a, i.b, i.c]) ?_)
 refine yG ?_
 intro _ hm
 cases hm
 exact rZ1h (hg := Z3b 0 0 rfl rfl rfl rfl)
 refine yG ?_
 intro _ hm
 refine bS hm (fun hb10 hm => ?_) fun hb10 hm => ?_
 refine yG ?_
 intro _ hm
 obtain ⟨x11, h12, hm⟩ := Z0 hm
 refine nO (Z6 (cB (Z9e h12) ?_))
 refine yG ?_
 intro _ hm
 cases hm
 exact rZ1h (hg := Z3b 0 0 rfl rfl rfl rfl)
 refine yG ?_
 intro _ hm
 cases hm
 exact rZ1h (hg := f_nl 0 0 1 true rfl rfl rfl)
noncomputable def Z4t (id : Int) (a : Int) : Option Bool :=
 (if inI (a - 1) then
 (some ((!((Z3 id 0 (a - 1))))))
 else none)
theorem Y6w {id : Int} {a : Int} {r : Bool} (hm : Z4t id a = some r) : Sim Tryz.prog 119 [.one (.int .i64 id), .one (.ip () (iL a))] [] (.u (.one (.bool r))) [] := by
 refine fN 9 0 Tryz.func119 [.tmp 3] fun B hB0 => ?_
 unfold Z4t at hm
 refine yG ?_
 intro k1 hm
 refine nO (Z6 (cB (W8 id 0 (a - 1)) ?_))
 refine yG ?_
 intro _ hm
 cases hm
 exact rZ1
noncomputable def Z2t (n : Int) : Bool :=
 ((n != 0))
theorem Y6v (n : Int) : Sim Tryz.prog 120 [.one (.int .i64 n)] [] (.u (.one (.bool ((Z2t n))))) [] := by
 generalize hm : Z2t n = r
 refine fN 5 0 Tryz.func120 [.tmp 2] fun B hB0 => ?_
 unfold Z2t at hm
 refine yG ?_
 intro _ hm
 cases hm
 exact rZ1
noncomputable def Z4d (i : GInst) : Bool :=
 (if ((i.op_ == 24) || (i.op_ == 25)) = true then
 ((i.w == 0))
 else
 (if (i.op_ == 23) = true then
 ((i.w == 8))
 else
 ((X0 i.w))))
theorem Y7x (i : GInst) : Sim Tryz.prog 121 [.agg (Q3 false i)] [] (.u (.one (.bool ((Z4d i))))) [] := by
 generalize hm : Z4d i = r
 refine fN 19 0 Tryz.func121 [.tmp 2] fun B hB0 => ?_
 unfold Z4d at hm
 refine Wp.seq ?_
 refine X4 ?_
 refine yR ?_
 intro _ hm
 refine W5 ?_
 refine Wp.seq ?_
 refine Wp.seq ?_
 refine X4 ?_
 refine yR ?_
 intro _ hm
 refine W5 ?_
 refine Wp.block ?_
 refine Wp.seq ?_
 refine V6 (St 19 [(1, vP 0), (4, vI i.op_), (5, vB (((i.op_ == 24) || (i.op_ == 25))))] [(0, oL 7 (Q3 false i))] 1) ?_ ?_
 refine yG ?_
 intro _ hm
 refine c_s rfl rfl (fun hb2 => ?_) (fun hb2 => ?_)
 refine K3 ?_
 exact w_ [0] (.cons rfl rfl (.cons rfl rfl (.cons (by simp only [hb2, BO]; rfl) rfl .nil))) (.lit rfl rfl .nil) (by decide) (hB_0 hB0)
 refine yG ?_
 intro _ hm
 exact w_ [0] (.cons rfl rfl (.cons rfl rfl (.cons (by simp only [hb2, BO]; rfl) rfl .nil))) (.lit rfl rfl .nil) (by decide) (hB_0 hB0)
 refine bS hm (fun hb3 hm => ?_) fun hb3 hm => ?_
 refine yG ?_
 intro _ hm
 cases hm
 exact rZ1
 refine yG ?_
 intro _ hm
 refine bS hm (fun hb4 hm => ?_) fun hb4 hm => ?_
 refine yG ?_
 intro _ hm
 cases hm
 exact rZ1
 refine yG ?_
 intro _ hm
 refine nO (Z6 (cB (Z1y i.w) ?_))
 refine yG ?_
 intro _ hm
 cases hm
 exact rZ1
noncomputable def Y1r (w : Int) : Option Int :=
 (if 0 ≤ w then
 (if inI ((IntKind.i64.wrap (1 * 2 ^ min (Int.toNat w) (IntKind.bits .i64))) - 1) then
 (some ((IntKind.i64.wrap (1 * 2 ^ min (Int.toNat w) (IntKind.bits .i64))) - 1))
 else none)
 else none)
theorem X3w {w : Int} {r : Int} (hm : Y1r w = some r) : Sim Tryz.prog 203 [.one (.int .i64 w)] [] (.u (.one (.int .i64 r))) [] := by
 refine fN 6 0 Tryz.func203 [.tmp 2] fun B hB0 => ?_
 unfold Y1r at hm
 refine yG ?_
 intro k1 hm
 cases hm
 exact rZ1
noncomputable def Z5z (w : Int) (v : Int) : Option Bool :=
 (Option.bind ((if (X0 w) = true then
 (Option.bind (Y1r w) fun x3 =>
 (some ((Z3 v 0 x3))))
 else
 (some false))) fun (j1 : Bool) =>
 (some j1))
theorem Y7y {w : Int} {v : Int} {r : Bool} (hm : Z5z w v = some r) : Sim Tryz.prog 130 [.one (.int .i64 w), .one (.int .i64 v)] [] (.u (.one (.bool r))) [] := by
 refine fN 13 0 Tryz.func130 [.tmp 4] fun B hB0 => ?_
 unfold Z5z at hm
 refine Wp.seq ?_
 refine X4 ?_
 refine nO (x_as rfl rfl ?_)
 refine W5 ?_
 refine Wp.seq ?_
 obtain ⟨j1, hj5, hm⟩ := Z0 hm
 refine V6 (St 13 [(4, vB j1)] [] 0) ?_ ?_
 replace hm := hj5
 refine yG ?_
 intro _ hm
 refine nO (Z6 (cB (Z1y w) ?_))
 refine yG ?_
 intro _ hm
 refine bG1 hm (fun hb2 hm => ?_) fun hb2 hm => ?_
 refine yG ?_
 intro _ hm
 obtain ⟨x3, h4, hm⟩ := Z0 hm
 refine gO_t rfl rfl rfl (Z6 (cB (X3w h4) ?_))
 refine gO_t rfl rfl rfl (Z6 (cB (W8 v 0 x3) ?_))
 refine yG ?_
 intro _ hm
 cases hm
 exact vW []
 refine yG ?_
 intro _ hm
 cases hm
 exact vW []
 refine Z1s ?_
 cases hm
 exact rZ1
noncomputable def Z8m (i : GInst) (funcs : Int) : Option Bool :=
 (if (i.op_ == 21) = true then
 (Option.bind (Z5z i.w i.imm) fun x2 =>
 (some x2))
 else
 (if (i.op_ == 26) = true then
 (if inI (funcs - 1) then
 (some ((Z3 i.imm 0 (funcs - 1))))
 else none)
 else
 (some ((i.imm == 0)))))
theorem X1k {i : GInst} {funcs : Int} {r : Bool} (hm : Z8m i funcs = some r) : Sim Tryz.prog 122 [.agg (Q3 false i), .one (.int .i64 funcs)] [] (.u (.one (.bool r))) [] := by
 refine fN 24 0 Tryz.func122 [.tmp 4] fun B hB0 => ?_
 unfold Z8m at hm
 refine yG ?_
 intro _ hm
 refine bS hm (fun hb1 hm => ?_) fun hb1 hm => ?_
 refine yG ?_
 intro _ hm
 obtain ⟨x2, h3, hm⟩ := Z0 hm
 refine nO (Z6 (cB (Y7y h3) ?_))
 refine yG ?_
 intro _ hm
 cases hm
 exact rZ1
 refine yG ?_
 intro _ hm
 refine bS hm (fun hb4 hm => ?_) fun hb4 hm => ?_
 refine yG ?_
 intro k1 hm
 refine nO (Z6 (cB (W8 i.imm 0 (funcs - 1)) ?_))
 refine yG ?_
 intro _ hm
 cases hm
 exact rZ1
 refine yG ?_
 intro _ hm
 cases hm
 exact rZ1
noncomputable def Q6 (i : GInst) (ids : Int) (funcs : Int) : Option Bool :=
 (if (if (!((Z3 i.op_ 1 27))) = true then true else (decide (((List.length i.args : Int)) > 4) || (decide (((List.length i.args : Int)) > 0) && (i.op_ != 26)))) = true then
 (some false)
 else
 (Option.bind (Z1i i) fun x8 =>
 (Option.bind (Z8 x8 ((fun z0 => Z4t z0 ids))) fun x10 =>
 (if x10 = true then
 (some false)
 else
 (Option.bind ((if (i.op_ == 26) = true then
 (some (([] : List Int)))
 else
 (some x8))) fun (j13 : (List Int)) =>
 (if 0 ≤ ((List.length j13 : Int)) ∧ (Int.toNat ((List.length j13 : Int))) ≤ (List.length ([i.a, i.b, i.c])) ∧ (List.length ([i.a, i.b, i.c])) ≤ List.length ([i.a, i.b, i.c]) then
 (Option.bind (Z8 (List.drop (Int.toNat ((List.length j13 : Int))) ([i.a, i.b, i.c])) ((fun z0 => some (Z2t z0)))) fun x18 =>
 (if x18 = true then
 (some false)
 else
 (Option.bind ((if (Z4d i) = true then
 (Option.bind (Z8m i funcs) fun x23 =>
 (some x23))
 else
 (some false))) fun (j21 : Bool) =>
 (some j21))))
 else none))))))
theorem X0f {i : GInst} {ids : Int} {funcs : Int} {r : Bool} (hm : Q6 i ids funcs = some r) : Sim Tryz.prog 66 [.agg (Q3 false i), .one (.int .i64 ids), .one (.int .i64 funcs)] [] (.u (.one (.bool r))) [] := by
 refine fN 57 0 Tryz.func66 [.tmp 6] fun B hB0 => ?_
 unfold Q6 at hm
 refine Wp.seq ?_
 refine X4 ?_
 refine yR ?_
 intro _ hm
 refine W5 ?_
 refine Wp.seq ?_
 refine Wp.seq ?_
 refine V6 (St 57 [(2, vI funcs), (3, vP 0), (4, vP 1), (29, vB ((if (!((Z3 i.op_ 1 27))) = true then true else (decide (((List.length i.args : Int)) > 4) || (decide (((List.length i.args : Int)) > 0) && (i.op_ != 26))))))] [(0, oL 7 (Q3 false i)), (1, oL 1 [.int .i64 ids])] 2) ?_ ?_
 refine yG ?_
 intro _ hm
 refine nO (Z6 (cB (W8 i.op_ 1 27) ?_))
 refine yG ?_
 intro _ hm
 refine gO_s rfl rfl rfl (fun hb2 => ?_) (fun hb2 => ?_)
 refine yG ?_
 intro k1 hm
 refine gO_s rfl rfl rfl (fun hb4 => ?_) (fun hb4 => ?_)
 refine yG ?_
 intro k2 hm
 refine gO_s rfl rfl rfl (fun hb6 => ?_) (fun hb6 => ?_)
 refine yG ?_
 intro _ hm
 exact w_ [0, 1] (.cons rfl rfl (.cons rfl rfl (.cons rfl rfl (.cons (by simp only [hb2, hb4, hb6, BO]; rfl) rfl .nil)))) (.lit rfl rfl (.lit rfl rfl .nil)) (by decide) (hB_0 hB0)
 refine yG ?_
 intro _ hm
 exact w_ [0, 1] (.cons rfl rfl (.cons rfl rfl (.cons rfl rfl (.cons (by simp only [hb2, hb4, hb6, BO]; rfl) rfl .nil)))) (.lit rfl rfl (.lit rfl rfl .nil)) (by decide) (hB_0 hB0)
 refine yG ?_
 intro _ hm
 exact w_ [0, 1] (.cons rfl rfl (.cons rfl rfl (.cons rfl rfl (.cons (by simp only [hb2, hb4, BO]; rfl) rfl .nil)))) (.lit rfl rfl (.lit rfl rfl .nil)) (by decide) (hB_0 hB0)
 refine yG ?_
 intro _ hm
 exact w_ [0, 1] (.cons rfl rfl (.cons rfl rfl (.cons rfl rfl (.cons (by simp only [hb2, BO]; rfl) rfl .nil)))) (.lit rfl rfl (.lit rfl rfl .nil)) (by decide) (hB_0 hB0)
 refine bS hm (fun hb7 hm => ?_) fun hb7 hm => ?_
 refine yG ?_
 intro _ hm
 cases hm
 exact rZ1
 refine yG ?_
 intro _ hm
 refine nO (kW ?_)
 obtain ⟨x8, h9, hm⟩ := Z0 hm
 refine nO (Z6 (cB (Z9z h9) ?_))
 refine yG ?_
 intro _ hm
 refine nO (x_mf (ls := [.ptr () 1 0 0]) rfl ?_)
 obtain ⟨x10, h11, hm⟩ := Z0 hm
 refine nO (Z6 (Z0e (v := .u (.one (.bool x10))) (nobs := []) (oa' := _) (nx' := 3) rfl (a_1 rfl (b_r rfl) (a_1 rfl (b_f (c_c (b_p (cs := [.int .i64 ids]) rfl (c_c (b_s rfl) c_n) rfl) c_n)) a_n)) c_n EntC.h (X6 x8 119 [.ip () [.int .i64 ids]] (fun z0 => Z4t z0 ids) EntC.h rfl (fun z0 y hy => Y6w hy) h11) rfl rfl rfl rfl ?_))
 refine W5 ?_
 refine bS hm (fun hb12 hm => ?_) fun hb12 hm => ?_
 refine yG ?_
 intro _ hm
 cases hm
 exact rZ1
 refine K3 ?_
 refine Wp.seq ?_
 obtain ⟨j13, hj15, hm⟩ := Z0 hm
 refine V6 (St 57 [(2, vI funcs), (3, vP 0), (7, vR 1 (List.length j13))] [(0, oL 7 (Q3 false i)), (1, oM 1 iL j13)] 2) ?_ ?_
 replace hm := hj15
 refine yG ?_
 intro _ hm
 refine bS hm (fun hb14 hm => ?_) fun hb14 hm => ?_
 refine yG ?_
 intro _ hm
 cases hm
 exact (GhB.trans (f_nls (u' := .one (.ref () 3 0 0)) 7 0 1 rfl rfl rfl rfl) (vW [0, 3]))
 refine K3 ?_
 cases hm
 exact vW [0, 2]
 refine yG ?_
 intro _ hm
 refine nO (kM (iL) ([i.a, i.b, i.c]) ?_)
 refine yG ?_
 intro k3 hm
 obtain ⟨h17, hm⟩ := Y1 hm
 refine nO (W4y (l := (Int.toNat ((List.length j13 : Int)))) (h := (List.length ([i.a, i.b, i.c]))) rfl E24 rfl rfl (bd_s rfl h17.1) bd_n h17.2 ?_)
 refine WpO.ghb (W4c 48 ([i.a, i.b, i.c]) (List.drop (Int.toNat ((List.length j13 : Int))) ([i.a, i.b, i.c])) rfl rfl rfl (by simp only [List.length_take, List.length_drop] <;> omega) (by first | rfl | (simp only [Nat.zero_add]; done) | (simp only [Nat.zero_add]; exact List.take_of_length_le (by first | (simp only [List.length_drop] <;> omega) | (simp <;> omega))) | exact List.take_of_length_le (by simp only [List.length_drop, Nat.zero_add] <;> omega))) ?_
 obtain ⟨x18, h19, hm⟩ := Z0 hm
 refine nO (Z6 (Z0e (v := .u (.one (.bool x18))) (nobs := []) (oa' := _) (nx' := 4) rfl (a_1 rfl (b_r rfl) (a_1 rfl (b_f c_n) a_n)) c_n EntC.h (X6 (List.drop (Int.toNat ((List.length j13 : Int))) ([i.a, i.b, i.c])) 120 [] (fun z0 => some (Z2t z0)) EntC.h rfl (fun z0 y hy => by cases hy; exact Y6v z0) h19) rfl rfl rfl rfl ?_))
 refine W5 ?_
 refine bS hm (fun hb20 hm => ?_) fun hb20 hm => ?_
 refine yG ?_
 intro _ hm
 cases hm
 exact rZ1
 refine K3 ?_
 refine Wp.seq ?_
 obtain ⟨j21, hj25, hm⟩ := Z0 hm
 refine V6 (St 57 [(6, vB j21)] [] 0) ?_ ?_
 replace hm := hj25
 refine X4 ?_
 refine nO (kW ?_)
 refine nO (Z6 (cB (Y7x i) ?_))
 refine yG ?_
 intro _ hm
 refine bG1 hm (fun hb22 hm => ?_) fun hb22 hm => ?_
 refine gO_t rfl rfl rfl (kW ?_)
 refine yG ?_
 intro _ hm
 obtain ⟨x23, h24, hm⟩ := Z0 hm
 refine gO_t rfl rfl rfl (Z6 (cB (X1k h24) ?_))
 refine yG ?_
 intro _ hm
 cases hm
 exact vW []
 refine yG ?_
 intro _ hm
 cases hm
 exact vW []
 refine Z1s ?_
 cases hm
 exact rZ1
noncomputable def Z2u (i : GInst) (a : Int) (aq : Int) : Option Bool :=
 (Option.bind (Q6 i a aq) fun x1 =>
 (some ((!x1))))
theorem Y6x {i : GInst} {a : Int} {aq : Int} {r : Bool} (hm : Z2u i a aq = some r) : Sim Tryz.prog 162 [.agg (Q3 false i), .one (.ip () (iL a)), .one (.ip () (iL aq))] [] (.u (.one (.bool r))) [] := by
 refine fN 10 0 Tryz.func162 [.tmp 4] fun B hB0 => ?_
 unfold Z2u at hm
 refine yG ?_
 intro _ hm
 refine nO (kW ?_)
 refine yG ?_
 intro _ hm
 obtain ⟨x1, h2, hm⟩ := Z0 hm
 refine nO (Z6 (cB (X0f h2) ?_))
 refine yG ?_
 intro _ hm
 cases hm
 exact rZ1
end
section
set_option maxHeartbeats 8000000
set_option maxRecDepth 100000
attribute [local irreducible] aopK K0 Wp St WpO
noncomputable def V9 (s : List GInst) (f : GInst → Option Bool) : Option Int :=
 (Option.bind (Y6 (fun (st2 : Int) =>
 ((if decide (st2 < ((List.length s : Int))) = true then
 (if 0 ≤ st2 ∧ st2 < (List.length s : Int) then
 (Option.bind (f (at_ s st2)) fun x7 =>
 (if x7 = true then
 (some (Sum.inr ((Sum.inl st2))))
 else
 (if inI (st2 + 1) then
 (some (Sum.inl (st2 + 1)))
 else none)))
 else none)
 else
 (some (Sum.inr ((Sum.inr (())))))) : Option ((Int) ⊕ (Int ⊕ Unit)))) 0) fun (y11 : Int ⊕ Unit) => match y11 with
 | (Sum.inl j3) =>
 (some j3)
 | (Sum.inr j4) =>
 (some ((-1))))
theorem Z4j (s : List GInst) (fi : FuncId) (fc : List (L Unit)) (f : GInst → Option Bool) (hef : Ent Tryz.prog fi) (hcf : CapOk fc) (hsf : ∀ z0 y, f z0 = some y → Sim Tryz.prog fi ([.agg (Q3 false z0)] ++ List.map .one fc) [] (.u (.one (.bool y))) []) {r : Int} (hm : V9 s f = some r) : Sim Tryz.prog 214 [.one (.bs () 7 (List.map (Q3 false) s)), .one (.fn () fi fc)] [] (.u (.one (.int .i64 r))) [] := by
 refine Y2e (N := 19) (k0 := 0) Tryz.func214 rfl rfl rfl rfl (rs := [.tmp 4]) rfl (by simp [Z1, idsL, List.all_cons, hcf.ids]) rfl fun B hB0 => ?_
 unfold V9 at hm
 refine yG ?_
 intro k1 hm
 obtain ⟨y11, hl12, hm⟩ := Z0 hm
 refine J6 hl12 (fun (st2 : Int) => St 19 [(0, .u (.one (.bs () 7 (List.map (Q3 false) s)))), (1, .u (.one (.fn () fi fc))), (7, vI ((List.length s : Int))), (8, vI st2)] [] 0) (fun (y : Int ⊕ Unit) => match y with | (Sum.inl j3) => (.ret, St 19 [(4, vI j3)] [] 0) | (Sum.inr j4) => (.exit 0, St 19 [] [] 0)) (w_ [] (.cons rfl rfl (.cons (by rw [Y0u hcf]; rfl) (Z6g hcf _ _) (.cons rfl rfl (.cons rfl rfl .nil)))) .nil (by decide) (hB_0 hB0)) ?_ (by rintro (_ | _) <;> simp) ?_
 intro st2 x hm
 refine yG ?_
 intro _ hm
 refine bS hm (fun hb5 hm => ?_) fun hb5 hm => ?_
 refine yG ?_
 intro k2 hm
 refine nO (K8 T29 rfl (U6 rfl rfl) rfl ?_)
 obtain ⟨x7, h8, hm⟩ := Z0 hm
 refine nO (Z6 (Z0e (v := .u (.one (.bool x7))) (nobs := []) (oa' := _) (nx' := 0) rfl (a_a rfl (Z8z rfl) a_n) hcf.bor hef (hsf (at_ s st2) x7 h8) rfl rfl rfl rfl ?_))
 refine W5 ?_
 refine bS hm (fun hb9 hm => ?_) fun hb9 hm => ?_
 refine yG ?_
 intro _ hm
 cases hm
 exact ⟨rfl, vW []⟩
 refine yG ?_
 intro k3 hm
 cases hm
 exact ⟨rfl, w_ [] (.cons rfl rfl (.cons (by rw [Y0u hcf]; rfl) (Z6g hcf _ _) (.cons rfl rfl (.cons rfl rfl .nil)))) .nil (by decide) (hB_0 hB0)⟩
 refine V2 ?_
 cases hm
 exact ⟨rfl, vW []⟩
 rcases y11 with j3 | j4 <;> simp only at hm
 cases hm
 exact rZ1
 refine yG ?_
 intro _ hm
 cases hm
 exact rZ1
noncomputable def Y2 (s : List GInst) (f : GInst → Option Bool) : Option Bool :=
 (Option.bind (V9 s f) fun x1 =>
 (some (decide (x1 ≥ 0))))
theorem U9 (s : List GInst) (fi : FuncId) (fc : List (L Unit)) (f : GInst → Option Bool) (hef : Ent Tryz.prog fi) (hcf : CapOk fc) (hsf : ∀ z0 y, f z0 = some y → Sim Tryz.prog fi ([.agg (Q3 false z0)] ++ List.map .one fc) [] (.u (.one (.bool y))) []) {r : Bool} (hm : Y2 s f = some r) : Sim Tryz.prog 146 [.one (.bs () 7 (List.map (Q3 false) s)), .one (.fn () fi fc)] [] (.u (.one (.bool r))) [] := by
 refine Y2e (N := 9) (k0 := 0) Tryz.func146 rfl rfl rfl rfl (rs := [.tmp 4]) rfl (by simp [Z1, idsL, List.all_cons, hcf.ids]) rfl fun B hB0 => ?_
 unfold Y2 at hm
 refine yG ?_
 intro _ hm
 obtain ⟨x1, h2, hm⟩ := Z0 hm
 refine nO (Z6 (Z0e (v := .u (.one (.int .i64 x1))) (nobs := []) (oa' := _) (nx' := 0) rfl (a_1 rfl (b_s rfl) (a_1 rfl (b_f hcf.bor) a_n)) c_n EntC.h (Z4j s fi fc f hef hcf hsf h2) rfl rfl rfl rfl ?_))
 refine yG ?_
 intro _ hm
 cases hm
 exact rZ1
noncomputable def J5 (b : Int) (a : GFunc) : Bool :=
 ((Z3 b 0 (((List.length a.blocks : Int)) - 1)))
theorem Z8a (b : Int) (a : GFunc) : Sim Tryz.prog 221 [.one (.int .i64 b), .one (.ip () (Z9 false a))] [] (.u (.one (.bool ((J5 b a))))) [] := by
 generalize hm : J5 b a = r
 refine fN 10 0 Tryz.func221 [.tmp 3] fun B hB0 => ?_
 unfold J5 at hm
 refine yG ?_
 intro k1 hm
 refine nO (Z6 (cB (W8 b 0 (((List.length a.blocks : Int)) - 1)) ?_))
 refine yG ?_
 intro _ hm
 cases hm
 exact rZ1
noncomputable def Z2b (f : GFunc) (t : GTerm) (ids : Int) : Option Bool :=
 (if (t.kind == 1) = true then
 (Option.bind ((if inI (ids - 1) then
 (if (Z3 t.a 0 (ids - 1)) = true then
 (if (t.x == 0) = true then
 (some ((t.y == 0)))
 else
 (some false))
 else
 (some false))
 else none)) fun (j2 : Bool) =>
 (some j2))
 else
 (if (t.kind == 2) = true then
 (some (((t.a == 0) && ((J5 t.x f) && (t.y == 0)))))
 else
 (if (t.kind == 3) = true then
 (Option.bind ((if inI (ids - 1) then
 (if (Z3 t.a 0 (ids - 1)) = true then
 (if (J5 t.x f) = true then
 (if (J5 t.y f) = true then
 (some ((t.x != t.y)))
 else
 (some false))
 else
 (some false))
 else
 (some false))
 else none)) fun (j12 : Bool) =>
 (some j12))
 else
 (if (t.kind == 4) = true then
 (some (((t.a == 0) && ((t.x == 0) && (t.y == 0)))))
 else
 (some false)))))
theorem X0e {f : GFunc} {t : GTerm} {ids : Int} {r : Bool} (hm : Z2b f t ids = some r) : Sim Tryz.prog 163 [.agg (Z9 false f), .agg (Y3z t), .one (.int .i64 ids)] [] (.u (.one (.bool r))) [] := by
 refine fN 85 0 Tryz.func163 [.tmp 6] fun B hB0 => ?_
 unfold Z2b at hm
 refine yG ?_
 intro _ hm
 refine nO (x_mf (ls := [.ptr () 0 0 0]) rfl ?_)
 refine yG ?_
 intro _ hm
 refine bS hm (fun hb1 hm => ?_) fun hb1 hm => ?_
 refine Wp.seq ?_
 obtain ⟨j2, hj6, hm⟩ := Z0 hm
 refine V6 (St 85 [(6, vB j2)] [] 0) ?_ ?_
 replace hm := hj6
 refine yG ?_
 intro k1 hm
 refine nO (Z6 (cB (W8 t.a 0 (ids - 1)) ?_))
 refine yG ?_
 intro _ hm
 refine bG1 hm (fun hb4 hm => ?_) fun hb4 hm => ?_
 refine yG ?_
 intro _ hm
 refine bG1 hm (fun hb5 hm => ?_) fun hb5 hm => ?_
 refine yG ?_
 intro _ hm
 cases hm
 exact vW []
 refine yG ?_
 intro _ hm
 cases hm
 exact vW []
 refine yG ?_
 intro _ hm
 cases hm
 exact vW []
 refine Z1s ?_
 cases hm
 exact rZ1
 refine yG ?_
 intro _ hm
 refine bS hm (fun hb7 hm => ?_) fun hb7 hm => ?_
 refine Wp.seq ?_
 refine V6 (St 85 [(6, vB (((t.a == 0) && ((J5 t.x f) && (t.y == 0)))))] [] 0) ?_ ?_
 refine yG ?_
 intro _ hm
 refine gO_s rfl rfl rfl (fun hb9 => ?_) (fun hb9 => ?_)
 refine yG ?_
 intro _ hm
 refine gO_t rfl rfl rfl (Z6 (Z0e (v := .u (.one (.bool ((J5 t.x f))))) (nobs := []) (oa' := _) (nx' := 2) rfl (a_1 rfl (b_s rfl) a_n) (c_c (b_p rfl (Z8z rfl) rfl) c_n) EntC.h (Z8a t.x f) rfl rfl rfl rfl ?_))
 refine yG ?_
 intro _ hm
 refine gO_s rfl rfl rfl (fun hb10 => ?_) (fun hb10 => ?_)
 refine yG ?_
 intro _ hm
 exact w_ [] (.cons (by simp only [hb9, hb10, BO]; rfl) rfl .nil) .nil (by decide) (hB_0 hB0)
 refine yG ?_
 intro _ hm
 exact w_ [] (.cons (by simp only [hb9, hb10, BO]; rfl) rfl .nil) .nil (by decide) (hB_0 hB0)
 refine yG ?_
 intro _ hm
 exact w_ [] (.cons (by simp only [hb9, BO]; rfl) rfl .nil) .nil (by decide) (hB_0 hB0)
 refine Z1s ?_
 cases hm
 exact rZ1
 refine yG ?_
 intro _ hm
 refine bS hm (fun hb11 hm => ?_) fun hb11 hm => ?_
 refine Wp.seq ?_
 obtain ⟨j12, hj17, hm⟩ := Z0 hm
 refine V6 (St 85 [(6, vB j12)] [] 0) ?_ ?_
 replace hm := hj17
 refine yG ?_
 intro k2 hm
 refine nO (Z6 (cB (W8 t.a 0 (ids - 1)) ?_))
 refine yG ?_
 intro _ hm
 refine bG1 hm (fun hb14 hm => ?_) fun hb14 hm => ?_
 refine yG ?_
 intro _ hm
 refine gO_t rfl rfl rfl (Z6 (Z0e (v := .u (.one (.bool ((J5 t.x f))))) (nobs := []) (oa' := _) (nx' := 2) rfl (a_1 rfl (b_s rfl) a_n) (c_c (b_p rfl (Z8z rfl) rfl) c_n) EntC.h (Z8a t.x f) rfl rfl rfl rfl ?_))
 refine yG ?_
 intro _ hm
 refine bG1 hm (fun hb15 hm => ?_) fun hb15 hm => ?_
 refine yG ?_
 intro _ hm
 refine gO_t rfl rfl rfl (Z6 (Z0e (v := .u (.one (.bool ((J5 t.y f))))) (nobs := []) (oa' := _) (nx' := 2) rfl (a_1 rfl (b_s rfl) a_n) (c_c (b_p rfl (Z8z rfl) rfl) c_n) EntC.h (Z8a t.y f) rfl rfl rfl rfl ?_))
 refine yG ?_
 intro _ hm
 refine bG1 hm (fun hb16 hm => ?_) fun hb16 hm => ?_
 refine yG ?_
 intro _ hm
 cases hm
 exact vW []
 refine yG ?_
 intro _ hm
 cases hm
 exact vW []
 refine yG ?_
 intro _ hm
 cases hm
 exact vW []
 refine yG ?_
 intro _ hm
 cases hm
 exact vW []
 refine Z1s ?_
 cases hm
 exact rZ1
 refine yG ?_
 intro _ hm
 refine bS hm (fun hb18 hm => ?_) fun hb18 hm => ?_
 refine Wp.seq ?_
 refine V6 (St 85 [(6, vB (((t.a == 0) && ((t.x == 0) && (t.y == 0)))))] [] 0) ?_ ?_
 refine yG ?_
 intro _ hm
 refine gO_s rfl rfl rfl (fun hb20 => ?_) (fun hb20 => ?_)
 refine yG ?_
 intro _ hm
 refine gO_s rfl rfl rfl (fun hb21 => ?_) (fun hb21 => ?_)
 refine yG ?_
 intro _ hm
 exact w_ [] (.cons (by simp only [hb20, hb21, BO]; rfl) rfl .nil) .nil (by decide) (hB_0 hB0)
 refine yG ?_
 intro _ hm
 exact w_ [] (.cons (by simp only [hb20, hb21, BO]; rfl) rfl .nil) .nil (by decide) (hB_0 hB0)
 refine yG ?_
 intro _ hm
 exact w_ [] (.cons (by simp only [hb20, BO]; rfl) rfl .nil) .nil (by decide) (hB_0 hB0)
 refine Z1s ?_
 cases hm
 exact rZ1
 refine yG ?_
 intro _ hm
 cases hm
 exact rZ1
noncomputable def Z7m (f : GFunc) (funcs : Int) : Option Bool :=
 (Option.bind ((if decide (((List.length f.params : Int)) > 4) = true then
 (some true)
 else
 (if (!((X0 f.ret))) = true then
 (some true)
 else
 (if (!((Z3 ((List.length f.blocks : Int)) 1 10))) = true then
 (some true)
 else
 (Option.bind (Z8 f.params ((fun z0 => some (Z2w z0)))) fun x7 =>
 (some x7)))))) fun (j1 : Bool) =>
 (if j1 = true then
 (some false)
 else
 (Option.bind (Z1e f) fun x11 =>
 (if decide (x11 > 60) = true then
 (some false)
 else
 (Option.bind (Y6 (fun (st15 : Int) =>
 ((if decide (st15 < ((List.length f.blocks : Int))) = true then
 (if 0 ≤ st15 ∧ st15 < (List.length f.blocks : Int) then
 (Option.bind (Y9 ((at_ f.blocks st15).phis) ((fun z0 => Z1n z0 x11))) fun x20 =>
 (if x20 = true then
 (some (Sum.inr ((Sum.inl (())))))
 else
 (Option.bind ((Option.bind (Y2 ((at_ f.blocks st15).insts) ((fun z0 => Z2u z0 x11 funcs))) fun x24 =>
 (if x24 = true then
 (some true)
 else
 (Option.bind (Z2b f (((at_ f.blocks st15).term)) x11) fun x27 =>
 (some ((!x27))))))) fun (j23 : Bool) =>
 (if j23 = true then
 (some (Sum.inr ((Sum.inl (())))))
 else
 (if inI (st15 + 1) then
 (some (Sum.inl (st15 + 1)))
 else none)))))
 else none)
 else
 (some (Sum.inr ((Sum.inr (())))))) : Option ((Int) ⊕ (Unit ⊕ Unit)))) 0) fun (y32 : Unit ⊕ Unit) => match y32 with
 | (Sum.inl j16) =>
 (some false)
 | (Sum.inr j17) =>
 (some true))))))
theorem X0g {f : GFunc} {funcs : Int} {r : Bool} (hm : Z7m f funcs = some r) : Sim Tryz.prog 84 [.agg (Z9 false f), .one (.int .i64 funcs)] [] (.u (.one (.bool r))) [] := by
 refine fN 58 0 Tryz.func84 [.tmp 4] fun B hB0 => ?_
 unfold Z7m at hm
 refine Wp.seq ?_
 refine X4 ?_
 refine yR ?_
 intro _ hm
 refine W5 ?_
 refine Wp.seq ?_
 refine Wp.seq ?_
 obtain ⟨j1, hj9, hm⟩ := Z0 hm
 refine V6 (St 58 [(2, vP 0), (3, vP 1), (29, vB j1)] [(0, oL 3 (Z9 false f)), (1, oL 1 [.int .i64 funcs])] 2) ?_ ?_
 replace hm := hj9
 refine yG ?_
 intro k1 hm
 refine bG0 hm (fun hb3 hm => ?_) fun hb3 hm => ?_
 refine yG ?_
 intro _ hm
 refine gO_t rfl rfl rfl (Z6 (cB (Z1y f.ret) ?_))
 refine yG ?_
 intro _ hm
 refine bG0 hm (fun hb4 hm => ?_) fun hb4 hm => ?_
 refine yG ?_
 intro k2 hm
 refine gO_t rfl rfl rfl (Z6 (cB (W8 ((List.length f.blocks : Int)) 1 10) ?_))
 refine yG ?_
 intro _ hm
 refine bG0 hm (fun hb6 hm => ?_) fun hb6 hm => ?_
 refine yG ?_
 intro _ hm
 obtain ⟨x7, h8, hm⟩ := Z0 hm
 refine gO_t rfl rfl rfl (Z6 (Z0e (v := .u (.one (.bool x7))) (nobs := []) (oa' := _) (nx' := 2) rfl (a_1 rfl (b_s rfl) (a_1 rfl (b_f c_n) a_n)) c_n EntC.h (X6 f.params 158 [] (fun z0 => some (Z2w z0)) EntC.h rfl (fun z0 y hy => by cases hy; exact Y6z z0) h8) rfl rfl rfl rfl ?_))
 refine yG ?_
 intro _ hm
 cases hm
 exact vW [0, 1]
 refine yG ?_
 intro _ hm
 cases hm
 exact vW [0, 1]
 refine yG ?_
 intro _ hm
 cases hm
 exact vW [0, 1]
 refine yG ?_
 intro _ hm
 cases hm
 exact vW [0, 1]
 refine bS hm (fun hb10 hm => ?_) fun hb10 hm => ?_
 refine yG ?_
 intro _ hm
 cases hm
 exact rZ1
 refine yG ?_
 intro _ hm
 refine nO (kW ?_)
 obtain ⟨x11, h12, hm⟩ := Z0 hm
 refine nO (Z6 (cB (Z6n h12) ?_))
 refine yG ?_
 intro _ hm
 refine bS hm (fun hb13 hm => ?_) fun hb13 hm => ?_
 refine yG ?_
 intro _ hm
 cases hm
 exact rZ1
 refine yG ?_
 intro k3 hm
 obtain ⟨y32, hl33, hm⟩ := Z0 hm
 refine J6 hl33 (fun (st15 : Int) => St 58 [(2, vP 0), (3, vP 1), (5, vP 2), (35, .u (.one (.bs () 6 (List.map (W2 false) f.blocks)))), (36, vI ((List.length f.blocks : Int))), (37, vI st15)] [(0, oL 3 (Z9 false f)), (1, oL 1 [.int .i64 funcs]), (2, oL 1 [.int .i64 x11])] 3) (fun (y : Unit ⊕ Unit) => match y with | (Sum.inl j16) => (.ret, St 58 [(4, vB false)] [] 0) | (Sum.inr j17) => (.exit 0, St 58 [] [] 0)) (vW [0, 1, 2]) ?_ (by rintro (_ | _) <;> simp) ?_
 intro st15 x hm
 refine yG ?_
 intro _ hm
 refine bS hm (fun hb18 hm => ?_) fun hb18 hm => ?_
 refine yG ?_
 intro k4 hm
 refine nO (K8 T53 rfl (U6 rfl rfl) rfl ?_)
 refine yG ?_
 intro _ hm
 refine nO (x_mf (ls := [.ptr () 2 0 0]) rfl ?_)
 obtain ⟨x20, h21, hm⟩ := Z0 hm
 refine nO (Z6 (Z0e (v := .u (.one (.bool x20))) (nobs := []) (oa' := _) (nx' := 4) rfl (a_1 rfl (b_s rfl) (a_1 rfl (b_f (c_c (b_p (cs := [.int .i64 x11]) rfl (c_c (b_s rfl) c_n) rfl) c_n)) a_n)) c_n EntC.h (Z0g ((at_ f.blocks st15).phis) 160 [.ip () [.int .i64 x11]] (fun z0 => Z1n z0 x11) EntC.h rfl (fun z0 y hy => Y6y hy) h21) rfl rfl rfl rfl ?_))
 refine W5 ?_
 refine bS hm (fun hb22 hm => ?_) fun hb22 hm => ?_
 refine yG ?_
 intro _ hm
 cases hm
 exact ⟨rfl, vW []⟩
 refine K3 ?_
 refine Wp.seq ?_
 obtain ⟨j23, hj29, hm⟩ := Z0 hm
 refine V6 (St 58 [(2, vP 0), (3, vP 1), (5, vP 2), (35, .u (.one (.bs () 6 (List.map (W2 false) f.blocks)))), (36, vI ((List.length f.blocks : Int))), (37, vI st15), (56, vB j23)] [(0, oL 3 (Z9 false f)), (1, oL 1 [.int .i64 funcs]), (2, oL 1 [.int .i64 x11])] 3) ?_ ?_
 replace hm := hj29
 refine yG ?_
 intro _ hm
 refine nO (x_mf (ls := [.ptr () 2 0 0, .ptr () 1 0 0]) rfl ?_)
 obtain ⟨x24, h25, hm⟩ := Z0 hm
 refine nO (Z6 (Z0e (v := .u (.one (.bool x24))) (nobs := []) (oa' := _) (nx' := 4) rfl (a_1 rfl (b_s rfl) (a_1 rfl (b_f (c_c (b_p (cs := [.int .i64 x11]) rfl (c_c (b_s rfl) c_n) rfl) (c_c (b_p (cs := [.int .i64 funcs]) rfl (c_c (b_s rfl) c_n) rfl) c_n))) a_n)) c_n EntC.h (U9 ((at_ f.blocks st15).insts) 162 [.ip () [.int .i64 x11], .ip () [.int .i64 funcs]] (fun z0 => Z2u z0 x11 funcs) EntC.h rfl (fun z0 y hy => Y6x hy) h25) rfl rfl rfl rfl ?_))
 refine yG ?_
 intro _ hm
 refine bG0 hm (fun hb26 hm => ?_) fun hb26 hm => ?_
 refine gO_t rfl rfl rfl (kW ?_)
 refine yG ?_
 intro _ hm
 refine gO_t rfl rfl rfl (kL (.agg (Y3z (((at_ f.blocks st15).term)))) ?_)
 refine yG ?_
 intro _ hm
 obtain ⟨x27, h28, hm⟩ := Z0 hm
 refine gO_t rfl rfl rfl (Z6 (cB (X0e h28) ?_))
 refine yG ?_
 intro _ hm
 cases hm
 exact vW [0, 1, 2]
 refine yG ?_
 intro _ hm
 cases hm
 exact vW [0, 1, 2]
 refine bS hm (fun hb30 hm => ?_) fun hb30 hm => ?_
 refine yG ?_
 intro _ hm
 cases hm
 exact ⟨rfl, vW []⟩
 refine yG ?_
 intro k5 hm
 cases hm
 exact ⟨rfl, vW [0, 1, 2]⟩
 refine V2 ?_
 cases hm
 exact ⟨rfl, vW []⟩
 rcases y32 with j16 | j17 <;> simp only at hm
 cases hm
 exact rZ1
 refine yG ?_
 intro _ hm
 cases hm
 exact rZ1
noncomputable def Z3x (f : GFunc) (a : Int) : Option Bool :=
 (Option.bind (Z7m f a) fun x1 =>
 (some ((!x1))))
theorem Y5r {f : GFunc} {a : Int} {r : Bool} (hm : Z3x f a = some r) : Sim Tryz.prog 83 [.agg (Z9 false f), .one (.ip () (iL a))] [] (.u (.one (.bool r))) [] := by
 refine fN 8 0 Tryz.func83 [.tmp 3] fun B hB0 => ?_
 unfold Z3x at hm
 refine yG ?_
 intro _ hm
 refine nO (kW ?_)
 refine yG ?_
 intro _ hm
 obtain ⟨x1, h2, hm⟩ := Z0 hm
 refine nO (Z6 (cB (X0g h2) ?_))
 refine yG ?_
 intro _ hm
 cases hm
 exact rZ1
noncomputable def U0 (s : List GFunc) (f : GFunc → Option Bool) : Option Int :=
 (Option.bind (Y6 (fun (st2 : Int) =>
 ((if decide (st2 < ((List.length s : Int))) = true then
 (if 0 ≤ st2 ∧ st2 < (List.length s : Int) then
 (Option.bind (f (at_ s st2)) fun x7 =>
 (if x7 = true then
 (some (Sum.inr ((Sum.inl st2))))
 else
 (if inI (st2 + 1) then
 (some (Sum.inl (st2 + 1)))
 else none)))
 else none)
 else
 (some (Sum.inr ((Sum.inr (())))))) : Option ((Int) ⊕ (Int ⊕ Unit)))) 0) fun (y11 : Int ⊕ Unit) => match y11 with
 | (Sum.inl j3) =>
 (some j3)
 | (Sum.inr j4) =>
 (some ((-1))))
theorem Z4k (s : List GFunc) (fi : FuncId) (fc : List (L Unit)) (f : GFunc → Option Bool) (hef : Ent Tryz.prog fi) (hcf : CapOk fc) (hsf : ∀ z0 y, f z0 = some y → Sim Tryz.prog fi ([.agg (Z9 false z0)] ++ List.map .one fc) [] (.u (.one (.bool y))) []) {r : Int} (hm : U0 s f = some r) : Sim Tryz.prog 156 [.one (.bs () 3 (List.map (Z9 false) s)), .one (.fn () fi fc)] [] (.u (.one (.int .i64 r))) [] := by
 refine Y2e (N := 19) (k0 := 0) Tryz.func156 rfl rfl rfl rfl (rs := [.tmp 4]) rfl (by simp [Z1, idsL, List.all_cons, hcf.ids]) rfl fun B hB0 => ?_
 unfold U0 at hm
 refine yG ?_
 intro k1 hm
 obtain ⟨y11, hl12, hm⟩ := Z0 hm
 refine J6 hl12 (fun (st2 : Int) => St 19 [(0, .u (.one (.bs () 3 (List.map (Z9 false) s)))), (1, .u (.one (.fn () fi fc))), (7, vI ((List.length s : Int))), (8, vI st2)] [] 0) (fun (y : Int ⊕ Unit) => match y with | (Sum.inl j3) => (.ret, St 19 [(4, vI j3)] [] 0) | (Sum.inr j4) => (.exit 0, St 19 [] [] 0)) (w_ [] (.cons rfl rfl (.cons (by rw [Y0u hcf]; rfl) (Z6g hcf _ _) (.cons rfl rfl (.cons rfl rfl .nil)))) .nil (by decide) (hB_0 hB0)) ?_ (by rintro (_ | _) <;> simp) ?_
 intro st2 x hm
 refine yG ?_
 intro _ hm
 refine bS hm (fun hb5 hm => ?_) fun hb5 hm => ?_
 refine yG ?_
 intro k2 hm
 refine nO (K8 T27 rfl (U6 rfl rfl) rfl ?_)
 obtain ⟨x7, h8, hm⟩ := Z0 hm
 refine nO (Z6 (Z0e (v := .u (.one (.bool x7))) (nobs := []) (oa' := _) (nx' := 0) rfl (a_a rfl (Z8z rfl) a_n) hcf.bor hef (hsf (at_ s st2) x7 h8) rfl rfl rfl rfl ?_))
 refine W5 ?_
 refine bS hm (fun hb9 hm => ?_) fun hb9 hm => ?_
 refine yG ?_
 intro _ hm
 cases hm
 exact ⟨rfl, vW []⟩
 refine yG ?_
 intro k3 hm
 cases hm
 exact ⟨rfl, w_ [] (.cons rfl rfl (.cons (by rw [Y0u hcf]; rfl) (Z6g hcf _ _) (.cons rfl rfl (.cons rfl rfl .nil)))) .nil (by decide) (hB_0 hB0)⟩
 refine V2 ?_
 cases hm
 exact ⟨rfl, vW []⟩
 rcases y11 with j3 | j4 <;> simp only at hm
 cases hm
 exact rZ1
 refine yG ?_
 intro _ hm
 cases hm
 exact rZ1
noncomputable def W4 (s : List GFunc) (f : GFunc → Option Bool) : Option Bool :=
 (Option.bind (U0 s f) fun x1 =>
 (some (decide (x1 ≥ 0))))
theorem Z3e (s : List GFunc) (fi : FuncId) (fc : List (L Unit)) (f : GFunc → Option Bool) (hef : Ent Tryz.prog fi) (hcf : CapOk fc) (hsf : ∀ z0 y, f z0 = some y → Sim Tryz.prog fi ([.agg (Z9 false z0)] ++ List.map .one fc) [] (.u (.one (.bool y))) []) {r : Bool} (hm : W4 s f = some r) : Sim Tryz.prog 82 [.one (.bs () 3 (List.map (Z9 false) s)), .one (.fn () fi fc)] [] (.u (.one (.bool r))) [] := by
 refine Y2e (N := 9) (k0 := 0) Tryz.func82 rfl rfl rfl rfl (rs := [.tmp 4]) rfl (by simp [Z1, idsL, List.all_cons, hcf.ids]) rfl fun B hB0 => ?_
 unfold W4 at hm
 refine yG ?_
 intro _ hm
 obtain ⟨x1, h2, hm⟩ := Z0 hm
 refine nO (Z6 (Z0e (v := .u (.one (.int .i64 x1))) (nobs := []) (oa' := _) (nx' := 0) rfl (a_1 rfl (b_s rfl) (a_1 rfl (b_f hcf.bor) a_n)) c_n EntC.h (Z4k s fi fc f hef hcf hsf h2) rfl rfl rfl rfl ?_))
 refine yG ?_
 intro _ hm
 cases hm
 exact rZ1
noncomputable def Q4 (m : GModule) : Option Bool :=
 (Option.bind ((if (Z3 ((List.length m.funcs : Int)) 1 3) = true then
 (Option.bind (W4 m.funcs ((fun z0 => Z3x z0 ((List.length m.funcs : Int))))) fun x4 =>
 (some ((!x4))))
 else
 (some false))) fun (j2 : Bool) =>
 (some j2))
theorem Z1z {m : GModule} {r : Bool} (hm : Q4 m = some r) : Sim Tryz.prog 27 [.agg (K7 false m)] [] (.u (.one (.bool r))) [] := by
 refine fN 16 0 Tryz.func27 [.tmp 2] fun B hB0 => ?_
 unfold Q4 at hm
 refine Wp.seq ?_
 refine X4 ?_
 refine yR ?_
 intro _ hm
 refine W5 ?_
 refine Wp.seq ?_
 refine X4 ?_
 refine yR ?_
 intro k1 hm
 refine W5 ?_
 refine Wp.seq ?_
 obtain ⟨j2, hj6, hm⟩ := Z0 hm
 refine V6 (St 16 [(2, vB j2)] [] 0) ?_ ?_
 replace hm := hj6
 refine yG ?_
 intro _ hm
 refine nO (Z6 (cB (W8 ((List.length m.funcs : Int)) 1 3) ?_))
 refine yG ?_
 intro _ hm
 refine bG1 hm (fun hb3 hm => ?_) fun hb3 hm => ?_
 refine yG ?_
 intro _ hm
 refine gO_t rfl rfl rfl (x_mf (ls := [.ptr () 1 0 0]) rfl ?_)
 obtain ⟨x4, h5, hm⟩ := Z0 hm
 refine gO_t rfl rfl rfl (Z6 (Z0e (v := .u (.one (.bool x4))) (nobs := []) (oa' := _) (nx' := 2) rfl (a_1 rfl (b_s rfl) (a_1 rfl (b_f (c_c (b_p (cs := [.int .i64 ((List.length m.funcs : Int))]) rfl (c_c (b_s rfl) c_n) rfl) c_n)) a_n)) c_n EntC.h (Z3e m.funcs 83 [.ip () [.int .i64 ((List.length m.funcs : Int))]] (fun z0 => Z3x z0 ((List.length m.funcs : Int))) EntC.h rfl (fun z0 y hy => Y5r hy) h5) rfl rfl rfl rfl ?_))
 refine yG ?_
 intro _ hm
 cases hm
 exact vW []
 refine yG ?_
 intro _ hm
 cases hm
 exact vW []
 refine Z1s ?_
 cases hm
 exact rZ1
end
section
set_option maxHeartbeats 8000000
set_option maxRecDepth 100000
attribute [local irreducible] aopK K0 Wp St WpO
noncomputable def W9 (t : GTerm) : List Int :=
 (if (t.kind == 2) = true then
 ([t.x])
 else
 (if (t.kind == 3) = true then
 ([t.x, t.y])
 else
 ([])))
theorem Z8w (t : GTerm) : Sim Tryz.prog 166 [.agg (Y3z t)] [] (.u (.one (.os () 1 (List.map iL ((W9 t)))))) [] := by
 generalize hm : W9 t = r
 refine fN 17 0 Tryz.func166 [.tmp 2] fun B hB0 => ?_
 unfold W9 at hm
 refine yG ?_
 intro _ hm
 refine bS hm (fun hb1 hm => ?_) fun hb1 hm => ?_
 refine yG ?_
 intro _ hm
 refine nO (kM (iL) ([t.x]) ?_)
 refine yG ?_
 intro _ hm
 cases hm
 exact rZ1h (hg := Z3b 0 0 rfl rfl rfl rfl)
 refine yG ?_
 intro _ hm
 refine bS hm (fun hb2 hm => ?_) fun hb2 hm => ?_
 refine yG ?_
 intro _ hm
 refine nO (kM (iL) ([t.x, t.y]) ?_)
 refine yG ?_
 intro _ hm
 cases hm
 exact rZ1h (hg := Z3b 0 0 rfl rfl rfl rfl)
 refine yG ?_
 intro _ hm
 cases hm
 exact rZ1h (hg := f_nl 0 0 1 true rfl rfl rfl)
noncomputable def Z0c (s : List Int) (v : Int) : Option Int :=
 (Option.bind (Y6 (fun (st2 : Int) =>
 ((if decide (st2 < ((List.length s : Int))) = true then
 (if 0 ≤ st2 ∧ st2 < (List.length s : Int) then
 (if (v == (at_ s st2)) = true then
 (some (Sum.inr ((Sum.inl st2))))
 else
 (if inI (st2 + 1) then
 (some (Sum.inl (st2 + 1)))
 else none))
 else none)
 else
 (some (Sum.inr ((Sum.inr (())))))) : Option ((Int) ⊕ (Int ⊕ Unit)))) 0) fun (y9 : Int ⊕ Unit) => match y9 with
 | (Sum.inl j3) =>
 (some j3)
 | (Sum.inr j4) =>
 (some ((-1))))
theorem Z9d {s : List Int} {v : Int} {r : Int} (hm : Z0c s v = some r) : Sim Tryz.prog 188 [.one (.bs () 1 (List.map iL s)), .one (.int .i64 v)] [] (.u (.one (.int .i64 r))) [] := by
 refine fN 19 0 Tryz.func188 [.tmp 4] fun B hB0 => ?_
 unfold Z0c at hm
 refine yG ?_
 intro k1 hm
 obtain ⟨y9, hl10, hm⟩ := Z0 hm
 refine J6 hl10 (fun (st2 : Int) => St 19 [(0, .u (.one (.bs () 1 (List.map iL s)))), (1, vI v), (7, vI ((List.length s : Int))), (8, vI st2)] [] 0) (fun (y : Int ⊕ Unit) => match y with | (Sum.inl j3) => (.ret, St 19 [(4, vI j3)] [] 0) | (Sum.inr j4) => (.exit 0, St 19 [] [] 0)) (vW []) ?_ (by rintro (_ | _) <;> simp) ?_
 intro st2 x hm
 refine yG ?_
 intro _ hm
 refine bS hm (fun hb5 hm => ?_) fun hb5 hm => ?_
 refine yG ?_
 intro k2 hm
 refine bS hm (fun hb7 hm => ?_) fun hb7 hm => ?_
 refine yG ?_
 intro _ hm
 cases hm
 exact ⟨rfl, vW []⟩
 refine yG ?_
 intro k3 hm
 cases hm
 exact ⟨rfl, vW []⟩
 refine V2 ?_
 cases hm
 exact ⟨rfl, vW []⟩
 rcases y9 with j3 | j4 <;> simp only at hm
 cases hm
 exact rZ1
 refine yG ?_
 intro _ hm
 cases hm
 exact rZ1
noncomputable def J1 (s : List Int) (v : Int) : Option Bool :=
 (Option.bind (Z0c s v) fun x1 =>
 (some (decide (x1 ≥ 0))))
theorem Z7u {s : List Int} {v : Int} {r : Bool} (hm : J1 s v = some r) : Sim Tryz.prog 165 [.one (.bs () 1 (List.map iL s)), .one (.int .i64 v)] [] (.u (.one (.bool r))) [] := by
 refine fN 9 0 Tryz.func165 [.tmp 4] fun B hB0 => ?_
 unfold J1 at hm
 refine yG ?_
 intro _ hm
 obtain ⟨x1, h2, hm⟩ := Z0 hm
 refine nO (Z6 (cB (Z9d h2) ?_))
 refine yG ?_
 intro _ hm
 cases hm
 exact rZ1
noncomputable def Z1d (f : GFunc) (b : Int) : Option (List Int) :=
 (Option.bind (Y6 (fun (st2 : (List Int) × Int) =>
 ((if decide (st2.2 < ((List.length f.blocks : Int))) = true then
 (if 0 ≤ st2.2 ∧ st2.2 < (List.length f.blocks : Int) then
 (Option.bind (J1 ((W9 (((at_ f.blocks st2.2).term)))) b) fun x6 =>
 (if x6 = true then
 (if (List.length st2.1 + List.length ([st2.2])) * 8 ≤ 140737488355328 ∧ List.length st2.1 + List.length ([st2.2]) ≤ LIM then
 (if inI (st2.2 + 1) then
 (some (Sum.inl ((st2.1 ++ ([st2.2]), st2.2 + 1))))
 else none)
 else none)
 else
 (if inI (st2.2 + 1) then
 (some (Sum.inl ((st2.1, st2.2 + 1))))
 else none)))
 else none)
 else
 (some (Sum.inr st2.1))) : Option (((List Int) × Int) ⊕ (((List Int)))))) (([] : List Int), 0)) fun (j3 : (List Int)) =>
 (some j3))
theorem Z6m {f : GFunc} {b : Int} {r : List Int} (hm : Z1d f b = some r) : Sim Tryz.prog 86 [.agg (Z9 false f), .one (.int .i64 b)] [] (.u (.one (.os () 1 (List.map iL r)))) [] := by
 refine fN 28 0 Tryz.func86 [.tmp 4] fun B hB0 => ?_
 unfold Z1d at hm
 refine yG ?_
 intro _ hm
 refine nO (kM (iL) (([] : List Int)) ?_)
 refine yG ?_
 intro k1 hm
 obtain ⟨j3, hl13, hm⟩ := Z0 hm
 refine lP hl13 (fun st2 => St 28 [(1, vI b), (5, vR 0 (List.length st2.1)), (10, .u (.one (.bs () 6 (List.map (W2 false) f.blocks)))), (11, vI ((List.length f.blocks : Int))), (12, vI st2.2)] [(0, oM 1 iL st2.1)] 1) (fun j3 => (.exit 0, St 28 [(5, vR 0 (List.length j3))] [(0, oM 1 iL j3)] 1)) (vW [1]) ?_ ?_
 intro st2 x hm
 refine yG ?_
 intro _ hm
 refine bS hm (fun hb4 hm => ?_) fun hb4 hm => ?_
 refine yG ?_
 intro k2 hm
 refine nO (K8 T53 rfl (U6 rfl rfl) rfl ?_)
 refine yG ?_
 intro _ hm
 refine nO (kL (.agg (Y3z (((at_ f.blocks st2.2).term)))) ?_)
 refine nO (Z6 (cB (Z8w (((at_ f.blocks st2.2).term))) ?_))
 refine yG ?_
 intro _ hm
 obtain ⟨x6, h7, hm⟩ := Z0 hm
 refine nO (Z6 (cB (Z7u h7) ?_))
 refine W5 ?_
 refine bS hm (fun hb8 hm => ?_) fun hb8 hm => ?_
 refine yG ?_
 intro _ hm
 refine nO (kM (iL) ([st2.2]) ?_)
 refine yG ?_
 intro k3 hm
 cases hm
 exact ⟨rfl, vW [4]⟩
 refine yG ?_
 intro k4 hm
 cases hm
 exact ⟨rfl, vW [0]⟩
 refine V2 ?_
 cases hm
 exact ⟨rfl, vW [0]⟩
 refine yG ?_
 intro _ hm
 cases hm
 exact rZ1h (hg := Z3b 0 0 rfl rfl rfl rfl)
noncomputable def Z6b (f : GFunc) : Option Bool :=
 (Option.bind ((if (0 : Int) ≤ 0 ∧ 0 < (List.length f.blocks : Int) then
 (if (((List.length ((at_ f.blocks 0).phis) : Int)) == 0) = true then
 (Option.bind (Z1d f 0) fun x5 =>
 (some ((((List.length x5 : Int)) == 0))))
 else
 (some false))
 else none)) fun (j1 : Bool) =>
 (some j1))
theorem Y8a {f : GFunc} {r : Bool} (hm : Z6b f = some r) : Sim Tryz.prog 143 [.agg (Z9 false f)] [] (.u (.one (.bool r))) [] := by
 refine fN 16 0 Tryz.func143 [.tmp 2] fun B hB0 => ?_
 unfold Z6b at hm
 refine Wp.seq ?_
 refine X4 ?_
 refine yR ?_
 intro _ hm
 refine W5 ?_
 refine Wp.seq ?_
 obtain ⟨j1, hj8, hm⟩ := Z0 hm
 refine V6 (St 16 [(2, vB j1)] [] 0) ?_ ?_
 replace hm := hj8
 refine yG ?_
 intro k1 hm
 refine bG1 hm (fun hb4 hm => ?_) fun hb4 hm => ?_
 refine gO_t rfl rfl rfl (kW ?_)
 obtain ⟨x5, h6, hm⟩ := Z0 hm
 refine gO_t rfl rfl rfl (Z6 (cB (Z6m h6) ?_))
 refine yG ?_
 intro k2 hm
 cases hm
 exact vW []
 refine yG ?_
 intro _ hm
 cases hm
 exact vW []
 refine Z1s ?_
 cases hm
 exact rZ1
noncomputable def Z1x (p : GPhi) (a : Int) : Bool :=
 ((((List.length p.ins : Int)) != a))
theorem Y5q (p : GPhi) (a : Int) : Sim Tryz.prog 210 [.agg (ePhi false p), .one (.ip () (iL a))] [] (.u (.one (.bool ((Z1x p a))))) [] := by
 generalize hm : Z1x p a = r
 refine fN 9 0 Tryz.func210 [.tmp 3] fun B hB0 => ?_
 unfold Z1x at hm
 refine yG ?_
 intro k1 hm
 cases hm
 exact rZ1
noncomputable def Z6e (f : GFunc) : Option Bool :=
 (Option.bind (Y6 (fun (st2 : Int) =>
 ((if decide (st2 < ((List.length f.blocks : Int))) = true then
 (if 0 ≤ st2 ∧ st2 < (List.length f.blocks : Int) then
 (Option.bind (Z1d f st2) fun x7 =>
 (Option.bind (Y9 ((at_ f.blocks st2).phis) ((fun z0 => some (Z1x z0 ((List.length x7 : Int)))))) fun x10 =>
 (if x10 = true then
 (some (Sum.inr ((Sum.inl (())))))
 else
 (if inI (st2 + 1) then
 (some (Sum.inl (st2 + 1)))
 else none))))
 else none)
 else
 (some (Sum.inr ((Sum.inr (())))))) : Option ((Int) ⊕ (Unit ⊕ Unit)))) 0) fun (y14 : Unit ⊕ Unit) => match y14 with
 | (Sum.inl j3) =>
 (some false)
 | (Sum.inr j4) =>
 (some true))
theorem Y8c {f : GFunc} {r : Bool} (hm : Z6e f = some r) : Sim Tryz.prog 144 [.agg (Z9 false f)] [] (.u (.one (.bool r))) [] := by
 refine fN 23 0 Tryz.func144 [.tmp 2] fun B hB0 => ?_
 unfold Z6e at hm
 refine yG ?_
 intro k1 hm
 obtain ⟨y14, hl15, hm⟩ := Z0 hm
 refine J6 hl15 (fun (st2 : Int) => St 23 [(1, vP 0), (7, .u (.one (.bs () 6 (List.map (W2 false) f.blocks)))), (8, vI ((List.length f.blocks : Int))), (9, vI st2)] [(0, oL 3 (Z9 false f))] 1) (fun (y : Unit ⊕ Unit) => match y with | (Sum.inl j3) => (.ret, St 23 [(2, vB false)] [] 0) | (Sum.inr j4) => (.exit 0, St 23 [] [] 0)) (vW [0]) ?_ (by rintro (_ | _) <;> simp) ?_
 intro st2 x hm
 refine yG ?_
 intro _ hm
 refine bS hm (fun hb5 hm => ?_) fun hb5 hm => ?_
 refine yG ?_
 intro k2 hm
 refine nO (K8 T53 rfl (U6 rfl rfl) rfl ?_)
 refine yG ?_
 intro _ hm
 refine nO (kW ?_)
 refine yG ?_
 intro _ hm
 obtain ⟨x7, h8, hm⟩ := Z0 hm
 refine nO (Z6 (cB (Z6m h8) ?_))
 refine yG ?_
 intro k3 hm
 refine nO (x_mf (ls := [.ptr () 3 0 0]) rfl ?_)
 obtain ⟨x10, h11, hm⟩ := Z0 hm
 refine nO (Z6 (Z0e (v := .u (.one (.bool x10))) (nobs := []) (oa' := _) (nx' := 4) rfl (a_1 rfl (b_s rfl) (a_1 rfl (b_f (c_c (b_p (cs := [.int .i64 ((List.length x7 : Int))]) rfl (c_c (b_s rfl) c_n) rfl) c_n)) a_n)) c_n EntC.h (Z0g ((at_ f.blocks st2).phis) 210 [.ip () [.int .i64 ((List.length x7 : Int))]] (fun z0 => some (Z1x z0 ((List.length x7 : Int)))) EntC.h rfl (fun z0 y hy => by cases hy; exact Y5q z0 ((List.length x7 : Int))) h11) rfl rfl rfl rfl ?_))
 refine W5 ?_
 refine bS hm (fun hb12 hm => ?_) fun hb12 hm => ?_
 refine yG ?_
 intro _ hm
 cases hm
 exact ⟨rfl, vW []⟩
 refine yG ?_
 intro k4 hm
 cases hm
 exact ⟨rfl, vW [0]⟩
 refine V2 ?_
 cases hm
 exact ⟨rfl, vW []⟩
 rcases y14 with j3 | j4 <;> simp only at hm
 cases hm
 exact rZ1
 refine yG ?_
 intro _ hm
 cases hm
 exact rZ1
noncomputable def Y1s (f : GFunc) (id : Int) : Option Bool :=
 (Option.bind (Z1e f) fun x1 =>
 (if inI (x1 - 1) then
 (some ((Z3 id 0 (x1 - 1))))
 else none))
theorem X3x {f : GFunc} {id : Int} {r : Bool} (hm : Y1s f id = some r) : Sim Tryz.prog 107 [.agg (Z9 false f), .one (.int .i64 id)] [] (.u (.one (.bool r))) [] := by
 refine fN 10 0 Tryz.func107 [.tmp 4] fun B hB0 => ?_
 unfold Y1s at hm
 refine yG ?_
 intro _ hm
 refine nO (kW ?_)
 obtain ⟨x1, h2, hm⟩ := Z0 hm
 refine nO (Z6 (cB (Z6n h2) ?_))
 refine yG ?_
 intro k1 hm
 refine nO (Z6 (cB (W8 id 0 (x1 - 1)) ?_))
 refine yG ?_
 intro _ hm
 cases hm
 exact rZ1
end
section
set_option maxHeartbeats 8000000
set_option maxRecDepth 100000
attribute [local irreducible] aopK K0 Wp St WpO
noncomputable def Z2g (f : GFunc) (id : Int) : Option (Int × Int) :=
 (Option.bind (Y1s f id) fun x1 =>
 (if (!x1) = true then
 (some (((-2), 0)))
 else
 (if decide (id < ((List.length f.params : Int))) = true then
 (some (((-1), id)))
 else
 (Option.bind (Y6 (fun (st7 : Int × Int) =>
 ((if decide (st7.1 < ((List.length f.blocks : Int))) = true then
 (if 0 ≤ st7.1 ∧ st7.1 < (List.length f.blocks : Int) then
 (if inI (st7.2 + (((List.length ((at_ f.blocks st7.1).phis) : Int)) + ((List.length ((at_ f.blocks st7.1).insts) : Int)))) then
 (if decide (id < (st7.2 + (((List.length ((at_ f.blocks st7.1).phis) : Int)) + ((List.length ((at_ f.blocks st7.1).insts) : Int))))) = true then
 (some (Sum.inr ((Sum.inl ((st7.1, IntKind.i64.wrap (id - st7.2)))))))
 else
 (if inI (st7.2 + (((List.length ((at_ f.blocks st7.1).phis) : Int)) + ((List.length ((at_ f.blocks st7.1).insts) : Int)))) then
 (if inI (st7.1 + 1) then
 (some (Sum.inl ((st7.1 + 1, st7.2 + (((List.length ((at_ f.blocks st7.1).phis) : Int)) + ((List.length ((at_ f.blocks st7.1).insts) : Int)))))))
 else none)
 else none))
 else none)
 else none)
 else
 (some (Sum.inr ((Sum.inr (())))))) : Option ((Int × Int) ⊕ ((Int × Int) ⊕ Unit)))) (0, (List.length f.params : Int))) fun (y18 : (Int × Int) ⊕ Unit) => match y18 with
 | (Sum.inl j8) =>
 (some ((j8.1, j8.2)))
 | (Sum.inr j9) =>
 (some (((-2), 0)))))))
theorem Z8x {f : GFunc} {id : Int} {r : Int × Int} (hm : Z2g f id = some r) : Sim Tryz.prog 87 [.agg (Z9 false f), .one (.int .i64 id)] [] (.tup [.one (.int .i64 r.1), .one (.int .i64 r.2)]) [] := by
 refine fN 49 0 Tryz.func87 [.tmp 4, .tmp 5] fun B hB0 => ?_
 have fW := trivial
 unfold Z2g at hm
 refine yG ?_
 intro _ hm
 refine nO (kW ?_)
 refine yG ?_
 intro _ hm
 obtain ⟨x1, h2, hm⟩ := Z0 hm
 refine nO (Z6 (cB (X3x h2) ?_))
 refine yG ?_
 intro _ hm
 refine bS hm (fun hb3 hm => ?_) fun hb3 hm => ?_
 refine yG ?_
 intro _ hm
 cases hm
 exact rZt
 refine yG ?_
 intro k1 hm
 refine bS hm (fun hb5 hm => ?_) fun hb5 hm => ?_
 refine yG ?_
 intro _ hm
 cases hm
 exact rZt
 refine yG ?_
 intro k2 hm
 obtain ⟨y18, hl19, hm⟩ := Z0 hm
 refine J6 hl19 (fun (st7 : Int × Int) => St 49 [(1, vI id), (6, vI st7.2), (22, .u (.one (.bs () 6 (List.map (W2 false) f.blocks)))), (23, vI ((List.length f.blocks : Int))), (24, vI st7.1)] [] 0) (fun (y : (Int × Int) ⊕ Unit) => match y with | (Sum.inl j8) => (.ret, St 49 [(4, vI j8.1), (5, vI j8.2)] [] 0) | (Sum.inr j9) => (.exit 0, St 49 [] [] 0)) (vW []) ?_ (by rintro (_ | _) <;> simp) ?_
 intro st7 x hm
 refine yG ?_
 intro _ hm
 refine bS hm (fun hb10 hm => ?_) fun hb10 hm => ?_
 refine yG ?_
 intro k3 hm
 refine nO (K8 T53 rfl (U6 rfl rfl) rfl ?_)
 refine yG ?_
 intro k4 hm
 refine nO (Y4a T3 rfl rfl (by unfold inI; omega) ?_)
 refine yG ?_
 intro k5 hm
 refine bS hm (fun hb15 hm => ?_) fun hb15 hm => ?_
 refine yG ?_
 intro _ hm
 refine nO (Y2m T2 rfl rfl rfl ?_)
 refine yG ?_
 intro _ hm
 cases hm
 exact ⟨rfl, vW []⟩
 refine yG ?_
 intro k6 hm
 cases hm
 exact ⟨rfl, vW []⟩
 refine V2 ?_
 cases hm
 exact ⟨rfl, vW []⟩
 rcases y18 with j8 | j9 <;> simp only at hm
 cases hm
 exact rZt
 refine yG ?_
 intro _ hm
 cases hm
 exact rZt
noncomputable def Z7p (f : GFunc) (id : Int) : Option (GInst × Bool) :=
 (Option.bind (Z2g f id) fun x1 =>
 (Option.bind ((if decide (x1.1 < 0) = true then
 (some true)
 else
 (if 0 ≤ x1.1 ∧ x1.1 < (List.length f.blocks : Int) then
 (some (decide (x1.2 < ((List.length ((at_ f.blocks x1.1).phis) : Int)))))
 else none))) fun (j3 : Bool) =>
 (if j3 = true then
 (some ((({ op_ := 0, w := 0, a := 0, b := 0, c := 0, imm := 0, args := [] } : GInst), false)))
 else
 (if 0 ≤ x1.1 ∧ x1.1 < (List.length f.blocks : Int) then
 (if 0 ≤ x1.1 ∧ x1.1 < (List.length f.blocks : Int) then
 (if 0 ≤ (IntKind.i64.wrap (x1.2 - ((List.length ((at_ f.blocks x1.1).phis) : Int)))) ∧ (IntKind.i64.wrap (x1.2 - ((List.length ((at_ f.blocks x1.1).phis) : Int)))) < (List.length ((at_ f.blocks x1.1).insts) : Int) then
 (some ((({ op_ := (at_ ((at_ f.blocks x1.1).insts) (IntKind.i64.wrap (x1.2 - ((List.length ((at_ f.blocks x1.1).phis) : Int))))).op_, w := (at_ ((at_ f.blocks x1.1).insts) (IntKind.i64.wrap (x1.2 - ((List.length ((at_ f.blocks x1.1).phis) : Int))))).w, a := (at_ ((at_ f.blocks x1.1).insts) (IntKind.i64.wrap (x1.2 - ((List.length ((at_ f.blocks x1.1).phis) : Int))))).a, b := (at_ ((at_ f.blocks x1.1).insts) (IntKind.i64.wrap (x1.2 - ((List.length ((at_ f.blocks x1.1).phis) : Int))))).b, c := (at_ ((at_ f.blocks x1.1).insts) (IntKind.i64.wrap (x1.2 - ((List.length ((at_ f.blocks x1.1).phis) : Int))))).c, imm := (at_ ((at_ f.blocks x1.1).insts) (IntKind.i64.wrap (x1.2 - ((List.length ((at_ f.blocks x1.1).phis) : Int))))).imm, args := (at_ ((at_ f.blocks x1.1).insts) (IntKind.i64.wrap (x1.2 - ((List.length ((at_ f.blocks x1.1).phis) : Int))))).args } : GInst), true)))
 else none)
 else none)
 else none))))
theorem X0j {f : GFunc} {id : Int} {r : GInst × Bool} (hm : Z7p f id = some r) : Sim Tryz.prog 71 [.agg (Z9 false f), .one (.int .i64 id)] [] (.tup [.agg (Q3 false r.1), .one (.bool r.2)]) [] := by
 refine fN 45 0 Tryz.func71 [.cell 4 29, .tmp 5] fun B hB0 => ?_
 have fW := trivial
 unfold Z7p at hm
 refine yG ?_
 intro _ hm
 refine nO (kW ?_)
 refine yG ?_
 intro _ hm
 obtain ⟨x1, h2, hm⟩ := Z0 hm
 refine nO (Z6 (cB (Z8x h2) ?_))
 refine yR ?_
 intro _ hm
 refine W5 ?_
 refine Wp.seq ?_
 refine Wp.seq ?_
 obtain ⟨j3, hj7, hm⟩ := Z0 hm
 refine V6 (St 45 [(2, vP 0), (4, vP 1), (6, vI x1.1), (7, vI x1.2), (26, vB j3)] [(0, oL 3 (Z9 false f)), (1, oL 7 [.int .i64 0, .int .i64 0, .int .i64 0, .int .i64 0, .int .i64 0, .int .i64 0, .nl])] 2) ?_ ?_
 replace hm := hj7
 refine yG ?_
 intro _ hm
 refine bG0 hm (fun hb4 hm => ?_) fun hb4 hm => ?_
 refine yG ?_
 intro k1 hm
 cases hm
 exact vW [0, 1]
 refine yG ?_
 intro _ hm
 cases hm
 exact vW [0, 1]
 refine bS hm (fun hb8 hm => ?_) fun hb8 hm => ?_
 refine yG ?_
 intro _ hm
 cases hm
 exact rZth (hg := f_nl 0 6 1 false rfl rfl rfl)
 refine K3 ?_
 refine Wp.seq ?_
 refine Z3m (Y := sysC _) Z3i ?_
 refine tK 0 1 rfl (kF ?_)
 refine tK 1 1 rfl (kD ?_)
 refine tK 2 0 rfl (kV ?_)
 obtain ⟨h9, hm⟩ := Y1 hm
 refine tK 3 0 rfl (Z8q E25 rfl rfl h9 ?_)
 refine tK 4 0 rfl (Y8z F53_1 rfl ?_)
 refine tK 5 0 rfl (K8 T49 rfl rfl rfl ?_)
 refine tK 6 0 rfl (kV ?_)
 refine tK 7 1 rfl (kF ?_)
 refine tK 8 1 rfl (kD ?_)
 refine tK 9 0 rfl (kV ?_)
 obtain ⟨h10, hm⟩ := Y1 hm
 refine tK 10 0 rfl (Z8q E25 rfl rfl h10 ?_)
 refine tK 11 0 rfl (Y8z W1g rfl ?_)
 refine tK 12 0 rfl (K8 T48 rfl rfl rfl ?_)
 refine tK 13 0 rfl (Y7q N48 rfl fun hL11 => ?_)
 refine tK 14 0 rfl (Y2m T2 rfl rfl rfl ?_)
 obtain ⟨h12, hm⟩ := Y1 hm
 refine tK 15 0 rfl (Z8q E49 rfl rfl h12 ?_)
 refine tK 16 0 rfl (K8 T29 rfl (U6 rfl rfl) rfl ?_)
 refine oK 17 rfl (kS ?_)
 refine tK 18 0 rfl (x_as rfl rfl ?_)
 refine aN ?_
 refine Z1s ?_
 cases hm
 exact rZt
noncomputable def Z2d (op_ : Int) (w : Int) : Int :=
 (if ((!((U3 op_))) || (!((X0 w)))) = true then
 0
 else
 (if decide (op_ ≥ 14) = true then
 1
 else
 w))
theorem Y3y (op_ : Int) (w : Int) : Sim Tryz.prog 167 [.one (.int .i64 op_), .one (.int .i64 w)] [] (.u (.one (.int .i64 ((Z2d op_ w))))) [] := by
 generalize hm : Z2d op_ w = r
 refine fN 18 0 Tryz.func167 [.tmp 4] fun B hB0 => ?_
 unfold Z2d at hm
 refine Wp.seq ?_
 refine X4 ?_
 refine nO (x_as rfl rfl ?_)
 refine W5 ?_
 refine Wp.seq ?_
 refine Wp.block ?_
 refine Wp.seq ?_
 refine V6 (St 18 [(0, vI op_), (1, vI w), (5, vB (((!((U3 op_))) || (!((X0 w))))))] [] 0) ?_ ?_
 refine yG ?_
 intro _ hm
 refine nO (Z6 (cB (Z5h op_) ?_))
 refine yG ?_
 intro _ hm
 refine gO_s rfl rfl rfl (fun hb2 => ?_) (fun hb2 => ?_)
 refine yG ?_
 intro _ hm
 refine gO_t rfl rfl rfl (Z6 (cB (Z1y w) ?_))
 refine yG ?_
 intro _ hm
 exact w_ [] (.cons rfl rfl (.cons rfl rfl (.cons (by simp only [hb2, BO]; rfl) rfl .nil))) .nil (by decide) (hB_0 hB0)
 refine yG ?_
 intro _ hm
 exact w_ [] (.cons rfl rfl (.cons rfl rfl (.cons (by simp only [hb2, BO]; rfl) rfl .nil))) .nil (by decide) (hB_0 hB0)
 refine bS hm (fun hb3 hm => ?_) fun hb3 hm => ?_
 refine yG ?_
 intro _ hm
 cases hm
 exact rZ1
 refine yG ?_
 intro _ hm
 refine bS hm (fun hb4 hm => ?_) fun hb4 hm => ?_
 refine yG ?_
 intro _ hm
 cases hm
 exact rZ1
 refine yG ?_
 intro _ hm
 cases hm
 exact rZ1
noncomputable def Z4c (i : GInst) : Int :=
 (if (U3 i.op_) = true then
 ((Z2d i.op_ i.w))
 else
 (if ((i.op_ == 24) || (i.op_ == 25)) = true then
 0
 else
 i.w))
theorem Y7w (i : GInst) : Sim Tryz.prog 88 [.agg (Q3 false i)] [] (.u (.one (.int .i64 ((Z4c i))))) [] := by
 generalize hm : Z4c i = r
 refine fN 23 0 Tryz.func88 [.tmp 2] fun B hB0 => ?_
 unfold Z4c at hm
 refine yG ?_
 intro _ hm
 refine nO (Z6 (cB (Z5h i.op_) ?_))
 refine yG ?_
 intro _ hm
 refine bS hm (fun hb1 hm => ?_) fun hb1 hm => ?_
 refine yG ?_
 intro _ hm
 refine nO (Z6 (cB (Y3y i.op_ i.w) ?_))
 refine yG ?_
 intro _ hm
 cases hm
 exact rZ1
 refine Wp.seq ?_
 refine V6 (St 23 [(1, vP 0), (12, vB (((i.op_ == 24) || (i.op_ == 25))))] [(0, oL 7 (Q3 false i))] 1) ?_ ?_
 refine yG ?_
 intro _ hm
 refine gO_s rfl rfl rfl (fun hb3 => ?_) (fun hb3 => ?_)
 refine yG ?_
 intro _ hm
 exact w_ [0] (.cons rfl rfl (.cons (by simp only [hb3, BO]; rfl) rfl .nil)) (.lit rfl rfl .nil) (by decide) (hB_0 hB0)
 refine yG ?_
 intro _ hm
 exact w_ [0] (.cons rfl rfl (.cons (by simp only [hb3, BO]; rfl) rfl .nil)) (.lit rfl rfl .nil) (by decide) (hB_0 hB0)
 refine bS hm (fun hb4 hm => ?_) fun hb4 hm => ?_
 refine yG ?_
 intro _ hm
 cases hm
 exact rZ1
 refine yG ?_
 intro _ hm
 cases hm
 exact rZ1
noncomputable def K6 (f : GFunc) (id : Int) : Option Int :=
 (Option.bind (Z2g f id) fun x1 =>
 (if (x1.1 == ((-2))) = true then
 (some ((-1)))
 else
 (if (x1.1 == ((-1))) = true then
 (if 0 ≤ x1.2 ∧ x1.2 < (List.length f.params : Int) then
 (some (at_ f.params x1.2))
 else none)
 else
 (if 0 ≤ x1.1 ∧ x1.1 < (List.length f.blocks : Int) then
 (if decide (x1.2 < ((List.length ((at_ f.blocks x1.1).phis) : Int))) = true then
 (if 0 ≤ x1.1 ∧ x1.1 < (List.length f.blocks : Int) then
 (if 0 ≤ x1.2 ∧ x1.2 < (List.length ((at_ f.blocks x1.1).phis) : Int) then
 (some ((at_ ((at_ f.blocks x1.1).phis) x1.2).w))
 else none)
 else none)
 else
 (Option.bind (Z7p f id) fun x11 =>
 (some ((Z4c x11.1)))))
 else none))))
theorem Z0q {f : GFunc} {id : Int} {r : Int} (hm : K6 f id = some r) : Sim Tryz.prog 30 [.agg (Z9 false f), .one (.int .i64 id)] [] (.u (.one (.int .i64 r))) [] := by
 refine fN 54 0 Tryz.func30 [.tmp 4] fun B hB0 => ?_
 unfold K6 at hm
 refine yG ?_
 intro _ hm
 refine nO (kW ?_)
 refine yG ?_
 intro _ hm
 obtain ⟨x1, h2, hm⟩ := Z0 hm
 refine nO (Z6 (cB (Z8x h2) ?_))
 refine yG ?_
 intro _ hm
 refine bS hm (fun hb3 hm => ?_) fun hb3 hm => ?_
 refine yG ?_
 intro _ hm
 cases hm
 exact rZ1
 refine yG ?_
 intro _ hm
 refine bS hm (fun hb4 hm => ?_) fun hb4 hm => ?_
 refine yG ?_
 intro k1 hm
 cases hm
 exact rZ1
 refine yG ?_
 intro k2 hm
 refine bS hm (fun hb8 hm => ?_) fun hb8 hm => ?_
 refine yG ?_
 intro k3 hm
 cases hm
 exact rZ1
 refine yG ?_
 intro _ hm
 refine nO (kW ?_)
 refine yG ?_
 intro _ hm
 obtain ⟨x11, h12, hm⟩ := Z0 hm
 refine nO (cG [] (X0j h12) ?_)
 refine yG ?_
 intro _ hm
 refine nO (kW ?_)
 refine nO (Z6 (cB (Y7w x11.1) ?_))
 refine yG ?_
 intro _ hm
 cases hm
 exact rZ1
noncomputable def Z2y (id : Int) (a : GFunc) (aq : GPhi) : Option Bool :=
 (Option.bind (K6 a id) fun x1 =>
 (some ((x1 != aq.w))))
theorem Y4j {id : Int} {a : GFunc} {aq : GPhi} {r : Bool} (hm : Z2y id a aq = some r) : Sim Tryz.prog 211 [.one (.int .i64 id), .one (.ip () (Z9 false a)), .one (.ip () (ePhi false aq))] [] (.u (.one (.bool r))) [] := by
 refine fN 11 0 Tryz.func211 [.tmp 4] fun B hB0 => ?_
 unfold Z2y at hm
 refine Wp.seq ?_
 refine X4 ?_
 refine nO (x_as rfl rfl ?_)
 refine W5 ?_
 refine Wp.seq ?_
 refine Z3m (Y := sysC _) Z3i ?_
 refine tK 0 0 rfl (K8 T27 rfl (U6 rfl rfl) rfl ?_)
 refine tK 1 0 rfl (kV ?_)
 refine tK 3 0 rfl (Y8z F55_0 rfl ?_)
 refine tK 4 0 rfl (K8 T2 rfl rfl rfl ?_)
 obtain ⟨x1, h2, hm⟩ := Z0 hm
 refine oK 2 rfl (cB (Z0q h2) ?_)
 refine tK 5 0 rfl (Z2n T2 rfl rfl rfl ?_)
 refine tK 6 0 rfl (x_as rfl rfl ?_)
 refine aN ?_
 refine Z1s ?_
 cases hm
 exact rZ1
noncomputable def V1 (id : Int) (w : Int) (a : GFunc) : Option Bool :=
 (Option.bind (K6 a id) fun x1 =>
 (some ((x1 == w))))
theorem J0 {id : Int} {w : Int} {a : GFunc} {r : Bool} (hm : V1 id w a = some r) : Sim Tryz.prog 248 [.one (.int .i64 id), .one (.int .i64 w), .one (.ip () (Z9 false a))] [] (.u (.one (.bool r))) [] := by
 refine fN 11 0 Tryz.func248 [.tmp 5] fun B hB0 => ?_
 unfold V1 at hm
 refine yG ?_
 intro _ hm
 refine nO (K8 T27 rfl (U6 rfl rfl) rfl ?_)
 refine yG ?_
 intro _ hm
 obtain ⟨x1, h2, hm⟩ := Z0 hm
 refine nO (Z6 (cB (Z0q h2) ?_))
 refine yG ?_
 intro _ hm
 cases hm
 exact ret0 (us' := [.one (.bool ((x1 == w)))]) rfl (Y9s rfl rfl rfl Y9t) X0r rfl rfl
noncomputable def Z4v (f : GFunc) (i : GInst) : Option Bool :=
 (Option.bind (K6 f i.a) fun x1 =>
 (if (U3 i.op_) = true then
 (Option.bind ((Option.bind (V1 i.a i.w f) fun x5 =>
 (if x5 = true then
 (Option.bind (V1 i.b i.w f) fun x8 =>
 (some x8))
 else
 (some false)))) fun (j4 : Bool) =>
 (some j4))
 else
 (if (i.op_ == 27) = true then
 (Option.bind (V1 i.a i.w f) fun x12 =>
 (some x12))
 else
 (if ((i.op_ == 18) || (i.op_ == 19)) = true then
 (some (((x1 != 0) && decide (x1 < i.w))))
 else
 (if (i.op_ == 20) = true then
 (some (decide (x1 > i.w)))
 else
 (if (i.op_ == 22) = true then
 (Option.bind ((Option.bind (V1 i.a 1 f) fun x22 =>
 (if x22 = true then
 (Option.bind (V1 i.b i.w f) fun x25 =>
 (if x25 = true then
 (Option.bind (V1 i.c i.w f) fun x28 =>
 (some x28))
 else
 (some false)))
 else
 (some false)))) fun (j21 : Bool) =>
 (some j21))
 else
 (if (i.op_ == 23) = true then
 (Option.bind (V1 i.a 32 f) fun x32 =>
 (some x32))
 else
 (if (i.op_ == 24) = true then
 (Option.bind ((Option.bind (V1 i.a 32 f) fun x36 =>
 (if x36 = true then
 (Option.bind (V1 i.b 8 f) fun x39 =>
 (some x39))
 else
 (some false)))) fun (j35 : Bool) =>
 (some j35))
 else
 (if (i.op_ == 25) = true then
 (some ((x1 != 0)))
 else
 (some true))))))))))
theorem Y7b {f : GFunc} {i : GInst} {r : Bool} (hm : Z4v f i = some r) : Sim Tryz.prog 213 [.agg (Z9 false f), .agg (Q3 false i)] [] (.u (.one (.bool r))) [] := by
 refine fN 117 0 Tryz.func213 [.tmp 4] fun B hB0 => ?_
 unfold Z4v at hm
 refine yG ?_
 intro _ hm
 refine nO (x_mf (ls := [.ptr () 0 0 0]) rfl ?_)
 refine yG ?_
 intro _ hm
 refine nO (kW ?_)
 refine yG ?_
 intro _ hm
 obtain ⟨x1, h2, hm⟩ := Z0 hm
 refine nO (Z6 (cB (Z0q h2) ?_))
 refine yG ?_
 intro _ hm
 refine nO (Z6 (cB (Z5h i.op_) ?_))
 refine yG ?_
 intro _ hm
 refine bS hm (fun hb3 hm => ?_) fun hb3 hm => ?_
 refine Wp.seq ?_
 obtain ⟨j4, hj10, hm⟩ := Z0 hm
 refine V6 (St 117 [(4, vB j4)] [] 0) ?_ ?_
 replace hm := hj10
 refine yG ?_
 intro _ hm
 obtain ⟨x5, h6, hm⟩ := Z0 hm
 refine nO (Z6 (Z0e (v := .u (.one (.bool x5))) (nobs := []) (oa' := _) (nx' := 2) rfl (a_1 rfl (b_s rfl) (a_1 rfl (b_s rfl) a_n)) (c_c (b_p rfl (Z8z rfl) rfl) c_n) EntC.h (J0 h6) rfl rfl rfl rfl ?_))
 refine yG ?_
 intro _ hm
 refine bG1 hm (fun hb7 hm => ?_) fun hb7 hm => ?_
 refine yG ?_
 intro _ hm
 obtain ⟨x8, h9, hm⟩ := Z0 hm
 refine gO_t rfl rfl rfl (Z6 (Z0e (v := .u (.one (.bool x8))) (nobs := []) (oa' := _) (nx' := 2) rfl (a_1 rfl (b_s rfl) (a_1 rfl (b_s rfl) a_n)) (c_c (b_p rfl (Z8z rfl) rfl) c_n) EntC.h (J0 h9) rfl rfl rfl rfl ?_))
 refine yG ?_
 intro _ hm
 cases hm
 exact vW []
 refine yG ?_
 intro _ hm
 cases hm
 exact vW []
 refine Z1s ?_
 cases hm
 exact rZ1
 refine yG ?_
 intro _ hm
 refine bS hm (fun hb11 hm => ?_) fun hb11 hm => ?_
 refine yG ?_
 intro _ hm
 obtain ⟨x12, h13, hm⟩ := Z0 hm
 refine nO (Z6 (Z0e (v := .u (.one (.bool x12))) (nobs := []) (oa' := _) (nx' := 2) rfl (a_1 rfl (b_s rfl) (a_1 rfl (b_s rfl) a_n)) (c_c (b_p rfl (Z8z rfl) rfl) c_n) EntC.h (J0 h13) rfl rfl rfl rfl ?_))
 refine yG ?_
 intro _ hm
 cases hm
 exact rZ1
 refine Wp.seq ?_
 refine V6 (St 117 [(3, vP 0), (5, .u (.one (.fn () 248 [.ptr () 1 0 0]))), (6, vI x1), (40, vB (((i.op_ == 18) || (i.op_ == 19))))] [(0, oL 7 (Q3 false i)), (1, oL 3 (Z9 false f))] 2) ?_ ?_
 refine yG ?_
 intro _ hm
 refine gO_s rfl rfl rfl (fun hb15 => ?_) (fun hb15 => ?_)
 refine yG ?_
 intro _ hm
 exact w_ [1, 0] (.cons rfl rfl (.cons rfl rfl (.cons rfl rfl (.cons (by simp only [hb15, BO]; rfl) rfl .nil)))) (.lit rfl rfl (.lit rfl rfl .nil)) (by decide) (hB_0 hB0)
 refine yG ?_
 intro _ hm
 exact w_ [1, 0] (.cons rfl rfl (.cons rfl rfl (.cons rfl rfl (.cons (by simp only [hb15, BO]; rfl) rfl .nil)))) (.lit rfl rfl (.lit rfl rfl .nil)) (by decide) (hB_0 hB0)
 refine bS hm (fun hb16 hm => ?_) fun hb16 hm => ?_
 refine Wp.seq ?_
 refine V6 (St 117 [(4, vB (((x1 != 0) && decide (x1 < i.w))))] [] 0) ?_ ?_
 refine yG ?_
 intro _ hm
 refine gO_s rfl rfl rfl (fun hb18 => ?_) (fun hb18 => ?_)
 refine yG ?_
 intro _ hm
 exact w_ [] (.cons (by simp only [hb18, BO]; rfl) rfl .nil) .nil (by decide) (hB_0 hB0)
 refine yG ?_
 intro _ hm
 exact w_ [] (.cons (by simp only [hb18, BO]; rfl) rfl .nil) .nil (by decide) (hB_0 hB0)
 refine Z1s ?_
 cases hm
 exact rZ1
 refine yG ?_
 intro _ hm
 refine bS hm (fun hb19 hm => ?_) fun hb19 hm => ?_
 refine yG ?_
 intro _ hm
 cases hm
 exact rZ1
 refine yG ?_
 intro _ hm
 refine bS hm (fun hb20 hm => ?_) fun hb20 hm => ?_
 refine Wp.seq ?_
 obtain ⟨j21, hj30, hm⟩ := Z0 hm
 refine V6 (St 117 [(4, vB j21)] [] 0) ?_ ?_
 replace hm := hj30
 refine yG ?_
 intro _ hm
 obtain ⟨x22, h23, hm⟩ := Z0 hm
 refine nO (Z6 (Z0e (v := .u (.one (.bool x22))) (nobs := []) (oa' := _) (nx' := 2) rfl (a_1 rfl (b_s rfl) (a_1 rfl (b_s rfl) a_n)) (c_c (b_p rfl (Z8z rfl) rfl) c_n) EntC.h (J0 h23) rfl rfl rfl rfl ?_))
 refine yG ?_
 intro _ hm
 refine bG1 hm (fun hb24 hm => ?_) fun hb24 hm => ?_
 refine yG ?_
 intro _ hm
 obtain ⟨x25, h26, hm⟩ := Z0 hm
 refine gO_t rfl rfl rfl (Z6 (Z0e (v := .u (.one (.bool x25))) (nobs := []) (oa' := _) (nx' := 2) rfl (a_1 rfl (b_s rfl) (a_1 rfl (b_s rfl) a_n)) (c_c (b_p rfl (Z8z rfl) rfl) c_n) EntC.h (J0 h26) rfl rfl rfl rfl ?_))
 refine yG ?_
 intro _ hm
 refine bG1 hm (fun hb27 hm => ?_) fun hb27 hm => ?_
 refine yG ?_
 intro _ hm
 obtain ⟨x28, h29, hm⟩ := Z0 hm
 refine gO_t rfl rfl rfl (Z6 (Z0e (v := .u (.one (.bool x28))) (nobs := []) (oa' := _) (nx' := 2) rfl (a_1 rfl (b_s rfl) (a_1 rfl (b_s rfl) a_n)) (c_c (b_p rfl (Z8z rfl) rfl) c_n) EntC.h (J0 h29) rfl rfl rfl rfl ?_))
 refine yG ?_
 intro _ hm
 cases hm
 exact vW []
 refine yG ?_
 intro _ hm
 cases hm
 exact vW []
 refine yG ?_
 intro _ hm
 cases hm
 exact vW []
 refine Z1s ?_
 cases hm
 exact rZ1
 refine yG ?_
 intro _ hm
 refine bS hm (fun hb31 hm => ?_) fun hb31 hm => ?_
 refine yG ?_
 intro _ hm
 obtain ⟨x32, h33, hm⟩ := Z0 hm
 refine nO (Z6 (Z0e (v := .u (.one (.bool x32))) (nobs := []) (oa' := _) (nx' := 2) rfl (a_1 rfl (b_s rfl) (a_1 rfl (b_s rfl) a_n)) (c_c (b_p rfl (Z8z rfl) rfl) c_n) EntC.h (J0 h33) rfl rfl rfl rfl ?_))
 refine yG ?_
 intro _ hm
 cases hm
 exact rZ1
 refine yG ?_
 intro _ hm
 refine bS hm (fun hb34 hm => ?_) fun hb34 hm => ?_
 refine Wp.seq ?_
 obtain ⟨j35, hj41, hm⟩ := Z0 hm
 refine V6 (St 117 [(4, vB j35)] [] 0) ?_ ?_
 replace hm := hj41
 refine yG ?_
 intro _ hm
 obtain ⟨x36, h37, hm⟩ := Z0 hm
 refine nO (Z6 (Z0e (v := .u (.one (.bool x36))) (nobs := []) (oa' := _) (nx' := 2) rfl (a_1 rfl (b_s rfl) (a_1 rfl (b_s rfl) a_n)) (c_c (b_p rfl (Z8z rfl) rfl) c_n) EntC.h (J0 h37) rfl rfl rfl rfl ?_))
 refine yG ?_
 intro _ hm
 refine bG1 hm (fun hb38 hm => ?_) fun hb38 hm => ?_
 refine yG ?_
 intro _ hm
 obtain ⟨x39, h40, hm⟩ := Z0 hm
 refine gO_t rfl rfl rfl (Z6 (Z0e (v := .u (.one (.bool x39))) (nobs := []) (oa' := _) (nx' := 2) rfl (a_1 rfl (b_s rfl) (a_1 rfl (b_s rfl) a_n)) (c_c (b_p rfl (Z8z rfl) rfl) c_n) EntC.h (J0 h40) rfl rfl rfl rfl ?_))
 refine yG ?_
 intro _ hm
 cases hm
 exact vW []
 refine yG ?_
 intro _ hm
 cases hm
 exact vW []
 refine Z1s ?_
 cases hm
 exact rZ1
 refine yG ?_
 intro _ hm
 refine bS hm (fun hb42 hm => ?_) fun hb42 hm => ?_
 refine yG ?_
 intro _ hm
 cases hm
 exact rZ1
 refine yG ?_
 intro _ hm
 cases hm
 exact rZ1
noncomputable def Z2x (i : GInst) (a : GFunc) : Option Bool :=
 (Option.bind (Z4v a i) fun x1 =>
 (some ((!x1))))
theorem Y4i {i : GInst} {a : GFunc} {r : Bool} (hm : Z2x i a = some r) : Sim Tryz.prog 212 [.agg (Q3 false i), .one (.ip () (Z9 false a))] [] (.u (.one (.bool r))) [] := by
 refine fN 8 0 Tryz.func212 [.tmp 3] fun B hB0 => ?_
 unfold Z2x at hm
 refine yG ?_
 intro _ hm
 refine nO (K8 T27 rfl (U6 rfl rfl) rfl ?_)
 refine nO (kW ?_)
 obtain ⟨x1, h2, hm⟩ := Z0 hm
 refine nO (Z6 (cB (Y7b h2) ?_))
 refine yG ?_
 intro _ hm
 cases hm
 exact rZ1
noncomputable def Z4u (f : GFunc) : Option Bool :=
 (Option.bind (Y6 (fun (st2 : Int) =>
 ((if decide (st2 < ((List.length f.blocks : Int))) = true then
 (if 0 ≤ st2 ∧ st2 < (List.length f.blocks : Int) then
 (Option.bind (Y6 (fun (st8 : Int) =>
 ((if decide (st8 < ((List.length ((at_ f.blocks st2).phis) : Int))) = true then
 (if 0 ≤ st8 ∧ st8 < (List.length ((at_ f.blocks st2).phis) : Int) then
 (Option.bind (Z8 ((at_ ((at_ f.blocks st2).phis) st8).ins) ((fun z0 => Z2y z0 f (at_ ((at_ f.blocks st2).phis) st8)))) fun x13 =>
 (if x13 = true then
 (some (Sum.inr ((Sum.inl (())))))
 else
 (if inI (st8 + 1) then
 (some (Sum.inl (st8 + 1)))
 else none)))
 else none)
 else
 (some (Sum.inr ((Sum.inr (())))))) : Option ((Int) ⊕ (Unit ⊕ Unit)))) 0) fun (y17 : Unit ⊕ Unit) => match y17 with
 | (Sum.inl j9) =>
 (some (Sum.inr ((Sum.inl (())))))
 | (Sum.inr j10) =>
 (Option.bind (Y2 ((at_ f.blocks st2).insts) ((fun z0 => Z2x z0 f))) fun x19 =>
 (if x19 = true then
 (some (Sum.inr ((Sum.inl (())))))
 else
 (Option.bind ((if (((((at_ f.blocks st2).term)).kind) == 1) = true then
 (Option.bind (K6 f ((((at_ f.blocks st2).term)).a)) fun x24 =>
 (if (x24 != f.ret) = true then
 (some true)
 else
 (if (((((at_ f.blocks st2).term)).kind) == 3) = true then
 (Option.bind (K6 f ((((at_ f.blocks st2).term)).a)) fun x28 =>
 (some ((x28 != 1))))
 else
 (some false))))
 else
 (if (((((at_ f.blocks st2).term)).kind) == 3) = true then
 (Option.bind (K6 f ((((at_ f.blocks st2).term)).a)) fun x31 =>
 (some ((x31 != 1))))
 else
 (some false)))) fun (j22 : Bool) =>
 (if j22 = true then
 (some (Sum.inr ((Sum.inl (())))))
 else
 (if inI (st2 + 1) then
 (some (Sum.inl (st2 + 1)))
 else none))))))
 else none)
 else
 (some (Sum.inr ((Sum.inr (())))))) : Option ((Int) ⊕ (Unit ⊕ Unit)))) 0) fun (y36 : Unit ⊕ Unit) => match y36 with
 | (Sum.inl j3) =>
 (some false)
 | (Sum.inr j4) =>
 (some true))
theorem Y7a {f : GFunc} {r : Bool} (hm : Z4u f = some r) : Sim Tryz.prog 145 [.agg (Z9 false f)] [] (.u (.one (.bool r))) [] := by
 refine fN 58 0 Tryz.func145 [.tmp 2] fun B hB0 => ?_
 unfold Z4u at hm
 refine yG ?_
 intro k1 hm
 obtain ⟨y36, hl37, hm⟩ := Z0 hm
 refine J6 hl37 (fun (st2 : Int) => St 58 [(1, vP 0), (9, .u (.one (.bs () 6 (List.map (W2 false) f.blocks)))), (10, vI ((List.length f.blocks : Int))), (11, vI st2)] [(0, oL 3 (Z9 false f))] 1) (fun (y : Unit ⊕ Unit) => match y with | (Sum.inl j3) => (.ret, St 58 [(2, vB false)] [] 0) | (Sum.inr j4) => (.exit 0, St 58 [] [] 0)) (vW [0]) ?_ (by rintro (_ | _) <;> simp) ?_
 intro st2 x hm
 refine yG ?_
 intro _ hm
 refine bS hm (fun hb5 hm => ?_) fun hb5 hm => ?_
 refine yG ?_
 intro k2 hm
 refine nO (K8 T53 rfl (U6 rfl rfl) rfl ?_)
 refine yG ?_
 intro k3 hm
 obtain ⟨y17, hl18, hm⟩ := Z0 hm
 refine J6 hl18 (fun (st8 : Int) => St 58 [(1, vP 0), (9, .u (.one (.bs () 6 (List.map (W2 false) f.blocks)))), (10, vI ((List.length f.blocks : Int))), (11, vI st2), (4, vP 1), (16, .u (.one (.bs () 2 (List.map (ePhi false) ((at_ f.blocks st2).phis))))), (17, vI ((List.length ((at_ f.blocks st2).phis) : Int))), (18, vI st8)] [(0, oL 3 (Z9 false f)), (1, oL 6 (W2 false (at_ f.blocks st2)))] 2) (fun (y : Unit ⊕ Unit) => match y with | (Sum.inl j9) => (.ret, St 58 [(2, vB false)] [] 0) | (Sum.inr j10) => (.exit 2, St 58 [(1, vP 0), (9, .u (.one (.bs () 6 (List.map (W2 false) f.blocks)))), (10, vI ((List.length f.blocks : Int))), (11, vI st2), (4, vP 1)] [(0, oL 3 (Z9 false f)), (1, oL 6 (W2 false (at_ f.blocks st2)))] 2)) (vW [0, 1]) ?_ (by rintro (_ | _) <;> simp) ?_
 intro st8 x hm
 refine yG ?_
 intro _ hm
 refine bS hm (fun hb11 hm => ?_) fun hb11 hm => ?_
 refine yG ?_
 intro k4 hm
 refine nO (K8 T55 rfl (U6 rfl rfl) rfl ?_)
 refine yG ?_
 intro _ hm
 refine nO (x_mf (ls := [.ptr () 0 0 0, .ptr () 2 0 0]) rfl ?_)
 obtain ⟨x13, h14, hm⟩ := Z0 hm
 refine nO (Z6 (Z0e (v := .u (.one (.bool x13))) (nobs := []) (oa' := _) (nx' := 3) rfl (a_1 rfl (b_s rfl) (a_1 rfl (b_f (c_c (b_p rfl (Z8z rfl) rfl) (c_c (b_p rfl (Z8z rfl) rfl) c_n))) a_n)) c_n EntC.h (X6 ((at_ ((at_ f.blocks st2).phis) st8).ins) 211 [.ip () (Z9 false f), .ip () (ePhi false (at_ ((at_ f.blocks st2).phis) st8))] (fun z0 => Z2y z0 f (at_ ((at_ f.blocks st2).phis) st8)) EntC.h rfl (fun z0 y hy => Y4j hy) h14) rfl rfl rfl rfl ?_))
 refine W5 ?_
 refine bS hm (fun hb15 hm => ?_) fun hb15 hm => ?_
 refine yG ?_
 intro _ hm
 cases hm
 exact ⟨rfl, vW []⟩
 refine yG ?_
 intro k5 hm
 cases hm
 exact ⟨rfl, vW [0, 1]⟩
 refine V2 ?_
 cases hm
 exact ⟨rfl, vW [0, 1]⟩
 rcases y17 with j9 | j10 <;> simp only at hm
 cases hm
 exact ⟨rfl, vW []⟩
 refine yG ?_
 intro _ hm
 refine nO (x_mf (ls := [.ptr () 0 0 0]) rfl ?_)
 obtain ⟨x19, h20, hm⟩ := Z0 hm
 refine nO (Z6 (Z0e (v := .u (.one (.bool x19))) (nobs := []) (oa' := _) (nx' := 2) rfl (a_1 rfl (b_s rfl) (a_1 rfl (b_f (c_c (b_p rfl (Z8z rfl) rfl) c_n)) a_n)) c_n EntC.h (U9 ((at_ f.blocks st2).insts) 212 [.ip () (Z9 false f)] (fun z0 => Z2x z0 f) EntC.h rfl (fun z0 y hy => Y4i hy) h20) rfl rfl rfl rfl ?_))
 refine W5 ?_
 refine bS hm (fun hb21 hm => ?_) fun hb21 hm => ?_
 refine yG ?_
 intro _ hm
 cases hm
 exact ⟨rfl, vW []⟩
 refine yG ?_
 intro _ hm
 refine nO (kL (.agg (Y3z (((at_ f.blocks st2).term)))) ?_)
 refine yR ?_
 intro _ hm
 refine W5 ?_
 refine Wp.seq ?_
 obtain ⟨j22, hj33, hm⟩ := Z0 hm
 refine V6 (St 58 [(1, vP 0), (9, .u (.one (.bs () 6 (List.map (W2 false) f.blocks)))), (10, vI ((List.length f.blocks : Int))), (11, vI st2), (56, vB j22)] [(0, oL 3 (Z9 false f))] 1) ?_ ?_
 replace hm := hj33
 refine Z3m (Y := sysC _) Z3i ?_
 refine tK 0 1 rfl (kF ?_)
 refine tK 1 1 rfl (kD ?_)
 refine tK 2 0 rfl (Z2n T2 rfl rfl rfl ?_)
 refine tK 3 0 rfl (kV ?_)
 refine bT 36 hm (fun hb23 hm => ?_) fun hb23 hm => ?_
 refine tG 4 1 rfl (kW ?_)
 refine tG 5 1 rfl (kF ?_)
 refine tG 6 1 rfl (kD ?_)
 refine tG 8 1 rfl (kF ?_)
 refine tG 9 1 rfl (kD ?_)
 obtain ⟨x24, h25, hm⟩ := Z0 hm
 refine oG 7 rfl (cB (Z0q h25) ?_)
 refine tG 10 0 rfl (Z2n T2 rfl rfl rfl ?_)
 refine tK 11 0 rfl (x_pk rfl rfl rfl ?_)
 refine tK 12 0 rfl (kV ?_)
 refine bT 45 hm (fun hb26 hm => ?_) fun hb26 hm => ?_
 refine tF 13 rfl ?_
 refine tF 14 rfl ?_
 refine tF 15 rfl ?_
 refine tF 16 rfl ?_
 refine t_u 17 rfl (by decide +kernel) rfl rfl rfl ?_
 refine t_u 18 rfl (by decide +kernel) rfl rfl rfl ?_
 refine t_u 19 rfl (by decide +kernel) rfl rfl rfl ?_
 refine t_u 20 rfl (by decide +kernel) rfl rfl rfl ?_
 refine t_u 21 rfl (by decide +kernel) rfl rfl rfl ?_
 refine tF 22 rfl ?_
 refine tK 23 0 rfl (x_pk rfl rfl rfl ?_)
 refine aN ?_
 cases hm
 exact vW [0]
 refine tG 13 1 rfl (kF ?_)
 refine tG 14 1 rfl (kD ?_)
 refine tG 15 0 rfl (Z2n T2 rfl rfl rfl ?_)
 refine tG 16 0 rfl (kV ?_)
 refine bT 49 hm (fun hb27 hm => ?_) fun hb27 hm => ?_
 refine tG 17 1 rfl (kW ?_)
 refine tG 18 1 rfl (kF ?_)
 refine tG 19 1 rfl (kD ?_)
 obtain ⟨x28, h29, hm⟩ := Z0 hm
 refine oG 20 rfl (cB (Z0q h29) ?_)
 refine tG 21 0 rfl (Z2n T2 rfl rfl rfl ?_)
 refine tG 22 0 rfl (x_pk rfl rfl rfl ?_)
 refine tK 23 0 rfl (x_pk rfl rfl rfl ?_)
 refine aN ?_
 cases hm
 exact vW [0]
 refine tF 17 rfl ?_
 refine tF 18 rfl ?_
 refine tF 19 rfl ?_
 refine tF 20 rfl ?_
 refine tF 21 rfl ?_
 refine tG 22 0 rfl (x_pk rfl rfl rfl ?_)
 refine tK 23 0 rfl (x_pk rfl rfl rfl ?_)
 refine aN ?_
 cases hm
 exact vW [0]
 refine tF 4 rfl ?_
 refine tF 5 rfl ?_
 refine tF 6 rfl ?_
 refine tF 7 rfl ?_
 refine tF 8 rfl ?_
 refine tF 9 rfl ?_
 refine tF 10 rfl ?_
 refine tK 11 0 rfl (x_pk rfl rfl rfl ?_)
 refine tK 12 0 rfl (kV ?_)
 refine tG 13 1 rfl (kF ?_)
 refine tG 14 1 rfl (kD ?_)
 refine tG 15 0 rfl (Z2n T2 rfl rfl rfl ?_)
 refine tG 16 0 rfl (kV ?_)
 refine bT 49 hm (fun hb30 hm => ?_) fun hb30 hm => ?_
 refine tG 17 1 rfl (kW ?_)
 refine tG 18 1 rfl (kF ?_)
 refine tG 19 1 rfl (kD ?_)
 obtain ⟨x31, h32, hm⟩ := Z0 hm
 refine oG 20 rfl (cB (Z0q h32) ?_)
 refine tG 21 0 rfl (Z2n T2 rfl rfl rfl ?_)
 refine tG 22 0 rfl (x_pk rfl rfl rfl ?_)
 refine tK 23 0 rfl (x_pk rfl rfl rfl ?_)
 refine aN ?_
 cases hm
 exact vW [0]
 refine tF 17 rfl ?_
 refine tF 18 rfl ?_
 refine tF 19 rfl ?_
 refine tF 20 rfl ?_
 refine tF 21 rfl ?_
 refine tG 22 0 rfl (x_pk rfl rfl rfl ?_)
 refine tK 23 0 rfl (x_pk rfl rfl rfl ?_)
 refine aN ?_
 cases hm
 exact vW [0]
 refine bS hm (fun hb34 hm => ?_) fun hb34 hm => ?_
 refine yG ?_
 intro _ hm
 cases hm
 exact ⟨rfl, vW []⟩
 refine yG ?_
 intro k6 hm
 cases hm
 exact ⟨rfl, vW [0]⟩
 refine V2 ?_
 cases hm
 exact ⟨rfl, vW []⟩
 rcases y36 with j3 | j4 <;> simp only at hm
 cases hm
 exact rZ1
 refine yG ?_
 intro _ hm
 cases hm
 exact rZ1
noncomputable def Z7n (m : GModule) (f : GFunc) (i : GInst) : Option Bool :=
 (if 0 ≤ i.imm ∧ i.imm < (List.length m.funcs : Int) then
 (if (if (i.w != ((at_ m.funcs i.imm).ret)) = true then true else (((List.length i.args : Int)) != ((List.length ((at_ m.funcs i.imm).params) : Int)))) = true then
 (some false)
 else
 (Option.bind (Y6 (fun (st8 : Int) =>
 ((if decide (st8 < ((List.length i.args : Int))) = true then
 (if 0 ≤ st8 ∧ st8 < (List.length i.args : Int) then
 (if 0 ≤ st8 ∧ st8 < (List.length ((at_ m.funcs i.imm).params) : Int) then
 (Option.bind (K6 f (at_ i.args st8)) fun x14 =>
 (if (x14 != (at_ ((at_ m.funcs i.imm).params) st8)) = true then
 (some (Sum.inr ((Sum.inl (())))))
 else
 (if inI (st8 + 1) then
 (some (Sum.inl (st8 + 1)))
 else none)))
 else none)
 else none)
 else
 (some (Sum.inr ((Sum.inr (())))))) : Option ((Int) ⊕ (Unit ⊕ Unit)))) 0) fun (y18 : Unit ⊕ Unit) => match y18 with
 | (Sum.inl j9) =>
 (some false)
 | (Sum.inr j10) =>
 (some true)))
 else none)
theorem X0i {m : GModule} {f : GFunc} {i : GInst} {r : Bool} (hm : Z7n m f i = some r) : Sim Tryz.prog 148 [.agg (K7 false m), .agg (Z9 false f), .agg (Q3 false i)] [] (.u (.one (.bool r))) [] := by
 refine fN 48 0 Tryz.func148 [.tmp 6] fun B hB0 => ?_
 unfold Z7n at hm
 refine yG ?_
 intro k1 hm
 refine nO (K8 T27 rfl (U6 rfl rfl) rfl ?_)
 refine yR ?_
 intro _ hm
 refine W5 ?_
 refine Wp.seq ?_
 refine Wp.seq ?_
 refine V6 (St 48 [(4, vP 0), (5, vP 1), (7, vP 2), (29, vB ((if (i.w != ((at_ m.funcs i.imm).ret)) = true then true else (((List.length i.args : Int)) != ((List.length ((at_ m.funcs i.imm).params) : Int))))))] [(0, oL 3 (Z9 false f)), (1, oL 7 (Q3 false i)), (2, oL 3 (Z9 false (at_ m.funcs i.imm)))] 3) ?_ ?_
 refine yG ?_
 intro _ hm
 refine gO_s rfl rfl rfl (fun hb3 => ?_) (fun hb3 => ?_)
 refine yG ?_
 intro k2 hm
 exact w_ [1, 2, 3] (.cons rfl rfl (.cons rfl rfl (.cons rfl rfl (.cons (by simp only [hb3, BO]; rfl) rfl .nil)))) (.lit rfl rfl (.lit rfl rfl (.lit rfl rfl .nil))) (by decide) (hB_0 hB0)
 refine yG ?_
 intro _ hm
 exact w_ [1, 2, 3] (.cons rfl rfl (.cons rfl rfl (.cons rfl rfl (.cons (by simp only [hb3, BO]; rfl) rfl .nil)))) (.lit rfl rfl (.lit rfl rfl (.lit rfl rfl .nil))) (by decide) (hB_0 hB0)
 refine bS hm (fun hb6 hm => ?_) fun hb6 hm => ?_
 refine yG ?_
 intro _ hm
 cases hm
 exact rZ1
 refine yG ?_
 intro k3 hm
 obtain ⟨y18, hl19, hm⟩ := Z0 hm
 refine J6 hl19 (fun (st8 : Int) => St 48 [(4, vP 0), (7, vP 1), (31, .u (.one (.bs () 1 (List.map iL i.args)))), (32, vI ((List.length i.args : Int))), (33, vI st8)] [(0, oL 3 (Z9 false f)), (1, oL 3 (Z9 false (at_ m.funcs i.imm)))] 2) (fun (y : Unit ⊕ Unit) => match y with | (Sum.inl j9) => (.ret, St 48 [(6, vB false)] [] 0) | (Sum.inr j10) => (.exit 0, St 48 [] [] 0)) (vW [0, 2]) ?_ (by rintro (_ | _) <;> simp) ?_
 intro st8 x hm
 refine yG ?_
 intro _ hm
 refine bS hm (fun hb11 hm => ?_) fun hb11 hm => ?_
 refine K3 ?_
 refine Wp.seq ?_
 refine Wp.block ?_
 refine Wp.seq ?_
 refine X4 ?_
 refine yR ?_
 intro k4 hm
 refine W5 ?_
 refine Wp.seq ?_
 refine Z3m (Y := sysC _) Z3i ?_
 refine tK 0 1 rfl (kW ?_)
 refine tK 1 0 rfl (kV ?_)
 refine tK 3 1 rfl (kF ?_)
 refine tK 4 1 rfl (kD ?_)
 refine tK 5 0 rfl (kV ?_)
 obtain ⟨h13, hm⟩ := Y1 hm
 refine tK 6 0 rfl (Z8q E24 rfl rfl h13 ?_)
 refine tK 7 0 rfl (K8 T2 rfl rfl rfl ?_)
 obtain ⟨x14, h15, hm⟩ := Z0 hm
 refine oK 2 rfl (cB (Z0q h15) ?_)
 refine tK 8 0 rfl (Z2n T2 rfl rfl rfl ?_)
 refine aN ?_
 refine bS hm (fun hb16 hm => ?_) fun hb16 hm => ?_
 refine yG ?_
 intro _ hm
 cases hm
 exact ⟨rfl, vW []⟩
 refine yG ?_
 intro k5 hm
 cases hm
 exact ⟨rfl, vW [0, 1]⟩
 refine V2 ?_
 cases hm
 exact ⟨rfl, vW []⟩
 rcases y18 with j9 | j10 <;> simp only at hm
 cases hm
 exact rZ1
 refine yG ?_
 intro _ hm
 cases hm
 exact rZ1
noncomputable def Z3v (i : GInst) (a : GModule) (aq : GFunc) : Option Bool :=
 (Option.bind ((if (i.op_ == 26) = true then
 (Option.bind (Z7n a aq i) fun x3 =>
 (some ((!x3))))
 else
 (some false))) fun (j1 : Bool) =>
 (some j1))
theorem Y5n {i : GInst} {a : GModule} {aq : GFunc} {r : Bool} (hm : Z3v i a aq = some r) : Sim Tryz.prog 147 [.agg (Q3 false i), .one (.ip () (K7 false a)), .one (.ip () (Z9 false aq))] [] (.u (.one (.bool r))) [] := by
 refine fN 15 0 Tryz.func147 [.tmp 4] fun B hB0 => ?_
 unfold Z3v at hm
 refine Wp.seq ?_
 refine X4 ?_
 refine yR ?_
 intro _ hm
 refine W5 ?_
 refine Wp.seq ?_
 obtain ⟨j1, hj5, hm⟩ := Z0 hm
 refine V6 (St 15 [(4, vB j1)] [] 0) ?_ ?_
 replace hm := hj5
 refine yG ?_
 intro _ hm
 refine bG1 hm (fun hb2 hm => ?_) fun hb2 hm => ?_
 refine gO_t rfl rfl rfl (K8 T40 rfl (U6 rfl rfl) rfl ?_)
 refine gO_t rfl rfl rfl (K8 T27 rfl (U6 rfl rfl) rfl ?_)
 refine gO_t rfl rfl rfl (kW ?_)
 obtain ⟨x3, h4, hm⟩ := Z0 hm
 refine gO_t rfl rfl rfl (Z6 (cB (X0i h4) ?_))
 refine yG ?_
 intro _ hm
 cases hm
 exact vW []
 refine yG ?_
 intro _ hm
 cases hm
 exact vW []
 refine Z1s ?_
 cases hm
 exact rZ1
noncomputable def Z4s (f : GFunc) (without : Int) : Option (List Bool) :=
 (if 0 ≤ ((List.length f.blocks : Int)) ∧ ((List.length f.blocks : Int)) ≤ ((List.length f.blocks : Int)) ∧ ((List.length f.blocks : Int)) * (1 : Nat) ≤ 140737488355328 ∧ ((List.length f.blocks : Int)) ≤ 140737488355328 then
 (Option.bind (Y6 (fun (st3 : (List Bool) × (List Int)) =>
 ((if decide (((List.length st3.2 : Int)) > 0) = true then
 (if (0 : Int) ≤ 0 ∧ 0 < (List.length st3.2 : Int) then
 (if 1 ≤ (List.length st3.2) ∧ (List.length st3.2) ≤ List.length st3.2 then
 (Option.bind ((if ((at_ st3.2 0) == without) = true then
 (some true)
 else
 (if 0 ≤ (at_ st3.2 0) ∧ (at_ st3.2 0) < (List.length st3.1 : Int) then
 (some (at_ st3.1 (at_ st3.2 0)))
 else none))) fun (j9 : Bool) =>
 (if j9 = true then
 (some (Sum.inl ((st3.1, List.drop 1 st3.2))))
 else
 (if 0 ≤ (at_ st3.2 0) ∧ (at_ st3.2 0) < (List.length st3.1 : Int) then
 (if 0 ≤ (at_ st3.2 0) ∧ (at_ st3.2 0) < (List.length f.blocks : Int) then
 (if (List.length (List.drop 1 st3.2) + List.length ((W9 (((at_ f.blocks (at_ st3.2 0)).term))))) * 8 ≤ 140737488355328 ∧ List.length (List.drop 1 st3.2) + List.length ((W9 (((at_ f.blocks (at_ st3.2 0)).term)))) ≤ LIM then
 (some (Sum.inl ((List.set st3.1 (Int.toNat (at_ st3.2 0)) true, (List.drop 1 st3.2) ++ ((W9 (((at_ f.blocks (at_ st3.2 0)).term))))))))
 else none)
 else none)
 else none)))
 else none)
 else none)
 else
 (some (Sum.inr st3.1))) : Option (((List Bool) × (List Int)) ⊕ (((List Bool)))))) (List.replicate (Int.toNat ((List.length f.blocks : Int))) false, [0])) fun (j4 : (List Bool)) =>
 (some j4))
 else none)
theorem Y0t {f : GFunc} {without : Int} {r : List Bool} (hm : Z4s f without = some r) : Sim Tryz.prog 149 [.agg (Z9 false f), .one (.int .i64 without)] [] (.u (.one (.os () 1 (List.map bL r)))) [] := by
 refine fN 43 0 Tryz.func149 [.tmp 4] fun B hB0 => ?_
 unfold Z4s at hm
 refine yG ?_
 intro k1 hm
 obtain ⟨h2, hm⟩ := Y1 hm
 refine nO (x_mk (enc := bL) (d := false) A134 rfl rfl rfl h2 ?_)
 refine yG ?_
 intro _ hm
 refine nO (kM (iL) ([0]) ?_)
 refine yG ?_
 intro _ hm
 obtain ⟨j4, hl18, hm⟩ := Z0 hm
 refine lP hl18 (fun st3 => St 43 [(1, vI without), (2, vP 0), (5, vR 1 (List.length st3.1)), (6, vR 2 (List.length st3.2))] [(0, oL 3 (Z9 false f)), (1, oM 1 bL st3.1), (2, oM 1 iL st3.2)] 3) (fun j4 => (.exit 0, St 43 [(5, vR 0 (List.length j4))] [(0, oM 1 bL j4)] 1)) (vW [0, 1, 2]) ?_ ?_
 intro st3 x hm
 refine yG ?_
 intro k2 hm
 refine bS hm (fun hb6 hm => ?_) fun hb6 hm => ?_
 refine yG ?_
 intro k3 hm
 obtain ⟨h8, hm⟩ := Y1 hm
 refine nO (W4y (l := 1) (h := (List.length st3.2)) rfl E24 rfl rfl (bd_s (m := 1) rfl (by decide)) bd_n h8 ?_)
 refine WpO.ghb (W4c 20 st3.2 (List.drop 1 st3.2) rfl rfl rfl (by simp only [List.length_take, List.length_drop] <;> omega) (by first | rfl | (simp only [Nat.zero_add]; done) | (simp only [Nat.zero_add]; exact List.take_of_length_le (by first | (simp only [List.length_drop] <;> omega) | (simp <;> omega))) | exact List.take_of_length_le (by simp only [List.length_drop, Nat.zero_add] <;> omega))) ?_
 refine nO (x_as rfl rfl ?_)
 refine W5 ?_
 refine Wp.seq ?_
 refine Wp.seq ?_
 obtain ⟨j9, hj12, hm⟩ := Z0 hm
 refine V6 (St 43 [(1, vI without), (2, vP 0), (5, vR 1 (List.length st3.1)), (6, vR 2 (List.length (List.drop 1 st3.2))), (7, vI (at_ st3.2 0)), (29, vB j9)] [(0, oL 3 (Z9 false f)), (1, oM 1 bL st3.1), (2, oM 1 iL (List.drop 1 st3.2))] 3) ?_ ?_
 replace hm := hj12
 refine yG ?_
 intro _ hm
 refine bG0 hm (fun hb10 hm => ?_) fun hb10 hm => ?_
 refine yG ?_
 intro k4 hm
 cases hm
 exact vW [0, 1, 3]
 refine yG ?_
 intro _ hm
 cases hm
 exact vW [0, 1, 3]
 refine bS hm (fun hb13 hm => ?_) fun hb13 hm => ?_
 refine V2 ?_
 cases hm
 exact ⟨rfl, vW [0, 1, 2]⟩
 refine yG ?_
 intro k5 hm
 refine nO (Y0d true T4 rfl rfl rfl k5.2 rfl rfl rfl rfl ?_)
 refine yG ?_
 intro k6 hm
 refine nO (K8 T51 rfl (u := .agg (Y3z (((at_ f.blocks (at_ st3.2 0)).term)))) rfl rfl ?_)
 refine nO (Z6 (cB (Z8w (((at_ f.blocks (at_ st3.2 0)).term))) ?_))
 refine yG ?_
 intro k7 hm
 cases hm
 exact ⟨rfl, vW [0, 1, 4]⟩
 refine V2 ?_
 cases hm
 exact ⟨rfl, vW [1]⟩
 refine yG ?_
 intro _ hm
 cases hm
 exact rZ1h (hg := Z3b 0 0 rfl rfl rfl rfl)
end
end Go.Proofs.YtghdhjgoicnbcaaGreat.AM
