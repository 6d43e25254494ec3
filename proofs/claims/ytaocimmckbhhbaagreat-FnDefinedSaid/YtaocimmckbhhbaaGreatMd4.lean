import Derived.Test.YtaocimmckbhhbaaGreatMd3
set_option linter.unusedVariables false
set_option linter.unusedSimpArgs false
namespace Go.Proofs.YtaocimmckbhhbaaGreat.AM
open Go
section
set_option maxHeartbeats 8000000
set_option maxRecDepth 100000
attribute [local irreducible] aopK J8 Wp St WpO
noncomputable def Y0w (code : List Int) : Bool :=
 (decide (((List.length code : Int)) > 1048576))
theorem X5r (code : List Int) : Sim Tryz.prog 4 [.one (.bs () 1 (List.map (iK .u8) code))] [] (.u (.one (.bool ((Y0w code))))) [] := by
 generalize hm : Y0w code = r
 refine fN 6 0 Tryz.func4 [.tmp 2] fun B hB0 => ?_
 unfold Y0w at hm
 refine yG ?_
 intro k1 hm
 cases hm
 exact rZ1
noncomputable def Z4w (code : List Int) : Gl1Rd :=
 (({ b := code, p := 0 } : Gl1Rd))
theorem Y9j (code : List Int) : Sim Tryz.prog 14 [.one (.bs () 1 (List.map (iK .u8) code))] [] (.u (.one (.ptr () 0 0 0))) [⟨(), 2, [J3 false ((Z4w code))]⟩] := by
 generalize hm : Z4w code = r
 refine fN 6 0 Tryz.func14 [.tmp 2] fun B hB0 => ?_
 unfold Z4w at hm
 refine yG ?_
 intro _ hm
 cases hm
 exact rG1 [0]
noncomputable def Q6 (vr : Gl1Rd) : Option (Int × Gl1Rd) :=
 (if decide (vr.p ≥ ((List.length vr.b : Int))) = true then
 (some ((0, vr)))
 else
 (if inI (vr.p + 1) then
 (if inI (((({ b := vr.b, p := vr.p + 1 } : Gl1Rd)).p) - 1) then
 (if 0 ≤ (((({ b := vr.b, p := vr.p + 1 } : Gl1Rd)).p) - 1) ∧ (((({ b := vr.b, p := vr.p + 1 } : Gl1Rd)).p) - 1) < (List.length ((({ b := vr.b, p := vr.p + 1 } : Gl1Rd)).b) : Int) then
 (some ((IntKind.i64.wrap (at_ ((({ b := vr.b, p := vr.p + 1 } : Gl1Rd)).b) (((({ b := vr.b, p := vr.p + 1 } : Gl1Rd)).p) - 1)), ({ b := vr.b, p := vr.p + 1 } : Gl1Rd))))
 else none)
 else none)
 else none))
theorem Z4c {vr : Gl1Rd} {r : Int × Gl1Rd} (hm : Q6 vr = some r) : Sim Tryz.prog 57 [.one (.ptr () 0 0 0)] [⟨(), 2, [J3 false vr]⟩] (.u (.one (.int .i64 r.1))) [⟨(), 2, [J3 false r.2]⟩] := by
 refine fN 32 1 Tryz.func57 [.tmp 2] fun B hB0 => ?_
 unfold Q6 at hm
 refine Wp.seq ?_
 refine X7 ?_
 refine nO (x_as rfl rfl ?_)
 refine W5 ?_
 refine Wp.seq ?_
 refine Wp.seq ?_
 refine Z4t (Y := sysC _) Z4j ?_
 refine tK 0 0 rfl (kV ?_)
 refine tK 1 1 rfl (kN ?_)
 refine tK 2 1 rfl (kF ?_)
 refine tK 3 1 rfl (kD ?_)
 refine tK 4 0 rfl (kV ?_)
 refine tK 5 1 rfl (kN ?_)
 refine tK 6 1 rfl (kF ?_)
 refine tK 7 1 rfl (kD ?_)
 refine tK 8 0 rfl (Y5w N22 rfl fun hL1 => ?_)
 refine tK 9 0 rfl (Z6i T3 rfl rfl rfl ?_)
 refine aN ?_
 refine bS hm (fun hb2 hm => ?_) fun hb2 hm => ?_
 refine yG ?_
 intro _ hm
 cases hm
 exact rG1 [0]
 refine K5 ?_
 refine Wp.seq ?_
 refine X7 ?_
 refine yR ?_
 intro k1 hm
 refine W5 ?_
 refine Wp.seq ?_
 refine Z4t (Y := sysC _) Z4j ?_
 refine tK 0 0 rfl (kV ?_)
 refine tK 1 1 rfl (kN ?_)
 refine tK 2 1 rfl (kF ?_)
 refine tK 3 1 rfl (kD ?_)
 refine tK 4 0 rfl (kV ?_)
 refine tK 5 1 rfl (kN ?_)
 refine tK 6 1 rfl (kF ?_)
 refine tK 7 1 rfl (kD ?_)
 obtain ⟨h4, hm⟩ := Z9 hm
 refine tK 8 0 rfl (X7r T3 rfl rfl h4 ?_)
 obtain ⟨h5, hm⟩ := Z9 hm
 refine tK 9 0 rfl (Z8m E22 rfl rfl h5 ?_)
 refine tK 10 0 rfl (K7 T5 rfl rfl rfl ?_)
 refine tK 11 0 rfl (W4w T5 T3 rfl rfl ?_)
 refine tK 12 0 rfl (x_as rfl rfl ?_)
 refine aN ?_
 refine Z2d ?_
 cases hm
 exact rG1 [0]
noncomputable def Z6 (vr : Gl1Rd) (n : Int) : Option (Int × Gl1Rd) :=
 (if decide (n ≤ 1) = true then
 (some ((0, vr)))
 else
 (if decide (n ≤ 256) = true then
 (Option.bind (Q6 vr) fun x3 =>
 (if n ≠ 0 then
 (some ((Int.tmod x3.1 n, x3.2)))
 else none))
 else
 (Option.bind (Q6 vr) fun x6 =>
 (Option.bind (Q6 x6.2) fun x8 =>
 (if n ≠ 0 then
 (some ((Int.tmod (IntKind.i64.wrap ((IntKind.i64.wrap (x6.1 * 256)) + x8.1)) n, x8.2)))
 else none)))))
theorem Z2 {vr : Gl1Rd} {n : Int} {r : Int × Gl1Rd} (hm : Z6 vr n = some r) : Sim Tryz.prog 30 [.one (.ptr () 0 0 0), .one (.int .i64 n)] [⟨(), 2, [J3 false vr]⟩] (.u (.one (.int .i64 r.1))) [⟨(), 2, [J3 false r.2]⟩] := by
 refine fN 24 1 Tryz.func30 [.tmp 4] fun B hB0 => ?_
 have fW := trivial
 unfold Z6 at hm
 refine yG ?_
 intro _ hm
 refine bS hm (fun hb1 hm => ?_) fun hb1 hm => ?_
 refine yG ?_
 intro _ hm
 cases hm
 exact rG1 [0]
 refine yG ?_
 intro _ hm
 refine bS hm (fun hb2 hm => ?_) fun hb2 hm => ?_
 refine yG ?_
 intro _ hm
 obtain ⟨x3, h4, hm⟩ := Z0 hm
 refine nO (cG [0] (Z4c h4) ?_)
 refine yG ?_
 intro k1 hm
 cases hm
 exact rG1 [0]
 refine yG ?_
 intro _ hm
 obtain ⟨x6, h7, hm⟩ := Z0 hm
 refine nO (cG [0] (Z4c h7) ?_)
 refine yG ?_
 intro _ hm
 obtain ⟨x8, h9, hm⟩ := Z0 hm
 refine nO (cG [0] (Z4c h9) ?_)
 refine nO (Y2g T3 rfl rfl rfl ?_)
 refine yG ?_
 intro k2 hm
 cases hm
 exact rG1 [0]
noncomputable def J6 (vr : Gl1Rd) (n : Int) : Option (Bool × Gl1Rd) :=
 (Option.bind (Z6 vr n) fun x1 =>
 (if inI (n - 1) then
 (some (((x1.1 == (n - 1)), x1.2)))
 else none))
theorem Z4b {vr : Gl1Rd} {n : Int} {r : Bool × Gl1Rd} (hm : J6 vr n = some r) : Sim Tryz.prog 15 [.one (.ptr () 0 0 0), .one (.int .i64 n)] [⟨(), 2, [J3 false vr]⟩] (.u (.one (.bool r.1))) [⟨(), 2, [J3 false r.2]⟩] := by
 refine fN 11 1 Tryz.func15 [.tmp 4] fun B hB0 => ?_
 unfold J6 at hm
 refine yG ?_
 intro _ hm
 obtain ⟨x1, h2, hm⟩ := Z0 hm
 refine nO (cG [0] (Z2 h2) ?_)
 refine yG ?_
 intro k1 hm
 cases hm
 exact rG1 [0]
noncomputable def J9 (vr : Gl1Rd) : Option (Int × Gl1Rd) :=
 (Option.bind (Z6 vr 4) fun x1 =>
 (if 0 ≤ x1.1 ∧ x1.1 < (List.length ([32, 8, 1, 16]) : Int) then
 (some ((at_ ([32, 8, 1, 16]) x1.1, x1.2)))
 else none))
theorem Z1d {vr : Gl1Rd} {r : Int × Gl1Rd} (hm : J9 vr = some r) : Sim Tryz.prog 59 [.one (.ptr () 0 0 0)] [⟨(), 2, [J3 false vr]⟩] (.u (.one (.int .i64 r.1))) [⟨(), 2, [J3 false r.2]⟩] := by
 refine fN 8 1 Tryz.func59 [.tmp 2] fun B hB0 => ?_
 unfold J9 at hm
 refine yG ?_
 intro _ hm
 refine nO (kM (iL) ([32, 8, 1, 16]) ?_)
 refine yG ?_
 intro _ hm
 obtain ⟨x1, h2, hm⟩ := Z0 hm
 refine nO (cG [0] (Z2 h2) ?_)
 refine yG ?_
 intro k1 hm
 cases hm
 exact rG1 [0]
noncomputable def Z2b (g : Gl2G) (gr : Gl1Rd) (grets : List Int) (gpars : List (List Int)) (w : Int) : Option (Int × Gl2G × Gl1Rd) :=
 (Option.bind ((if (List.length (([] : List Int)) + List.length g.ids) * 8 ≤ 140737488355328 ∧ List.length (([] : List Int)) + List.length g.ids ≤ LIM then
 (if (List.length ((([] : List Int)) ++ g.ids) + List.length ([g.next])) * 8 ≤ 140737488355328 ∧ List.length ((([] : List Int)) ++ g.ids) + List.length ([g.next]) ≤ LIM then
 (some (()))
 else none)
 else none)) fun (j1 : Unit) =>
 (if (List.length (([] : List Int)) + List.length ((({ f := g.f, b := g.b, next := g.next, ids := ((([] : List Int)) ++ g.ids) ++ ([g.next]), ws := g.ws } : Gl2G)).ws)) * 8 ≤ 140737488355328 ∧ List.length (([] : List Int)) + List.length ((({ f := g.f, b := g.b, next := g.next, ids := ((([] : List Int)) ++ g.ids) ++ ([g.next]), ws := g.ws } : Gl2G)).ws) ≤ LIM then
 (if (List.length ((([] : List Int)) ++ ((({ f := g.f, b := g.b, next := g.next, ids := ((([] : List Int)) ++ g.ids) ++ ([g.next]), ws := g.ws } : Gl2G)).ws)) + List.length ([w])) * 8 ≤ 140737488355328 ∧ List.length ((([] : List Int)) ++ ((({ f := g.f, b := g.b, next := g.next, ids := ((([] : List Int)) ++ g.ids) ++ ([g.next]), ws := g.ws } : Gl2G)).ws)) + List.length ([w]) ≤ LIM then
 (if inI (((({ f := g.f, b := g.b, next := g.next, ids := ((([] : List Int)) ++ g.ids) ++ ([g.next]), ws := g.ws } : Gl2G)).next) + 1) then
 (if inI ((((({ f := g.f, b := g.b, next := g.next, ids := ((([] : List Int)) ++ g.ids) ++ ([g.next]), ws := g.ws } : Gl2G)).next) + 1) - 1) then
 (some (((((({ f := g.f, b := g.b, next := g.next, ids := ((([] : List Int)) ++ g.ids) ++ ([g.next]), ws := g.ws } : Gl2G)).next) + 1) - 1, ({ f := ((({ f := g.f, b := g.b, next := g.next, ids := ((([] : List Int)) ++ g.ids) ++ ([g.next]), ws := g.ws } : Gl2G)).f), b := ({ phis := ((({ f := g.f, b := g.b, next := g.next, ids := ((([] : List Int)) ++ g.ids) ++ ([g.next]), ws := g.ws } : Gl2G)).b).phis, insts := ((({ f := g.f, b := g.b, next := g.next, ids := ((([] : List Int)) ++ g.ids) ++ ([g.next]), ws := g.ws } : Gl2G)).b).insts, term := (((({ f := g.f, b := g.b, next := g.next, ids := ((([] : List Int)) ++ g.ids) ++ ([g.next]), ws := g.ws } : Gl2G)).b).term) } : GBlock), next := ((({ f := g.f, b := g.b, next := g.next, ids := ((([] : List Int)) ++ g.ids) ++ ([g.next]), ws := g.ws } : Gl2G)).next) + 1, ids := (({ f := g.f, b := g.b, next := g.next, ids := ((([] : List Int)) ++ g.ids) ++ ([g.next]), ws := g.ws } : Gl2G)).ids, ws := ((([] : List Int)) ++ ((({ f := g.f, b := g.b, next := g.next, ids := ((([] : List Int)) ++ g.ids) ++ ([g.next]), ws := g.ws } : Gl2G)).ws)) ++ ([w]) } : Gl2G), gr)))
 else none)
 else none)
 else none)
 else none))
theorem Z8r {g : Gl2G} {gr : Gl1Rd} {grets : List Int} {gpars : List (List Int)} {w : Int} {r : Int × Gl2G × Gl1Rd} (hm : Z2b g gr grets gpars w = some r) : Sim Tryz.prog 60 [.one (.ptr () 0 0 0), .one (.int .i64 w)] [⟨(), 15, [hl2G (.ptr () 1 0 0) (.ref () 2 0 (List.length grets)) (.ref () 3 0 (List.length gpars)) g]⟩, ⟨(), 2, [J3 false gr]⟩, ⟨(), 1, List.map iL grets⟩, ⟨(), 1, List.map (lL false 1 iL) gpars⟩] (.u (.one (.int .i64 r.1))) [⟨(), 15, [hl2G (.ptr () 1 0 0) (.ref () 2 0 (List.length grets)) (.ref () 3 0 (List.length gpars)) r.2.1]⟩, ⟨(), 2, [J3 false r.2.2]⟩, ⟨(), 1, List.map iL grets⟩, ⟨(), 1, List.map (lL false 1 iL) gpars⟩] := by
 refine fN 44 4 Tryz.func60 [.tmp 4] fun B hB0 => ?_
 unfold Z2b at hm
 refine Wp.seq ?_
 refine X7 ?_
 refine nO (x_as rfl rfl ?_)
 refine W5 ?_
 refine Wp.seq ?_
 obtain ⟨j1, hj4, hm⟩ := Z0 hm
 refine V7 (St 44 [(0, vP 0), (1, vI w)] [(0, oL 15 (hl2G (.ptr () 1 0 0) (.ref () 2 0 (List.length grets)) (.ref () 3 0 (List.length gpars)) (({ f := g.f, b := g.b, next := g.next, ids := ((([] : List Int)) ++ g.ids) ++ ([g.next]), ws := g.ws } : Gl2G)))), (1, oL 2 (J3 false gr)), (2, oM 1 iL grets), (3, oM 1 (lL false 1 iL) gpars)] 4) ?_ ?_
 replace hm := hj4
 refine Z4t (Y := sysC _) Z4j ?_
 refine tK 0 0 rfl (kV ?_)
 refine tK 2 0 rfl (kV ?_)
 refine tD 3 1 [4, 5, 6, 12, 13, 14, 15] rfl (kN ?_)
 refine tD 4 1 [5, 6, 12, 13, 14, 15] rfl (kF ?_)
 refine tD 5 1 [6, 12, 13, 14, 15] rfl (kD ?_)
 refine tK 7 0 rfl (kV ?_)
 refine t_2 1 8 rfl rfl (by decide +kernel) ?_ ?_
 refine (kM (iL) (([] : List Int)) ?_)
 refine t_2 6 8 rfl rfl (by decide +kernel) ?_ ?_
 obtain ⟨h2, hm⟩ := Z9 hm
 refine (kA h2 ?_)
 refine tD 8 1 [9, 10, 11, 12, 13, 14, 15] rfl (kN ?_)
 refine tD 9 1 [10, 11, 12, 13, 14, 15] rfl (kF ?_)
 refine tD 10 1 [11, 12, 13, 14, 15] rfl (kD ?_)
 refine oK 11 rfl (kM (iL) ([g.next]) ?_)
 obtain ⟨h3, hm⟩ := Z9 hm
 refine oK 12 rfl (kA h3 ?_)
 refine tD 13 1 [14, 15] rfl (kN ?_)
 refine tK 14 1 rfl (kF ?_)
 refine oK 15 rfl (kS ?_)
 refine aN ?_
 cases hm
 exact (GhB.trans (q_cl 0 7 11) ((GhB.trans (q_cb 0 11) (vW [0, 1, 2, 3]))))
 refine (kN ?_)
 refine t_2 6 9 rfl rfl (by decide +kernel) ?_ ?_
 obtain ⟨h2, hm⟩ := Z9 hm
 refine (kA h2 ?_)
 refine tD 9 1 [10, 11, 12, 13, 14, 15] rfl (kF ?_)
 refine tD 10 1 [11, 12, 13, 14, 15] rfl (kD ?_)
 refine oK 11 rfl (kM (iL) ([g.next]) ?_)
 obtain ⟨h3, hm⟩ := Z9 hm
 refine oK 12 rfl (kA h3 ?_)
 refine tD 13 1 [14, 15] rfl (kN ?_)
 refine tK 14 1 rfl (kF ?_)
 refine oK 15 rfl (kS ?_)
 refine aN ?_
 cases hm
 exact (GhB.trans (q_cl 0 7 11) ((GhB.trans (q_cb 0 11) (vW [0, 1, 2, 3]))))
 refine (kF ?_)
 refine t_2 6 10 rfl rfl (by decide +kernel) ?_ ?_
 obtain ⟨h2, hm⟩ := Z9 hm
 refine (kA h2 ?_)
 refine tD 10 1 [11, 12, 13, 14, 15] rfl (kD ?_)
 refine oK 11 rfl (kM (iL) ([g.next]) ?_)
 obtain ⟨h3, hm⟩ := Z9 hm
 refine oK 12 rfl (kA h3 ?_)
 refine tD 13 1 [14, 15] rfl (kN ?_)
 refine tK 14 1 rfl (kF ?_)
 refine oK 15 rfl (kS ?_)
 refine aN ?_
 cases hm
 exact (GhB.trans (q_cl 0 7 11) ((GhB.trans (q_cb 0 11) (vW [0, 1, 2, 3]))))
 refine (kD ?_)
 refine t_2 6 11 rfl rfl (by decide +kernel) ?_ ?_
 obtain ⟨h2, hm⟩ := Z9 hm
 refine (kA h2 ?_)
 refine oK 11 rfl (kM (iL) ([g.next]) ?_)
 obtain ⟨h3, hm⟩ := Z9 hm
 refine oK 12 rfl (kA h3 ?_)
 refine tD 13 1 [14, 15] rfl (kN ?_)
 refine tK 14 1 rfl (kF ?_)
 refine oK 15 rfl (kS ?_)
 refine aN ?_
 cases hm
 exact (GhB.trans (q_cl 0 7 11) ((GhB.trans (q_cb 0 11) (vW [0, 1, 2, 3]))))
 refine (kM (iL) ([g.next]) ?_)
 obtain ⟨h2, hm⟩ := Z9 hm
 refine oK 6 rfl (kA h2 ?_)
 obtain ⟨h3, hm⟩ := Z9 hm
 refine oK 12 rfl (kA h3 ?_)
 refine tD 13 1 [14, 15] rfl (kN ?_)
 refine tK 14 1 rfl (kF ?_)
 refine oK 15 rfl (kS ?_)
 refine aN ?_
 cases hm
 exact (GhB.trans (q_cl 0 7 11) ((GhB.trans (q_cb 0 11) (vW [0, 1, 2, 3]))))
 refine (kN ?_)
 refine t_2 1 9 rfl rfl (by decide +kernel) ?_ ?_
 refine (kM (iL) (([] : List Int)) ?_)
 refine t_2 6 9 rfl rfl (by decide +kernel) ?_ ?_
 obtain ⟨h2, hm⟩ := Z9 hm
 refine (kA h2 ?_)
 refine tD 9 1 [10, 11, 12, 13, 14, 15] rfl (kF ?_)
 refine tD 10 1 [11, 12, 13, 14, 15] rfl (kD ?_)
 refine oK 11 rfl (kM (iL) ([g.next]) ?_)
 obtain ⟨h3, hm⟩ := Z9 hm
 refine oK 12 rfl (kA h3 ?_)
 refine tD 13 1 [14, 15] rfl (kN ?_)
 refine tK 14 1 rfl (kF ?_)
 refine oK 15 rfl (kS ?_)
 refine aN ?_
 cases hm
 exact (GhB.trans (q_cl 0 7 11) ((GhB.trans (q_cb 0 11) (vW [0, 1, 2, 3]))))
 refine (kF ?_)
 refine t_2 6 10 rfl rfl (by decide +kernel) ?_ ?_
 obtain ⟨h2, hm⟩ := Z9 hm
 refine (kA h2 ?_)
 refine tD 10 1 [11, 12, 13, 14, 15] rfl (kD ?_)
 refine oK 11 rfl (kM (iL) ([g.next]) ?_)
 obtain ⟨h3, hm⟩ := Z9 hm
 refine oK 12 rfl (kA h3 ?_)
 refine tD 13 1 [14, 15] rfl (kN ?_)
 refine tK 14 1 rfl (kF ?_)
 refine oK 15 rfl (kS ?_)
 refine aN ?_
 cases hm
 exact (GhB.trans (q_cl 0 7 11) ((GhB.trans (q_cb 0 11) (vW [0, 1, 2, 3]))))
 refine (kD ?_)
 refine t_2 6 11 rfl rfl (by decide +kernel) ?_ ?_
 obtain ⟨h2, hm⟩ := Z9 hm
 refine (kA h2 ?_)
 refine oK 11 rfl (kM (iL) ([g.next]) ?_)
 obtain ⟨h3, hm⟩ := Z9 hm
 refine oK 12 rfl (kA h3 ?_)
 refine tD 13 1 [14, 15] rfl (kN ?_)
 refine tK 14 1 rfl (kF ?_)
 refine oK 15 rfl (kS ?_)
 refine aN ?_
 cases hm
 exact (GhB.trans (q_cl 0 7 11) ((GhB.trans (q_cb 0 11) (vW [0, 1, 2, 3]))))
 refine (kM (iL) ([g.next]) ?_)
 obtain ⟨h2, hm⟩ := Z9 hm
 refine oK 6 rfl (kA h2 ?_)
 obtain ⟨h3, hm⟩ := Z9 hm
 refine oK 12 rfl (kA h3 ?_)
 refine tD 13 1 [14, 15] rfl (kN ?_)
 refine tK 14 1 rfl (kF ?_)
 refine oK 15 rfl (kS ?_)
 refine aN ?_
 cases hm
 exact (GhB.trans (q_cl 0 7 11) ((GhB.trans (q_cb 0 11) (vW [0, 1, 2, 3]))))
 refine (kF ?_)
 refine t_2 1 10 rfl rfl (by decide +kernel) ?_ ?_
 refine (kM (iL) (([] : List Int)) ?_)
 refine t_2 6 10 rfl rfl (by decide +kernel) ?_ ?_
 obtain ⟨h2, hm⟩ := Z9 hm
 refine (kA h2 ?_)
 refine tD 10 1 [11, 12, 13, 14, 15] rfl (kD ?_)
 refine oK 11 rfl (kM (iL) ([g.next]) ?_)
 obtain ⟨h3, hm⟩ := Z9 hm
 refine oK 12 rfl (kA h3 ?_)
 refine tD 13 1 [14, 15] rfl (kN ?_)
 refine tK 14 1 rfl (kF ?_)
 refine oK 15 rfl (kS ?_)
 refine aN ?_
 cases hm
 exact (GhB.trans (q_cl 0 7 11) ((GhB.trans (q_cb 0 11) (vW [0, 1, 2, 3]))))
 refine (kD ?_)
 refine t_2 6 11 rfl rfl (by decide +kernel) ?_ ?_
 obtain ⟨h2, hm⟩ := Z9 hm
 refine (kA h2 ?_)
 refine oK 11 rfl (kM (iL) ([g.next]) ?_)
 obtain ⟨h3, hm⟩ := Z9 hm
 refine oK 12 rfl (kA h3 ?_)
 refine tD 13 1 [14, 15] rfl (kN ?_)
 refine tK 14 1 rfl (kF ?_)
 refine oK 15 rfl (kS ?_)
 refine aN ?_
 cases hm
 exact (GhB.trans (q_cl 0 7 11) ((GhB.trans (q_cb 0 11) (vW [0, 1, 2, 3]))))
 refine (kM (iL) ([g.next]) ?_)
 obtain ⟨h2, hm⟩ := Z9 hm
 refine oK 6 rfl (kA h2 ?_)
 obtain ⟨h3, hm⟩ := Z9 hm
 refine oK 12 rfl (kA h3 ?_)
 refine tD 13 1 [14, 15] rfl (kN ?_)
 refine tK 14 1 rfl (kF ?_)
 refine oK 15 rfl (kS ?_)
 refine aN ?_
 cases hm
 exact (GhB.trans (q_cl 0 7 11) ((GhB.trans (q_cb 0 11) (vW [0, 1, 2, 3]))))
 refine (kD ?_)
 refine t_2 1 11 rfl rfl (by decide +kernel) ?_ ?_
 refine (kM (iL) (([] : List Int)) ?_)
 refine t_2 6 11 rfl rfl (by decide +kernel) ?_ ?_
 obtain ⟨h2, hm⟩ := Z9 hm
 refine (kA h2 ?_)
 refine oK 11 rfl (kM (iL) ([g.next]) ?_)
 obtain ⟨h3, hm⟩ := Z9 hm
 refine oK 12 rfl (kA h3 ?_)
 refine tD 13 1 [14, 15] rfl (kN ?_)
 refine tK 14 1 rfl (kF ?_)
 refine oK 15 rfl (kS ?_)
 refine aN ?_
 cases hm
 exact (GhB.trans (q_cl 0 7 11) ((GhB.trans (q_cb 0 11) (vW [0, 1, 2, 3]))))
 refine (kM (iL) ([g.next]) ?_)
 obtain ⟨h2, hm⟩ := Z9 hm
 refine oK 6 rfl (kA h2 ?_)
 obtain ⟨h3, hm⟩ := Z9 hm
 refine oK 12 rfl (kA h3 ?_)
 refine tD 13 1 [14, 15] rfl (kN ?_)
 refine tK 14 1 rfl (kF ?_)
 refine oK 15 rfl (kS ?_)
 refine aN ?_
 cases hm
 exact (GhB.trans (q_cl 0 7 11) ((GhB.trans (q_cb 0 11) (vW [0, 1, 2, 3]))))
 refine (kM (iL) ([g.next]) ?_)
 refine oK 1 rfl (kM (iL) (([] : List Int)) ?_)
 obtain ⟨h2, hm⟩ := Z9 hm
 refine oK 6 rfl (kA h2 ?_)
 obtain ⟨h3, hm⟩ := Z9 hm
 refine oK 12 rfl (kA h3 ?_)
 refine tD 13 1 [14, 15] rfl (kN ?_)
 refine tK 14 1 rfl (kF ?_)
 refine oK 15 rfl (kS ?_)
 refine aN ?_
 cases hm
 exact (GhB.trans (q_cl 0 7 11) ((GhB.trans (q_cb 0 11) (vW [0, 1, 2, 3]))))
 refine yG ?_
 intro _ hm
 refine nO (kM (iL) (([] : List Int)) ?_)
 refine yG ?_
 intro k1 hm
 refine nO (kM (iL) ([w]) ?_)
 refine yR ?_
 intro k2 hm
 refine W5 ?_
 refine Wp.seq ?_
 refine gH (q_cl 0 7 12) ?_
 refine gH (q_cb 0 12) ?_
 refine yG ?_
 intro k3 hm
 cases hm
 exact rG1 [0, 1, 2, 3]
noncomputable def Q5 (vr : Gl1Rd) : Option (Int × Gl1Rd) :=
 (Option.bind (Y6 (fun (st1 : Gl1Rd × Int × Int) =>
 ((if decide (st1.2.2 < 8) = true then
 (Option.bind (Q6 st1.1) fun x4 =>
 (if inI (st1.2.2 + 1) then
 (some (Sum.inl ((x4.2, bits .or .u64 (IntKind.u64.wrap (st1.2.1 * 2 ^ min (Int.toNat 8) (IntKind.bits .u64))) (IntKind.u64.wrap x4.1), st1.2.2 + 1))))
 else none))
 else
 (some (Sum.inr (((st1.1, st1.2.1)))))) : Option ((Gl1Rd × Int × Int) ⊕ ((Gl1Rd × Int))))) (vr, 0, 0)) fun (j2 : Gl1Rd × Int) =>
 (some ((j2.2, j2.1))))
theorem Y0a {vr : Gl1Rd} {r : Int × Gl1Rd} (hm : Q5 vr = some r) : Sim Tryz.prog 96 [.one (.ptr () 0 0 0)] [⟨(), 2, [J3 false vr]⟩] (.u (.one (.int .u64 r.1))) [⟨(), 2, [J3 false r.2]⟩] := by
 refine fN 16 1 Tryz.func96 [.tmp 2] fun B hB0 => ?_
 unfold Q5 at hm
 refine yG ?_
 intro _ hm
 obtain ⟨j2, hl8, hm⟩ := Z0 hm
 refine lP hl8 (fun st1 => St 16 [(0, vP 0), (3, .u (.one (.int .u64 st1.2.1))), (4, vI st1.2.2)] [(0, oL 2 (J3 false st1.1))] 1) (fun j2 => (.exit 0, St 16 [(3, .u (.one (.int .u64 j2.2)))] [(0, oL 2 (J3 false j2.1))] 1)) (vW [0]) ?_ ?_
 intro st1 x hm
 refine yG ?_
 intro _ hm
 refine bS hm (fun hb3 hm => ?_) fun hb3 hm => ?_
 refine yG ?_
 intro _ hm
 obtain ⟨x4, h5, hm⟩ := Z0 hm
 refine nO (cG [0] (Z4c h5) ?_)
 refine yG ?_
 intro k1 hm
 cases hm
 exact ⟨rfl, vW [0]⟩
 refine V2 ?_
 cases hm
 exact ⟨rfl, vW [0]⟩
 refine yG ?_
 intro _ hm
 cases hm
 exact rG1 [0]
noncomputable def Z1b (vr : Gl1Rd) (w : Int) : Option (Int × Gl1Rd) :=
 (if 0 ≤ (IntKind.u64.wrap w) then
 (Option.bind (Z6 vr 7) fun x2 =>
 (if (x2.1 == 0) = true then
 (some ((0, x2.2)))
 else
 (if (x2.1 == 1) = true then
 (some ((1, x2.2)))
 else
 (if (x2.1 == 2) = true then
 (if inI ((IntKind.i64.wrap (1 * 2 ^ min (Int.toNat (IntKind.u64.wrap w)) (IntKind.bits .i64))) - 1) then
 (some (((IntKind.i64.wrap (1 * 2 ^ min (Int.toNat (IntKind.u64.wrap w)) (IntKind.bits .i64))) - 1, x2.2)))
 else none)
 else
 (if (x2.1 == 3) = true then
 (some ((IntKind.i64.wrap (Int.tdiv (IntKind.i64.wrap (1 * 2 ^ min (Int.toNat (IntKind.u64.wrap w)) (IntKind.bits .i64))) 2), x2.2)))
 else
 (Option.bind (Q5 x2.2) fun x9 =>
 (if (IntKind.i64.wrap (1 * 2 ^ min (Int.toNat (IntKind.u64.wrap w)) (IntKind.bits .i64))) ≠ 0 then
 (some ((Int.tmod (IntKind.i64.wrap (x9.1 / 2 ^ min (Int.toNat 1) (IntKind.bits .u64))) (IntKind.i64.wrap (1 * 2 ^ min (Int.toNat (IntKind.u64.wrap w)) (IntKind.bits .i64))), x9.2)))
 else none)))))))
 else none)
theorem Z9k {vr : Gl1Rd} {w : Int} {r : Int × Gl1Rd} (hm : Z1b vr w = some r) : Sim Tryz.prog 98 [.one (.ptr () 0 0 0), .one (.int .i64 w)] [⟨(), 2, [J3 false vr]⟩] (.u (.one (.int .i64 r.1))) [⟨(), 2, [J3 false r.2]⟩] := by
 refine fN 29 1 Tryz.func98 [.tmp 4] fun B hB0 => ?_
 unfold Z1b at hm
 refine yG ?_
 intro k1 hm
 obtain ⟨x2, h3, hm⟩ := Z0 hm
 refine nO (cG [0] (Z2 h3) ?_)
 refine yG ?_
 intro _ hm
 refine bS hm (fun hb4 hm => ?_) fun hb4 hm => ?_
 refine yG ?_
 intro _ hm
 cases hm
 exact rG1 [0]
 refine yG ?_
 intro _ hm
 refine bS hm (fun hb5 hm => ?_) fun hb5 hm => ?_
 refine yG ?_
 intro _ hm
 cases hm
 exact rG1 [0]
 refine yG ?_
 intro _ hm
 refine bS hm (fun hb6 hm => ?_) fun hb6 hm => ?_
 refine yG ?_
 intro k2 hm
 cases hm
 exact rG1 [0]
 refine yG ?_
 intro _ hm
 refine bS hm (fun hb8 hm => ?_) fun hb8 hm => ?_
 refine yG ?_
 intro _ hm
 cases hm
 exact rG1 [0]
 refine yG ?_
 intro _ hm
 obtain ⟨x9, h10, hm⟩ := Z0 hm
 refine nO (cG [0] (Y0a h10) ?_)
 refine yG ?_
 intro k3 hm
 cases hm
 exact rG1 [0]
noncomputable def Z8 (n : Int) (low : Int) (high : Int) : Bool :=
 ((decide (n ≥ low) && decide (n ≤ high)))
theorem V5 (n : Int) (low : Int) (high : Int) : Sim Tryz.prog 45 [.one (.int .i64 n), .one (.int .i64 low), .one (.int .i64 high)] [] (.u (.one (.bool ((Z8 n low high))))) [] := by
 generalize hm : Z8 n low high = r
 refine fN 15 0 Tryz.func45 [.tmp 6] fun B hB0 => ?_
 unfold Z8 at hm
 refine Wp.seq ?_
 refine X7 ?_
 refine nO (x_as rfl rfl ?_)
 refine W5 ?_
 refine Wp.seq ?_
 refine V7 (St 15 [(6, vB ((decide (n ≥ low) && decide (n ≤ high))))] [] 0) ?_ ?_
 refine yG ?_
 intro _ hm
 refine gO_s rfl rfl rfl (fun hb2 => ?_) (fun hb2 => ?_)
 refine yG ?_
 intro _ hm
 exact w_ [] (.cons (by simp only [hb2, BO]; rfl) rfl .nil) .nil (by decide) (hB_0 hB0)
 refine yG ?_
 intro _ hm
 exact w_ [] (.cons (by simp only [hb2, BO]; rfl) rfl .nil) .nil (by decide) (hB_0 hB0)
 refine Z2d ?_
 cases hm
 exact rZ1
noncomputable def Y4 (w : Int) : Bool :=
 (((w == 1) || ((w == 8) || ((w == 16) || (w == 32)))))
theorem Z1n (w : Int) : Sim Tryz.prog 84 [.one (.int .i64 w)] [] (.u (.one (.bool ((Y4 w))))) [] := by
 generalize hm : Y4 w = r
 refine fN 17 0 Tryz.func84 [.tmp 2] fun B hB0 => ?_
 unfold Y4 at hm
 refine Wp.seq ?_
 refine X7 ?_
 refine nO (x_as rfl rfl ?_)
 refine W5 ?_
 refine Wp.seq ?_
 refine V7 (St 17 [(2, vB (((w == 1) || ((w == 8) || ((w == 16) || (w == 32))))))] [] 0) ?_ ?_
 refine yG ?_
 intro _ hm
 refine gO_s rfl rfl rfl (fun hb2 => ?_) (fun hb2 => ?_)
 refine yG ?_
 intro _ hm
 refine gO_s rfl rfl rfl (fun hb3 => ?_) (fun hb3 => ?_)
 refine yG ?_
 intro _ hm
 refine gO_s rfl rfl rfl (fun hb4 => ?_) (fun hb4 => ?_)
 refine yG ?_
 intro _ hm
 exact w_ [] (.cons (by simp only [hb2, hb3, hb4, BO]; rfl) rfl .nil) .nil (by decide) (hB_0 hB0)
 refine yG ?_
 intro _ hm
 exact w_ [] (.cons (by simp only [hb2, hb3, hb4, BO]; rfl) rfl .nil) .nil (by decide) (hB_0 hB0)
 refine yG ?_
 intro _ hm
 exact w_ [] (.cons (by simp only [hb2, hb3, BO]; rfl) rfl .nil) .nil (by decide) (hB_0 hB0)
 refine yG ?_
 intro _ hm
 exact w_ [] (.cons (by simp only [hb2, BO]; rfl) rfl .nil) .nil (by decide) (hB_0 hB0)
 refine Z2d ?_
 cases hm
 exact rZ1
noncomputable def W6 (op_ : Int) (w : Int) : Int :=
 (if ((!((Y4 w))) || (!((Z8 op_ 1 17)))) = true then
 0
 else
 (if decide (op_ ≥ 14) = true then
 1
 else
 w))
theorem Y3n (op_ : Int) (w : Int) : Sim Tryz.prog 123 [.one (.int .i64 op_), .one (.int .i64 w)] [] (.u (.one (.int .i64 ((W6 op_ w))))) [] := by
 generalize hm : W6 op_ w = r
 refine fN 16 0 Tryz.func123 [.tmp 4] fun B hB0 => ?_
 unfold W6 at hm
 refine Wp.seq ?_
 refine X7 ?_
 refine nO (x_as rfl rfl ?_)
 refine W5 ?_
 refine Wp.seq ?_
 refine Wp.seq ?_
 refine V7 (St 16 [(0, vI op_), (1, vI w), (12, vB (((!((Y4 w))) || (!((Z8 op_ 1 17))))))] [] 0) ?_ ?_
 refine yG ?_
 intro _ hm
 refine nO (Z5 (cB (Z1n w) ?_))
 refine yG ?_
 intro _ hm
 refine gO_s rfl rfl rfl (fun hb2 => ?_) (fun hb2 => ?_)
 refine yG ?_
 intro _ hm
 refine gO_t rfl rfl rfl (Z5 (cB (V5 op_ 1 17) ?_))
 refine yG ?_
 intro _ hm
 exact w_ [] (.cons rfl rfl (.cons rfl rfl (.cons (by simp only [hb2, BO]; rfl) rfl .nil))) .nil (by decide) (hB_0 hB0)
 refine yG ?_
 intro _ hm
 exact w_ [] (.cons rfl rfl (.cons rfl rfl (.cons (by simp only [hb2, BO]; rfl) rfl .nil))) .nil (by decide) (hB_0 hB0)
 refine bS hm (fun hb3 hm => ?_) fun hb3 hm => ?_
 refine yG ?_
 intro _ hm
 cases hm
 exact rZ1
 refine yG ?_
 intro _ hm
 refine bS hm (fun hb4 hm => ?_) fun hb4 hm => ?_
 refine yG ?_
 intro _ hm
 cases hm
 exact rZ1
 refine yG ?_
 intro _ hm
 cases hm
 exact rZ1
noncomputable def W3 (i : GInst) : Int :=
 (if (Z8 i.op_ 1 17) = true then
 ((W6 i.op_ i.w))
 else
 i.w)
theorem Y1x (i : GInst) : Sim Tryz.prog 115 [.agg (Q1 false i)] [] (.u (.one (.int .i64 ((W3 i))))) [] := by
 generalize hm : W3 i = r
 refine fN 13 0 Tryz.func115 [.tmp 2] fun B hB0 => ?_
 unfold W3 at hm
 refine yG ?_
 intro _ hm
 refine nO (Z5 (cB (V5 i.op_ 1 17) ?_))
 refine W5 ?_
 refine bS hm (fun hb1 hm => ?_) fun hb1 hm => ?_
 refine yG ?_
 intro _ hm
 refine nO (Z5 (cB (Y3n i.op_ i.w) ?_))
 refine yG ?_
 intro _ hm
 cases hm
 exact rZ1
 refine yG ?_
 intro _ hm
 cases hm
 exact rZ1
noncomputable def X3 (g : Gl2G) (gr : Gl1Rd) (grets : List Int) (gpars : List (List Int)) (i : GInst) : Option (Int × Gl2G × Gl1Rd) :=
 (if (List.length g.b.insts + List.length ([i])) * 72 ≤ 140737488355328 ∧ List.length g.b.insts + List.length ([i]) ≤ LIM then
 (if (((W3 i)) == 0) = true then
 (if inI (g.next + 1) then
 (some (((-1), ({ f := g.f, b := ({ phis := g.b.phis, insts := g.b.insts ++ ([i]), term := g.b.term } : GBlock), next := g.next + 1, ids := g.ids, ws := g.ws } : Gl2G), gr)))
 else none)
 else
 (Option.bind (Z2b (({ f := g.f, b := ({ phis := g.b.phis, insts := g.b.insts ++ ([i]), term := g.b.term } : GBlock), next := g.next, ids := g.ids, ws := g.ws } : Gl2G)) gr grets gpars ((W3 i))) fun x4 =>
 (some ((x4.1, x4.2.1, x4.2.2)))))
 else none)
theorem X4 {g : Gl2G} {gr : Gl1Rd} {grets : List Int} {gpars : List (List Int)} {i : GInst} {r : Int × Gl2G × Gl1Rd} (hm : X3 g gr grets gpars i = some r) : Sim Tryz.prog 97 [.one (.ptr () 0 0 0), .agg (Q1 false i)] [⟨(), 15, [hl2G (.ptr () 1 0 0) (.ref () 2 0 (List.length grets)) (.ref () 3 0 (List.length gpars)) g]⟩, ⟨(), 2, [J3 false gr]⟩, ⟨(), 1, List.map iL grets⟩, ⟨(), 1, List.map (lL false 1 iL) gpars⟩] (.u (.one (.int .i64 r.1))) [⟨(), 15, [hl2G (.ptr () 1 0 0) (.ref () 2 0 (List.length grets)) (.ref () 3 0 (List.length gpars)) r.2.1]⟩, ⟨(), 2, [J3 false r.2.2]⟩, ⟨(), 1, List.map iL grets⟩, ⟨(), 1, List.map (lL false 1 iL) gpars⟩] := by
 refine fN 32 4 Tryz.func97 [.tmp 4] fun B hB0 => ?_
 unfold X3 at hm
 refine Wp.seq ?_
 refine X7 ?_
 refine yR ?_
 intro _ hm
 refine W5 ?_
 refine Wp.seq ?_
 refine gH (q_op 0 5) ?_
 refine Z4t (Y := sysC _) Z4j ?_
 refine tK 0 0 rfl (kV ?_)
 refine tK 1 0 rfl (kV ?_)
 refine tD 2 1 [3, 4, 5, 8, 9, 10, 11, 12] rfl (kN ?_)
 refine tD 3 1 [4, 5, 8, 9, 10, 11, 12] rfl (kF ?_)
 refine tD 4 1 [5, 8, 9, 10, 11, 12] rfl (kF ?_)
 refine tK 5 1 rfl (kD ?_)
 refine tD 6 1 [7, 8, 9, 10, 11, 12] rfl (kW ?_)
 refine oK 7 rfl (kM (Q1 false) ([i]) ?_)
 obtain ⟨h1, hm⟩ := Z9 hm
 refine oK 8 rfl (kA h1 ?_)
 refine tD 9 1 [10, 11, 12] rfl (kN ?_)
 refine tD 10 1 [11, 12] rfl (kF ?_)
 refine tK 11 1 rfl (kF ?_)
 refine oK 12 rfl (kS ?_)
 refine aN ?_
 refine Wp.seq ?_
 refine gH (q_cl 0 7 5) ?_
 refine X7 ?_
 refine nO (kW ?_)
 refine nO (Z5 (cB (Y1x i) ?_))
 refine yG ?_
 intro _ hm
 refine bS hm (fun hb2 hm => ?_) fun hb2 hm => ?_
 refine yG ?_
 intro k1 hm
 cases hm
 exact rG1 [0, 1, 2, 3]
 refine yG ?_
 intro _ hm
 obtain ⟨x4, h5, hm⟩ := Z0 hm
 refine nO (cG [0, 1, 2, 3] (Z8r h5) ?_)
 refine yG ?_
 intro _ hm
 cases hm
 exact rG1 [0, 1, 2, 3]
noncomputable def Y8 (g : Gl2G) (gr : Gl1Rd) (grets : List Int) (gpars : List (List Int)) (w : Int) : Option (Int × Gl2G × Gl1Rd) :=
 (Option.bind (Y6 (fun (st1 : (List Int) × Int) =>
 ((if decide (st1.2 < ((List.length g.ids : Int))) = true then
 (if 0 ≤ st1.2 ∧ st1.2 < (List.length g.ws : Int) then
 (if ((at_ g.ws st1.2) == w) = true then
 (if 0 ≤ st1.2 ∧ st1.2 < (List.length g.ids : Int) then
 (if (List.length st1.1 + List.length ([at_ g.ids st1.2])) * 8 ≤ 140737488355328 ∧ List.length st1.1 + List.length ([at_ g.ids st1.2]) ≤ LIM then
 (if inI (st1.2 + 1) then
 (some (Sum.inl ((st1.1 ++ ([at_ g.ids st1.2]), st1.2 + 1))))
 else none)
 else none)
 else none)
 else
 (if inI (st1.2 + 1) then
 (some (Sum.inl ((st1.1, st1.2 + 1))))
 else none))
 else none)
 else
 (some (Sum.inr st1.1))) : Option (((List Int) × Int) ⊕ (((List Int)))))) (([] : List Int), 0)) fun (j2 : (List Int)) =>
 (Option.bind ((if (((List.length j2 : Int)) == 0) = true then
 (some ((gr, true)))
 else
 (Option.bind (J6 gr 5) fun x16 =>
 (some ((x16.2, x16.1)))))) fun (j13 : Gl1Rd × Bool) =>
 (if j13.2 = true then
 (Option.bind (Z1b j13.1 w) fun x20 =>
 (if 0 ≤ (IntKind.u64.wrap w) then
 (if (IntKind.i64.wrap (1 * 2 ^ min (Int.toNat (IntKind.u64.wrap w)) (IntKind.bits .i64))) ≠ 0 then
 (Option.bind (X3 g x20.2 grets gpars (({ op_ := 21, w := w, a := 0, b := 0, c := 0, imm := Int.tmod (Int.tmod x20.1 7) (IntKind.i64.wrap (1 * 2 ^ min (Int.toNat (IntKind.u64.wrap w)) (IntKind.bits .i64))), args := ([] : List Int) } : GInst))) fun x24 =>
 (some ((x24.1, x24.2.1, x24.2.2))))
 else none)
 else none))
 else
 (Option.bind (Z6 j13.1 (((List.length j2 : Int)) + 2)) fun x27 =>
 (if 0 ≤ ((if decide (x27.1 ≥ ((List.length j2 : Int))) = true then ((List.length j2 : Int)) - 1 else x27.1)) ∧ ((if decide (x27.1 ≥ ((List.length j2 : Int))) = true then ((List.length j2 : Int)) - 1 else x27.1)) < (List.length j2 : Int) then
 (some ((at_ j2 ((if decide (x27.1 ≥ ((List.length j2 : Int))) = true then ((List.length j2 : Int)) - 1 else x27.1)), g, x27.2)))
 else none)))))
theorem X1 {g : Gl2G} {gr : Gl1Rd} {grets : List Int} {gpars : List (List Int)} {w : Int} {r : Int × Gl2G × Gl1Rd} (hm : Y8 g gr grets gpars w = some r) : Sim Tryz.prog 99 [.one (.ptr () 0 0 0), .one (.int .i64 w)] [⟨(), 15, [hl2G (.ptr () 1 0 0) (.ref () 2 0 (List.length grets)) (.ref () 3 0 (List.length gpars)) g]⟩, ⟨(), 2, [J3 false gr]⟩, ⟨(), 1, List.map iL grets⟩, ⟨(), 1, List.map (lL false 1 iL) gpars⟩] (.u (.one (.int .i64 r.1))) [⟨(), 15, [hl2G (.ptr () 1 0 0) (.ref () 2 0 (List.length grets)) (.ref () 3 0 (List.length gpars)) r.2.1]⟩, ⟨(), 2, [J3 false r.2.2]⟩, ⟨(), 1, List.map iL grets⟩, ⟨(), 1, List.map (lL false 1 iL) gpars⟩] := by
 refine fN 81 4 Tryz.func99 [.tmp 4] fun B hB0 => ?_
 unfold Y8 at hm
 refine yG ?_
 intro _ hm
 refine nO (kM (iL) (([] : List Int)) ?_)
 refine yG ?_
 intro _ hm
 obtain ⟨j2, hl12, hm⟩ := Z0 hm
 refine lP hl12 (fun st1 => St 81 [(0, vP 0), (1, vI w), (5, vR 4 (List.length st1.1)), (6, vI st1.2)] [(0, oL 15 (hl2G (.ptr () 1 0 0) (.ref () 2 0 (List.length grets)) (.ref () 3 0 (List.length gpars)) g)), (1, oL 2 (J3 false gr)), (2, oM 1 iL grets), (3, oM 1 (lL false 1 iL) gpars), (4, oM 1 iL st1.1)] 5) (fun j2 => (.exit 0, St 81 [(0, vP 0), (1, vI w), (5, vR 4 (List.length j2))] [(0, oL 15 (hl2G (.ptr () 1 0 0) (.ref () 2 0 (List.length grets)) (.ref () 3 0 (List.length gpars)) g)), (1, oL 2 (J3 false gr)), (2, oM 1 iL grets), (3, oM 1 (lL false 1 iL) gpars), (4, oM 1 iL j2)] 5)) (vW [0, 1, 2, 3, 4]) ?_ ?_
 intro st1 x hm
 refine yG ?_
 intro k1 hm
 refine bS hm (fun hb4 hm => ?_) fun hb4 hm => ?_
 refine yG ?_
 intro k2 hm
 refine bS hm (fun hb6 hm => ?_) fun hb6 hm => ?_
 refine yG ?_
 intro k3 hm
 refine nO (kM (iL) ([at_ g.ids st1.2]) ?_)
 refine yG ?_
 intro k4 hm
 cases hm
 exact ⟨rfl, vW [0, 1, 2, 3, 6]⟩
 refine yG ?_
 intro k5 hm
 cases hm
 exact ⟨rfl, vW [0, 1, 2, 3, 4]⟩
 refine V2 ?_
 cases hm
 exact ⟨rfl, vW [0, 1, 2, 3, 4]⟩
 refine Wp.seq ?_
 refine Wp.seq ?_
 obtain ⟨j13, hj18, hm⟩ := Z0 hm
 refine V7 (St 81 [(0, vP 0), (1, vI w), (5, vR 4 (List.length j2)), (46, vB j13.2)] [(0, oL 15 (hl2G (.ptr () 1 0 0) (.ref () 2 0 (List.length grets)) (.ref () 3 0 (List.length gpars)) g)), (1, oL 2 (J3 false j13.1)), (2, oM 1 iL grets), (3, oM 1 (lL false 1 iL) gpars), (4, oM 1 iL j2)] 5) ?_ ?_
 replace hm := hj18
 refine yG ?_
 intro k6 hm
 refine bG0 hm (fun hb15 hm => ?_) fun hb15 hm => ?_
 refine yG ?_
 intro _ hm
 obtain ⟨x16, h17, hm⟩ := Z0 hm
 refine gO_t rfl rfl rfl (cG [1] (Z4b h17) ?_)
 refine yG ?_
 intro _ hm
 cases hm
 exact vW [0, 1, 2, 3, 4]
 refine yG ?_
 intro _ hm
 cases hm
 exact vW [0, 1, 2, 3, 4]
 refine bS hm (fun hb19 hm => ?_) fun hb19 hm => ?_
 refine yG ?_
 intro _ hm
 obtain ⟨x20, h21, hm⟩ := Z0 hm
 refine nO (cG [1] (Z9k h21) ?_)
 refine nO (W4v T2 rfl rfl (by decide) ?_)
 refine nO (x_mv rfl rfl ?_)
 refine nO (W4w T2 T101 rfl rfl ?_)
 obtain ⟨h22, hm⟩ := Z9 hm
 refine nO (x_shl T2 rfl rfl h22 ?_)
 obtain ⟨h23, hm⟩ := Z9 hm
 refine nO (W4v T2 rfl rfl h23 ?_)
 refine nO (x_bu (cells := [.int .i64 21, .int .i64 w, .int .i64 0, .int .i64 0, .int .i64 0, .int .i64 (Int.tmod (Int.tmod x20.1 7) (IntKind.i64.wrap (1 * 2 ^ min (Int.toNat (IntKind.u64.wrap w)) (IntKind.bits .i64)))), .nl]) T46 rfl rfl rfl ?_)
 refine WpO.ghb (q_nb 60 6 1) ?_
 obtain ⟨x24, h25, hm⟩ := Z0 hm
 refine nO (cG [0, 1, 2, 3] (X4 h25) ?_)
 refine yG ?_
 intro _ hm
 cases hm
 exact rG1 [0, 1, 2, 3]
 refine yG ?_
 intro k7 hm
 obtain ⟨x27, h28, hm⟩ := Z0 hm
 refine nO (cG [1] (Z2 h28) ?_)
 refine nO (x_as rfl rfl ?_)
 refine W5 ?_
 refine Wp.seq ?_
 refine V7 (St 81 [(5, vR 4 (List.length j2)), (7, vI ((if decide (x27.1 ≥ ((List.length j2 : Int))) = true then ((List.length j2 : Int)) - 1 else x27.1)))] [(0, oL 15 (hl2G (.ptr () 1 0 0) (.ref () 2 0 (List.length grets)) (.ref () 3 0 (List.length gpars)) g)), (1, oL 2 (J3 false x27.2)), (2, oM 1 iL grets), (3, oM 1 (lL false 1 iL) gpars), (4, oM 1 iL j2)] 5) ?_ ?_
 refine yG ?_
 intro k8 hm
 refine c_s rfl rfl (fun hb31 => ?_) (fun hb31 => ?_)
 refine yG ?_
 intro k9 hm
 exact w_ [0, 1, 2, 3, 4] (.cons rfl rfl (.cons (by simp only [hb31, BO]; rfl) rfl .nil)) (.lit rfl rfl (.lit rfl rfl (.map rfl (.map rfl (.map rfl .nil))))) (by decide) (hB_n 4 hB0 rfl)
 refine K5 ?_
 exact w_ [0, 1, 2, 3, 4] (.cons rfl rfl (.cons (by simp only [hb31, BO]; rfl) rfl .nil)) (.lit rfl rfl (.lit rfl rfl (.map rfl (.map rfl (.map rfl .nil))))) (by decide) (hB_n 4 hB0 rfl)
 refine yG ?_
 intro k10 hm
 cases hm
 exact rG1 [0, 1, 2, 3]
noncomputable def Z4h (g : Gl2G) (gr : Gl1Rd) (grets : List Int) (gpars : List (List Int)) : Option (Gl2G × Gl1Rd) :=
 (if (((List.length grets : Int)) == 0) = true then
 (some ((g, gr)))
 else
 (Option.bind (Z6 gr ((List.length grets : Int))) fun x4 =>
 (Option.bind (Y6 (fun (st6 : Gl2G × Gl1Rd × (List Int) × Int) =>
 ((if 0 ≤ x4.1 ∧ x4.1 < (List.length gpars : Int) then
 (if decide (st6.2.2.2 < ((List.length (at_ gpars x4.1) : Int))) = true then
 (if 0 ≤ x4.1 ∧ x4.1 < (List.length gpars : Int) then
 (if 0 ≤ st6.2.2.2 ∧ st6.2.2.2 < (List.length (at_ gpars x4.1) : Int) then
 (Option.bind (Y8 st6.1 st6.2.1 grets gpars (at_ (at_ gpars x4.1) st6.2.2.2)) fun x13 =>
 (if (List.length st6.2.2.1 + List.length ([x13.1])) * 8 ≤ 140737488355328 ∧ List.length st6.2.2.1 + List.length ([x13.1]) ≤ LIM then
 (if inI (st6.2.2.2 + 1) then
 (some (Sum.inl ((x13.2.1, x13.2.2, st6.2.2.1 ++ ([x13.1]), st6.2.2.2 + 1))))
 else none)
 else none))
 else none)
 else none)
 else
 (some (Sum.inr (((st6.1, st6.2.1, st6.2.2.1))))))
 else none) : Option ((Gl2G × Gl1Rd × (List Int) × Int) ⊕ ((Gl2G × Gl1Rd × (List Int)))))) (g, x4.2, ([] : List Int), 0)) fun (j7 : Gl2G × Gl1Rd × (List Int)) =>
 (if 0 ≤ x4.1 ∧ x4.1 < (List.length grets : Int) then
 (Option.bind (X3 j7.1 j7.2.1 grets gpars (({ op_ := 26, w := at_ grets x4.1, a := 0, b := 0, c := 0, imm := x4.1, args := j7.2.2 } : GInst))) fun x20 =>
 (some ((x20.2.1, x20.2.2))))
 else none))))
theorem Y6a {g : Gl2G} {gr : Gl1Rd} {grets : List Int} {gpars : List (List Int)} {r : Gl2G × Gl1Rd} (hm : Z4h g gr grets gpars = some r) : Sim Tryz.prog 100 [.one (.ptr () 0 0 0)] [⟨(), 15, [hl2G (.ptr () 1 0 0) (.ref () 2 0 (List.length grets)) (.ref () 3 0 (List.length gpars)) g]⟩, ⟨(), 2, [J3 false gr]⟩, ⟨(), 1, List.map iL grets⟩, ⟨(), 1, List.map (lL false 1 iL) gpars⟩] (.tup []) [⟨(), 15, [hl2G (.ptr () 1 0 0) (.ref () 2 0 (List.length grets)) (.ref () 3 0 (List.length gpars)) r.1]⟩, ⟨(), 2, [J3 false r.2]⟩, ⟨(), 1, List.map iL grets⟩, ⟨(), 1, List.map (lL false 1 iL) gpars⟩] := by
 refine fN 61 4 Tryz.func100 [] fun B hB0 => ?_
 unfold Z4h at hm
 refine yG ?_
 intro k1 hm
 refine bS hm (fun hb2 hm => ?_) fun hb2 hm => ?_
 refine Z2d ?_
 cases hm
 exact rGt [0, 1, 2, 3]
 refine K5 ?_
 refine Wp.seq ?_
 refine Z4t (Y := sysG _) Z4j ?_
 refine tK 0 0 rfl (kV ?_)
 refine tD 1 1 [2, 3, 9, 10] rfl (kN ?_)
 refine tD 2 1 [3, 9, 10] rfl (kF ?_)
 refine tK 3 1 rfl (kD ?_)
 refine tK 4 0 rfl (kV ?_)
 refine tD 5 1 [6, 7, 8, 9, 10] rfl (kN ?_)
 refine tD 6 1 [7, 8, 9, 10] rfl (kF ?_)
 refine tD 7 1 [8, 9, 10] rfl (kD ?_)
 refine tK 8 1 rfl (X9x rfl N29 rfl rfl fun hL3 => ?_)
 obtain ⟨x4, h5, hm⟩ := Z0 hm
 refine oK 9 rfl (cgG [1] (Z2 h5) ?_)
 refine tK 10 0 rfl (x_as rfl rfl ?_)
 refine aN ?_
 refine Wp.seq ?_
 refine X7 ?_
 refine nO (kM (iL) (([] : List Int)) ?_)
 refine yG ?_
 intro _ hm
 obtain ⟨j7, hl18, hm⟩ := Z0 hm
 refine lP hl18 (fun st6 => St 61 [(0, vP 0), (2, vI x4.1), (3, vR 4 (List.length st6.2.2.1)), (4, vI st6.2.2.2)] [(0, oL 15 (hl2G (.ptr () 1 0 0) (.ref () 2 0 (List.length grets)) (.ref () 3 0 (List.length gpars)) st6.1)), (1, oL 2 (J3 false st6.2.1)), (2, oM 1 iL grets), (3, oM 1 (lL false 1 iL) gpars), (4, oM 1 iL st6.2.2.1)] 5) (fun j7 => (.exit 0, St 61 [(0, vP 0), (2, vI x4.1), (3, vR 4 (List.length j7.2.2))] [(0, oL 15 (hl2G (.ptr () 1 0 0) (.ref () 2 0 (List.length grets)) (.ref () 3 0 (List.length gpars)) j7.1)), (1, oL 2 (J3 false j7.2.1)), (2, oM 1 iL grets), (3, oM 1 (lL false 1 iL) gpars), (4, oM 1 iL j7.2.2)] 5)) (vW [0, 1, 2, 3, 4]) ?_ ?_
 intro st6 x hm
 refine yG ?_
 intro k2 hm
 refine bS hm (fun hb10 hm => ?_) fun hb10 hm => ?_
 refine yG ?_
 intro k3 hm
 obtain ⟨x13, h14, hm⟩ := Z0 hm
 refine nO (cG [0, 1, 2, 3] (X1 h14) ?_)
 refine nO (kM (iL) ([x13.1]) ?_)
 refine yG ?_
 intro k4 hm
 cases hm
 exact ⟨rfl, vW [0, 1, 2, 3, 6]⟩
 refine V2 ?_
 cases hm
 exact ⟨rfl, vW [0, 1, 2, 3, 4]⟩
 refine X7 ?_
 refine nO (x_mv rfl rfl ?_)
 refine nO (x_mv rfl rfl ?_)
 refine nO (X1d rfl rfl rfl ?_)
 refine nO (Z9y rfl F83_6 rfl rfl ?_)
 refine nO (Y2e rfl T29 rfl rfl rfl rfl rfl ?_)
 refine nO (x_mv rfl rfl ?_)
 obtain ⟨h19, hm⟩ := Z9 hm
 refine nO (K8 rfl E29 rfl rfl rfl h19 ?_)
 refine nO (Z5g rfl T2 rfl rfl h19 rfl rfl ?_)
 refine nO (x_mv rfl rfl ?_)
 refine nO (x_mv rfl rfl ?_)
 refine WpO.ghb (f_frz 4 [3, 58] rfl (Z9e _) (.cons rfl (by simp) (.cons rfl (by simp) .nil)) rfl) ?_
 refine yG ?_
 intro _ hm
 obtain ⟨x20, h21, hm⟩ := Z0 hm
 refine nO (cG [0, 1, 2, 3] (X4 h21) ?_)
 refine W5 ?_
 cases hm
 exact rGt [0, 1, 2, 3]
end
section
set_option maxHeartbeats 8000000
set_option maxRecDepth 100000
attribute [local irreducible] aopK J8 Wp St WpO
noncomputable def K3 (g : Gl2G) (gr : Gl1Rd) (grets : List Int) (gpars : List (List Int)) (n : Int) : Option (Gl2G × Gl1Rd) :=
 (Option.bind (Y6 (fun (st1 : Gl2G × Gl1Rd × Int) =>
 ((if (decide (st1.2.2 < n) && decide (st1.1.next < 40)) = true then
 (Option.bind (J9 st1.2.1) fun x6 =>
 (Option.bind (Z6 x6.2 14) fun x8 =>
 (if (x8.1 == 0) = true then
 (Option.bind (Z1b x8.2 x6.1) fun x11 =>
 (Option.bind (X3 st1.1 x11.2 grets gpars (({ op_ := 21, w := x6.1, a := 0, b := 0, c := 0, imm := x11.1, args := ([] : List Int) } : GInst))) fun x13 =>
 (if inI (st1.2.2 + 1) then
 (some (Sum.inl ((x13.2.1, x13.2.2, st1.2.2 + 1))))
 else none)))
 else
 (if (x8.1 == 1) = true then
 (Option.bind (Y8 st1.1 x8.2 grets gpars 1) fun x17 =>
 (Option.bind (Y8 x17.2.1 x17.2.2 grets gpars x6.1) fun x19 =>
 (Option.bind (Y8 x19.2.1 x19.2.2 grets gpars x6.1) fun x21 =>
 (Option.bind (X3 x21.2.1 x21.2.2 grets gpars (({ op_ := 22, w := x6.1, a := x17.1, b := x19.1, c := x21.1, imm := 0, args := ([] : List Int) } : GInst))) fun x23 =>
 (if inI (st1.2.2 + 1) then
 (some (Sum.inl ((x23.2.1, x23.2.2, st1.2.2 + 1))))
 else none)))))
 else
 (if (x8.1 == 2) = true then
 (Option.bind (Y8 st1.1 x8.2 grets gpars 8) fun x27 =>
 (Option.bind ((Option.bind (Z6 x27.2.2 2) fun x30 =>
 (if 0 ≤ x30.1 ∧ x30.1 < (List.length ([18, 19]) : Int) then
 (Option.bind (Z6 x30.2 2) fun x33 =>
 (if 0 ≤ x33.1 ∧ x33.1 < (List.length ([16, 32]) : Int) then
 (Option.bind (X3 x27.2.1 x33.2 grets gpars (({ op_ := at_ ([18, 19]) x30.1, w := at_ ([16, 32]) x33.1, a := x27.1, b := 0, c := 0, imm := 0, args := ([] : List Int) } : GInst))) fun x36 =>
 (some ((x36.2.1, x36.2.2))))
 else none))
 else none))) fun (j29 : Gl2G × Gl1Rd) =>
 (if inI (st1.2.2 + 1) then
 (some (Sum.inl ((j29.1, j29.2, st1.2.2 + 1))))
 else none)))
 else
 (if (x8.1 == 3) = true then
 (Option.bind (Y8 st1.1 x8.2 grets gpars 32) fun x41 =>
 (Option.bind (Z6 x41.2.2 3) fun x43 =>
 (if 0 ≤ x43.1 ∧ x43.1 < (List.length ([1, 8, 16]) : Int) then
 (Option.bind (X3 x41.2.1 x43.2 grets gpars (({ op_ := 20, w := at_ ([1, 8, 16]) x43.1, a := x41.1, b := 0, c := 0, imm := 0, args := ([] : List Int) } : GInst))) fun x46 =>
 (if inI (st1.2.2 + 1) then
 (some (Sum.inl ((x46.2.1, x46.2.2, st1.2.2 + 1))))
 else none))
 else none)))
 else
 (if (x8.1 == 4) = true then
 (Option.bind (Z6 x8.2 34) fun x50 =>
 (Option.bind (X3 st1.1 x50.2 grets gpars (({ op_ := 21, w := 32, a := 0, b := 0, c := 0, imm := x50.1, args := ([] : List Int) } : GInst))) fun x52 =>
 (Option.bind (X3 x52.2.1 x52.2.2 grets gpars (({ op_ := 23, w := 8, a := x52.1, b := 0, c := 0, imm := 0, args := ([] : List Int) } : GInst))) fun x54 =>
 (if inI (st1.2.2 + 1) then
 (some (Sum.inl ((x54.2.1, x54.2.2, st1.2.2 + 1))))
 else none))))
 else
 (if (x8.1 == 5) = true then
 (Option.bind (Z6 x8.2 33) fun x58 =>
 (Option.bind (X3 st1.1 x58.2 grets gpars (({ op_ := 21, w := 32, a := 0, b := 0, c := 0, imm := x58.1, args := ([] : List Int) } : GInst))) fun x60 =>
 (Option.bind (Y8 x60.2.1 x60.2.2 grets gpars 8) fun x62 =>
 (Option.bind (X3 x62.2.1 x62.2.2 grets gpars (({ op_ := 24, w := 0, a := x60.1, b := x62.1, c := 0, imm := 0, args := ([] : List Int) } : GInst))) fun x64 =>
 (if inI (st1.2.2 + 1) then
 (some (Sum.inl ((x64.2.1, x64.2.2, st1.2.2 + 1))))
 else none)))))
 else
 (if (x8.1 == 6) = true then
 (Option.bind (Y8 st1.1 x8.2 grets gpars x6.1) fun x68 =>
 (Option.bind (X3 x68.2.1 x68.2.2 grets gpars (({ op_ := 25, w := 0, a := x68.1, b := 0, c := 0, imm := 0, args := ([] : List Int) } : GInst))) fun x70 =>
 (if inI (st1.2.2 + 1) then
 (some (Sum.inl ((x70.2.1, x70.2.2, st1.2.2 + 1))))
 else none)))
 else
 (if (x8.1 == 7) = true then
 (Option.bind (Y8 st1.1 x8.2 grets gpars x6.1) fun x74 =>
 (Option.bind (X3 x74.2.1 x74.2.2 grets gpars (({ op_ := 27, w := x6.1, a := x74.1, b := 0, c := 0, imm := 0, args := ([] : List Int) } : GInst))) fun x76 =>
 (if inI (st1.2.2 + 1) then
 (some (Sum.inl ((x76.2.1, x76.2.2, st1.2.2 + 1))))
 else none)))
 else
 (if (x8.1 == 8) = true then
 (Option.bind (Z4h st1.1 x8.2 grets gpars) fun x80 =>
 (if inI (st1.2.2 + 1) then
 (some (Sum.inl ((x80.1, x80.2, st1.2.2 + 1))))
 else none))
 else
 (Option.bind (Y8 st1.1 x8.2 grets gpars x6.1) fun x83 =>
 (Option.bind (Y8 x83.2.1 x83.2.2 grets gpars x6.1) fun x85 =>
 (Option.bind (Z6 x85.2.2 17) fun x87 =>
 (if inI (1 + x87.1) then
 (Option.bind (X3 x85.2.1 x87.2 grets gpars (({ op_ := 1 + x87.1, w := x6.1, a := x83.1, b := x85.1, c := 0, imm := 0, args := ([] : List Int) } : GInst))) fun x90 =>
 (if inI (st1.2.2 + 1) then
 (some (Sum.inl ((x90.2.1, x90.2.2, st1.2.2 + 1))))
 else none))
 else none)))))))))))))))
 else
 (some (Sum.inr (((st1.1, st1.2.1)))))) : Option ((Gl2G × Gl1Rd × Int) ⊕ ((Gl2G × Gl1Rd))))) (g, gr, 0)) fun (j2 : Gl2G × Gl1Rd) =>
 (some ((j2.1, j2.2))))
theorem Z1a {g : Gl2G} {gr : Gl1Rd} {grets : List Int} {gpars : List (List Int)} {n : Int} {r : Gl2G × Gl1Rd} (hm : K3 g gr grets gpars n = some r) : Sim Tryz.prog 61 [.one (.ptr () 0 0 0), .one (.int .i64 n)] [⟨(), 15, [hl2G (.ptr () 1 0 0) (.ref () 2 0 (List.length grets)) (.ref () 3 0 (List.length gpars)) g]⟩, ⟨(), 2, [J3 false gr]⟩, ⟨(), 1, List.map iL grets⟩, ⟨(), 1, List.map (lL false 1 iL) gpars⟩] (.tup []) [⟨(), 15, [hl2G (.ptr () 1 0 0) (.ref () 2 0 (List.length grets)) (.ref () 3 0 (List.length gpars)) r.1]⟩, ⟨(), 2, [J3 false r.2]⟩, ⟨(), 1, List.map iL grets⟩, ⟨(), 1, List.map (lL false 1 iL) gpars⟩] := by
 refine fN 181 4 Tryz.func61 [] fun B hB0 => ?_
 unfold K3 at hm
 refine yG ?_
 intro _ hm
 obtain ⟨j2, hl94, hm⟩ := Z0 hm
 refine lP hl94 (fun st1 => St 181 [(0, vP 0), (1, vI n), (4, vI st1.2.2)] [(0, oL 15 (hl2G (.ptr () 1 0 0) (.ref () 2 0 (List.length grets)) (.ref () 3 0 (List.length gpars)) st1.1)), (1, oL 2 (J3 false st1.2.1)), (2, oM 1 iL grets), (3, oM 1 (lL false 1 iL) gpars)] 4) (fun j2 => (.exit 0, St 181 [] [(0, oL 15 (hl2G (.ptr () 1 0 0) (.ref () 2 0 (List.length grets)) (.ref () 3 0 (List.length gpars)) j2.1)), (1, oL 2 (J3 false j2.2)), (2, oM 1 iL grets), (3, oM 1 (lL false 1 iL) gpars)] 4)) (vW [0, 1, 2, 3]) ?_ ?_
 intro st1 x hm
 refine Wp.seq ?_
 refine Wp.seq ?_
 refine V7 (St 181 [(0, vP 0), (1, vI n), (4, vI st1.2.2), (27, vB ((decide (st1.2.2 < n) && decide (st1.1.next < 40))))] [(0, oL 15 (hl2G (.ptr () 1 0 0) (.ref () 2 0 (List.length grets)) (.ref () 3 0 (List.length gpars)) st1.1)), (1, oL 2 (J3 false st1.2.1)), (2, oM 1 iL grets), (3, oM 1 (lL false 1 iL) gpars)] 4) ?_ ?_
 refine yG ?_
 intro _ hm
 refine gO_s rfl rfl rfl (fun hb4 => ?_) (fun hb4 => ?_)
 refine yG ?_
 intro _ hm
 exact w_ [0, 1, 2, 3] (.cons rfl rfl (.cons rfl rfl (.cons rfl rfl (.cons (by simp only [hb4, BO]; rfl) rfl .nil)))) (.lit rfl rfl (.lit rfl rfl (.map rfl (.map rfl .nil)))) (by decide) (hB_n 4 hB0 rfl)
 refine yG ?_
 intro _ hm
 exact w_ [0, 1, 2, 3] (.cons rfl rfl (.cons rfl rfl (.cons rfl rfl (.cons (by simp only [hb4, BO]; rfl) rfl .nil)))) (.lit rfl rfl (.lit rfl rfl (.map rfl (.map rfl .nil)))) (by decide) (hB_n 4 hB0 rfl)
 refine bS hm (fun hb5 hm => ?_) fun hb5 hm => ?_
 refine yG ?_
 intro _ hm
 obtain ⟨x6, h7, hm⟩ := Z0 hm
 refine nO (cG [1] (Z1d h7) ?_)
 refine yG ?_
 intro _ hm
 obtain ⟨x8, h9, hm⟩ := Z0 hm
 refine nO (cG [1] (Z2 h9) ?_)
 refine yG ?_
 intro _ hm
 refine bS hm (fun hb10 hm => ?_) fun hb10 hm => ?_
 refine yG ?_
 intro _ hm
 obtain ⟨x11, h12, hm⟩ := Z0 hm
 refine nO (cG [1] (Z9k h12) ?_)
 refine nO (x_bu (cells := [.int .i64 21, .int .i64 x6.1, .int .i64 0, .int .i64 0, .int .i64 0, .int .i64 x11.1, .nl]) T46 rfl rfl rfl ?_)
 refine WpO.ghb (q_nb 68 6 1) ?_
 obtain ⟨x13, h14, hm⟩ := Z0 hm
 refine nO (cG [0, 1, 2, 3] (X4 h14) ?_)
 refine yG ?_
 intro k1 hm
 cases hm
 exact ⟨rfl, vW [0, 1, 2, 3]⟩
 refine yG ?_
 intro _ hm
 refine bS hm (fun hb16 hm => ?_) fun hb16 hm => ?_
 refine yG ?_
 intro _ hm
 obtain ⟨x17, h18, hm⟩ := Z0 hm
 refine nO (cG [0, 1, 2, 3] (X1 h18) ?_)
 refine yG ?_
 intro _ hm
 obtain ⟨x19, h20, hm⟩ := Z0 hm
 refine nO (cG [0, 1, 2, 3] (X1 h20) ?_)
 refine yG ?_
 intro _ hm
 obtain ⟨x21, h22, hm⟩ := Z0 hm
 refine nO (cG [0, 1, 2, 3] (X1 h22) ?_)
 refine nO (x_as rfl rfl ?_)
 refine W5 ?_
 refine X7 ?_
 refine nO (x_mv rfl rfl ?_)
 refine nO (x_mv rfl rfl ?_)
 refine nO (x_mv rfl rfl ?_)
 refine nO (x_mv rfl rfl ?_)
 refine nO (x_mv rfl rfl ?_)
 refine nO (x_bu (cells := [.int .i64 22, .int .i64 x6.1, .int .i64 x17.1, .int .i64 x19.1, .int .i64 x21.1, .int .i64 0, .nl]) T46 rfl rfl rfl ?_)
 refine WpO.ghb (q_nb 85 6 1) ?_
 obtain ⟨x23, h24, hm⟩ := Z0 hm
 refine nO (cG [0, 1, 2, 3] (X4 h24) ?_)
 refine yG ?_
 intro k2 hm
 cases hm
 exact ⟨rfl, vW [0, 1, 2, 3]⟩
 refine yG ?_
 intro _ hm
 refine bS hm (fun hb26 hm => ?_) fun hb26 hm => ?_
 refine yG ?_
 intro _ hm
 obtain ⟨x27, h28, hm⟩ := Z0 hm
 refine nO (cG [0, 1, 2, 3] (X1 h28) ?_)
 refine nO (x_as rfl rfl ?_)
 refine W5 ?_
 obtain ⟨j29, hj38, hm⟩ := Z0 hm
 refine V7 (St 181 [(0, vP 0), (1, vI n), (4, vI st1.2.2)] [(0, oL 15 (hl2G (.ptr () 1 0 0) (.ref () 2 0 (List.length grets)) (.ref () 3 0 (List.length gpars)) j29.1)), (1, oL 2 (J3 false j29.2)), (2, oM 1 iL grets), (3, oM 1 (lL false 1 iL) gpars)] 4) ?_ ?_
 replace hm := hj38
 refine Z4t (Y := sysH _ [1] [110]) Z4j ?_
 obtain ⟨x30, h31, hm⟩ := Z0 hm
 have hS17_6 := (Z2 h31)
 obtain ⟨h32, hm⟩ := Z9 hm
 obtain ⟨x33, h34, hm⟩ := Z0 hm
 have hS17_14 := (Z2 h34)
 obtain ⟨h35, hm⟩ := Z9 hm
 obtain ⟨x36, h37, hm⟩ := Z0 hm
 have hS17_19 := (X4 h37)
 refine tK 0 0 rfl (kV ?_)
 refine tK 2 0 rfl (kV ?_)
 refine tD 3 1 [4, 5, 6, 7, 8, 14, 15, 16, 18, 19] rfl (kN ?_)
 refine tD 4 1 [5, 6, 7, 8, 14, 15, 16, 18, 19] rfl (kF ?_)
 refine tD 5 1 [6, 7, 8, 14, 15, 16, 18, 19] rfl (kD ?_)
 refine tK 10 0 rfl (kV ?_)
 refine tE 11 [12, 13, 14, 15, 16, 18, 19] rfl (kN ?_)
 refine tE 12 [13, 14, 15, 16, 18, 19] rfl (kF ?_)
 refine tE 13 [14, 15, 16, 18, 19] rfl (kD ?_)
 refine tK 17 0 rfl (kV ?_)
 refine t_n 1 [6, 9] (by decide +kernel) (.cons (wy rfl (Y4g (enc := iL) ([18, 19]) A29 rfl rfl rfl rfl ?_)) (.cons (wy rfl (Z6h (H := [1]) (X := [110]) (v := .u (.one (.int .i64 x30.1))) (nobs := []) (oa' := _) (nx' := 4) hS17_6 [1] rfl (by decide) (h_c rfl h_n) rfl (g_1 rfl rfl rfl (g_1 rfl rfl rfl g_n)) EntC.h rfl rfl rfl rfl ?_ rfl)) (.cons (wy rfl (Y4g (enc := iL) ([16, 32]) A29 rfl rfl rfl rfl ?_)) .nil)))
 refine t_n 6 [9] (by decide +kernel) (.cons (wy rfl (Z6h (H := [1]) (X := [110]) (v := .u (.one (.int .i64 x30.1))) (nobs := []) (oa' := _) (nx' := 5) hS17_6 [1] rfl (by decide) (h_c rfl h_n) rfl (g_1 rfl rfl rfl (g_1 rfl rfl rfl g_n)) EntC.h rfl rfl rfl rfl ?_ rfl)) (.cons (wy rfl (Y4g (enc := iL) ([16, 32]) A29 rfl rfl rfl rfl ?_)) .nil))
 refine tE 7 [8, 18, 19] rfl (K8 rfl E29 rfl rfl rfl h32 ?_)
 refine tE 8 [18, 19] rfl (Z5g rfl T2 rfl rfl h32 rfl rfl ?_)
 refine t_n 9 [14] (by decide +kernel) (.cons (wy rfl (Y4g (enc := iL) ([16, 32]) A29 rfl rfl rfl rfl ?_)) (.cons (wy rfl (Z6h (H := [1]) (X := [110]) (v := .u (.one (.int .i64 x33.1))) (nobs := []) (oa' := _) (nx' := 5) hS17_14 [1] rfl (by decide) (h_c rfl h_n) rfl (g_1 rfl rfl rfl (g_1 rfl rfl rfl g_n)) EntC.h rfl rfl rfl rfl ?_ rfl)) .nil))
 refine oK 14 rfl (Z6h (H := [1]) (X := [110]) (v := .u (.one (.int .i64 x33.1))) (nobs := []) (oa' := _) (nx' := 6) hS17_14 [1] rfl (by decide) (h_c rfl h_n) rfl (g_1 rfl rfl rfl (g_1 rfl rfl rfl g_n)) EntC.h rfl rfl rfl rfl ?_ rfl)
 refine tD 15 1 [16, 18, 19] rfl (K8 rfl E29 rfl rfl rfl h35 ?_)
 refine tD 16 1 [18, 19] rfl (Z5g rfl T2 rfl rfl h35 rfl rfl ?_)
 refine tK 18 0 rfl (kB ([.int .i64 (at_ ([18, 19]) x30.1), .int .i64 (at_ ([16, 32]) x33.1), .int .i64 x27.1, .int .i64 0, .int .i64 0, .int .i64 0, .nl]) ?_)
 refine oK 19 rfl (Z6h (H := [1]) (X := [110]) (v := .u (.one (.int .i64 x36.1))) (nobs := []) (oa' := _) (nx' := 6) hS17_19 [0, 1, 2, 3] rfl (by decide) (h_c rfl (h_c rfl (h_c (hrow rfl) (h_c (hrow rfl) h_n)))) (by simp only [hl2G, K6, KO] <;> rfl) (g_1 rfl rfl rfl (g_an rfl (.cons (.same rfl) (.cons (.same rfl) (.cons (.same rfl) (.cons (.same rfl) (.cons (.same rfl) (.cons (.same rfl) (.cons .nl .nil))))))) rfl g_n)) EntC.h rfl rfl (by simp only [hl2G, oaG, updO, Z6p, Z3b, HO] <;> rfl) rfl ?_ rfl)
 refine aN ?_
 cases hm
 exact vW [0, 1, 2, 3]
 refine oK 9 rfl (kM (iL) ([16, 32]) ?_)
 refine tD 15 1 [16, 18, 19] rfl (K8 rfl E29 rfl rfl rfl h35 ?_)
 refine tD 16 1 [18, 19] rfl (Z5g rfl T2 rfl rfl h35 rfl rfl ?_)
 refine tK 18 0 rfl (kB ([.int .i64 (at_ ([18, 19]) x30.1), .int .i64 (at_ ([16, 32]) x33.1), .int .i64 x27.1, .int .i64 0, .int .i64 0, .int .i64 0, .nl]) ?_)
 refine oK 19 rfl (Z6h (H := [1]) (X := [110]) (v := .u (.one (.int .i64 x36.1))) (nobs := []) (oa' := _) (nx' := 6) hS17_19 [0, 1, 2, 3] rfl (by decide) (h_c rfl (h_c rfl (h_c (hrow rfl) (h_c (hrow rfl) h_n)))) (by simp only [hl2G, K6, KO] <;> rfl) (g_1 rfl rfl rfl (g_an rfl (.cons (.same rfl) (.cons (.same rfl) (.cons (.same rfl) (.cons (.same rfl) (.cons (.same rfl) (.cons (.same rfl) (.cons .nl .nil))))))) rfl g_n)) EntC.h rfl rfl (by simp only [hl2G, oaG, updO, Z6p, Z3b, HO] <;> rfl) rfl ?_ rfl)
 refine aN ?_
 cases hm
 exact vW [0, 1, 2, 3]
 refine oK 6 rfl (Z6h (H := [1]) (X := [110]) (v := .u (.one (.int .i64 x30.1))) (nobs := []) (oa' := _) (nx' := 6) hS17_6 [1] rfl (by decide) (h_c rfl h_n) rfl (g_1 rfl rfl rfl (g_1 rfl rfl rfl g_n)) EntC.h rfl rfl rfl rfl ?_ rfl)
 refine tE 7 [8, 18, 19] rfl (K8 rfl E29 rfl rfl rfl h32 ?_)
 refine tE 8 [18, 19] rfl (Z5g rfl T2 rfl rfl h32 rfl rfl ?_)
 refine oK 14 rfl (Z6h (H := [1]) (X := [110]) (v := .u (.one (.int .i64 x33.1))) (nobs := []) (oa' := _) (nx' := 6) hS17_14 [1] rfl (by decide) (h_c rfl h_n) rfl (g_1 rfl rfl rfl (g_1 rfl rfl rfl g_n)) EntC.h rfl rfl rfl rfl ?_ rfl)
 refine tD 15 1 [16, 18, 19] rfl (K8 rfl E29 rfl rfl rfl h35 ?_)
 refine tD 16 1 [18, 19] rfl (Z5g rfl T2 rfl rfl h35 rfl rfl ?_)
 refine tK 18 0 rfl (kB ([.int .i64 (at_ ([18, 19]) x30.1), .int .i64 (at_ ([16, 32]) x33.1), .int .i64 x27.1, .int .i64 0, .int .i64 0, .int .i64 0, .nl]) ?_)
 refine oK 19 rfl (Z6h (H := [1]) (X := [110]) (v := .u (.one (.int .i64 x36.1))) (nobs := []) (oa' := _) (nx' := 6) hS17_19 [0, 1, 2, 3] rfl (by decide) (h_c rfl (h_c rfl (h_c (hrow rfl) (h_c (hrow rfl) h_n)))) (by simp only [hl2G, K6, KO] <;> rfl) (g_1 rfl rfl rfl (g_an rfl (.cons (.same rfl) (.cons (.same rfl) (.cons (.same rfl) (.cons (.same rfl) (.cons (.same rfl) (.cons (.same rfl) (.cons .nl .nil))))))) rfl g_n)) EntC.h rfl rfl (by simp only [hl2G, oaG, updO, Z6p, Z3b, HO] <;> rfl) rfl ?_ rfl)
 refine aN ?_
 cases hm
 exact vW [0, 1, 2, 3]
 refine t_n 1 [9, 14] (by decide +kernel) (.cons (wy rfl (Y4g (enc := iL) ([18, 19]) A29 rfl rfl rfl rfl ?_)) (.cons (wy rfl (Y4g (enc := iL) ([16, 32]) A29 rfl rfl rfl rfl ?_)) (.cons (wy rfl (Z6h (H := [1]) (X := [110]) (v := .u (.one (.int .i64 x33.1))) (nobs := []) (oa' := _) (nx' := 4) hS17_14 [1] rfl (by decide) (h_c rfl h_n) rfl (g_1 rfl rfl rfl (g_1 rfl rfl rfl g_n)) EntC.h rfl rfl rfl rfl ?_ rfl)) .nil)))
 refine tE 7 [8, 18, 19] rfl (K8 rfl E29 rfl rfl rfl h32 ?_)
 refine tE 8 [18, 19] rfl (Z5g rfl T2 rfl rfl h32 rfl rfl ?_)
 refine t_n 9 [14] (by decide +kernel) (.cons (wy rfl (Y4g (enc := iL) ([16, 32]) A29 rfl rfl rfl rfl ?_)) (.cons (wy rfl (Z6h (H := [1]) (X := [110]) (v := .u (.one (.int .i64 x33.1))) (nobs := []) (oa' := _) (nx' := 5) hS17_14 [1] rfl (by decide) (h_c rfl h_n) rfl (g_1 rfl rfl rfl (g_1 rfl rfl rfl g_n)) EntC.h rfl rfl rfl rfl ?_ rfl)) .nil))
 refine oK 14 rfl (Z6h (H := [1]) (X := [110]) (v := .u (.one (.int .i64 x33.1))) (nobs := []) (oa' := _) (nx' := 6) hS17_14 [1] rfl (by decide) (h_c rfl h_n) rfl (g_1 rfl rfl rfl (g_1 rfl rfl rfl g_n)) EntC.h rfl rfl rfl rfl ?_ rfl)
 refine tD 15 1 [16, 18, 19] rfl (K8 rfl E29 rfl rfl rfl h35 ?_)
 refine tD 16 1 [18, 19] rfl (Z5g rfl T2 rfl rfl h35 rfl rfl ?_)
 refine tK 18 0 rfl (kB ([.int .i64 (at_ ([18, 19]) x30.1), .int .i64 (at_ ([16, 32]) x33.1), .int .i64 x27.1, .int .i64 0, .int .i64 0, .int .i64 0, .nl]) ?_)
 refine oK 19 rfl (Z6h (H := [1]) (X := [110]) (v := .u (.one (.int .i64 x36.1))) (nobs := []) (oa' := _) (nx' := 6) hS17_19 [0, 1, 2, 3] rfl (by decide) (h_c rfl (h_c rfl (h_c (hrow rfl) (h_c (hrow rfl) h_n)))) (by simp only [hl2G, K6, KO] <;> rfl) (g_1 rfl rfl rfl (g_an rfl (.cons (.same rfl) (.cons (.same rfl) (.cons (.same rfl) (.cons (.same rfl) (.cons (.same rfl) (.cons (.same rfl) (.cons .nl .nil))))))) rfl g_n)) EntC.h rfl rfl (by simp only [hl2G, oaG, updO, Z6p, Z3b, HO] <;> rfl) rfl ?_ rfl)
 refine aN ?_
 cases hm
 exact vW [0, 1, 2, 3]
 refine oK 9 rfl (kM (iL) ([16, 32]) ?_)
 refine tD 15 1 [16, 18, 19] rfl (K8 rfl E29 rfl rfl rfl h35 ?_)
 refine tD 16 1 [18, 19] rfl (Z5g rfl T2 rfl rfl h35 rfl rfl ?_)
 refine tK 18 0 rfl (kB ([.int .i64 (at_ ([18, 19]) x30.1), .int .i64 (at_ ([16, 32]) x33.1), .int .i64 x27.1, .int .i64 0, .int .i64 0, .int .i64 0, .nl]) ?_)
 refine oK 19 rfl (Z6h (H := [1]) (X := [110]) (v := .u (.one (.int .i64 x36.1))) (nobs := []) (oa' := _) (nx' := 6) hS17_19 [0, 1, 2, 3] rfl (by decide) (h_c rfl (h_c rfl (h_c (hrow rfl) (h_c (hrow rfl) h_n)))) (by simp only [hl2G, K6, KO] <;> rfl) (g_1 rfl rfl rfl (g_an rfl (.cons (.same rfl) (.cons (.same rfl) (.cons (.same rfl) (.cons (.same rfl) (.cons (.same rfl) (.cons (.same rfl) (.cons .nl .nil))))))) rfl g_n)) EntC.h rfl rfl (by simp only [hl2G, oaG, updO, Z6p, Z3b, HO] <;> rfl) rfl ?_ rfl)
 refine aN ?_
 cases hm
 exact vW [0, 1, 2, 3]
 refine t_n 1 [14] (by decide +kernel) (.cons (wy rfl (Y4g (enc := iL) ([18, 19]) A29 rfl rfl rfl rfl ?_)) (.cons (wy rfl (Z6h (H := [1]) (X := [110]) (v := .u (.one (.int .i64 x33.1))) (nobs := []) (oa' := _) (nx' := 5) hS17_14 [1] rfl (by decide) (h_c rfl h_n) rfl (g_1 rfl rfl rfl (g_1 rfl rfl rfl g_n)) EntC.h rfl rfl rfl rfl ?_ rfl)) .nil))
 refine tE 7 [8, 18, 19] rfl (K8 rfl E29 rfl rfl rfl h32 ?_)
 refine tE 8 [18, 19] rfl (Z5g rfl T2 rfl rfl h32 rfl rfl ?_)
 refine oK 14 rfl (Z6h (H := [1]) (X := [110]) (v := .u (.one (.int .i64 x33.1))) (nobs := []) (oa' := _) (nx' := 6) hS17_14 [1] rfl (by decide) (h_c rfl h_n) rfl (g_1 rfl rfl rfl (g_1 rfl rfl rfl g_n)) EntC.h rfl rfl rfl rfl ?_ rfl)
 refine tD 15 1 [16, 18, 19] rfl (K8 rfl E29 rfl rfl rfl h35 ?_)
 refine tD 16 1 [18, 19] rfl (Z5g rfl T2 rfl rfl h35 rfl rfl ?_)
 refine tK 18 0 rfl (kB ([.int .i64 (at_ ([18, 19]) x30.1), .int .i64 (at_ ([16, 32]) x33.1), .int .i64 x27.1, .int .i64 0, .int .i64 0, .int .i64 0, .nl]) ?_)
 refine oK 19 rfl (Z6h (H := [1]) (X := [110]) (v := .u (.one (.int .i64 x36.1))) (nobs := []) (oa' := _) (nx' := 6) hS17_19 [0, 1, 2, 3] rfl (by decide) (h_c rfl (h_c rfl (h_c (hrow rfl) (h_c (hrow rfl) h_n)))) (by simp only [hl2G, K6, KO] <;> rfl) (g_1 rfl rfl rfl (g_an rfl (.cons (.same rfl) (.cons (.same rfl) (.cons (.same rfl) (.cons (.same rfl) (.cons (.same rfl) (.cons (.same rfl) (.cons .nl .nil))))))) rfl g_n)) EntC.h rfl rfl (by simp only [hl2G, oaG, updO, Z6p, Z3b, HO] <;> rfl) rfl ?_ rfl)
 refine aN ?_
 cases hm
 exact vW [0, 1, 2, 3]
 refine tD 15 1 [16, 18, 19] rfl (K8 rfl E29 rfl rfl rfl h35 ?_)
 refine tD 16 1 [18, 19] rfl (Z5g rfl T2 rfl rfl h35 rfl rfl ?_)
 refine oK 1 rfl (kM (iL) ([18, 19]) ?_)
 refine tD 7 1 [8, 18, 19] rfl (K8 rfl E29 rfl rfl rfl h32 ?_)
 refine tD 8 1 [18, 19] rfl (Z5g rfl T2 rfl rfl h32 rfl rfl ?_)
 refine tK 18 0 rfl (kB ([.int .i64 (at_ ([18, 19]) x30.1), .int .i64 (at_ ([16, 32]) x33.1), .int .i64 x27.1, .int .i64 0, .int .i64 0, .int .i64 0, .nl]) ?_)
 refine oK 19 rfl (Z6h (H := [1]) (X := [110]) (v := .u (.one (.int .i64 x36.1))) (nobs := []) (oa' := _) (nx' := 6) hS17_19 [0, 1, 2, 3] rfl (by decide) (h_c rfl (h_c rfl (h_c (hrow rfl) (h_c (hrow rfl) h_n)))) (by simp only [hl2G, K6, KO] <;> rfl) (g_1 rfl rfl rfl (g_an rfl (.cons (.same rfl) (.cons (.same rfl) (.cons (.same rfl) (.cons (.same rfl) (.cons (.same rfl) (.cons (.same rfl) (.cons .nl .nil))))))) rfl g_n)) EntC.h rfl rfl (by simp only [hl2G, oaG, updO, Z6p, Z3b, HO] <;> rfl) rfl ?_ rfl)
 refine aN ?_
 cases hm
 exact vW [0, 1, 2, 3]
 refine t_n 1 [9] (by decide +kernel) (.cons (wy rfl (Y4g (enc := iL) ([18, 19]) A29 rfl rfl rfl rfl ?_)) (.cons (wy rfl (Y4g (enc := iL) ([16, 32]) A29 rfl rfl rfl rfl ?_)) .nil))
 refine tD 7 1 [8, 18, 19] rfl (K8 rfl E29 rfl rfl rfl h32 ?_)
 refine tD 8 1 [18, 19] rfl (Z5g rfl T2 rfl rfl h32 rfl rfl ?_)
 refine oK 9 rfl (kM (iL) ([16, 32]) ?_)
 refine tD 15 1 [16, 18, 19] rfl (K8 rfl E29 rfl rfl rfl h35 ?_)
 refine tD 16 1 [18, 19] rfl (Z5g rfl T2 rfl rfl h35 rfl rfl ?_)
 refine tK 18 0 rfl (kB ([.int .i64 (at_ ([18, 19]) x30.1), .int .i64 (at_ ([16, 32]) x33.1), .int .i64 x27.1, .int .i64 0, .int .i64 0, .int .i64 0, .nl]) ?_)
 refine oK 19 rfl (Z6h (H := [1]) (X := [110]) (v := .u (.one (.int .i64 x36.1))) (nobs := []) (oa' := _) (nx' := 6) hS17_19 [0, 1, 2, 3] rfl (by decide) (h_c rfl (h_c rfl (h_c (hrow rfl) (h_c (hrow rfl) h_n)))) (by simp only [hl2G, K6, KO] <;> rfl) (g_1 rfl rfl rfl (g_an rfl (.cons (.same rfl) (.cons (.same rfl) (.cons (.same rfl) (.cons (.same rfl) (.cons (.same rfl) (.cons (.same rfl) (.cons .nl .nil))))))) rfl g_n)) EntC.h rfl rfl (by simp only [hl2G, oaG, updO, Z6p, Z3b, HO] <;> rfl) rfl ?_ rfl)
 refine aN ?_
 cases hm
 exact vW [0, 1, 2, 3]
 refine tD 15 1 [16, 18, 19] rfl (K8 rfl E29 rfl rfl rfl h35 ?_)
 refine tD 16 1 [18, 19] rfl (Z5g rfl T2 rfl rfl h35 rfl rfl ?_)
 refine oK 1 rfl (kM (iL) ([18, 19]) ?_)
 refine tD 7 1 [8, 18, 19] rfl (K8 rfl E29 rfl rfl rfl h32 ?_)
 refine tD 8 1 [18, 19] rfl (Z5g rfl T2 rfl rfl h32 rfl rfl ?_)
 refine tK 18 0 rfl (kB ([.int .i64 (at_ ([18, 19]) x30.1), .int .i64 (at_ ([16, 32]) x33.1), .int .i64 x27.1, .int .i64 0, .int .i64 0, .int .i64 0, .nl]) ?_)
 refine oK 19 rfl (Z6h (H := [1]) (X := [110]) (v := .u (.one (.int .i64 x36.1))) (nobs := []) (oa' := _) (nx' := 6) hS17_19 [0, 1, 2, 3] rfl (by decide) (h_c rfl (h_c rfl (h_c (hrow rfl) (h_c (hrow rfl) h_n)))) (by simp only [hl2G, K6, KO] <;> rfl) (g_1 rfl rfl rfl (g_an rfl (.cons (.same rfl) (.cons (.same rfl) (.cons (.same rfl) (.cons (.same rfl) (.cons (.same rfl) (.cons (.same rfl) (.cons .nl .nil))))))) rfl g_n)) EntC.h rfl rfl (by simp only [hl2G, oaG, updO, Z6p, Z3b, HO] <;> rfl) rfl ?_ rfl)
 refine aN ?_
 cases hm
 exact vW [0, 1, 2, 3]
 refine t_n 1 [6] (by decide +kernel) (.cons (wy rfl (Y4g (enc := iL) ([18, 19]) A29 rfl rfl rfl rfl ?_)) (.cons (wy rfl (Z6h (H := [1]) (X := [110]) (v := .u (.one (.int .i64 x30.1))) (nobs := []) (oa' := _) (nx' := 5) hS17_6 [1] rfl (by decide) (h_c rfl h_n) rfl (g_1 rfl rfl rfl (g_1 rfl rfl rfl g_n)) EntC.h rfl rfl rfl rfl ?_ rfl)) .nil))
 refine oK 6 rfl (Z6h (H := [1]) (X := [110]) (v := .u (.one (.int .i64 x30.1))) (nobs := []) (oa' := _) (nx' := 6) hS17_6 [1] rfl (by decide) (h_c rfl h_n) rfl (g_1 rfl rfl rfl (g_1 rfl rfl rfl g_n)) EntC.h rfl rfl rfl rfl ?_ rfl)
 refine tE 7 [8, 18, 19] rfl (K8 rfl E29 rfl rfl rfl h32 ?_)
 refine tE 8 [18, 19] rfl (Z5g rfl T2 rfl rfl h32 rfl rfl ?_)
 refine oK 14 rfl (Z6h (H := [1]) (X := [110]) (v := .u (.one (.int .i64 x33.1))) (nobs := []) (oa' := _) (nx' := 6) hS17_14 [1] rfl (by decide) (h_c rfl h_n) rfl (g_1 rfl rfl rfl (g_1 rfl rfl rfl g_n)) EntC.h rfl rfl rfl rfl ?_ rfl)
 refine tD 15 1 [16, 18, 19] rfl (K8 rfl E29 rfl rfl rfl h35 ?_)
 refine tD 16 1 [18, 19] rfl (Z5g rfl T2 rfl rfl h35 rfl rfl ?_)
 refine tK 18 0 rfl (kB ([.int .i64 (at_ ([18, 19]) x30.1), .int .i64 (at_ ([16, 32]) x33.1), .int .i64 x27.1, .int .i64 0, .int .i64 0, .int .i64 0, .nl]) ?_)
 refine oK 19 rfl (Z6h (H := [1]) (X := [110]) (v := .u (.one (.int .i64 x36.1))) (nobs := []) (oa' := _) (nx' := 6) hS17_19 [0, 1, 2, 3] rfl (by decide) (h_c rfl (h_c rfl (h_c (hrow rfl) (h_c (hrow rfl) h_n)))) (by simp only [hl2G, K6, KO] <;> rfl) (g_1 rfl rfl rfl (g_an rfl (.cons (.same rfl) (.cons (.same rfl) (.cons (.same rfl) (.cons (.same rfl) (.cons (.same rfl) (.cons (.same rfl) (.cons .nl .nil))))))) rfl g_n)) EntC.h rfl rfl (by simp only [hl2G, oaG, updO, Z6p, Z3b, HO] <;> rfl) rfl ?_ rfl)
 refine aN ?_
 cases hm
 exact vW [0, 1, 2, 3]
 refine t_n 1 [14] (by decide +kernel) (.cons (wy rfl (Y4g (enc := iL) ([18, 19]) A29 rfl rfl rfl rfl ?_)) (.cons (wy rfl (Z6h (H := [1]) (X := [110]) (v := .u (.one (.int .i64 x33.1))) (nobs := []) (oa' := _) (nx' := 5) hS17_14 [1] rfl (by decide) (h_c rfl h_n) rfl (g_1 rfl rfl rfl (g_1 rfl rfl rfl g_n)) EntC.h rfl rfl rfl rfl ?_ rfl)) .nil))
 refine tE 7 [8, 18, 19] rfl (K8 rfl E29 rfl rfl rfl h32 ?_)
 refine tE 8 [18, 19] rfl (Z5g rfl T2 rfl rfl h32 rfl rfl ?_)
 refine oK 14 rfl (Z6h (H := [1]) (X := [110]) (v := .u (.one (.int .i64 x33.1))) (nobs := []) (oa' := _) (nx' := 6) hS17_14 [1] rfl (by decide) (h_c rfl h_n) rfl (g_1 rfl rfl rfl (g_1 rfl rfl rfl g_n)) EntC.h rfl rfl rfl rfl ?_ rfl)
 refine tD 15 1 [16, 18, 19] rfl (K8 rfl E29 rfl rfl rfl h35 ?_)
 refine tD 16 1 [18, 19] rfl (Z5g rfl T2 rfl rfl h35 rfl rfl ?_)
 refine tK 18 0 rfl (kB ([.int .i64 (at_ ([18, 19]) x30.1), .int .i64 (at_ ([16, 32]) x33.1), .int .i64 x27.1, .int .i64 0, .int .i64 0, .int .i64 0, .nl]) ?_)
 refine oK 19 rfl (Z6h (H := [1]) (X := [110]) (v := .u (.one (.int .i64 x36.1))) (nobs := []) (oa' := _) (nx' := 6) hS17_19 [0, 1, 2, 3] rfl (by decide) (h_c rfl (h_c rfl (h_c (hrow rfl) (h_c (hrow rfl) h_n)))) (by simp only [hl2G, K6, KO] <;> rfl) (g_1 rfl rfl rfl (g_an rfl (.cons (.same rfl) (.cons (.same rfl) (.cons (.same rfl) (.cons (.same rfl) (.cons (.same rfl) (.cons (.same rfl) (.cons .nl .nil))))))) rfl g_n)) EntC.h rfl rfl (by simp only [hl2G, oaG, updO, Z6p, Z3b, HO] <;> rfl) rfl ?_ rfl)
 refine aN ?_
 cases hm
 exact vW [0, 1, 2, 3]
 refine tD 15 1 [16, 18, 19] rfl (K8 rfl E29 rfl rfl rfl h35 ?_)
 refine tD 16 1 [18, 19] rfl (Z5g rfl T2 rfl rfl h35 rfl rfl ?_)
 refine oK 1 rfl (kM (iL) ([18, 19]) ?_)
 refine tD 7 1 [8, 18, 19] rfl (K8 rfl E29 rfl rfl rfl h32 ?_)
 refine tD 8 1 [18, 19] rfl (Z5g rfl T2 rfl rfl h32 rfl rfl ?_)
 refine tK 18 0 rfl (kB ([.int .i64 (at_ ([18, 19]) x30.1), .int .i64 (at_ ([16, 32]) x33.1), .int .i64 x27.1, .int .i64 0, .int .i64 0, .int .i64 0, .nl]) ?_)
 refine oK 19 rfl (Z6h (H := [1]) (X := [110]) (v := .u (.one (.int .i64 x36.1))) (nobs := []) (oa' := _) (nx' := 6) hS17_19 [0, 1, 2, 3] rfl (by decide) (h_c rfl (h_c rfl (h_c (hrow rfl) (h_c (hrow rfl) h_n)))) (by simp only [hl2G, K6, KO] <;> rfl) (g_1 rfl rfl rfl (g_an rfl (.cons (.same rfl) (.cons (.same rfl) (.cons (.same rfl) (.cons (.same rfl) (.cons (.same rfl) (.cons (.same rfl) (.cons .nl .nil))))))) rfl g_n)) EntC.h rfl rfl (by simp only [hl2G, oaG, updO, Z6p, Z3b, HO] <;> rfl) rfl ?_ rfl)
 refine aN ?_
 cases hm
 exact vW [0, 1, 2, 3]
 refine yG ?_
 intro k3 hm
 cases hm
 exact ⟨rfl, vW [0, 1, 2, 3]⟩
 refine yG ?_
 intro _ hm
 refine bS hm (fun hb40 hm => ?_) fun hb40 hm => ?_
 refine yG ?_
 intro _ hm
 obtain ⟨x41, h42, hm⟩ := Z0 hm
 refine nO (cG [0, 1, 2, 3] (X1 h42) ?_)
 refine yG ?_
 intro _ hm
 refine nO (kM (iL) ([1, 8, 16]) ?_)
 refine yG ?_
 intro _ hm
 obtain ⟨x43, h44, hm⟩ := Z0 hm
 refine nO (cG [1] (Z2 h44) ?_)
 obtain ⟨h45, hm⟩ := Z9 hm
 refine nO (K8 rfl E29 rfl rfl rfl h45 ?_)
 refine nO (Z5g rfl T2 rfl rfl h45 rfl rfl ?_)
 refine nO (x_mv rfl rfl ?_)
 refine nO (x_bu (cells := [.int .i64 20, .int .i64 (at_ ([1, 8, 16]) x43.1), .int .i64 x41.1, .int .i64 0, .int .i64 0, .int .i64 0, .nl]) T46 rfl rfl rfl ?_)
 refine WpO.ghb (q_nb 125 6 1) ?_
 obtain ⟨x46, h47, hm⟩ := Z0 hm
 refine nO (cG [0, 1, 2, 3] (X4 h47) ?_)
 refine yG ?_
 intro k4 hm
 cases hm
 exact ⟨rfl, vW [0, 1, 2, 3]⟩
 refine yG ?_
 intro _ hm
 refine bS hm (fun hb49 hm => ?_) fun hb49 hm => ?_
 refine yG ?_
 intro _ hm
 obtain ⟨x50, h51, hm⟩ := Z0 hm
 refine nO (cG [1] (Z2 h51) ?_)
 refine nO (x_bu (cells := [.int .i64 21, .int .i64 32, .int .i64 0, .int .i64 0, .int .i64 0, .int .i64 x50.1, .nl]) T46 rfl rfl rfl ?_)
 refine WpO.ghb (q_nb 135 6 1) ?_
 obtain ⟨x52, h53, hm⟩ := Z0 hm
 refine nO (cG [0, 1, 2, 3] (X4 h53) ?_)
 refine nO (x_as rfl rfl ?_)
 refine W5 ?_
 refine X7 ?_
 refine nO (x_mv rfl rfl ?_)
 refine nO (x_mv rfl rfl ?_)
 refine nO (x_bu (cells := [.int .i64 23, .int .i64 8, .int .i64 x52.1, .int .i64 0, .int .i64 0, .int .i64 0, .nl]) T46 rfl rfl rfl ?_)
 refine WpO.ghb (q_nb 139 6 1) ?_
 obtain ⟨x54, h55, hm⟩ := Z0 hm
 refine nO (cG [0, 1, 2, 3] (X4 h55) ?_)
 refine yG ?_
 intro k5 hm
 cases hm
 exact ⟨rfl, vW [0, 1, 2, 3]⟩
 refine yG ?_
 intro _ hm
 refine bS hm (fun hb57 hm => ?_) fun hb57 hm => ?_
 refine yG ?_
 intro _ hm
 obtain ⟨x58, h59, hm⟩ := Z0 hm
 refine nO (cG [1] (Z2 h59) ?_)
 refine nO (x_bu (cells := [.int .i64 21, .int .i64 32, .int .i64 0, .int .i64 0, .int .i64 0, .int .i64 x58.1, .nl]) T46 rfl rfl rfl ?_)
 refine WpO.ghb (q_nb 149 6 1) ?_
 obtain ⟨x60, h61, hm⟩ := Z0 hm
 refine nO (cG [0, 1, 2, 3] (X4 h61) ?_)
 refine yG ?_
 intro _ hm
 obtain ⟨x62, h63, hm⟩ := Z0 hm
 refine nO (cG [0, 1, 2, 3] (X1 h63) ?_)
 refine nO (x_as rfl rfl ?_)
 refine W5 ?_
 refine X7 ?_
 refine nO (x_mv rfl rfl ?_)
 refine nO (x_mv rfl rfl ?_)
 refine nO (x_mv rfl rfl ?_)
 refine nO (x_bu (cells := [.int .i64 24, .int .i64 0, .int .i64 x60.1, .int .i64 x62.1, .int .i64 0, .int .i64 0, .nl]) T46 rfl rfl rfl ?_)
 refine WpO.ghb (q_nb 156 6 1) ?_
 obtain ⟨x64, h65, hm⟩ := Z0 hm
 refine nO (cG [0, 1, 2, 3] (X4 h65) ?_)
 refine yG ?_
 intro k6 hm
 cases hm
 exact ⟨rfl, vW [0, 1, 2, 3]⟩
 refine yG ?_
 intro _ hm
 refine bS hm (fun hb67 hm => ?_) fun hb67 hm => ?_
 refine yG ?_
 intro _ hm
 obtain ⟨x68, h69, hm⟩ := Z0 hm
 refine nO (cG [0, 1, 2, 3] (X1 h69) ?_)
 refine nO (x_as rfl rfl ?_)
 refine W5 ?_
 refine X7 ?_
 refine nO (x_mv rfl rfl ?_)
 refine nO (x_mv rfl rfl ?_)
 refine nO (x_bu (cells := [.int .i64 25, .int .i64 0, .int .i64 x68.1, .int .i64 0, .int .i64 0, .int .i64 0, .nl]) T46 rfl rfl rfl ?_)
 refine WpO.ghb (q_nb 165 6 1) ?_
 obtain ⟨x70, h71, hm⟩ := Z0 hm
 refine nO (cG [0, 1, 2, 3] (X4 h71) ?_)
 refine yG ?_
 intro k7 hm
 cases hm
 exact ⟨rfl, vW [0, 1, 2, 3]⟩
 refine yG ?_
 intro _ hm
 refine bS hm (fun hb73 hm => ?_) fun hb73 hm => ?_
 refine yG ?_
 intro _ hm
 obtain ⟨x74, h75, hm⟩ := Z0 hm
 refine nO (cG [0, 1, 2, 3] (X1 h75) ?_)
 refine nO (x_as rfl rfl ?_)
 refine W5 ?_
 refine X7 ?_
 refine nO (x_mv rfl rfl ?_)
 refine nO (x_mv rfl rfl ?_)
 refine nO (x_mv rfl rfl ?_)
 refine nO (x_bu (cells := [.int .i64 27, .int .i64 x6.1, .int .i64 x74.1, .int .i64 0, .int .i64 0, .int .i64 0, .nl]) T46 rfl rfl rfl ?_)
 refine WpO.ghb (q_nb 175 6 1) ?_
 obtain ⟨x76, h77, hm⟩ := Z0 hm
 refine nO (cG [0, 1, 2, 3] (X4 h77) ?_)
 refine yG ?_
 intro k8 hm
 cases hm
 exact ⟨rfl, vW [0, 1, 2, 3]⟩
 refine yG ?_
 intro _ hm
 refine bS hm (fun hb79 hm => ?_) fun hb79 hm => ?_
 refine yG ?_
 intro _ hm
 obtain ⟨x80, h81, hm⟩ := Z0 hm
 refine nO (cG [0, 1, 2, 3] (Y6a h81) ?_)
 refine yG ?_
 intro k9 hm
 cases hm
 exact ⟨rfl, vW [0, 1, 2, 3]⟩
 refine yG ?_
 intro _ hm
 obtain ⟨x83, h84, hm⟩ := Z0 hm
 refine nO (cG [0, 1, 2, 3] (X1 h84) ?_)
 refine yG ?_
 intro _ hm
 obtain ⟨x85, h86, hm⟩ := Z0 hm
 refine nO (cG [0, 1, 2, 3] (X1 h86) ?_)
 refine yG ?_
 intro _ hm
 obtain ⟨x87, h88, hm⟩ := Z0 hm
 refine nO (cG [1] (Z2 h88) ?_)
 obtain ⟨h89, hm⟩ := Z9 hm
 refine nO (Y3s T3 rfl rfl h89 ?_)
 refine nO (x_mv rfl rfl ?_)
 refine nO (x_mv rfl rfl ?_)
 refine nO (x_mv rfl rfl ?_)
 refine nO (x_bu (cells := [.int .i64 (1 + x87.1), .int .i64 x6.1, .int .i64 x83.1, .int .i64 x85.1, .int .i64 0, .int .i64 0, .nl]) T46 rfl rfl rfl ?_)
 refine WpO.ghb (q_nb 56 6 1) ?_
 obtain ⟨x90, h91, hm⟩ := Z0 hm
 refine nO (cG [0, 1, 2, 3] (X4 h91) ?_)
 refine yG ?_
 intro k10 hm
 cases hm
 exact ⟨rfl, vW [0, 1, 2, 3]⟩
 refine V2 ?_
 cases hm
 exact ⟨rfl, vW [0, 1, 2, 3]⟩
 cases hm
 exact rGt [0, 1, 2, 3]
noncomputable def U2 (g : Gl2G) (gr : Gl1Rd) (grets : List Int) (gpars : List (List Int)) (t : GTerm) : Option (Gl2G × Gl1Rd) :=
 (if (List.length g.f.blocks + 1) * 80 ≤ 140737488355328 ∧ List.length g.f.blocks + 1 ≤ LIM then
 (some ((({ f := ({ params := g.f.params, ret := g.f.ret, blocks := g.f.blocks ++ [({ phis := g.b.phis, insts := g.b.insts, term := t } : GBlock)] } : GFunc), b := ({ phis := ([] : List GPhi), insts := ([] : List GInst), term := ({ kind := 0, a := 0, x := 0, y := 0 } : GTerm) } : GBlock), next := g.next, ids := g.ids, ws := g.ws } : Gl2G), gr)))
 else none)
theorem K1 {g : Gl2G} {gr : Gl1Rd} {grets : List Int} {gpars : List (List Int)} {t : GTerm} {r : Gl2G × Gl1Rd} (hm : U2 g gr grets gpars t = some r) : Sim Tryz.prog 101 [.one (.ptr () 0 0 0), .agg (Y3r t)] [⟨(), 15, [hl2G (.ptr () 1 0 0) (.ref () 2 0 (List.length grets)) (.ref () 3 0 (List.length gpars)) g]⟩, ⟨(), 2, [J3 false gr]⟩, ⟨(), 1, List.map iL grets⟩, ⟨(), 1, List.map (lL false 1 iL) gpars⟩] (.tup []) [⟨(), 15, [hl2G (.ptr () 1 0 0) (.ref () 2 0 (List.length grets)) (.ref () 3 0 (List.length gpars)) r.1]⟩, ⟨(), 2, [J3 false r.2]⟩, ⟨(), 1, List.map iL grets⟩, ⟨(), 1, List.map (lL false 1 iL) gpars⟩] := by
 refine fN 28 4 Tryz.func101 [] fun B hB0 => ?_
 unfold U2 at hm
 refine yG ?_
 intro _ hm
 refine nO (kW ?_)
 refine yR ?_
 intro _ hm
 refine W5 ?_
 refine Wp.seq ?_
 refine gH (q_op 0 3) ?_
 refine gH (q_op 0 4) ?_
 refine gH (q_op 0 5) ?_
 refine Z4t (Y := sysC _) Z4j ?_
 refine tK 0 0 rfl (kV ?_)
 refine tK 1 0 rfl (kV ?_)
 refine tD 2 1 [3, 4, 5, 11, 12, 13, 14, 15] rfl (kN ?_)
 refine tD 3 1 [4, 5, 11, 12, 13, 14, 15] rfl (kF ?_)
 refine tD 4 1 [5, 11, 12, 13, 14, 15] rfl (kF ?_)
 refine tK 5 1 rfl (kD ?_)
 refine tK 6 0 rfl (kV ?_)
 refine tD 7 1 [8, 9, 10, 11, 12, 13, 14, 15] rfl (kN ?_)
 refine tD 8 1 [9, 10, 11, 12, 13, 14, 15] rfl (kF ?_)
 refine tD 9 1 [10, 11, 12, 13, 14, 15] rfl (kL (.agg [.ref () 6 0 (List.length g.b.phis), .ref () 7 0 (List.length g.b.insts), .int .i64 t.kind, .int .i64 t.a, .int .i64 t.x, .int .i64 t.y]) ?_)
 refine oK 10 rfl (x_bs (rows := [[.ref () 6 0 (List.length g.b.phis), .ref () 7 0 (List.length g.b.insts), .int .i64 t.kind, .int .i64 t.a, .int .i64 t.x, .int .i64 t.y]]) A30 rfl rfl rfl ?_)
 obtain ⟨h1, hm⟩ := Z9 hm
 refine oK 11 rfl (x_apg (rows := List.map (W2 true) g.f.blocks ++ [[.ref () 6 0 (List.length g.b.phis), .ref () 7 0 (List.length g.b.insts), .int .i64 t.kind, .int .i64 t.a, .int .i64 t.x, .int .i64 t.y]]) (len' := List.length g.f.blocks + 1) A30 N30 rfl rfl (by simp) rfl (X9u rfl rfl) rfl (by simpa using h1) rfl (by simp) ?_)
 refine tD 12 1 [13, 14, 15] rfl (kN ?_)
 refine tD 13 1 [14, 15] rfl (kF ?_)
 refine tK 14 1 rfl (kF ?_)
 refine oK 15 rfl (kS ?_)
 refine aN ?_
 refine gH (f_cl (rows2 := List.map (ePhi true) g.b.phis) (rows' := List.map (W2 true) g.f.blocks ++ [[.os () 2 (List.map (ePhi true) g.b.phis), .ref () 7 0 (List.length g.b.insts), .int .i64 t.kind, .int .i64 t.a, .int .i64 t.x, .int .i64 t.y]]) 9 6 (List.length g.f.blocks) 0 rfl rfl rfl (Z3d (enc := ePhi true) (g.b.phis)) Y4e rfl (by simp) X4d) ?_
 refine gH (f_cl (rows2 := List.map (Q1 false) g.b.insts) (rows' := List.map (W2 true) (g.f.blocks ++ [({ phis := g.b.phis, insts := g.b.insts, term := t } : GBlock)])) 9 7 (List.length g.f.blocks) 1 rfl rfl rfl (Z3d (enc := Q1 false) (g.b.insts)) Y4e rfl (by simp) (X4e rfl)) ?_
 refine gH (q_cl 0 9 3) ?_
 refine yG ?_
 intro _ hm
 cases hm
 exact rGth [0, 1, 2, 3] (hg := (q_nlcR 0 4 2).trans ((q_czR 0 10 4).trans ((q_nlcR 0 5 7).trans (q_czR 0 11 5))))
noncomputable def Z0w (g : Gl2G) (gr : Gl1Rd) (grets : List Int) (gpars : List (List Int)) (w : Int) (ins : List Int) : Option (Int × Gl2G × Gl1Rd) :=
 (if (List.length g.b.phis + 1) * 32 ≤ 140737488355328 ∧ List.length g.b.phis + 1 ≤ LIM then
 (Option.bind (Z2b (({ f := g.f, b := ({ phis := g.b.phis ++ [({ w := w, ins := ins } : GPhi)], insts := g.b.insts, term := g.b.term } : GBlock), next := g.next, ids := g.ids, ws := g.ws } : Gl2G)) gr grets gpars w) fun x2 =>
 (some ((x2.1, x2.2.1, x2.2.2))))
 else none)
theorem Z6e {g : Gl2G} {gr : Gl1Rd} {grets : List Int} {gpars : List (List Int)} {w : Int} {ins : List Int} {r : Int × Gl2G × Gl1Rd} (hm : Z0w g gr grets gpars w ins = some r) : Sim Tryz.prog 102 [.one (.ptr () 0 0 0), .one (.int .i64 w), .one (.os () 1 (List.map iL ins))] [⟨(), 15, [hl2G (.ptr () 1 0 0) (.ref () 2 0 (List.length grets)) (.ref () 3 0 (List.length gpars)) g]⟩, ⟨(), 2, [J3 false gr]⟩, ⟨(), 1, List.map iL grets⟩, ⟨(), 1, List.map (lL false 1 iL) gpars⟩] (.u (.one (.int .i64 r.1))) [⟨(), 15, [hl2G (.ptr () 1 0 0) (.ref () 2 0 (List.length grets)) (.ref () 3 0 (List.length gpars)) r.2.1]⟩, ⟨(), 2, [J3 false r.2.2]⟩, ⟨(), 1, List.map iL grets⟩, ⟨(), 1, List.map (lL false 1 iL) gpars⟩] := by
 refine fN 24 4 Tryz.func102 [.tmp 6] fun B hB0 => ?_
 unfold Z0w at hm
 refine gH (f_ops (len := List.length ins) (u' := .one (.ref () 4 0 (List.length ins))) 2 0 1 rfl rfl rfl (by simp) rfl) ?_
 refine Wp.seq ?_
 refine X7 ?_
 refine nO (x_as rfl rfl ?_)
 refine W5 ?_
 refine Wp.seq ?_
 refine X7 ?_
 refine nO (x_mv rfl rfl ?_)
 refine nO (x_mv rfl rfl ?_)
 refine nO (X1d rfl rfl rfl ?_)
 refine nO (Z9y rfl F83_2 rfl rfl ?_)
 refine nO (Z9y rfl X7q rfl rfl ?_)
 refine WpO.ghb (q_op 0 4) ?_
 refine yG ?_
 intro _ hm
 refine nO (x_bs (rows := [[.int .i64 w, .ref () 4 0 (List.length ins)]]) A36 rfl rfl rfl ?_)
 obtain ⟨h1, hm⟩ := Z9 hm
 refine nO (x_apg (rows := List.map (ePhi true) g.b.phis ++ [[.int .i64 w, .ref () 4 0 (List.length ins)]]) (len' := List.length g.b.phis + 1) A36 N36 rfl rfl (by simp) rfl (X9u rfl rfl) rfl (by simpa using h1) rfl (by simp) ?_)
 refine yR ?_
 intro _ hm
 refine W5 ?_
 refine Wp.seq ?_
 refine gH (f_cl (rows2 := List.map iL ins) (rows' := List.map (ePhi true) (g.b.phis ++ [({ w := w, ins := ins } : GPhi)])) 7 4 (List.length g.b.phis) 1 rfl rfl rfl (Z3d (enc := iL) (ins)) Y4e rfl (by simp) (X4e rfl)) ?_
 refine gH (q_cl 0 7 4) ?_
 refine yG ?_
 intro _ hm
 obtain ⟨x2, h3, hm⟩ := Z0 hm
 refine nO (cG [0, 1, 2, 3] (Z8r h3) ?_)
 refine yG ?_
 intro _ hm
 cases hm
 exact rG1 [0, 1, 2, 3]
end
section
set_option maxHeartbeats 8000000
set_option maxRecDepth 100000
attribute [local irreducible] aopK J8 Wp St WpO
noncomputable def Z2k (g : Gl2G) (gr : Gl1Rd) (grets : List Int) (gpars : List (List Int)) : Option (Gl2G × Gl1Rd) :=
 (Option.bind (Y8 g gr grets gpars 1) fun x2 =>
 (Option.bind (U2 x2.2.1 x2.2.2 grets gpars (({ kind := 3, a := x2.1, x := ((List.length g.f.blocks : Int)) + 1, y := ((List.length g.f.blocks : Int)) + 2 } : GTerm))) fun x4 =>
 (Option.bind (Z6 x4.2 3) fun x6 =>
 (Option.bind (K3 x4.1 x6.2 grets gpars x6.1) fun x8 =>
 (Option.bind (J9 x8.2) fun x10 =>
 (Option.bind (Y8 x8.1 x10.2 grets gpars x10.1) fun x12 =>
 (Option.bind (Y8 x12.2.1 x12.2.2 grets gpars 8) fun x14 =>
 (Option.bind (U2 x14.2.1 x14.2.2 grets gpars (({ kind := 2, a := 0, x := ((List.length g.f.blocks : Int)) + 3, y := 0 } : GTerm))) fun x16 =>
 (Option.bind (Z6 x16.2 3) fun x18 =>
 (Option.bind (K3 (({ f := x16.1.f, b := x16.1.b, next := x16.1.next, ids := x4.1.ids, ws := x4.1.ws } : Gl2G)) x18.2 grets gpars x18.1) fun x20 =>
 (Option.bind (Y8 x20.1 x20.2 grets gpars x10.1) fun x22 =>
 (Option.bind (Y8 x22.2.1 x22.2.2 grets gpars 8) fun x24 =>
 (Option.bind (U2 x24.2.1 x24.2.2 grets gpars (({ kind := 2, a := 0, x := ((List.length g.f.blocks : Int)) + 3, y := 0 } : GTerm))) fun x26 =>
 (Option.bind (Z0w (({ f := x26.1.f, b := x26.1.b, next := x26.1.next, ids := x4.1.ids, ws := x4.1.ws } : Gl2G)) x26.2 grets gpars x10.1 ([x12.1, x22.1])) fun x28 =>
 (Option.bind (Z0w x28.2.1 x28.2.2 grets gpars 8 ([x14.1, x24.1])) fun x30 =>
 (some ((x30.2.1, x30.2.2))))))))))))))))))
theorem Y0r {g : Gl2G} {gr : Gl1Rd} {grets : List Int} {gpars : List (List Int)} {r : Gl2G × Gl1Rd} (hm : Z2k g gr grets gpars = some r) : Sim Tryz.prog 62 [.one (.ptr () 0 0 0)] [⟨(), 15, [hl2G (.ptr () 1 0 0) (.ref () 2 0 (List.length grets)) (.ref () 3 0 (List.length gpars)) g]⟩, ⟨(), 2, [J3 false gr]⟩, ⟨(), 1, List.map iL grets⟩, ⟨(), 1, List.map (lL false 1 iL) gpars⟩] (.tup []) [⟨(), 15, [hl2G (.ptr () 1 0 0) (.ref () 2 0 (List.length grets)) (.ref () 3 0 (List.length gpars)) r.1]⟩, ⟨(), 2, [J3 false r.2]⟩, ⟨(), 1, List.map iL grets⟩, ⟨(), 1, List.map (lL false 1 iL) gpars⟩] := by
 refine fN 101 4 Tryz.func62 [] fun B hB0 => ?_
 unfold Z2k at hm
 refine Wp.seq ?_
 refine X7 ?_
 refine nO (x_mv rfl rfl ?_)
 refine nO (X1d rfl rfl rfl ?_)
 refine nO (Z9y rfl W0z rfl rfl ?_)
 refine nO (Z9y rfl W4t rfl rfl ?_)
 refine WpO.ghb (q_op 0 3) ?_
 refine yR ?_
 intro k1 hm
 refine W5 ?_
 refine Wp.seq ?_
 refine gH (q_cl 0 4 3) ?_
 refine yG ?_
 intro _ hm
 obtain ⟨x2, h3, hm⟩ := Z0 hm
 refine nO (cG [0, 1, 2, 3] (X1 h3) ?_)
 refine yG ?_
 intro _ hm
 obtain ⟨x4, h5, hm⟩ := Z0 hm
 refine nO (cG [0, 1, 2, 3] (K1 h5) ?_)
 refine yG ?_
 intro _ hm
 obtain ⟨x6, h7, hm⟩ := Z0 hm
 refine nO (cG [1] (Z2 h7) ?_)
 obtain ⟨x8, h9, hm⟩ := Z0 hm
 refine nO (cG [0, 1, 2, 3] (Z1a h9) ?_)
 refine yG ?_
 intro _ hm
 obtain ⟨x10, h11, hm⟩ := Z0 hm
 refine nO (cG [1] (Z1d h11) ?_)
 refine yG ?_
 intro _ hm
 obtain ⟨x12, h13, hm⟩ := Z0 hm
 refine nO (cG [0, 1, 2, 3] (X1 h13) ?_)
 refine yG ?_
 intro _ hm
 obtain ⟨x14, h15, hm⟩ := Z0 hm
 refine nO (cG [0, 1, 2, 3] (X1 h15) ?_)
 refine yG ?_
 intro _ hm
 obtain ⟨x16, h17, hm⟩ := Z0 hm
 refine nO (cG [0, 1, 2, 3] (K1 h17) ?_)
 refine yG ?_
 intro _ hm
 obtain ⟨x18, h19, hm⟩ := Z0 hm
 refine nO (cG [1] (Z2 h19) ?_)
 obtain ⟨x20, h21, hm⟩ := Z0 hm
 refine nO (cG [0, 1, 2, 3] (Z1a h21) ?_)
 refine yG ?_
 intro _ hm
 obtain ⟨x22, h23, hm⟩ := Z0 hm
 refine nO (cG [0, 1, 2, 3] (X1 h23) ?_)
 refine yG ?_
 intro _ hm
 obtain ⟨x24, h25, hm⟩ := Z0 hm
 refine nO (cG [0, 1, 2, 3] (X1 h25) ?_)
 refine yG ?_
 intro _ hm
 obtain ⟨x26, h27, hm⟩ := Z0 hm
 refine nO (cG [0, 1, 2, 3] (K1 h27) ?_)
 refine yG ?_
 intro _ hm
 refine nO (kM (iL) ([x12.1, x22.1]) ?_)
 obtain ⟨x28, h29, hm⟩ := Z0 hm
 refine nO (cO [0, 1, 2, 3] [5] (Z6e h29) ?_)
 refine yG ?_
 intro _ hm
 refine nO (kM (iL) ([x14.1, x24.1]) ?_)
 obtain ⟨x30, h31, hm⟩ := Z0 hm
 refine nO (cO [0, 1, 2, 3] [6] (Z6e h31) ?_)
 refine W5 ?_
 cases hm
 exact rGt [0, 1, 2, 3]
noncomputable def Z2j (g : Gl2G) (gr : Gl1Rd) (grets : List Int) (gpars : List (List Int)) : Option (Gl2G × Gl1Rd) :=
 (Option.bind (Z6 gr 5) fun x2 =>
 (Option.bind (X3 g x2.2 grets gpars (({ op_ := 21, w := 8, a := 0, b := 0, c := 0, imm := x2.1, args := ([] : List Int) } : GInst))) fun x4 =>
 (Option.bind (J9 x4.2.2) fun x6 =>
 (Option.bind (Y8 x4.2.1 x6.2 grets gpars x6.1) fun x8 =>
 (Option.bind (U2 x8.2.1 x8.2.2 grets gpars (({ kind := 2, a := 0, x := ((List.length g.f.blocks : Int)) + 1, y := 0 } : GTerm))) fun x10 =>
 (Option.bind (Z0w x10.1 x10.2 grets gpars 8 ([x4.1, 0])) fun x12 =>
 (Option.bind (Z0w x12.2.1 x12.2.2 grets gpars x6.1 ([x8.1, 0])) fun x14 =>
 (Option.bind (X3 x14.2.1 x14.2.2 grets gpars (({ op_ := 21, w := 8, a := 0, b := 0, c := 0, imm := 0, args := ([] : List Int) } : GInst))) fun x16 =>
 (Option.bind (X3 x16.2.1 x16.2.2 grets gpars (({ op_ := 15, w := 8, a := x12.1, b := x16.1, c := 0, imm := 0, args := ([] : List Int) } : GInst))) fun x18 =>
 (Option.bind (U2 x18.2.1 x18.2.2 grets gpars (({ kind := 3, a := x18.1, x := ((List.length g.f.blocks : Int)) + 2, y := ((List.length g.f.blocks : Int)) + 3 } : GTerm))) fun x20 =>
 (Option.bind (X3 x20.1 x20.2 grets gpars (({ op_ := 21, w := 8, a := 0, b := 0, c := 0, imm := 1, args := ([] : List Int) } : GInst))) fun x22 =>
 (Option.bind (X3 x22.2.1 x22.2.2 grets gpars (({ op_ := 2, w := 8, a := x12.1, b := x22.1, c := 0, imm := 0, args := ([] : List Int) } : GInst))) fun x24 =>
 (Option.bind (Z6 x24.2.2 3) fun x26 =>
 (Option.bind (K3 x24.2.1 x26.2 grets gpars x26.1) fun x28 =>
 (Option.bind (Y8 x28.1 x28.2 grets gpars x6.1) fun x30 =>
 (Option.bind ((if (x30.1 == x14.1) = true then
 (Option.bind (X3 x30.2.1 x30.2.2 grets gpars (({ op_ := 1, w := x6.1, a := x14.1, b := x8.1, c := 0, imm := 0, args := ([] : List Int) } : GInst))) fun x34 =>
 (some ((x34.2.1, x34.2.2, x34.1))))
 else
 (some ((x30.2.1, x30.2.2, x30.1))))) fun (j32 : Gl2G × Gl1Rd × Int) =>
 (Option.bind (U2 j32.1 j32.2.1 grets gpars (({ kind := 2, a := 0, x := ((List.length g.f.blocks : Int)) + 1, y := 0 } : GTerm))) fun x37 =>
 (if 0 ≤ (((List.length g.f.blocks : Int)) + 1) ∧ (((List.length g.f.blocks : Int)) + 1) < (List.length x37.1.f.blocks : Int) then
 (if (0 : Int) ≤ 0 ∧ 0 < (List.length ((at_ x37.1.f.blocks (((List.length g.f.blocks : Int)) + 1)).phis) : Int) then
 (if (0 : Int) ≤ 1 ∧ 1 < (List.length ((at_ ((at_ x37.1.f.blocks (((List.length g.f.blocks : Int)) + 1)).phis) 0).ins) : Int) then
 (if 0 ≤ (((List.length g.f.blocks : Int)) + 1) ∧ (((List.length g.f.blocks : Int)) + 1) < (List.length (List.set x37.1.f.blocks (Int.toNat (((List.length g.f.blocks : Int)) + 1)) (({ phis := List.set ((at_ x37.1.f.blocks (((List.length g.f.blocks : Int)) + 1)).phis) (Int.toNat 0) (({ w := (at_ ((at_ x37.1.f.blocks (((List.length g.f.blocks : Int)) + 1)).phis) 0).w, ins := List.set ((at_ ((at_ x37.1.f.blocks (((List.length g.f.blocks : Int)) + 1)).phis) 0).ins) (Int.toNat 1) x24.1 } : GPhi)), insts := (at_ x37.1.f.blocks (((List.length g.f.blocks : Int)) + 1)).insts, term := ((at_ x37.1.f.blocks (((List.length g.f.blocks : Int)) + 1)).term) } : GBlock))) : Int) then
 (if (0 : Int) ≤ 1 ∧ 1 < (List.length ((at_ (List.set x37.1.f.blocks (Int.toNat (((List.length g.f.blocks : Int)) + 1)) (({ phis := List.set ((at_ x37.1.f.blocks (((List.length g.f.blocks : Int)) + 1)).phis) (Int.toNat 0) (({ w := (at_ ((at_ x37.1.f.blocks (((List.length g.f.blocks : Int)) + 1)).phis) 0).w, ins := List.set ((at_ ((at_ x37.1.f.blocks (((List.length g.f.blocks : Int)) + 1)).phis) 0).ins) (Int.toNat 1) x24.1 } : GPhi)), insts := (at_ x37.1.f.blocks (((List.length g.f.blocks : Int)) + 1)).insts, term := ((at_ x37.1.f.blocks (((List.length g.f.blocks : Int)) + 1)).term) } : GBlock))) (((List.length g.f.blocks : Int)) + 1)).phis) : Int) then
 (if (0 : Int) ≤ 1 ∧ 1 < (List.length ((at_ ((at_ (List.set x37.1.f.blocks (Int.toNat (((List.length g.f.blocks : Int)) + 1)) (({ phis := List.set ((at_ x37.1.f.blocks (((List.length g.f.blocks : Int)) + 1)).phis) (Int.toNat 0) (({ w := (at_ ((at_ x37.1.f.blocks (((List.length g.f.blocks : Int)) + 1)).phis) 0).w, ins := List.set ((at_ ((at_ x37.1.f.blocks (((List.length g.f.blocks : Int)) + 1)).phis) 0).ins) (Int.toNat 1) x24.1 } : GPhi)), insts := (at_ x37.1.f.blocks (((List.length g.f.blocks : Int)) + 1)).insts, term := ((at_ x37.1.f.blocks (((List.length g.f.blocks : Int)) + 1)).term) } : GBlock))) (((List.length g.f.blocks : Int)) + 1)).phis) 1).ins) : Int) then
 (some ((({ f := ({ params := x37.1.f.params, ret := x37.1.f.ret, blocks := List.set (List.set x37.1.f.blocks (Int.toNat (((List.length g.f.blocks : Int)) + 1)) (({ phis := List.set ((at_ x37.1.f.blocks (((List.length g.f.blocks : Int)) + 1)).phis) (Int.toNat 0) (({ w := (at_ ((at_ x37.1.f.blocks (((List.length g.f.blocks : Int)) + 1)).phis) 0).w, ins := List.set ((at_ ((at_ x37.1.f.blocks (((List.length g.f.blocks : Int)) + 1)).phis) 0).ins) (Int.toNat 1) x24.1 } : GPhi)), insts := (at_ x37.1.f.blocks (((List.length g.f.blocks : Int)) + 1)).insts, term := ((at_ x37.1.f.blocks (((List.length g.f.blocks : Int)) + 1)).term) } : GBlock))) (Int.toNat (((List.length g.f.blocks : Int)) + 1)) (({ phis := List.set ((at_ (List.set x37.1.f.blocks (Int.toNat (((List.length g.f.blocks : Int)) + 1)) (({ phis := List.set ((at_ x37.1.f.blocks (((List.length g.f.blocks : Int)) + 1)).phis) (Int.toNat 0) (({ w := (at_ ((at_ x37.1.f.blocks (((List.length g.f.blocks : Int)) + 1)).phis) 0).w, ins := List.set ((at_ ((at_ x37.1.f.blocks (((List.length g.f.blocks : Int)) + 1)).phis) 0).ins) (Int.toNat 1) x24.1 } : GPhi)), insts := (at_ x37.1.f.blocks (((List.length g.f.blocks : Int)) + 1)).insts, term := ((at_ x37.1.f.blocks (((List.length g.f.blocks : Int)) + 1)).term) } : GBlock))) (((List.length g.f.blocks : Int)) + 1)).phis) (Int.toNat 1) (({ w := (at_ ((at_ (List.set x37.1.f.blocks (Int.toNat (((List.length g.f.blocks : Int)) + 1)) (({ phis := List.set ((at_ x37.1.f.blocks (((List.length g.f.blocks : Int)) + 1)).phis) (Int.toNat 0) (({ w := (at_ ((at_ x37.1.f.blocks (((List.length g.f.blocks : Int)) + 1)).phis) 0).w, ins := List.set ((at_ ((at_ x37.1.f.blocks (((List.length g.f.blocks : Int)) + 1)).phis) 0).ins) (Int.toNat 1) x24.1 } : GPhi)), insts := (at_ x37.1.f.blocks (((List.length g.f.blocks : Int)) + 1)).insts, term := ((at_ x37.1.f.blocks (((List.length g.f.blocks : Int)) + 1)).term) } : GBlock))) (((List.length g.f.blocks : Int)) + 1)).phis) 1).w, ins := List.set ((at_ ((at_ (List.set x37.1.f.blocks (Int.toNat (((List.length g.f.blocks : Int)) + 1)) (({ phis := List.set ((at_ x37.1.f.blocks (((List.length g.f.blocks : Int)) + 1)).phis) (Int.toNat 0) (({ w := (at_ ((at_ x37.1.f.blocks (((List.length g.f.blocks : Int)) + 1)).phis) 0).w, ins := List.set ((at_ ((at_ x37.1.f.blocks (((List.length g.f.blocks : Int)) + 1)).phis) 0).ins) (Int.toNat 1) x24.1 } : GPhi)), insts := (at_ x37.1.f.blocks (((List.length g.f.blocks : Int)) + 1)).insts, term := ((at_ x37.1.f.blocks (((List.length g.f.blocks : Int)) + 1)).term) } : GBlock))) (((List.length g.f.blocks : Int)) + 1)).phis) 1).ins) (Int.toNat 1) j32.2.2 } : GPhi)), insts := (at_ (List.set x37.1.f.blocks (Int.toNat (((List.length g.f.blocks : Int)) + 1)) (({ phis := List.set ((at_ x37.1.f.blocks (((List.length g.f.blocks : Int)) + 1)).phis) (Int.toNat 0) (({ w := (at_ ((at_ x37.1.f.blocks (((List.length g.f.blocks : Int)) + 1)).phis) 0).w, ins := List.set ((at_ ((at_ x37.1.f.blocks (((List.length g.f.blocks : Int)) + 1)).phis) 0).ins) (Int.toNat 1) x24.1 } : GPhi)), insts := (at_ x37.1.f.blocks (((List.length g.f.blocks : Int)) + 1)).insts, term := ((at_ x37.1.f.blocks (((List.length g.f.blocks : Int)) + 1)).term) } : GBlock))) (((List.length g.f.blocks : Int)) + 1)).insts, term := ((at_ (List.set x37.1.f.blocks (Int.toNat (((List.length g.f.blocks : Int)) + 1)) (({ phis := List.set ((at_ x37.1.f.blocks (((List.length g.f.blocks : Int)) + 1)).phis) (Int.toNat 0) (({ w := (at_ ((at_ x37.1.f.blocks (((List.length g.f.blocks : Int)) + 1)).phis) 0).w, ins := List.set ((at_ ((at_ x37.1.f.blocks (((List.length g.f.blocks : Int)) + 1)).phis) 0).ins) (Int.toNat 1) x24.1 } : GPhi)), insts := (at_ x37.1.f.blocks (((List.length g.f.blocks : Int)) + 1)).insts, term := ((at_ x37.1.f.blocks (((List.length g.f.blocks : Int)) + 1)).term) } : GBlock))) (((List.length g.f.blocks : Int)) + 1)).term) } : GBlock)) } : GFunc), b := x37.1.b, next := x37.1.next, ids := x20.1.ids, ws := x20.1.ws } : Gl2G), x37.2)))
 else none)
 else none)
 else none)
 else none)
 else none)
 else none))))))))))))))))))
theorem Y0q {g : Gl2G} {gr : Gl1Rd} {grets : List Int} {gpars : List (List Int)} {r : Gl2G × Gl1Rd} (hm : Z2j g gr grets gpars = some r) : Sim Tryz.prog 63 [.one (.ptr () 0 0 0)] [⟨(), 15, [hl2G (.ptr () 1 0 0) (.ref () 2 0 (List.length grets)) (.ref () 3 0 (List.length gpars)) g]⟩, ⟨(), 2, [J3 false gr]⟩, ⟨(), 1, List.map iL grets⟩, ⟨(), 1, List.map (lL false 1 iL) gpars⟩] (.tup []) [⟨(), 15, [hl2G (.ptr () 1 0 0) (.ref () 2 0 (List.length grets)) (.ref () 3 0 (List.length gpars)) r.1]⟩, ⟨(), 2, [J3 false r.2]⟩, ⟨(), 1, List.map iL grets⟩, ⟨(), 1, List.map (lL false 1 iL) gpars⟩] := by
 refine fN 145 4 Tryz.func63 [] fun B hB0 => ?_
 unfold Z2j at hm
 refine Wp.seq ?_
 refine X7 ?_
 refine nO (x_mv rfl rfl ?_)
 refine nO (X1d rfl rfl rfl ?_)
 refine nO (Z9y rfl W0z rfl rfl ?_)
 refine nO (Z9y rfl W4t rfl rfl ?_)
 refine WpO.ghb (q_op 0 3) ?_
 refine yR ?_
 intro k1 hm
 refine W5 ?_
 refine Wp.seq ?_
 refine gH (q_cl 0 4 3) ?_
 refine yG ?_
 intro _ hm
 obtain ⟨x2, h3, hm⟩ := Z0 hm
 refine nO (cG [1] (Z2 h3) ?_)
 refine nO (x_bu (cells := [.int .i64 21, .int .i64 8, .int .i64 0, .int .i64 0, .int .i64 0, .int .i64 x2.1, .nl]) T46 rfl rfl rfl ?_)
 refine WpO.ghb (q_nb 27 6 1) ?_
 obtain ⟨x4, h5, hm⟩ := Z0 hm
 refine nO (cG [0, 1, 2, 3] (X4 h5) ?_)
 refine yG ?_
 intro _ hm
 obtain ⟨x6, h7, hm⟩ := Z0 hm
 refine nO (cG [1] (Z1d h7) ?_)
 refine yG ?_
 intro _ hm
 obtain ⟨x8, h9, hm⟩ := Z0 hm
 refine nO (cG [0, 1, 2, 3] (X1 h9) ?_)
 refine yG ?_
 intro _ hm
 obtain ⟨x10, h11, hm⟩ := Z0 hm
 refine nO (cG [0, 1, 2, 3] (K1 h11) ?_)
 refine yG ?_
 intro _ hm
 refine nO (kM (iL) ([x4.1, 0]) ?_)
 obtain ⟨x12, h13, hm⟩ := Z0 hm
 refine nO (cO [0, 1, 2, 3] [5] (Z6e h13) ?_)
 refine yG ?_
 intro _ hm
 refine nO (kM (iL) ([x8.1, 0]) ?_)
 obtain ⟨x14, h15, hm⟩ := Z0 hm
 refine nO (cO [0, 1, 2, 3] [6] (Z6e h15) ?_)
 refine nO (x_as rfl rfl ?_)
 refine W5 ?_
 refine Wp.seq ?_
 refine X7 ?_
 refine nO (x_mv rfl rfl ?_)
 refine nO (x_bu (cells := [.int .i64 21, .int .i64 8, .int .i64 0, .int .i64 0, .int .i64 0, .int .i64 0, .nl]) T46 rfl rfl rfl ?_)
 refine WpO.ghb (q_nb 52 6 1) ?_
 obtain ⟨x16, h17, hm⟩ := Z0 hm
 refine nO (cG [0, 1, 2, 3] (X4 h17) ?_)
 refine nO (x_as rfl rfl ?_)
 refine W5 ?_
 refine Wp.seq ?_
 refine X7 ?_
 refine nO (x_mv rfl rfl ?_)
 refine nO (x_mv rfl rfl ?_)
 refine nO (x_mv rfl rfl ?_)
 refine nO (x_bu (cells := [.int .i64 15, .int .i64 8, .int .i64 x12.1, .int .i64 x16.1, .int .i64 0, .int .i64 0, .nl]) T46 rfl rfl rfl ?_)
 refine WpO.ghb (q_nb 57 6 1) ?_
 obtain ⟨x18, h19, hm⟩ := Z0 hm
 refine nO (cG [0, 1, 2, 3] (X4 h19) ?_)
 refine yG ?_
 intro _ hm
 obtain ⟨x20, h21, hm⟩ := Z0 hm
 refine nO (cG [0, 1, 2, 3] (K1 h21) ?_)
 refine W5 ?_
 refine Wp.seq ?_
 refine X7 ?_
 refine yR ?_
 intro _ hm
 refine W5 ?_
 refine Wp.seq ?_
 refine X7 ?_
 refine yR ?_
 intro _ hm
 refine W5 ?_
 refine Wp.seq ?_
 refine X7 ?_
 refine nO (x_mv rfl rfl ?_)
 refine nO (x_bu (cells := [.int .i64 21, .int .i64 8, .int .i64 0, .int .i64 0, .int .i64 0, .int .i64 1, .nl]) T46 rfl rfl rfl ?_)
 refine WpO.ghb (q_nb 76 6 1) ?_
 obtain ⟨x22, h23, hm⟩ := Z0 hm
 refine nO (cG [0, 1, 2, 3] (X4 h23) ?_)
 refine nO (x_as rfl rfl ?_)
 refine W5 ?_
 refine Wp.seq ?_
 refine X7 ?_
 refine nO (x_mv rfl rfl ?_)
 refine nO (x_mv rfl rfl ?_)
 refine nO (x_mv rfl rfl ?_)
 refine nO (x_bu (cells := [.int .i64 2, .int .i64 8, .int .i64 x12.1, .int .i64 x22.1, .int .i64 0, .int .i64 0, .nl]) T46 rfl rfl rfl ?_)
 refine WpO.ghb (q_nb 81 6 1) ?_
 obtain ⟨x24, h25, hm⟩ := Z0 hm
 refine nO (cG [0, 1, 2, 3] (X4 h25) ?_)
 refine yG ?_
 intro _ hm
 obtain ⟨x26, h27, hm⟩ := Z0 hm
 refine nO (cG [1] (Z2 h27) ?_)
 obtain ⟨x28, h29, hm⟩ := Z0 hm
 refine nO (cG [0, 1, 2, 3] (Z1a h29) ?_)
 refine yG ?_
 intro _ hm
 obtain ⟨x30, h31, hm⟩ := Z0 hm
 refine nO (cG [0, 1, 2, 3] (X1 h31) ?_)
 refine nO (x_as rfl rfl ?_)
 refine W5 ?_
 refine Wp.seq ?_
 obtain ⟨j32, hj36, hm⟩ := Z0 hm
 refine V7 (St 145 [(0, vP 0), (2, vI ((List.length g.f.blocks : Int))), (10, .u (.one (.bs () 1 (List.map iL x20.1.ids)))), (11, .u (.one (.bs () 1 (List.map iL x20.1.ws)))), (13, vI x24.1), (14, vI j32.2.2)] [(0, oL 15 (hl2G (.ptr () 1 0 0) (.ref () 2 0 (List.length grets)) (.ref () 3 0 (List.length gpars)) j32.1)), (1, oL 2 (J3 false j32.2.1)), (2, oM 1 iL grets), (3, oM 1 (lL false 1 iL) gpars)] 4) ?_ ?_
 replace hm := hj36
 refine yG ?_
 intro _ hm
 refine bS hm (fun hb33 hm => ?_) fun hb33 hm => ?_
 refine X7 ?_
 refine nO (x_mv rfl rfl ?_)
 refine nO (x_mv rfl rfl ?_)
 refine nO (x_mv rfl rfl ?_)
 refine nO (x_mv rfl rfl ?_)
 refine nO (x_bu (cells := [.int .i64 1, .int .i64 x6.1, .int .i64 x14.1, .int .i64 x8.1, .int .i64 0, .int .i64 0, .nl]) T46 rfl rfl rfl ?_)
 refine WpO.ghb (q_nb 100 6 1) ?_
 obtain ⟨x34, h35, hm⟩ := Z0 hm
 refine nO (cG [0, 1, 2, 3] (X4 h35) ?_)
 refine yG ?_
 intro _ hm
 cases hm
 exact vW [0, 1, 2, 3]
 refine K5 ?_
 cases hm
 exact vW [0, 1, 2, 3]
 refine yG ?_
 intro _ hm
 obtain ⟨x37, h38, hm⟩ := Z0 hm
 refine nO (cG [0, 1, 2, 3] (K1 h38) ?_)
 refine W5 ?_
 refine Wp.seq ?_
 refine X7 ?_
 refine nO (x_mv rfl rfl ?_)
 refine nO (X1d rfl rfl rfl ?_)
 refine nO (Z9y rfl W0z rfl rfl ?_)
 refine nO (Z9y rfl W4t rfl rfl ?_)
 refine WpO.ghb (q_op 0 3) ?_
 refine nO (Y2e rfl T30 rfl rfl rfl rfl rfl ?_)
 refine nO (x_mv rfl rfl ?_)
 refine nO (Y3s T2 rfl rfl (by unfold inI; omega) ?_)
 obtain ⟨h39, hm⟩ := Z9 hm
 refine nO (K8 rfl E30 rfl rfl rfl h39 ?_)
 refine nO (Z9y rfl X7q rfl rfl ?_)
 refine WpO.ghb (X5f 4 0 h39) ?_
 refine nO (Y2e rfl T36 rfl rfl (Z4i h39) rfl rfl ?_)
 obtain ⟨h40, hm⟩ := Z9 hm
 refine nO (K8 rfl E36 rfl rfl rfl h40 ?_)
 refine nO (Z9y rfl W6x rfl rfl ?_)
 refine WpO.ghb (X5f 5 1 h40) ?_
 refine nO (Y2e rfl T29 rfl rfl (Z4i h40) rfl rfl ?_)
 refine yG ?_
 intro k2 hm
 refine nO (Z9x x24.1 T2 rfl rfl rfl k2.2 rfl rfl rfl rfl ?_)
 refine WpO.ghb (W2g (({ w := (at_ ((at_ x37.1.f.blocks (((List.length g.f.blocks : Int)) + 1)).phis) 0).w, ins := List.set ((at_ ((at_ x37.1.f.blocks (((List.length g.f.blocks : Int)) + 1)).phis) 0).ins) (Int.toNat 1) x24.1 } : GPhi)) 5 6 1 h40) ?_
 refine WpO.ghb (W2g (({ phis := List.set ((at_ x37.1.f.blocks (((List.length g.f.blocks : Int)) + 1)).phis) (Int.toNat 0) (({ w := (at_ ((at_ x37.1.f.blocks (((List.length g.f.blocks : Int)) + 1)).phis) 0).w, ins := List.set ((at_ ((at_ x37.1.f.blocks (((List.length g.f.blocks : Int)) + 1)).phis) 0).ins) (Int.toNat 1) x24.1 } : GPhi)), insts := (at_ x37.1.f.blocks (((List.length g.f.blocks : Int)) + 1)).insts, term := ((at_ x37.1.f.blocks (((List.length g.f.blocks : Int)) + 1)).term) } : GBlock)) 4 5 0 h39) ?_
 refine W5 ?_
 refine Wp.seq ?_
 refine gH (q_cl 0 4 3) ?_
 refine X7 ?_
 refine nO (x_mv rfl rfl ?_)
 refine nO (X1d rfl rfl rfl ?_)
 refine nO (Z9y rfl W0z rfl rfl ?_)
 refine nO (Z9y rfl W4t rfl rfl ?_)
 refine WpO.ghb (q_op 0 3) ?_
 refine nO (Y2e rfl T30 rfl rfl rfl rfl rfl ?_)
 refine nO (x_mv rfl rfl ?_)
 refine nO (Y3s T2 rfl rfl (by unfold inI; omega) ?_)
 obtain ⟨h42, hm⟩ := Z9 hm
 refine nO (K8 rfl E30 rfl rfl rfl h42 ?_)
 refine nO (Z9y rfl X7q rfl rfl ?_)
 refine WpO.ghb (X5f 7 0 h42) ?_
 refine nO (Y2e rfl T36 rfl rfl (Z4i h42) rfl rfl ?_)
 obtain ⟨h43, hm⟩ := Z9 hm
 refine nO (K8 rfl E36 rfl rfl rfl h43 ?_)
 refine nO (Z9y rfl W6x rfl rfl ?_)
 refine WpO.ghb (X5f 8 1 h43) ?_
 refine nO (Y2e rfl T29 rfl rfl (Z4i h43) rfl rfl ?_)
 refine yG ?_
 intro k3 hm
 refine nO (Z9x j32.2.2 T2 rfl rfl rfl k3.2 rfl rfl rfl rfl ?_)
 refine WpO.ghb (W2g (({ w := (at_ ((at_ (List.set x37.1.f.blocks (Int.toNat (((List.length g.f.blocks : Int)) + 1)) (({ phis := List.set ((at_ x37.1.f.blocks (((List.length g.f.blocks : Int)) + 1)).phis) (Int.toNat 0) (({ w := (at_ ((at_ x37.1.f.blocks (((List.length g.f.blocks : Int)) + 1)).phis) 0).w, ins := List.set ((at_ ((at_ x37.1.f.blocks (((List.length g.f.blocks : Int)) + 1)).phis) 0).ins) (Int.toNat 1) x24.1 } : GPhi)), insts := (at_ x37.1.f.blocks (((List.length g.f.blocks : Int)) + 1)).insts, term := ((at_ x37.1.f.blocks (((List.length g.f.blocks : Int)) + 1)).term) } : GBlock))) (((List.length g.f.blocks : Int)) + 1)).phis) 1).w, ins := List.set ((at_ ((at_ (List.set x37.1.f.blocks (Int.toNat (((List.length g.f.blocks : Int)) + 1)) (({ phis := List.set ((at_ x37.1.f.blocks (((List.length g.f.blocks : Int)) + 1)).phis) (Int.toNat 0) (({ w := (at_ ((at_ x37.1.f.blocks (((List.length g.f.blocks : Int)) + 1)).phis) 0).w, ins := List.set ((at_ ((at_ x37.1.f.blocks (((List.length g.f.blocks : Int)) + 1)).phis) 0).ins) (Int.toNat 1) x24.1 } : GPhi)), insts := (at_ x37.1.f.blocks (((List.length g.f.blocks : Int)) + 1)).insts, term := ((at_ x37.1.f.blocks (((List.length g.f.blocks : Int)) + 1)).term) } : GBlock))) (((List.length g.f.blocks : Int)) + 1)).phis) 1).ins) (Int.toNat 1) j32.2.2 } : GPhi)) 8 9 1 h43) ?_
 refine WpO.ghb (W2g (({ phis := List.set ((at_ (List.set x37.1.f.blocks (Int.toNat (((List.length g.f.blocks : Int)) + 1)) (({ phis := List.set ((at_ x37.1.f.blocks (((List.length g.f.blocks : Int)) + 1)).phis) (Int.toNat 0) (({ w := (at_ ((at_ x37.1.f.blocks (((List.length g.f.blocks : Int)) + 1)).phis) 0).w, ins := List.set ((at_ ((at_ x37.1.f.blocks (((List.length g.f.blocks : Int)) + 1)).phis) 0).ins) (Int.toNat 1) x24.1 } : GPhi)), insts := (at_ x37.1.f.blocks (((List.length g.f.blocks : Int)) + 1)).insts, term := ((at_ x37.1.f.blocks (((List.length g.f.blocks : Int)) + 1)).term) } : GBlock))) (((List.length g.f.blocks : Int)) + 1)).phis) (Int.toNat 1) (({ w := (at_ ((at_ (List.set x37.1.f.blocks (Int.toNat (((List.length g.f.blocks : Int)) + 1)) (({ phis := List.set ((at_ x37.1.f.blocks (((List.length g.f.blocks : Int)) + 1)).phis) (Int.toNat 0) (({ w := (at_ ((at_ x37.1.f.blocks (((List.length g.f.blocks : Int)) + 1)).phis) 0).w, ins := List.set ((at_ ((at_ x37.1.f.blocks (((List.length g.f.blocks : Int)) + 1)).phis) 0).ins) (Int.toNat 1) x24.1 } : GPhi)), insts := (at_ x37.1.f.blocks (((List.length g.f.blocks : Int)) + 1)).insts, term := ((at_ x37.1.f.blocks (((List.length g.f.blocks : Int)) + 1)).term) } : GBlock))) (((List.length g.f.blocks : Int)) + 1)).phis) 1).w, ins := List.set ((at_ ((at_ (List.set x37.1.f.blocks (Int.toNat (((List.length g.f.blocks : Int)) + 1)) (({ phis := List.set ((at_ x37.1.f.blocks (((List.length g.f.blocks : Int)) + 1)).phis) (Int.toNat 0) (({ w := (at_ ((at_ x37.1.f.blocks (((List.length g.f.blocks : Int)) + 1)).phis) 0).w, ins := List.set ((at_ ((at_ x37.1.f.blocks (((List.length g.f.blocks : Int)) + 1)).phis) 0).ins) (Int.toNat 1) x24.1 } : GPhi)), insts := (at_ x37.1.f.blocks (((List.length g.f.blocks : Int)) + 1)).insts, term := ((at_ x37.1.f.blocks (((List.length g.f.blocks : Int)) + 1)).term) } : GBlock))) (((List.length g.f.blocks : Int)) + 1)).phis) 1).ins) (Int.toNat 1) j32.2.2 } : GPhi)), insts := (at_ (List.set x37.1.f.blocks (Int.toNat (((List.length g.f.blocks : Int)) + 1)) (({ phis := List.set ((at_ x37.1.f.blocks (((List.length g.f.blocks : Int)) + 1)).phis) (Int.toNat 0) (({ w := (at_ ((at_ x37.1.f.blocks (((List.length g.f.blocks : Int)) + 1)).phis) 0).w, ins := List.set ((at_ ((at_ x37.1.f.blocks (((List.length g.f.blocks : Int)) + 1)).phis) 0).ins) (Int.toNat 1) x24.1 } : GPhi)), insts := (at_ x37.1.f.blocks (((List.length g.f.blocks : Int)) + 1)).insts, term := ((at_ x37.1.f.blocks (((List.length g.f.blocks : Int)) + 1)).term) } : GBlock))) (((List.length g.f.blocks : Int)) + 1)).insts, term := ((at_ (List.set x37.1.f.blocks (Int.toNat (((List.length g.f.blocks : Int)) + 1)) (({ phis := List.set ((at_ x37.1.f.blocks (((List.length g.f.blocks : Int)) + 1)).phis) (Int.toNat 0) (({ w := (at_ ((at_ x37.1.f.blocks (((List.length g.f.blocks : Int)) + 1)).phis) 0).w, ins := List.set ((at_ ((at_ x37.1.f.blocks (((List.length g.f.blocks : Int)) + 1)).phis) 0).ins) (Int.toNat 1) x24.1 } : GPhi)), insts := (at_ x37.1.f.blocks (((List.length g.f.blocks : Int)) + 1)).insts, term := ((at_ x37.1.f.blocks (((List.length g.f.blocks : Int)) + 1)).term) } : GBlock))) (((List.length g.f.blocks : Int)) + 1)).term) } : GBlock)) 7 8 0 h42) ?_
 refine W5 ?_
 refine Wp.seq ?_
 refine gH (q_cl 0 7 3) ?_
 refine yG ?_
 intro _ hm
 cases hm
 exact rGt [0, 1, 2, 3]
noncomputable def Z4g (g : Gl2G) (gr : Gl1Rd) (grets : List Int) (gpars : List (List Int)) : Option (Gl2G × Gl1Rd) :=
 (Option.bind (J6 gr 14) fun x1 =>
 (if x1.1 = true then
 (Option.bind (U2 g x1.2 grets gpars (({ kind := 4, a := 0, x := 0, y := 0 } : GTerm))) fun x4 =>
 (some ((x4.1, x4.2))))
 else
 (Option.bind (Y8 g x1.2 grets gpars g.f.ret) fun x6 =>
 (Option.bind (U2 x6.2.1 x6.2.2 grets gpars (({ kind := 1, a := x6.1, x := 0, y := 0 } : GTerm))) fun x8 =>
 (some ((x8.1, x8.2)))))))
theorem Y5z {g : Gl2G} {gr : Gl1Rd} {grets : List Int} {gpars : List (List Int)} {r : Gl2G × Gl1Rd} (hm : Z4g g gr grets gpars = some r) : Sim Tryz.prog 64 [.one (.ptr () 0 0 0)] [⟨(), 15, [hl2G (.ptr () 1 0 0) (.ref () 2 0 (List.length grets)) (.ref () 3 0 (List.length gpars)) g]⟩, ⟨(), 2, [J3 false gr]⟩, ⟨(), 1, List.map iL grets⟩, ⟨(), 1, List.map (lL false 1 iL) gpars⟩] (.tup []) [⟨(), 15, [hl2G (.ptr () 1 0 0) (.ref () 2 0 (List.length grets)) (.ref () 3 0 (List.length gpars)) r.1]⟩, ⟨(), 2, [J3 false r.2]⟩, ⟨(), 1, List.map iL grets⟩, ⟨(), 1, List.map (lL false 1 iL) gpars⟩] := by
 refine fN 22 4 Tryz.func64 [] fun B hB0 => ?_
 unfold Z4g at hm
 refine yG ?_
 intro _ hm
 obtain ⟨x1, h2, hm⟩ := Z0 hm
 refine nO (cG [1] (Z4b h2) ?_)
 refine W5 ?_
 refine bS hm (fun hb3 hm => ?_) fun hb3 hm => ?_
 refine yG ?_
 intro _ hm
 obtain ⟨x4, h5, hm⟩ := Z0 hm
 refine nO (cG [0, 1, 2, 3] (K1 h5) ?_)
 refine W5 ?_
 refine Z2d ?_
 cases hm
 exact rGt [0, 1, 2, 3]
 refine yG ?_
 intro _ hm
 obtain ⟨x6, h7, hm⟩ := Z0 hm
 refine nO (cG [0, 1, 2, 3] (X1 h7) ?_)
 refine yG ?_
 intro _ hm
 obtain ⟨x8, h9, hm⟩ := Z0 hm
 refine nO (cG [0, 1, 2, 3] (K1 h9) ?_)
 refine W5 ?_
 cases hm
 exact rGt [0, 1, 2, 3]
noncomputable def Z5n (vr : Gl1Rd) (rets : List Int) (pars : List (List Int)) : Option (GFunc × Gl1Rd) :=
 (Option.bind (J9 vr) fun x1 =>
 (Option.bind (Z6 x1.2 3) fun x3 =>
 (Option.bind (Y6 (fun (st5 : Gl1Rd × Gl2G × Int) =>
 ((if decide (st5.2.2 > 0) = true then
 (Option.bind (J9 st5.1) fun x8 =>
 (if (List.length st5.2.1.f.params + List.length ([x8.1])) * 8 ≤ 140737488355328 ∧ List.length st5.2.1.f.params + List.length ([x8.1]) ≤ LIM then
 (Option.bind (Z2b (({ f := ({ params := st5.2.1.f.params ++ ([x8.1]), ret := st5.2.1.f.ret, blocks := st5.2.1.f.blocks } : GFunc), b := st5.2.1.b, next := st5.2.1.next, ids := st5.2.1.ids, ws := st5.2.1.ws } : Gl2G)) x8.2 rets pars x8.1) fun x11 =>
 (if inI (st5.2.2 - 1) then
 (some (Sum.inl ((x11.2.2, x11.2.1, st5.2.2 - 1))))
 else none))
 else none))
 else
 (some (Sum.inr (((st5.1, st5.2.1)))))) : Option ((Gl1Rd × Gl2G × Int) ⊕ ((Gl1Rd × Gl2G))))) (x3.2, ({ f := ({ params := ([] : List Int), ret := x1.1, blocks := ([] : List GBlock) } : GFunc), b := ({ phis := ([] : List GPhi), insts := ([] : List GInst), term := ({ kind := 0, a := 0, x := 0, y := 0 } : GTerm) } : GBlock), next := 0, ids := ([] : List Int), ws := ([] : List Int) } : Gl2G), x3.1)) fun (j6 : Gl1Rd × Gl2G) =>
 (Option.bind (Z6 j6.1 5) fun x16 =>
 (if inI (1 + x16.1) then
 (Option.bind (K3 j6.2 x16.2 rets pars (1 + x16.1)) fun x19 =>
 (Option.bind ((Option.bind (Z6 x19.2 4) fun x22 =>
 (if (x22.1 == 0) = true then
 (Option.bind (Z2k x19.1 x22.2 rets pars) fun x25 =>
 (some ((x25.2, x25.1))))
 else
 (if (x22.1 == 1) = true then
 (Option.bind (Z2j x19.1 x22.2 rets pars) fun x28 =>
 (some ((x28.2, x28.1))))
 else
 (if (x22.1 == 2) = true then
 (Option.bind (Z2k x19.1 x22.2 rets pars) fun x31 =>
 (Option.bind (Z6 x31.2 3) fun x33 =>
 (Option.bind (K3 x31.1 x33.2 rets pars x33.1) fun x35 =>
 (Option.bind (Z2j x35.1 x35.2 rets pars) fun x37 =>
 (some ((x37.2, x37.1)))))))
 else
 (some ((x22.2, x19.1)))))))) fun (j21 : Gl1Rd × Gl2G) =>
 (Option.bind (Z6 j21.1 3) fun x40 =>
 (Option.bind (K3 j21.2 x40.2 rets pars x40.1) fun x42 =>
 (Option.bind (Z4g x42.1 x42.2 rets pars) fun x44 =>
 (some ((({ params := x44.1.f.params, ret := x44.1.f.ret, blocks := x44.1.f.blocks } : GFunc), x44.2))))))))
 else none)))))
theorem Y7p {vr : Gl1Rd} {rets : List Int} {pars : List (List Int)} {r : GFunc × Gl1Rd} (hm : Z5n vr rets pars = some r) : Sim Tryz.prog 32 [.one (.ptr () 0 0 0), .one (.ref () 1 0 (List.length rets)), .one (.ref () 2 0 (List.length pars))] [⟨(), 2, [J3 false vr]⟩, ⟨(), 1, List.map iL rets⟩, ⟨(), 1, List.map (lL false 1 iL) pars⟩] (.u (.agg (Y1 true r.1))) [⟨(), 2, [J3 false r.2]⟩, ⟨(), 1, List.map iL rets⟩, ⟨(), 1, List.map (lL false 1 iL) pars⟩] := by
 refine fN 79 3 Tryz.func32 [.cell 6 32] fun B hB0 => ?_
 unfold Z5n at hm
 refine Wp.seq ?_
 refine X7 ?_
 refine nO (x_al T32 (r := [.nl, .int .i64 0, .nl]) rfl rfl ?_)
 refine W5 ?_
 refine Wp.seq ?_
 refine X7 ?_
 refine nO (x_mv rfl rfl ?_)
 refine nO (x_mv rfl rfl ?_)
 refine nO (x_mv rfl rfl ?_)
 refine nO (x_bu (cells := [.ptr () 0 0 0, .nl, .int .i64 0, .nl, .nl, .nl, .int .i64 0, .int .i64 0, .int .i64 0, .int .i64 0, .int .i64 0, .nl, .nl, .ref () 1 0 (List.length rets), .ref () 2 0 (List.length pars)]) T83 rfl rfl rfl ?_)
 refine WpO.ghb (q_nb 13 11 1) ?_
 refine WpO.ghb (q_nb 13 12 1) ?_
 refine yR ?_
 intro _ hm
 refine W5 ?_
 refine Wp.seq ?_
 refine gH (W2f 4 1 1) ?_
 refine gH (q_cz 4 5 1) ?_
 refine gH (W2f 4 3 6) ?_
 refine gH (q_cz 4 6 3) ?_
 refine gH (W2f 4 4 2) ?_
 refine gH (q_cz 4 7 4) ?_
 refine gH (W2f 4 5 7) ?_
 refine gH (q_cz 4 8 5) ?_
 refine yG ?_
 intro _ hm
 obtain ⟨x1, h2, hm⟩ := Z0 hm
 refine nO (cG [0] (Z1d h2) ?_)
 refine yG ?_
 intro _ hm
 obtain ⟨x3, h4, hm⟩ := Z0 hm
 refine nO (cG [0] (Z2 h4) ?_)
 refine yG ?_
 intro _ hm
 obtain ⟨j6, hl15, hm⟩ := Z0 hm
 refine lP hl15 (fun st5 => St 79 [(0, vP 0), (6, vP 3), (7, vP 4), (8, vI st5.2.2)] [(0, oL 2 (J3 false st5.1)), (1, oM 1 iL rets), (2, oM 1 (lL false 1 iL) pars), (3, oL 3 [.nl, .int .i64 0, .nl]), (4, oL 15 (hl2G (.ptr () 0 0 0) (.ref () 1 0 (List.length rets)) (.ref () 2 0 (List.length pars)) st5.2.1))] 5) (fun j6 => (.exit 0, St 79 [(0, vP 0), (6, vP 3), (7, vP 4)] [(0, oL 2 (J3 false j6.1)), (1, oM 1 iL rets), (2, oM 1 (lL false 1 iL) pars), (3, oL 3 [.nl, .int .i64 0, .nl]), (4, oL 15 (hl2G (.ptr () 0 0 0) (.ref () 1 0 (List.length rets)) (.ref () 2 0 (List.length pars)) j6.2))] 5)) (vW [0, 1, 2, 3, 4]) ?_ ?_
 intro st5 x hm
 refine yG ?_
 intro _ hm
 refine bS hm (fun hb7 hm => ?_) fun hb7 hm => ?_
 refine yG ?_
 intro _ hm
 obtain ⟨x8, h9, hm⟩ := Z0 hm
 refine nO (cG [0] (Z1d h9) ?_)
 refine nO (x_as rfl rfl ?_)
 refine W5 ?_
 refine Wp.seq ?_
 refine X7 ?_
 refine nO (x_mv rfl rfl ?_)
 refine nO (x_mv rfl rfl ?_)
 refine nO (X1d rfl rfl rfl ?_)
 refine nO (Z9y rfl W0z rfl rfl ?_)
 refine nO (Z9y rfl F32_0 rfl rfl ?_)
 refine WpO.ghb (q_op 4 1) ?_
 refine yG ?_
 intro _ hm
 refine nO (kM (iL) ([x8.1]) ?_)
 refine yR ?_
 intro k1 hm
 refine W5 ?_
 refine gH (q_cl 4 7 1) ?_
 refine yG ?_
 intro _ hm
 obtain ⟨x11, h12, hm⟩ := Z0 hm
 refine nO (cG [4, 0, 1, 2] (Z8r h12) ?_)
 refine yG ?_
 intro k2 hm
 cases hm
 exact ⟨rfl, vW [0, 1, 2, 3, 4]⟩
 refine V2 ?_
 cases hm
 exact ⟨rfl, vW [0, 1, 2, 3, 4]⟩
 refine yG ?_
 intro _ hm
 obtain ⟨x16, h17, hm⟩ := Z0 hm
 refine nO (cG [0] (Z2 h17) ?_)
 refine yG ?_
 intro k3 hm
 obtain ⟨x19, h20, hm⟩ := Z0 hm
 refine nO (cG [4, 0, 1, 2] (Z1a h20) ?_)
 refine W5 ?_
 refine Wp.seq ?_
 obtain ⟨j21, hj39, hm⟩ := Z0 hm
 refine V7 (St 79 [(0, vP 0), (6, vP 3), (7, vP 4)] [(0, oL 2 (J3 false j21.1)), (1, oM 1 iL rets), (2, oM 1 (lL false 1 iL) pars), (3, oL 3 [.nl, .int .i64 0, .nl]), (4, oL 15 (hl2G (.ptr () 0 0 0) (.ref () 1 0 (List.length rets)) (.ref () 2 0 (List.length pars)) j21.2))] 5) ?_ ?_
 replace hm := hj39
 refine yG ?_
 intro _ hm
 obtain ⟨x22, h23, hm⟩ := Z0 hm
 refine nO (cG [0] (Z2 h23) ?_)
 refine yG ?_
 intro _ hm
 refine bS hm (fun hb24 hm => ?_) fun hb24 hm => ?_
 refine yG ?_
 intro _ hm
 obtain ⟨x25, h26, hm⟩ := Z0 hm
 refine nO (cG [4, 0, 1, 2] (Y0r h26) ?_)
 refine W5 ?_
 cases hm
 exact vW [0, 1, 2, 3, 4]
 refine yG ?_
 intro _ hm
 refine bS hm (fun hb27 hm => ?_) fun hb27 hm => ?_
 refine yG ?_
 intro _ hm
 obtain ⟨x28, h29, hm⟩ := Z0 hm
 refine nO (cG [4, 0, 1, 2] (Y0q h29) ?_)
 refine W5 ?_
 cases hm
 exact vW [0, 1, 2, 3, 4]
 refine yG ?_
 intro _ hm
 refine bS hm (fun hb30 hm => ?_) fun hb30 hm => ?_
 refine yG ?_
 intro _ hm
 obtain ⟨x31, h32, hm⟩ := Z0 hm
 refine nO (cG [4, 0, 1, 2] (Y0r h32) ?_)
 refine yG ?_
 intro _ hm
 obtain ⟨x33, h34, hm⟩ := Z0 hm
 refine nO (cG [0] (Z2 h34) ?_)
 obtain ⟨x35, h36, hm⟩ := Z0 hm
 refine nO (cG [4, 0, 1, 2] (Z1a h36) ?_)
 refine yG ?_
 intro _ hm
 obtain ⟨x37, h38, hm⟩ := Z0 hm
 refine nO (cG [4, 0, 1, 2] (Y0q h38) ?_)
 refine W5 ?_
 cases hm
 exact vW [0, 1, 2, 3, 4]
 refine K5 ?_
 cases hm
 exact vW [0, 1, 2, 3, 4]
 refine yG ?_
 intro _ hm
 obtain ⟨x40, h41, hm⟩ := Z0 hm
 refine nO (cG [0] (Z2 h41) ?_)
 obtain ⟨x42, h43, hm⟩ := Z0 hm
 refine nO (cG [4, 0, 1, 2] (Z1a h43) ?_)
 refine yG ?_
 intro _ hm
 obtain ⟨x44, h45, hm⟩ := Z0 hm
 refine nO (cG [4, 0, 1, 2] (Y5z h45) ?_)
 refine W5 ?_
 refine Wp.seq ?_
 refine X7 ?_
 refine nO (x_mv rfl rfl ?_)
 refine nO (X1d rfl rfl rfl ?_)
 refine nO (Z9y rfl W0z rfl rfl ?_)
 refine WpO.ghb (q_op 4 1) ?_
 refine WpO.ghb (q_op 4 3) ?_
 refine nO (kL (.agg [.ref () 5 0 (List.length x44.1.f.params), .int .i64 x44.1.f.ret, .ref () 6 0 (List.length x44.1.f.blocks)]) ?_)
 refine yG ?_
 intro _ hm
 cases hm
 exact rG1h [0, 1, 2] (hg := (f_frR 0 0 rfl rfl rfl (by first | rfl | simp) rfl rfl).trans (Z3s 0 2 rfl rfl rfl rfl))
noncomputable def Z0y (f : GFunc) : Option Int :=
 (Option.bind (Y6 (fun (st2 : Int × Int) =>
 ((if decide (st2.2 < ((List.length f.blocks : Int))) = true then
 (if 0 ≤ st2.2 ∧ st2.2 < (List.length f.blocks : Int) then
 (if 0 ≤ st2.2 ∧ st2.2 < (List.length f.blocks : Int) then
 (if inI (st2.2 + 1) then
 (some (Sum.inl ((IntKind.i64.wrap (st2.1 + (IntKind.i64.wrap (((List.length ((at_ f.blocks st2.2).phis) : Int)) + ((List.length ((at_ f.blocks st2.2).insts) : Int))))), st2.2 + 1))))
 else none)
 else none)
 else none)
 else
 (some (Sum.inr st2.1))) : Option ((Int × Int) ⊕ (Int)))) ((List.length f.params : Int), 0)) fun (j3 : Int) =>
 (some j3))
theorem Y1z {f : GFunc} {r : Int} (hm : Z0y f = some r) : Sim Tryz.prog 33 [.agg (Y1 false f)] [] (.u (.one (.int .i64 r))) [] := by
 refine fN 33 0 Tryz.func33 [.tmp 2] fun B hB0 => ?_
 have fW := trivial
 unfold Z0y at hm
 refine yG ?_
 intro k1 hm
 obtain ⟨j3, hl12, hm⟩ := Z0 hm
 refine lP hl12 (fun st2 => St 33 [(1, vP 0), (3, vI st2.1), (4, vI st2.2)] [(0, oL 3 (Y1 false f))] 1) (fun j3 => (.exit 0, St 33 [(3, vI j3)] [] 0)) (vW [0]) ?_ ?_
 intro st2 x hm
 refine yG ?_
 intro k2 hm
 refine bS hm (fun hb5 hm => ?_) fun hb5 hm => ?_
 refine K5 ?_
 refine Wp.seq ?_
 refine Wp.block ?_
 refine Z4t (Y := sysC _) Z4j ?_
 refine tK 0 0 rfl (kV ?_)
 refine tK 1 1 rfl (kF ?_)
 refine tK 2 1 rfl (kD ?_)
 refine tK 3 0 rfl (kV ?_)
 obtain ⟨h6, hm⟩ := Z9 hm
 refine tK 4 0 rfl (Z8m E30 rfl rfl h6 ?_)
 refine tK 5 0 rfl (Y5x X7q rfl ?_)
 refine tK 6 0 rfl (K7 T36 rfl rfl rfl ?_)
 refine tK 7 0 rfl (Y5w N36 rfl fun hL7 => ?_)
 refine tK 8 1 rfl (kF ?_)
 refine tK 9 1 rfl (kD ?_)
 refine tK 10 0 rfl (kV ?_)
 obtain ⟨h8, hm⟩ := Z9 hm
 refine tK 11 0 rfl (Z8m E30 rfl rfl h8 ?_)
 refine tK 12 0 rfl (Y5x W6y rfl ?_)
 refine tK 13 0 rfl (K7 T37 rfl rfl rfl ?_)
 refine tK 14 0 rfl (Y5w N37 rfl fun hL9 => ?_)
 refine tK 15 0 rfl (Y2g T3 rfl rfl rfl ?_)
 refine tK 16 0 rfl (Y2g T2 rfl rfl rfl ?_)
 refine tK 17 0 rfl (x_as rfl rfl ?_)
 refine aN ?_
 refine yG ?_
 intro k3 hm
 cases hm
 exact ⟨rfl, vW [0]⟩
 refine V2 ?_
 cases hm
 exact ⟨rfl, vW []⟩
 refine yG ?_
 intro _ hm
 cases hm
 exact rZ1
end
section
set_option maxHeartbeats 8000000
set_option maxRecDepth 100000
attribute [local irreducible] aopK J8 Wp St WpO
noncomputable def Z0q (vr : Gl1Rd) : Option (GModule × Gl1Rd) :=
 (Option.bind (Z6 vr 2) fun x1 =>
 (if inI (1 + x1.1) then
 (Option.bind (Y6 (fun (st5 : Gl1Rd × (List GFunc) × (List Int) × (List (List Int)) × Int) =>
 ((if decide (st5.2.2.2.2 > 0) = true then
 (Option.bind (Z5n st5.1 st5.2.2.1 st5.2.2.2.1) fun x8 =>
 (Option.bind ((Option.bind ((Option.bind (Z0y x8.1) fun x12 =>
 (if decide (x12 > 60) = true then
 (some true)
 else
 (some (decide (((List.length x8.1.blocks : Int)) > 10)))))) fun (j11 : Bool) =>
 (if j11 = true then
 (some (({ params := ([] : List Int), ret := 8, blocks := (([] : List GBlock)) ++ [({ phis := ([] : List GPhi), insts := [({ op_ := 21, w := 8, a := 0, b := 0, c := 0, imm := 7, args := ([] : List Int) } : GInst)], term := (({ kind := 1, a := 0, x := 0, y := 0 } : GTerm)) } : GBlock)] } : GFunc)))
 else
 (some x8.1)))) fun (j10 : GFunc) =>
 (if (List.length st5.2.1 + List.length ([j10])) * 56 ≤ 140737488355328 ∧ List.length st5.2.1 + List.length ([j10]) ≤ LIM then
 (if (List.length st5.2.2.1 + List.length ([j10.ret])) * 8 ≤ 140737488355328 ∧ List.length st5.2.2.1 + List.length ([j10.ret]) ≤ LIM then
 (if (List.length st5.2.2.2.1 + List.length ([j10.params])) * 24 ≤ 140737488355328 ∧ List.length st5.2.2.2.1 + List.length ([j10.params]) ≤ LIM then
 (if inI (st5.2.2.2.2 - 1) then
 (some (Sum.inl ((x8.2, st5.2.1 ++ [j10], st5.2.2.1 ++ ([j10.ret]), st5.2.2.2.1 ++ ([j10.params]), st5.2.2.2.2 - 1))))
 else none)
 else none)
 else none)
 else none)))
 else
 (some (Sum.inr (((st5.1, st5.2.1)))))) : Option ((Gl1Rd × (List GFunc) × (List Int) × (List (List Int)) × Int) ⊕ ((Gl1Rd × (List GFunc)))))) (x1.2, ([] : List GFunc), ([] : List Int), ([] : List (List Int)), 1 + x1.1)) fun (j6 : Gl1Rd × (List GFunc)) =>
 (some ((({ funcs := j6.2 } : GModule), j6.1))))
 else none))
theorem Z8x {vr : Gl1Rd} {r : GModule × Gl1Rd} (hm : Z0q vr = some r) : Sim Tryz.prog 17 [.one (.ptr () 0 0 0)] [⟨(), 2, [J3 false vr]⟩] (.u (.agg (Z0f true r.1))) [⟨(), 2, [J3 false r.2]⟩] := by
 refine fN 54 1 Tryz.func17 [.cell 2 26] fun B hB0 => ?_
 unfold Z0q at hm
 refine yG ?_
 intro _ hm
 refine nO (kM (iL) (([] : List Int)) ?_)
 refine yG ?_
 intro _ hm
 refine nO (kM (lL false 1 iL) (([] : List (List Int))) ?_)
 refine yG ?_
 intro _ hm
 obtain ⟨x1, h2, hm⟩ := Z0 hm
 refine nO (cG [0] (Z2 h2) ?_)
 refine yR ?_
 intro k1 hm
 refine W5 ?_
 refine Wp.block ?_
 refine gH (f_nlc (rows' := [[.ref () 5 0 (List.length ([] : List GFunc))]]) 2 0 0 3 rfl rfl rfl rfl) ?_
 obtain ⟨j6, hl24, hm⟩ := Z0 hm
 refine lP hl24 (fun st5 => St 54 [(0, vP 0), (2, vP 1), (3, vP 2), (4, vR 4 (List.length st5.2.2.1)), (5, vR 5 (List.length st5.2.2.2.1)), (6, vI st5.2.2.2.2)] [(0, oL 2 (J3 false st5.1)), (1, oL 1 [.nl]), (2, oL 1 [.ref () 3 0 (List.length st5.2.1)]), (3, oM 3 (Y1 true) st5.2.1), (4, oM 1 iL st5.2.2.1), (5, oM 1 (lL false 1 iL) st5.2.2.2.1)] 6) (fun j6 => (.exit 0, St 54 [(2, vP 1), (3, vP 2)] [(0, oL 2 (J3 false j6.1)), (1, oL 1 [.nl]), (2, oL 1 [.ref () 3 0 (List.length j6.2)]), (3, oM 3 (Y1 true) j6.2)] 4)) (vW [0, 1, 2, 5, 3, 4]) ?_ ?_
 intro st5 x hm
 refine yG ?_
 intro _ hm
 refine bS hm (fun hb7 hm => ?_) fun hb7 hm => ?_
 refine yG ?_
 intro _ hm
 obtain ⟨x8, h9, hm⟩ := Z0 hm
 refine nO (cG [0, 4, 5] (Y7p h9) ?_)
 refine yR ?_
 intro _ hm
 refine W5 ?_
 refine Wp.seq ?_
 obtain ⟨j10, hj18, hm⟩ := Z0 hm
 refine V7 (St 54 [(0, vP 0), (2, vP 1), (3, vP 2), (4, vR 4 (List.length st5.2.2.1)), (5, vR 5 (List.length st5.2.2.2.1)), (6, vI st5.2.2.2.2), (7, vP 6)] [(0, oL 2 (J3 false x8.2)), (1, oL 1 [.nl]), (2, oL 1 [.ref () 3 0 (List.length st5.2.1)]), (3, oM 3 (Y1 true) st5.2.1), (4, oM 1 iL st5.2.2.1), (5, oM 1 (lL false 1 iL) st5.2.2.2.1), (6, oL 3 (Y1 true j10))] 7) ?_ ?_
 replace hm := hj18
 refine Wp.seq ?_
 refine gH (q_cl 7 6 2) ?_
 obtain ⟨j11, hj16, hm⟩ := Z0 hm
 refine V7 (St 54 [(0, vP 0), (2, vP 1), (3, vP 2), (4, vR 4 (List.length st5.2.2.1)), (5, vR 5 (List.length st5.2.2.2.1)), (6, vI st5.2.2.2.2), (7, vP 6), (30, vB j11)] [(0, oL 2 (J3 false x8.2)), (1, oL 1 [.nl]), (2, oL 1 [.ref () 3 0 (List.length st5.2.1)]), (3, oM 3 (Y1 true) st5.2.1), (4, oM 1 iL st5.2.2.1), (5, oM 1 (lL false 1 iL) st5.2.2.2.1), (6, oL 3 (Y1 true x8.1))] 7) ?_ ?_
 replace hm := hj16
 refine X7 ?_
 refine WpO.ghb (q_op 7 2) ?_
 refine nO (kW ?_)
 obtain ⟨x12, h13, hm⟩ := Z0 hm
 refine nO (Z5 (cB (Y1z h13) ?_))
 refine yG ?_
 intro _ hm
 refine bG0 hm (fun hb14 hm => ?_) fun hb14 hm => ?_
 refine yG ?_
 intro k2 hm
 cases hm
 exact (GhB.trans (q_cl 7 8 2) (vW [0, 1, 2, 3, 4, 5, 7]))
 refine yG ?_
 intro _ hm
 cases hm
 exact (GhB.trans (q_cl 7 8 2) (vW [0, 1, 2, 3, 4, 5, 7]))
 refine bS hm (fun hb17 hm => ?_) fun hb17 hm => ?_
 refine X7 ?_
 refine nO (x_bu (cells := [.int .i64 21, .int .i64 8, .int .i64 0, .int .i64 0, .int .i64 0, .int .i64 7, .nl]) T46 rfl rfl rfl ?_)
 refine WpO.ghb (q_nb 31 6 1) ?_
 refine nO (kM (Q1 false) ([({ op_ := 21, w := 8, a := 0, b := 0, c := 0, imm := 7, args := ([] : List Int) } : GInst)]) ?_)
 refine yG ?_
 intro _ hm
 refine nO (x_bs (rows := List.map (W2 true) (([] : List GBlock)) ++ [[.nl, .ref () 7 0 (List.length ([({ op_ := 21, w := 8, a := 0, b := 0, c := 0, imm := 7, args := ([] : List Int) } : GInst)])), .int .i64 ((({ kind := 1, a := 0, x := 0, y := 0 } : GTerm)).kind), .int .i64 ((({ kind := 1, a := 0, x := 0, y := 0 } : GTerm)).a), .int .i64 ((({ kind := 1, a := 0, x := 0, y := 0 } : GTerm)).x), .int .i64 ((({ kind := 1, a := 0, x := 0, y := 0 } : GTerm)).y)]]) A30 rfl rfl rfl ?_)
 refine yG ?_
 intro _ hm
 cases hm
 exact (GhB.trans (W2f 6 0 1) ((GhB.trans (q_cz 6 9 0) ((GhB.trans (f_cb (e := iL) (e' := iL) (xs := ([] : List Int)) (rows' := [[.bs () 1 (List.map iL (([] : List Int))), .int .i64 8, .ref () 8 0 1]]) 6 0 0 rfl rfl rfl rfl) ((GhB.trans (f_nlc (rows' := List.map (W2 true) (([] : List GBlock)) ++ [[.ref () 10 0 0, .ref () 7 0 (List.length ([({ op_ := 21, w := 8, a := 0, b := 0, c := 0, imm := 7, args := ([] : List Int) } : GInst)])), .int .i64 ((({ kind := 1, a := 0, x := 0, y := 0 } : GTerm)).kind), .int .i64 ((({ kind := 1, a := 0, x := 0, y := 0 } : GTerm)).a), .int .i64 ((({ kind := 1, a := 0, x := 0, y := 0 } : GTerm)).x), .int .i64 ((({ kind := 1, a := 0, x := 0, y := 0 } : GTerm)).y)]]) 8 (List.length (([] : List GBlock))) 0 2 rfl Y4e rfl (by exact X4d)) ((GhB.trans (f_cl (rows2 := List.map (ePhi true) (([] : List GPhi))) (rows' := List.map (W2 true) (([] : List GBlock)) ++ [[.os () 2 (List.map (ePhi true) (([] : List GPhi))), .ref () 7 0 (List.length ([({ op_ := 21, w := 8, a := 0, b := 0, c := 0, imm := 7, args := ([] : List Int) } : GInst)])), .int .i64 ((({ kind := 1, a := 0, x := 0, y := 0 } : GTerm)).kind), .int .i64 ((({ kind := 1, a := 0, x := 0, y := 0 } : GTerm)).a), .int .i64 ((({ kind := 1, a := 0, x := 0, y := 0 } : GTerm)).x), .int .i64 ((({ kind := 1, a := 0, x := 0, y := 0 } : GTerm)).y)]]) 8 10 (List.length (([] : List GBlock))) 0 rfl rfl rfl (Z3d (enc := ePhi true) (([] : List GPhi))) Y4e rfl (by simp) (by exact X4d)) ((GhB.trans (f_cl (rows2 := List.map (Q1 false) ([({ op_ := 21, w := 8, a := 0, b := 0, c := 0, imm := 7, args := ([] : List Int) } : GInst)])) (rows' := List.map (W2 true) ((([] : List GBlock)) ++ [({ phis := ([] : List GPhi), insts := [({ op_ := 21, w := 8, a := 0, b := 0, c := 0, imm := 7, args := ([] : List Int) } : GInst)], term := (({ kind := 1, a := 0, x := 0, y := 0 } : GTerm)) } : GBlock)])) 8 7 (List.length (([] : List GBlock))) 1 rfl rfl rfl (Z3d (enc := Q1 false) ([({ op_ := 21, w := 8, a := 0, b := 0, c := 0, imm := 7, args := ([] : List Int) } : GInst)])) Y4e rfl (by simp) (X4e rfl)) ((GhB.trans (q_cl 6 8 2) (vW [0, 1, 2, 3, 4, 5, 6]))))))))))))))
 refine K5 ?_
 cases hm
 exact vW [0, 1, 2, 3, 4, 5, 6]
 refine Wp.seq ?_
 refine X7 ?_
 refine nO (Z9y rfl F26_0 rfl rfl ?_)
 refine nO (Y2e rfl T24 rfl rfl rfl rfl rfl ?_)
 refine WpO.ghb (q_op 6 2) ?_
 refine nO (kW ?_)
 refine nO (x_bs (rows := List.map (Y1 true) (([] : List GFunc)) ++ [[.bs () 1 (List.map iL j10.params), .int .i64 j10.ret, .ref () 7 0 (List.length j10.blocks)]]) A24 rfl rfl rfl ?_)
 obtain ⟨h19, hm⟩ := Z9 hm
 refine nO (x_apg (rows := List.map (Y1 true) st5.2.1 ++ [[.bs () 1 (List.map iL j10.params), .int .i64 j10.ret, .ref () 7 0 (List.length j10.blocks)]]) (len' := List.length (st5.2.1 ++ ([j10]))) A24 N24 rfl rfl (by simp) rfl (X9u rfl rfl) rfl (by simpa using h19) rfl (by simp) ?_)
 refine yG ?_
 intro _ hm
 refine nO (kM (iL) ([j10.ret]) ?_)
 refine yG ?_
 intro k3 hm
 refine nO (kM (lL false 1 iL) ([j10.params]) ?_)
 refine yR ?_
 intro k4 hm
 refine W5 ?_
 refine gH (f_cl (rows2 := List.map (W2 true) j10.blocks) (rows' := List.map (Y1 true) (st5.2.1 ++ [j10])) 9 7 (List.length st5.2.1) 2 rfl rfl rfl (Z3d (enc := W2 true) (j10.blocks)) Y4e rfl (by simp) (X4e rfl)) ?_
 refine yG ?_
 intro k5 hm
 cases hm
 exact ⟨rfl, vW [0, 1, 2, 9, 11, 13]⟩
 refine V2 ?_
 cases hm
 exact ⟨rfl, vW [0, 1, 2, 3]⟩
 refine Wp.seq ?_
 refine X7 ?_
 refine nO (kW ?_)
 refine yG ?_
 intro _ hm
 cases hm
 exact rG1h [0] (hg := Z3s 0 0 rfl rfl rfl rfl)
noncomputable def Q7 (vr : Gl1Rd) (low : Int) (high : Int) : Option (Int × Gl1Rd) :=
 (Option.bind (Z6 vr 8) fun x1 =>
 (if (x1.1 == 0) = true then
 (some ((low, x1.2)))
 else
 (if (x1.1 == 1) = true then
 (some ((high, x1.2)))
 else
 (if decide (high < low) = true then
 (some ((low, x1.2)))
 else
 (Option.bind (Q5 x1.2) fun x6 =>
 (if inI ((IntKind.i64.wrap (high - low)) + 1) then
 (if (IntKind.u64.wrap ((IntKind.i64.wrap (high - low)) + 1)) ≠ 0 then
 (some ((IntKind.i64.wrap (low + (IntKind.i64.wrap (Int.tmod (x6.1 / 2 ^ min (Int.toNat 1) (IntKind.bits .u64)) (IntKind.u64.wrap ((IntKind.i64.wrap (high - low)) + 1))))), x6.2)))
 else none)
 else none))))))
theorem Y4i {vr : Gl1Rd} {low : Int} {high : Int} {r : Int × Gl1Rd} (hm : Q7 vr low high = some r) : Sim Tryz.prog 58 [.one (.ptr () 0 0 0), .one (.int .i64 low), .one (.int .i64 high)] [⟨(), 2, [J3 false vr]⟩] (.u (.one (.int .i64 r.1))) [⟨(), 2, [J3 false r.2]⟩] := by
 refine fN 31 1 Tryz.func58 [.tmp 6] fun B hB0 => ?_
 have fW := trivial
 unfold Q7 at hm
 refine yG ?_
 intro _ hm
 obtain ⟨x1, h2, hm⟩ := Z0 hm
 refine nO (cG [0] (Z2 h2) ?_)
 refine yG ?_
 intro _ hm
 refine bS hm (fun hb3 hm => ?_) fun hb3 hm => ?_
 refine yG ?_
 intro _ hm
 cases hm
 exact rG1 [0]
 refine yG ?_
 intro _ hm
 refine bS hm (fun hb4 hm => ?_) fun hb4 hm => ?_
 refine yG ?_
 intro _ hm
 cases hm
 exact rG1 [0]
 refine yG ?_
 intro _ hm
 refine bS hm (fun hb5 hm => ?_) fun hb5 hm => ?_
 refine yG ?_
 intro _ hm
 cases hm
 exact rG1 [0]
 refine yG ?_
 intro _ hm
 obtain ⟨x6, h7, hm⟩ := Z0 hm
 refine nO (cG [0] (Y0a h7) ?_)
 refine yG ?_
 intro _ hm
 refine nO (Y2g T2 rfl rfl rfl ?_)
 refine yG ?_
 intro k1 hm
 refine nO (Y2g T2 rfl rfl rfl ?_)
 refine yG ?_
 intro _ hm
 cases hm
 exact rG1 [0]
noncomputable def V1 (vr : Gl1Rd) (low : Int) (high : Int) : Option (Int × Gl1Rd) :=
 (Option.bind (J6 vr 24) fun x1 =>
 (if x1.1 = true then
 (if inI (low - 1) then
 (if inI (high + 1) then
 (Option.bind (Z6 x1.2 4) fun x6 =>
 (if 0 ≤ x6.1 ∧ x6.1 < (List.length ([low - 1, high + 1, (-9223372036854775808), 9223372036854775807]) : Int) then
 (some ((at_ ([low - 1, high + 1, (-9223372036854775808), 9223372036854775807]) x6.1, x6.2)))
 else none))
 else none)
 else none)
 else
 (Option.bind (Q7 x1.2 low high) fun x9 =>
 (some ((x9.1, x9.2))))))
theorem Y3 {vr : Gl1Rd} {low : Int} {high : Int} {r : Int × Gl1Rd} (hm : V1 vr low high = some r) : Sim Tryz.prog 31 [.one (.ptr () 0 0 0), .one (.int .i64 low), .one (.int .i64 high)] [⟨(), 2, [J3 false vr]⟩] (.u (.one (.int .i64 r.1))) [⟨(), 2, [J3 false r.2]⟩] := by
 refine fN 22 1 Tryz.func31 [.tmp 6] fun B hB0 => ?_
 unfold V1 at hm
 refine yG ?_
 intro _ hm
 obtain ⟨x1, h2, hm⟩ := Z0 hm
 refine nO (cG [0] (Z4b h2) ?_)
 refine W5 ?_
 refine bS hm (fun hb3 hm => ?_) fun hb3 hm => ?_
 refine yG ?_
 intro k1 hm
 refine nO (kM (iL) ([low - 1, high + 1, (-9223372036854775808), 9223372036854775807]) ?_)
 refine yG ?_
 intro _ hm
 obtain ⟨x6, h7, hm⟩ := Z0 hm
 refine nO (cG [0] (Z2 h7) ?_)
 refine yG ?_
 intro k2 hm
 cases hm
 exact rG1 [0]
 refine yG ?_
 intro _ hm
 obtain ⟨x9, h10, hm⟩ := Z0 hm
 refine nO (cG [0] (Y4i h10) ?_)
 refine yG ?_
 intro _ hm
 cases hm
 exact rG1 [0]
end
section
set_option maxHeartbeats 8000000
set_option maxRecDepth 100000
attribute [local irreducible] aopK J8 Wp St WpO
noncomputable def Z1v (vr : Gl1Rd) : Option (GModule × Gl1Rd) :=
 (Option.bind (Z0q vr) fun x1 =>
 (Option.bind ((Option.bind (Z6 x1.2 ((List.length x1.1.funcs : Int))) fun x5 =>
 (if 0 ≤ x5.1 ∧ x5.1 < (List.length x1.1.funcs : Int) then
 (some ((x5.2, x5.1, (at_ x1.1.funcs x5.1).params, (at_ x1.1.funcs x5.1).ret, (at_ x1.1.funcs x5.1).blocks, (at_ x1.1.funcs x5.1).params, (at_ x1.1.funcs x5.1).ret)))
 else none))) fun (j3 : Gl1Rd × Int × (List Int) × Int × (List GBlock) × (List Int) × Int) =>
 (if 0 ≤ j3.2.1 ∧ j3.2.1 < (List.length x1.1.funcs : Int) then
 (Option.bind (Z6 j3.1 ((List.length j3.2.2.2.2.1 : Int))) fun x11 =>
 (if 0 ≤ x11.1 ∧ x11.1 < (List.length j3.2.2.2.2.1 : Int) then
 (Option.bind ((Option.bind (Z6 x11.2 9) fun x15 =>
 (if (x15.1 == 0) = true then
 (if decide (((List.length ((at_ j3.2.2.2.2.1 x11.1).insts) : Int)) > 0) = true then
 (Option.bind ((Option.bind (Z6 x15.2 ((List.length ((at_ j3.2.2.2.2.1 x11.1).insts) : Int))) fun x22 =>
 (Option.bind (V1 x22.2 0 12) fun x24 =>
 (if 0 ≤ x22.1 ∧ x22.1 < (List.length ((at_ j3.2.2.2.2.1 x11.1).insts) : Int) then
 (some ((x24.2, List.set ((at_ j3.2.2.2.2.1 x11.1).insts) (Int.toNat x22.1) (({ op_ := (at_ ((at_ j3.2.2.2.2.1 x11.1).insts) x22.1).op_, w := (at_ ((at_ j3.2.2.2.2.1 x11.1).insts) x22.1).w, a := x24.1, b := (at_ ((at_ j3.2.2.2.2.1 x11.1).insts) x22.1).b, c := (at_ ((at_ j3.2.2.2.2.1 x11.1).insts) x22.1).c, imm := (at_ ((at_ j3.2.2.2.2.1 x11.1).insts) x22.1).imm, args := (at_ ((at_ j3.2.2.2.2.1 x11.1).insts) x22.1).args } : GInst)))))
 else none)))) fun (j20 : Gl1Rd × (List GInst)) =>
 (some ((j20.1, (at_ j3.2.2.2.2.1 x11.1).phis, j20.2, ((at_ j3.2.2.2.2.1 x11.1).term).kind, ((at_ j3.2.2.2.2.1 x11.1).term).a, ((at_ j3.2.2.2.2.1 x11.1).term).x))))
 else
 (some ((x15.2, (at_ j3.2.2.2.2.1 x11.1).phis, (at_ j3.2.2.2.2.1 x11.1).insts, ((at_ j3.2.2.2.2.1 x11.1).term).kind, ((at_ j3.2.2.2.2.1 x11.1).term).a, ((at_ j3.2.2.2.2.1 x11.1).term).x))))
 else
 (if (x15.1 == 1) = true then
 (if decide (((List.length ((at_ j3.2.2.2.2.1 x11.1).insts) : Int)) > 0) = true then
 (Option.bind ((Option.bind (Z6 x15.2 ((List.length ((at_ j3.2.2.2.2.1 x11.1).insts) : Int))) fun x33 =>
 (Option.bind (V1 x33.2 0 33) fun x35 =>
 (if 0 ≤ x33.1 ∧ x33.1 < (List.length ((at_ j3.2.2.2.2.1 x11.1).insts) : Int) then
 (some ((x35.2, List.set ((at_ j3.2.2.2.2.1 x11.1).insts) (Int.toNat x33.1) (({ op_ := (at_ ((at_ j3.2.2.2.2.1 x11.1).insts) x33.1).op_, w := x35.1, a := (at_ ((at_ j3.2.2.2.2.1 x11.1).insts) x33.1).a, b := (at_ ((at_ j3.2.2.2.2.1 x11.1).insts) x33.1).b, c := (at_ ((at_ j3.2.2.2.2.1 x11.1).insts) x33.1).c, imm := (at_ ((at_ j3.2.2.2.2.1 x11.1).insts) x33.1).imm, args := (at_ ((at_ j3.2.2.2.2.1 x11.1).insts) x33.1).args } : GInst)))))
 else none)))) fun (j31 : Gl1Rd × (List GInst)) =>
 (some ((j31.1, (at_ j3.2.2.2.2.1 x11.1).phis, j31.2, ((at_ j3.2.2.2.2.1 x11.1).term).kind, ((at_ j3.2.2.2.2.1 x11.1).term).a, ((at_ j3.2.2.2.2.1 x11.1).term).x))))
 else
 (some ((x15.2, (at_ j3.2.2.2.2.1 x11.1).phis, (at_ j3.2.2.2.2.1 x11.1).insts, ((at_ j3.2.2.2.2.1 x11.1).term).kind, ((at_ j3.2.2.2.2.1 x11.1).term).a, ((at_ j3.2.2.2.2.1 x11.1).term).x))))
 else
 (if (x15.1 == 2) = true then
 (Option.bind (V1 x15.2 0 4) fun x40 =>
 (some ((x40.2, (at_ j3.2.2.2.2.1 x11.1).phis, (at_ j3.2.2.2.2.1 x11.1).insts, ((at_ j3.2.2.2.2.1 x11.1).term).kind, ((at_ j3.2.2.2.2.1 x11.1).term).a, x40.1))))
 else
 (if (x15.1 == 3) = true then
 (Option.bind (V1 x15.2 0 12) fun x43 =>
 (some ((x43.2, (at_ j3.2.2.2.2.1 x11.1).phis, (at_ j3.2.2.2.2.1 x11.1).insts, ((at_ j3.2.2.2.2.1 x11.1).term).kind, x43.1, ((at_ j3.2.2.2.2.1 x11.1).term).x))))
 else
 (if (x15.1 == 4) = true then
 (if decide (((List.length ((at_ j3.2.2.2.2.1 x11.1).phis) : Int)) > 0) = true then
 (if (0 : Int) ≤ 0 ∧ 0 < (List.length ((at_ j3.2.2.2.2.1 x11.1).phis) : Int) then
 (if 1 ≤ (List.length ((at_ ((at_ j3.2.2.2.2.1 x11.1).phis) 0).ins)) ∧ (List.length ((at_ ((at_ j3.2.2.2.2.1 x11.1).phis) 0).ins)) ≤ List.length ((at_ ((at_ j3.2.2.2.2.1 x11.1).phis) 0).ins) then
 (if (0 : Int) ≤ 0 ∧ 0 < (List.length ((at_ j3.2.2.2.2.1 x11.1).phis) : Int) then
 (some ((x15.2, List.set ((at_ j3.2.2.2.2.1 x11.1).phis) (Int.toNat 0) (({ w := (at_ ((at_ j3.2.2.2.2.1 x11.1).phis) 0).w, ins := List.drop 1 ((at_ ((at_ j3.2.2.2.2.1 x11.1).phis) 0).ins) } : GPhi)), (at_ j3.2.2.2.2.1 x11.1).insts, ((at_ j3.2.2.2.2.1 x11.1).term).kind, ((at_ j3.2.2.2.2.1 x11.1).term).a, ((at_ j3.2.2.2.2.1 x11.1).term).x)))
 else none)
 else none)
 else none)
 else
 (some ((x15.2, (at_ j3.2.2.2.2.1 x11.1).phis, (at_ j3.2.2.2.2.1 x11.1).insts, ((at_ j3.2.2.2.2.1 x11.1).term).kind, ((at_ j3.2.2.2.2.1 x11.1).term).a, ((at_ j3.2.2.2.2.1 x11.1).term).x))))
 else
 (if (x15.1 == 5) = true then
 (if decide (((List.length ((at_ j3.2.2.2.2.1 x11.1).insts) : Int)) > 0) = true then
 (Option.bind ((Option.bind (Z6 x15.2 ((List.length ((at_ j3.2.2.2.2.1 x11.1).insts) : Int))) fun x56 =>
 (Option.bind (V1 x56.2 1 27) fun x58 =>
 (if 0 ≤ x56.1 ∧ x56.1 < (List.length ((at_ j3.2.2.2.2.1 x11.1).insts) : Int) then
 (some ((x58.2, List.set ((at_ j3.2.2.2.2.1 x11.1).insts) (Int.toNat x56.1) (({ op_ := x58.1, w := (at_ ((at_ j3.2.2.2.2.1 x11.1).insts) x56.1).w, a := (at_ ((at_ j3.2.2.2.2.1 x11.1).insts) x56.1).a, b := (at_ ((at_ j3.2.2.2.2.1 x11.1).insts) x56.1).b, c := (at_ ((at_ j3.2.2.2.2.1 x11.1).insts) x56.1).c, imm := (at_ ((at_ j3.2.2.2.2.1 x11.1).insts) x56.1).imm, args := (at_ ((at_ j3.2.2.2.2.1 x11.1).insts) x56.1).args } : GInst)))))
 else none)))) fun (j54 : Gl1Rd × (List GInst)) =>
 (some ((j54.1, (at_ j3.2.2.2.2.1 x11.1).phis, j54.2, ((at_ j3.2.2.2.2.1 x11.1).term).kind, ((at_ j3.2.2.2.2.1 x11.1).term).a, ((at_ j3.2.2.2.2.1 x11.1).term).x))))
 else
 (some ((x15.2, (at_ j3.2.2.2.2.1 x11.1).phis, (at_ j3.2.2.2.2.1 x11.1).insts, ((at_ j3.2.2.2.2.1 x11.1).term).kind, ((at_ j3.2.2.2.2.1 x11.1).term).a, ((at_ j3.2.2.2.2.1 x11.1).term).x))))
 else
 (if (x15.1 == 6) = true then
 (if decide (((List.length ((at_ j3.2.2.2.2.1 x11.1).phis) : Int)) > 0) = true then
 (if (0 : Int) ≤ 0 ∧ 0 < (List.length ((at_ j3.2.2.2.2.1 x11.1).phis) : Int) then
 (Option.bind (V1 x15.2 0 20) fun x66 =>
 (if (0 : Int) ≤ 0 ∧ 0 < (List.length ((at_ ((at_ j3.2.2.2.2.1 x11.1).phis) 0).ins) : Int) then
 (some ((x66.2, List.set ((at_ j3.2.2.2.2.1 x11.1).phis) (Int.toNat 0) (({ w := (at_ ((at_ j3.2.2.2.2.1 x11.1).phis) 0).w, ins := List.set ((at_ ((at_ j3.2.2.2.2.1 x11.1).phis) 0).ins) (Int.toNat 0) x66.1 } : GPhi)), (at_ j3.2.2.2.2.1 x11.1).insts, ((at_ j3.2.2.2.2.1 x11.1).term).kind, ((at_ j3.2.2.2.2.1 x11.1).term).a, ((at_ j3.2.2.2.2.1 x11.1).term).x)))
 else none))
 else none)
 else
 (some ((x15.2, (at_ j3.2.2.2.2.1 x11.1).phis, (at_ j3.2.2.2.2.1 x11.1).insts, ((at_ j3.2.2.2.2.1 x11.1).term).kind, ((at_ j3.2.2.2.2.1 x11.1).term).a, ((at_ j3.2.2.2.2.1 x11.1).term).x))))
 else
 (if (x15.1 == 7) = true then
 (Option.bind (V1 x15.2 1 4) fun x70 =>
 (some ((x70.2, (at_ j3.2.2.2.2.1 x11.1).phis, (at_ j3.2.2.2.2.1 x11.1).insts, x70.1, ((at_ j3.2.2.2.2.1 x11.1).term).a, ((at_ j3.2.2.2.2.1 x11.1).term).x))))
 else
 (some ((x15.2, (at_ j3.2.2.2.2.1 x11.1).phis, (at_ j3.2.2.2.2.1 x11.1).insts, ((at_ j3.2.2.2.2.1 x11.1).term).kind, ((at_ j3.2.2.2.2.1 x11.1).term).a, ((at_ j3.2.2.2.2.1 x11.1).term).x))))))))))))) fun (j14 : Gl1Rd × (List GPhi) × (List GInst) × Int × Int × Int) =>
 (if 0 ≤ x11.1 ∧ x11.1 < (List.length j3.2.2.2.2.1 : Int) then
 (some ((({ funcs := List.set x1.1.funcs (Int.toNat j3.2.1) (({ params := j3.2.2.1, ret := j3.2.2.2.1, blocks := List.set j3.2.2.2.2.1 (Int.toNat x11.1) (({ phis := j14.2.1, insts := j14.2.2.1, term := ({ kind := j14.2.2.2.1, a := j14.2.2.2.2.1, x := j14.2.2.2.2.2, y := ((at_ j3.2.2.2.2.1 x11.1).term).y } : GTerm) } : GBlock)) } : GFunc)) } : GModule), j14.1)))
 else none))
 else none))
 else none)))
theorem Y3m {vr : Gl1Rd} {r : GModule × Gl1Rd} (hm : Z1v vr = some r) : Sim Tryz.prog 16 [.one (.ptr () 0 0 0)] [⟨(), 2, [J3 false vr]⟩] (.u (.agg [.os () 3 (List.map (Y1 false) r.1.funcs)])) [⟨(), 2, [J3 false r.2]⟩] := by
 refine fN 135 1 Tryz.func16 [.cell 2 26] fun B hB0 => ?_
 unfold Z1v at hm
 refine yG ?_
 intro _ hm
 obtain ⟨x1, h2, hm⟩ := Z0 hm
 refine nO (cG [0] (Z8x h2) ?_)
 refine yR ?_
 intro _ hm
 refine W5 ?_
 refine Wp.seq ?_
 obtain ⟨j3, hj8, hm⟩ := Z0 hm
 refine V7 (St 135 [(0, vP 0), (2, vP 1), (3, vP 2), (4, vP 5)] [(0, oL 2 (J3 false j3.1)), (1, oL 1 [.nl]), (2, oL 1 [.ref () 3 0 (List.length x1.1.funcs)]), (3, some ⟨(), 3, List.set (List.map (Y1 true) x1.1.funcs) (Int.toNat j3.2.1) [.bs () 1 (List.map iL j3.2.2.1), .int .i64 j3.2.2.2.1, .ref () 4 0 (List.length j3.2.2.2.2.1)]⟩), (4, oM 6 (W2 true) j3.2.2.2.2.1), (5, oL 3 [.bs () 1 (List.map iL j3.2.2.2.2.2.1), .int .i64 j3.2.2.2.2.2.2, .ref () 4 0 (List.length j3.2.2.2.2.1)])] 6) ?_ ?_
 replace hm := hj8
 obtain ⟨x5, h6, hm⟩ := Z0 hm
 have hS2_6 := (Z2 h6)
 obtain ⟨h7, hm⟩ := Z9 hm
 refine gH (X5f 2 2 h7) ?_
 refine Z4t (Y := sysH _ [0] []) Z4j ?_
 refine tE 0 [1, 7, 8, 10] rfl (kF ?_)
 refine tE 1 [7, 8, 10] rfl (kD ?_)
 refine tK 2 0 rfl (kV ?_)
 refine tD 3 1 [4, 5, 6, 7, 8, 10] rfl (kF ?_)
 refine tD 4 1 [5, 6, 7, 8, 10] rfl (kD ?_)
 refine tK 5 1 rfl (X9x rfl N24 rfl rfl fun hL4 => ?_)
 refine t_n 6 [9] (by decide +kernel) (.cons (wy rfl (Z6h (H := [0]) (X := []) (v := .u (.one (.int .i64 x5.1))) (nobs := []) (oa' := _) (nx' := 5) hS2_6 [0] rfl (by decide) (h_c rfl h_n) rfl (g_1 rfl rfl rfl (g_1 rfl rfl rfl g_n)) EntC.h rfl rfl rfl rfl ?_ rfl)) (.cons (wy rfl (x_al T32 (r := [.nl, .int .i64 0, .nl]) rfl rfl ?_)) .nil))
 refine tK 7 1 rfl (K8 rfl E24 rfl rfl rfl h7 ?_)
 refine tK 8 1 rfl (Y2e rfl T32 rfl rfl (Z4i h7) (J0 rfl rfl) rfl ?_)
 refine oK 9 rfl (x_al T32 (r := [.nl, .int .i64 0, .nl]) rfl rfl ?_)
 refine oK 10 rfl (kS ?_)
 refine aN ?_
 cases hm
 exact vW [0, 1, 3, 2, 4, 5]
 refine oK 6 rfl (Z6h (H := [0]) (X := []) (v := .u (.one (.int .i64 x5.1))) (nobs := []) (oa' := _) (nx' := 6) hS2_6 [0] rfl (by decide) (h_c rfl h_n) rfl (g_1 rfl rfl rfl (g_1 rfl rfl rfl g_n)) EntC.h rfl rfl rfl rfl ?_ rfl)
 refine tK 7 1 rfl (K8 rfl E24 rfl rfl rfl h7 ?_)
 refine tK 8 1 rfl (Y2e rfl T32 rfl rfl (Z4i h7) (J0 rfl rfl) rfl ?_)
 refine oK 10 rfl (kS ?_)
 refine aN ?_
 cases hm
 exact vW [0, 1, 3, 2, 4, 5]
 obtain ⟨h9, hm⟩ := Z9 hm
 refine yG ?_
 intro k1 hm
 obtain ⟨x11, h12, hm⟩ := Z0 hm
 refine nO (cG [0] (Z2 h12) ?_)
 refine nO (x_as rfl rfl ?_)
 refine W5 ?_
 refine Wp.seq ?_
 refine X7 ?_
 refine nO (Z9y rfl W4t rfl rfl ?_)
 refine nO (Y2e rfl T30 rfl rfl rfl rfl rfl ?_)
 refine nO (x_mv rfl rfl ?_)
 obtain ⟨h13, hm⟩ := Z9 hm
 refine nO (K8 rfl E30 rfl rfl rfl h13 ?_)
 refine WpO.ghb (X5f 4 0 h13) ?_
 refine WpO.ghb (q_opS 4 1 h13) ?_
 refine nO (Y2e rfl T41 rfl rfl (Z4i h13) (J0 rfl rfl) rfl ?_)
 refine yR ?_
 intro _ hm
 refine W5 ?_
 refine Wp.seq ?_
 obtain ⟨j14, hj72, hm⟩ := Z0 hm
 refine V7 (St 135 [(2, vP 1), (3, vP 2), (4, vP 7), (5, vI x11.1), (6, vP 8)] [(0, oL 2 (J3 false j14.1)), (1, oL 1 [.nl]), (2, oL 1 [.ref () 3 0 (List.length x1.1.funcs)]), (3, some ⟨(), 3, List.set (List.map (Y1 true) x1.1.funcs) (Int.toNat j3.2.1) [.bs () 1 (List.map iL j3.2.2.1), .int .i64 j3.2.2.2.1, .ref () 4 0 (List.length j3.2.2.2.2.1)]⟩), (4, some ⟨(), 6, List.set (List.map (W2 true) j3.2.2.2.2.1) (Int.toNat x11.1) [.ref () 5 0 (List.length j14.2.1), .ref () 6 0 (List.length j14.2.2.1), .int .i64 (((at_ j3.2.2.2.2.1 x11.1).term).kind), .int .i64 (((at_ j3.2.2.2.2.1 x11.1).term).a), .int .i64 (((at_ j3.2.2.2.2.1 x11.1).term).x), .int .i64 (((at_ j3.2.2.2.2.1 x11.1).term).y)]⟩), (5, oM 2 (ePhi true) j14.2.1), (6, oM 7 (Q1 false) j14.2.2.1), (7, oL 3 [.bs () 1 (List.map iL j3.2.2.2.2.2.1), .int .i64 j3.2.2.2.2.2.2, .ref () 4 0 (List.length j3.2.2.2.2.1)]), (8, oL 6 [.ref () 5 0 (List.length j14.2.1), .ref () 6 0 (List.length j14.2.2.1), .int .i64 j14.2.2.2.1, .int .i64 j14.2.2.2.2.1, .int .i64 j14.2.2.2.2.2, .int .i64 (((at_ j3.2.2.2.2.1 x11.1).term).y)])] 9) ?_ ?_
 replace hm := hj72
 refine yG ?_
 intro _ hm
 obtain ⟨x15, h16, hm⟩ := Z0 hm
 refine nO (cG [0] (Z2 h16) ?_)
 refine yG ?_
 intro _ hm
 refine bS hm (fun hb17 hm => ?_) fun hb17 hm => ?_
 refine yG ?_
 intro k2 hm
 refine bS hm (fun hb19 hm => ?_) fun hb19 hm => ?_
 obtain ⟨j20, hj27, hm⟩ := Z0 hm
 refine V7 (St 135 [(2, vP 1), (3, vP 2), (4, vP 7), (5, vI x11.1), (6, vP 8)] [(0, oL 2 (J3 false j20.1)), (1, oL 1 [.nl]), (2, oL 1 [.ref () 3 0 (List.length x1.1.funcs)]), (3, some ⟨(), 3, List.set (List.map (Y1 true) x1.1.funcs) (Int.toNat j3.2.1) [.bs () 1 (List.map iL j3.2.2.1), .int .i64 j3.2.2.2.1, .ref () 4 0 (List.length j3.2.2.2.2.1)]⟩), (4, some ⟨(), 6, List.set (List.map (W2 true) j3.2.2.2.2.1) (Int.toNat x11.1) [.ref () 5 0 (List.length ((at_ j3.2.2.2.2.1 x11.1).phis)), .ref () 6 0 (List.length j20.2), .int .i64 (((at_ j3.2.2.2.2.1 x11.1).term).kind), .int .i64 (((at_ j3.2.2.2.2.1 x11.1).term).a), .int .i64 (((at_ j3.2.2.2.2.1 x11.1).term).x), .int .i64 (((at_ j3.2.2.2.2.1 x11.1).term).y)]⟩), (5, oM 2 (ePhi true) ((at_ j3.2.2.2.2.1 x11.1).phis)), (6, oM 7 (Q1 false) j20.2), (7, oL 3 [.bs () 1 (List.map iL j3.2.2.2.2.2.1), .int .i64 j3.2.2.2.2.2.2, .ref () 4 0 (List.length j3.2.2.2.2.1)]), (8, oL 6 [.ref () 5 0 (List.length ((at_ j3.2.2.2.2.1 x11.1).phis)), .ref () 6 0 (List.length j20.2), .int .i64 (((at_ j3.2.2.2.2.1 x11.1).term).kind), .int .i64 (((at_ j3.2.2.2.2.1 x11.1).term).a), .int .i64 (((at_ j3.2.2.2.2.1 x11.1).term).x), .int .i64 (((at_ j3.2.2.2.2.1 x11.1).term).y)])] 9) ?_ ?_
 replace hm := hj27
 refine Z4t (Y := sysG _) Z4j ?_
 refine tK 2 0 rfl (kV ?_)
 refine tD 3 1 [4, 5, 6, 8, 9, 10, 11] rfl (kF ?_)
 refine tD 4 1 [5, 6, 8, 9, 10, 11] rfl (kD ?_)
 refine tD 5 1 [6, 8, 9, 10, 11] rfl (X9x rfl N37 rfl rfl fun hL21 => ?_)
 refine tK 7 0 rfl (kV ?_)
 refine t_2 0 6 rfl rfl (by decide +kernel) ?_ ?_
 refine (kF ?_)
 refine t_2 1 6 rfl rfl (by decide +kernel) ?_ ?_
 refine (kD ?_)
 obtain ⟨x22, h23, hm⟩ := Z0 hm
 refine oK 6 rfl (cgG [0] (Z2 h23) ?_)
 obtain ⟨x24, h25, hm⟩ := Z0 hm
 refine oK 8 rfl (cgG [0] (Y3 h25) ?_)
 obtain ⟨h26, hm⟩ := Z9 hm
 refine tD 9 1 [10, 11] rfl (K8 rfl E37 rfl rfl rfl h26 ?_)
 refine tK 10 1 rfl (kF ?_)
 refine oK 11 rfl (Z9x (({ op_ := (at_ ((at_ j3.2.2.2.2.1 x11.1).insts) x22.1).op_, w := (at_ ((at_ j3.2.2.2.2.1 x11.1).insts) x22.1).w, a := x24.1, b := (at_ ((at_ j3.2.2.2.2.1 x11.1).insts) x22.1).b, c := (at_ ((at_ j3.2.2.2.2.1 x11.1).insts) x22.1).c, imm := (at_ ((at_ j3.2.2.2.2.1 x11.1).insts) x22.1).imm, args := (at_ ((at_ j3.2.2.2.2.1 x11.1).insts) x22.1).args } : GInst)) T2 rfl rfl rfl h26 rfl rfl rfl rfl ?_)
 refine aN ?_
 cases hm
 exact vW [0, 1, 2, 3, 4, 6, 7, 5, 8]
 obtain ⟨x22, h23, hm⟩ := Z0 hm
 refine (cgG [0] (Z2 h23) ?_)
 refine t_2 1 8 rfl rfl (by decide +kernel) ?_ ?_
 refine (kD ?_)
 obtain ⟨x24, h25, hm⟩ := Z0 hm
 refine oK 8 rfl (cgG [0] (Y3 h25) ?_)
 obtain ⟨h26, hm⟩ := Z9 hm
 refine tD 9 1 [10, 11] rfl (K8 rfl E37 rfl rfl rfl h26 ?_)
 refine tK 10 1 rfl (kF ?_)
 refine oK 11 rfl (Z9x (({ op_ := (at_ ((at_ j3.2.2.2.2.1 x11.1).insts) x22.1).op_, w := (at_ ((at_ j3.2.2.2.2.1 x11.1).insts) x22.1).w, a := x24.1, b := (at_ ((at_ j3.2.2.2.2.1 x11.1).insts) x22.1).b, c := (at_ ((at_ j3.2.2.2.2.1 x11.1).insts) x22.1).c, imm := (at_ ((at_ j3.2.2.2.2.1 x11.1).insts) x22.1).imm, args := (at_ ((at_ j3.2.2.2.2.1 x11.1).insts) x22.1).args } : GInst)) T2 rfl rfl rfl h26 rfl rfl rfl rfl ?_)
 refine aN ?_
 cases hm
 exact vW [0, 1, 2, 3, 4, 6, 7, 5, 8]
 obtain ⟨x24, h25, hm⟩ := Z0 hm
 refine (cgG [0] (Y3 h25) ?_)
 refine tK 1 1 rfl (kD ?_)
 obtain ⟨h26, hm⟩ := Z9 hm
 refine tD 9 1 [10, 11] rfl (K8 rfl E37 rfl rfl rfl h26 ?_)
 refine tK 10 1 rfl (kF ?_)
 refine oK 11 rfl (Z9x (({ op_ := (at_ ((at_ j3.2.2.2.2.1 x11.1).insts) x22.1).op_, w := (at_ ((at_ j3.2.2.2.2.1 x11.1).insts) x22.1).w, a := x24.1, b := (at_ ((at_ j3.2.2.2.2.1 x11.1).insts) x22.1).b, c := (at_ ((at_ j3.2.2.2.2.1 x11.1).insts) x22.1).c, imm := (at_ ((at_ j3.2.2.2.2.1 x11.1).insts) x22.1).imm, args := (at_ ((at_ j3.2.2.2.2.1 x11.1).insts) x22.1).args } : GInst)) T2 rfl rfl rfl h26 rfl rfl rfl rfl ?_)
 refine aN ?_
 cases hm
 exact vW [0, 1, 2, 3, 4, 6, 7, 5, 8]
 obtain ⟨x22, h23, hm⟩ := Z0 hm
 refine (cgG [0] (Z2 h23) ?_)
 refine t_2 0 8 rfl rfl (by decide +kernel) ?_ ?_
 refine (kF ?_)
 refine t_2 1 8 rfl rfl (by decide +kernel) ?_ ?_
 refine (kD ?_)
 obtain ⟨x24, h25, hm⟩ := Z0 hm
 refine oK 8 rfl (cgG [0] (Y3 h25) ?_)
 obtain ⟨h26, hm⟩ := Z9 hm
 refine tD 9 1 [10, 11] rfl (K8 rfl E37 rfl rfl rfl h26 ?_)
 refine tK 10 1 rfl (kF ?_)
 refine oK 11 rfl (Z9x (({ op_ := (at_ ((at_ j3.2.2.2.2.1 x11.1).insts) x22.1).op_, w := (at_ ((at_ j3.2.2.2.2.1 x11.1).insts) x22.1).w, a := x24.1, b := (at_ ((at_ j3.2.2.2.2.1 x11.1).insts) x22.1).b, c := (at_ ((at_ j3.2.2.2.2.1 x11.1).insts) x22.1).c, imm := (at_ ((at_ j3.2.2.2.2.1 x11.1).insts) x22.1).imm, args := (at_ ((at_ j3.2.2.2.2.1 x11.1).insts) x22.1).args } : GInst)) T2 rfl rfl rfl h26 rfl rfl rfl rfl ?_)
 refine aN ?_
 cases hm
 exact vW [0, 1, 2, 3, 4, 6, 7, 5, 8]
 obtain ⟨x24, h25, hm⟩ := Z0 hm
 refine (cgG [0] (Y3 h25) ?_)
 refine tK 1 1 rfl (kD ?_)
 obtain ⟨h26, hm⟩ := Z9 hm
 refine tD 9 1 [10, 11] rfl (K8 rfl E37 rfl rfl rfl h26 ?_)
 refine tK 10 1 rfl (kF ?_)
 refine oK 11 rfl (Z9x (({ op_ := (at_ ((at_ j3.2.2.2.2.1 x11.1).insts) x22.1).op_, w := (at_ ((at_ j3.2.2.2.2.1 x11.1).insts) x22.1).w, a := x24.1, b := (at_ ((at_ j3.2.2.2.2.1 x11.1).insts) x22.1).b, c := (at_ ((at_ j3.2.2.2.2.1 x11.1).insts) x22.1).c, imm := (at_ ((at_ j3.2.2.2.2.1 x11.1).insts) x22.1).imm, args := (at_ ((at_ j3.2.2.2.2.1 x11.1).insts) x22.1).args } : GInst)) T2 rfl rfl rfl h26 rfl rfl rfl rfl ?_)
 refine aN ?_
 cases hm
 exact vW [0, 1, 2, 3, 4, 6, 7, 5, 8]
 obtain ⟨x24, h25, hm⟩ := Z0 hm
 refine (cgG [0] (Y3 h25) ?_)
 refine tK 0 1 rfl (kF ?_)
 refine tK 1 1 rfl (kD ?_)
 obtain ⟨h26, hm⟩ := Z9 hm
 refine tD 9 1 [10, 11] rfl (K8 rfl E37 rfl rfl rfl h26 ?_)
 refine tK 10 1 rfl (kF ?_)
 refine oK 11 rfl (Z9x (({ op_ := (at_ ((at_ j3.2.2.2.2.1 x11.1).insts) x22.1).op_, w := (at_ ((at_ j3.2.2.2.2.1 x11.1).insts) x22.1).w, a := x24.1, b := (at_ ((at_ j3.2.2.2.2.1 x11.1).insts) x22.1).b, c := (at_ ((at_ j3.2.2.2.2.1 x11.1).insts) x22.1).c, imm := (at_ ((at_ j3.2.2.2.2.1 x11.1).insts) x22.1).imm, args := (at_ ((at_ j3.2.2.2.2.1 x11.1).insts) x22.1).args } : GInst)) T2 rfl rfl rfl h26 rfl rfl rfl rfl ?_)
 refine aN ?_
 cases hm
 exact vW [0, 1, 2, 3, 4, 6, 7, 5, 8]
 cases hm
 exact vW [0, 1, 2, 3, 4, 5, 6, 7, 8]
 refine K5 ?_
 cases hm
 exact vW [0, 1, 2, 3, 4, 6, 7, 5, 8]
 refine yG ?_
 intro _ hm
 refine bS hm (fun hb28 hm => ?_) fun hb28 hm => ?_
 refine yG ?_
 intro k3 hm
 refine bS hm (fun hb30 hm => ?_) fun hb30 hm => ?_
 obtain ⟨j31, hj38, hm⟩ := Z0 hm
 refine V7 (St 135 [(2, vP 1), (3, vP 2), (4, vP 7), (5, vI x11.1), (6, vP 8)] [(0, oL 2 (J3 false j31.1)), (1, oL 1 [.nl]), (2, oL 1 [.ref () 3 0 (List.length x1.1.funcs)]), (3, some ⟨(), 3, List.set (List.map (Y1 true) x1.1.funcs) (Int.toNat j3.2.1) [.bs () 1 (List.map iL j3.2.2.1), .int .i64 j3.2.2.2.1, .ref () 4 0 (List.length j3.2.2.2.2.1)]⟩), (4, some ⟨(), 6, List.set (List.map (W2 true) j3.2.2.2.2.1) (Int.toNat x11.1) [.ref () 5 0 (List.length ((at_ j3.2.2.2.2.1 x11.1).phis)), .ref () 6 0 (List.length j31.2), .int .i64 (((at_ j3.2.2.2.2.1 x11.1).term).kind), .int .i64 (((at_ j3.2.2.2.2.1 x11.1).term).a), .int .i64 (((at_ j3.2.2.2.2.1 x11.1).term).x), .int .i64 (((at_ j3.2.2.2.2.1 x11.1).term).y)]⟩), (5, oM 2 (ePhi true) ((at_ j3.2.2.2.2.1 x11.1).phis)), (6, oM 7 (Q1 false) j31.2), (7, oL 3 [.bs () 1 (List.map iL j3.2.2.2.2.2.1), .int .i64 j3.2.2.2.2.2.2, .ref () 4 0 (List.length j3.2.2.2.2.1)]), (8, oL 6 [.ref () 5 0 (List.length ((at_ j3.2.2.2.2.1 x11.1).phis)), .ref () 6 0 (List.length j31.2), .int .i64 (((at_ j3.2.2.2.2.1 x11.1).term).kind), .int .i64 (((at_ j3.2.2.2.2.1 x11.1).term).a), .int .i64 (((at_ j3.2.2.2.2.1 x11.1).term).x), .int .i64 (((at_ j3.2.2.2.2.1 x11.1).term).y)])] 9) ?_ ?_
 replace hm := hj38
 refine Z4t (Y := sysG _) Z4j ?_
 refine tK 2 0 rfl (kV ?_)
 refine tD 3 1 [4, 5, 6, 8, 9, 10, 11] rfl (kF ?_)
 refine tD 4 1 [5, 6, 8, 9, 10, 11] rfl (kD ?_)
 refine tD 5 1 [6, 8, 9, 10, 11] rfl (X9x rfl N37 rfl rfl fun hL32 => ?_)
 refine tK 7 0 rfl (kV ?_)
 refine t_2 0 6 rfl rfl (by decide +kernel) ?_ ?_
 refine (kF ?_)
 refine t_2 1 6 rfl rfl (by decide +kernel) ?_ ?_
 refine (kD ?_)
 obtain ⟨x33, h34, hm⟩ := Z0 hm
 refine oK 6 rfl (cgG [0] (Z2 h34) ?_)
 obtain ⟨x35, h36, hm⟩ := Z0 hm
 refine oK 8 rfl (cgG [0] (Y3 h36) ?_)
 obtain ⟨h37, hm⟩ := Z9 hm
 refine tD 9 1 [10, 11] rfl (K8 rfl E37 rfl rfl rfl h37 ?_)
 refine tK 10 1 rfl (kF ?_)
 refine oK 11 rfl (Z9x (({ op_ := (at_ ((at_ j3.2.2.2.2.1 x11.1).insts) x33.1).op_, w := x35.1, a := (at_ ((at_ j3.2.2.2.2.1 x11.1).insts) x33.1).a, b := (at_ ((at_ j3.2.2.2.2.1 x11.1).insts) x33.1).b, c := (at_ ((at_ j3.2.2.2.2.1 x11.1).insts) x33.1).c, imm := (at_ ((at_ j3.2.2.2.2.1 x11.1).insts) x33.1).imm, args := (at_ ((at_ j3.2.2.2.2.1 x11.1).insts) x33.1).args } : GInst)) T2 rfl rfl rfl h37 rfl rfl rfl rfl ?_)
 refine aN ?_
 cases hm
 exact vW [0, 1, 2, 3, 4, 6, 7, 5, 8]
 obtain ⟨x33, h34, hm⟩ := Z0 hm
 refine (cgG [0] (Z2 h34) ?_)
 refine t_2 1 8 rfl rfl (by decide +kernel) ?_ ?_
 refine (kD ?_)
 obtain ⟨x35, h36, hm⟩ := Z0 hm
 refine oK 8 rfl (cgG [0] (Y3 h36) ?_)
 obtain ⟨h37, hm⟩ := Z9 hm
 refine tD 9 1 [10, 11] rfl (K8 rfl E37 rfl rfl rfl h37 ?_)
 refine tK 10 1 rfl (kF ?_)
 refine oK 11 rfl (Z9x (({ op_ := (at_ ((at_ j3.2.2.2.2.1 x11.1).insts) x33.1).op_, w := x35.1, a := (at_ ((at_ j3.2.2.2.2.1 x11.1).insts) x33.1).a, b := (at_ ((at_ j3.2.2.2.2.1 x11.1).insts) x33.1).b, c := (at_ ((at_ j3.2.2.2.2.1 x11.1).insts) x33.1).c, imm := (at_ ((at_ j3.2.2.2.2.1 x11.1).insts) x33.1).imm, args := (at_ ((at_ j3.2.2.2.2.1 x11.1).insts) x33.1).args } : GInst)) T2 rfl rfl rfl h37 rfl rfl rfl rfl ?_)
 refine aN ?_
 cases hm
 exact vW [0, 1, 2, 3, 4, 6, 7, 5, 8]
 obtain ⟨x35, h36, hm⟩ := Z0 hm
 refine (cgG [0] (Y3 h36) ?_)
 refine tK 1 1 rfl (kD ?_)
 obtain ⟨h37, hm⟩ := Z9 hm
 refine tD 9 1 [10, 11] rfl (K8 rfl E37 rfl rfl rfl h37 ?_)
 refine tK 10 1 rfl (kF ?_)
 refine oK 11 rfl (Z9x (({ op_ := (at_ ((at_ j3.2.2.2.2.1 x11.1).insts) x33.1).op_, w := x35.1, a := (at_ ((at_ j3.2.2.2.2.1 x11.1).insts) x33.1).a, b := (at_ ((at_ j3.2.2.2.2.1 x11.1).insts) x33.1).b, c := (at_ ((at_ j3.2.2.2.2.1 x11.1).insts) x33.1).c, imm := (at_ ((at_ j3.2.2.2.2.1 x11.1).insts) x33.1).imm, args := (at_ ((at_ j3.2.2.2.2.1 x11.1).insts) x33.1).args } : GInst)) T2 rfl rfl rfl h37 rfl rfl rfl rfl ?_)
 refine aN ?_
 cases hm
 exact vW [0, 1, 2, 3, 4, 6, 7, 5, 8]
 obtain ⟨x33, h34, hm⟩ := Z0 hm
 refine (cgG [0] (Z2 h34) ?_)
 refine t_2 0 8 rfl rfl (by decide +kernel) ?_ ?_
 refine (kF ?_)
 refine t_2 1 8 rfl rfl (by decide +kernel) ?_ ?_
 refine (kD ?_)
 obtain ⟨x35, h36, hm⟩ := Z0 hm
 refine oK 8 rfl (cgG [0] (Y3 h36) ?_)
 obtain ⟨h37, hm⟩ := Z9 hm
 refine tD 9 1 [10, 11] rfl (K8 rfl E37 rfl rfl rfl h37 ?_)
 refine tK 10 1 rfl (kF ?_)
 refine oK 11 rfl (Z9x (({ op_ := (at_ ((at_ j3.2.2.2.2.1 x11.1).insts) x33.1).op_, w := x35.1, a := (at_ ((at_ j3.2.2.2.2.1 x11.1).insts) x33.1).a, b := (at_ ((at_ j3.2.2.2.2.1 x11.1).insts) x33.1).b, c := (at_ ((at_ j3.2.2.2.2.1 x11.1).insts) x33.1).c, imm := (at_ ((at_ j3.2.2.2.2.1 x11.1).insts) x33.1).imm, args := (at_ ((at_ j3.2.2.2.2.1 x11.1).insts) x33.1).args } : GInst)) T2 rfl rfl rfl h37 rfl rfl rfl rfl ?_)
 refine aN ?_
 cases hm
 exact vW [0, 1, 2, 3, 4, 6, 7, 5, 8]
 obtain ⟨x35, h36, hm⟩ := Z0 hm
 refine (cgG [0] (Y3 h36) ?_)
 refine tK 1 1 rfl (kD ?_)
 obtain ⟨h37, hm⟩ := Z9 hm
 refine tD 9 1 [10, 11] rfl (K8 rfl E37 rfl rfl rfl h37 ?_)
 refine tK 10 1 rfl (kF ?_)
 refine oK 11 rfl (Z9x (({ op_ := (at_ ((at_ j3.2.2.2.2.1 x11.1).insts) x33.1).op_, w := x35.1, a := (at_ ((at_ j3.2.2.2.2.1 x11.1).insts) x33.1).a, b := (at_ ((at_ j3.2.2.2.2.1 x11.1).insts) x33.1).b, c := (at_ ((at_ j3.2.2.2.2.1 x11.1).insts) x33.1).c, imm := (at_ ((at_ j3.2.2.2.2.1 x11.1).insts) x33.1).imm, args := (at_ ((at_ j3.2.2.2.2.1 x11.1).insts) x33.1).args } : GInst)) T2 rfl rfl rfl h37 rfl rfl rfl rfl ?_)
 refine aN ?_
 cases hm
 exact vW [0, 1, 2, 3, 4, 6, 7, 5, 8]
 obtain ⟨x35, h36, hm⟩ := Z0 hm
 refine (cgG [0] (Y3 h36) ?_)
 refine tK 0 1 rfl (kF ?_)
 refine tK 1 1 rfl (kD ?_)
 obtain ⟨h37, hm⟩ := Z9 hm
 refine tD 9 1 [10, 11] rfl (K8 rfl E37 rfl rfl rfl h37 ?_)
 refine tK 10 1 rfl (kF ?_)
 refine oK 11 rfl (Z9x (({ op_ := (at_ ((at_ j3.2.2.2.2.1 x11.1).insts) x33.1).op_, w := x35.1, a := (at_ ((at_ j3.2.2.2.2.1 x11.1).insts) x33.1).a, b := (at_ ((at_ j3.2.2.2.2.1 x11.1).insts) x33.1).b, c := (at_ ((at_ j3.2.2.2.2.1 x11.1).insts) x33.1).c, imm := (at_ ((at_ j3.2.2.2.2.1 x11.1).insts) x33.1).imm, args := (at_ ((at_ j3.2.2.2.2.1 x11.1).insts) x33.1).args } : GInst)) T2 rfl rfl rfl h37 rfl rfl rfl rfl ?_)
 refine aN ?_
 cases hm
 exact vW [0, 1, 2, 3, 4, 6, 7, 5, 8]
 cases hm
 exact vW [0, 1, 2, 3, 4, 5, 6, 7, 8]
 refine K5 ?_
 cases hm
 exact vW [0, 1, 2, 3, 4, 6, 7, 5, 8]
 refine yG ?_
 intro _ hm
 refine bS hm (fun hb39 hm => ?_) fun hb39 hm => ?_
 refine yG ?_
 intro _ hm
 obtain ⟨x40, h41, hm⟩ := Z0 hm
 refine nO (cG [0] (Y3 h41) ?_)
 refine yG ?_
 intro _ hm
 cases hm
 exact vW [0, 1, 2, 3, 4, 6, 7, 5, 8]
 refine yG ?_
 intro _ hm
 refine bS hm (fun hb42 hm => ?_) fun hb42 hm => ?_
 refine yG ?_
 intro _ hm
 obtain ⟨x43, h44, hm⟩ := Z0 hm
 refine nO (cG [0] (Y3 h44) ?_)
 refine yG ?_
 intro _ hm
 cases hm
 exact vW [0, 1, 2, 3, 4, 6, 7, 5, 8]
 refine yG ?_
 intro _ hm
 refine bS hm (fun hb45 hm => ?_) fun hb45 hm => ?_
 refine yG ?_
 intro k4 hm
 refine bS hm (fun hb47 hm => ?_) fun hb47 hm => ?_
 obtain ⟨h48, hm⟩ := Z9 hm
 obtain ⟨h49, hm⟩ := Z9 hm
 obtain ⟨h50, hm⟩ := Z9 hm
 refine gH (X5f 6 1 h48) ?_
 refine Z4t (Y := sysC _) Z4j ?_
 refine tK 0 1 rfl (kF ?_)
 refine tK 1 1 rfl (kD ?_)
 refine tK 2 1 rfl (kF ?_)
 refine tK 3 1 rfl (kD ?_)
 refine tK 4 1 rfl (K8 rfl E36 rfl rfl rfl h48 ?_)
 refine tK 5 1 rfl (kF ?_)
 refine tK 6 1 rfl (Y2e rfl T29 rfl rfl (Z4i h48) rfl rfl ?_)
 refine oK 7 rfl (W4u (l := 1) (h := (List.length ((at_ ((at_ j3.2.2.2.2.1 x11.1).phis) 0).ins))) rfl E29 rfl rfl (bd_s (m := 1) rfl (by decide)) bd_n h49 ?_)
 refine tD 8 1 [9, 10] rfl (K8 rfl E36 rfl rfl rfl h50 ?_)
 refine tK 9 1 rfl (kF ?_)
 refine oK 10 rfl (x_st T29 (rows := List.set (List.map (ePhi true) ((at_ j3.2.2.2.2.1 x11.1).phis)) (Int.toNat 0) [.int .i64 ((at_ ((at_ j3.2.2.2.2.1 x11.1).phis) 0).w), .ref () 9 (0 + 1) (((List.length ((at_ ((at_ j3.2.2.2.2.1 x11.1).phis) 0).ins)) - 1))]) rfl rfl rfl (Z4i h50) rfl rfl rfl (by rw [List.set_set]; rfl) ?_)
 refine aN ?_
 cases hm
 exact (GhB.trans (f_clP (ys := List.drop 1 ((at_ ((at_ j3.2.2.2.2.1 x11.1).phis) 0).ins)) (rows' := List.map (ePhi true) (List.set ((at_ j3.2.2.2.2.1 x11.1).phis) (Int.toNat 0) (({ w := (at_ ((at_ j3.2.2.2.2.1 x11.1).phis) 0).w, ins := List.drop 1 ((at_ ((at_ j3.2.2.2.2.1 x11.1).phis) 0).ins) } : GPhi)))) 6 9 (Int.toNat 0) 1 rfl rfl rfl (Z4i h50) rfl (by simp only [List.drop_zero, Nat.zero_add] <;> exact List.take_of_length_le (by simp)) (Y8e rfl)) (vW [0, 1, 2, 3, 4, 6, 7, 5, 8]))
 refine K5 ?_
 cases hm
 exact vW [0, 1, 2, 3, 4, 6, 7, 5, 8]
 refine yG ?_
 intro _ hm
 refine bS hm (fun hb51 hm => ?_) fun hb51 hm => ?_
 refine yG ?_
 intro k5 hm
 refine bS hm (fun hb53 hm => ?_) fun hb53 hm => ?_
 obtain ⟨j54, hj61, hm⟩ := Z0 hm
 refine V7 (St 135 [(2, vP 1), (3, vP 2), (4, vP 7), (5, vI x11.1), (6, vP 8)] [(0, oL 2 (J3 false j54.1)), (1, oL 1 [.nl]), (2, oL 1 [.ref () 3 0 (List.length x1.1.funcs)]), (3, some ⟨(), 3, List.set (List.map (Y1 true) x1.1.funcs) (Int.toNat j3.2.1) [.bs () 1 (List.map iL j3.2.2.1), .int .i64 j3.2.2.2.1, .ref () 4 0 (List.length j3.2.2.2.2.1)]⟩), (4, some ⟨(), 6, List.set (List.map (W2 true) j3.2.2.2.2.1) (Int.toNat x11.1) [.ref () 5 0 (List.length ((at_ j3.2.2.2.2.1 x11.1).phis)), .ref () 6 0 (List.length j54.2), .int .i64 (((at_ j3.2.2.2.2.1 x11.1).term).kind), .int .i64 (((at_ j3.2.2.2.2.1 x11.1).term).a), .int .i64 (((at_ j3.2.2.2.2.1 x11.1).term).x), .int .i64 (((at_ j3.2.2.2.2.1 x11.1).term).y)]⟩), (5, oM 2 (ePhi true) ((at_ j3.2.2.2.2.1 x11.1).phis)), (6, oM 7 (Q1 false) j54.2), (7, oL 3 [.bs () 1 (List.map iL j3.2.2.2.2.2.1), .int .i64 j3.2.2.2.2.2.2, .ref () 4 0 (List.length j3.2.2.2.2.1)]), (8, oL 6 [.ref () 5 0 (List.length ((at_ j3.2.2.2.2.1 x11.1).phis)), .ref () 6 0 (List.length j54.2), .int .i64 (((at_ j3.2.2.2.2.1 x11.1).term).kind), .int .i64 (((at_ j3.2.2.2.2.1 x11.1).term).a), .int .i64 (((at_ j3.2.2.2.2.1 x11.1).term).x), .int .i64 (((at_ j3.2.2.2.2.1 x11.1).term).y)])] 9) ?_ ?_
 replace hm := hj61
 refine Z4t (Y := sysG _) Z4j ?_
 refine tK 2 0 rfl (kV ?_)
 refine tD 3 1 [4, 5, 6, 8, 9, 10, 11] rfl (kF ?_)
 refine tD 4 1 [5, 6, 8, 9, 10, 11] rfl (kD ?_)
 refine tD 5 1 [6, 8, 9, 10, 11] rfl (X9x rfl N37 rfl rfl fun hL55 => ?_)
 refine tK 7 0 rfl (kV ?_)
 refine t_2 0 6 rfl rfl (by decide +kernel) ?_ ?_
 refine (kF ?_)
 refine t_2 1 6 rfl rfl (by decide +kernel) ?_ ?_
 refine (kD ?_)
 obtain ⟨x56, h57, hm⟩ := Z0 hm
 refine oK 6 rfl (cgG [0] (Z2 h57) ?_)
 obtain ⟨x58, h59, hm⟩ := Z0 hm
 refine oK 8 rfl (cgG [0] (Y3 h59) ?_)
 obtain ⟨h60, hm⟩ := Z9 hm
 refine tD 9 1 [10, 11] rfl (K8 rfl E37 rfl rfl rfl h60 ?_)
 refine tK 10 1 rfl (kF ?_)
 refine oK 11 rfl (Z9x (({ op_ := x58.1, w := (at_ ((at_ j3.2.2.2.2.1 x11.1).insts) x56.1).w, a := (at_ ((at_ j3.2.2.2.2.1 x11.1).insts) x56.1).a, b := (at_ ((at_ j3.2.2.2.2.1 x11.1).insts) x56.1).b, c := (at_ ((at_ j3.2.2.2.2.1 x11.1).insts) x56.1).c, imm := (at_ ((at_ j3.2.2.2.2.1 x11.1).insts) x56.1).imm, args := (at_ ((at_ j3.2.2.2.2.1 x11.1).insts) x56.1).args } : GInst)) T2 rfl rfl rfl h60 rfl rfl rfl rfl ?_)
 refine aN ?_
 cases hm
 exact vW [0, 1, 2, 3, 4, 6, 7, 5, 8]
 obtain ⟨x56, h57, hm⟩ := Z0 hm
 refine (cgG [0] (Z2 h57) ?_)
 refine t_2 1 8 rfl rfl (by decide +kernel) ?_ ?_
 refine (kD ?_)
 obtain ⟨x58, h59, hm⟩ := Z0 hm
 refine oK 8 rfl (cgG [0] (Y3 h59) ?_)
 obtain ⟨h60, hm⟩ := Z9 hm
 refine tD 9 1 [10, 11] rfl (K8 rfl E37 rfl rfl rfl h60 ?_)
 refine tK 10 1 rfl (kF ?_)
 refine oK 11 rfl (Z9x (({ op_ := x58.1, w := (at_ ((at_ j3.2.2.2.2.1 x11.1).insts) x56.1).w, a := (at_ ((at_ j3.2.2.2.2.1 x11.1).insts) x56.1).a, b := (at_ ((at_ j3.2.2.2.2.1 x11.1).insts) x56.1).b, c := (at_ ((at_ j3.2.2.2.2.1 x11.1).insts) x56.1).c, imm := (at_ ((at_ j3.2.2.2.2.1 x11.1).insts) x56.1).imm, args := (at_ ((at_ j3.2.2.2.2.1 x11.1).insts) x56.1).args } : GInst)) T2 rfl rfl rfl h60 rfl rfl rfl rfl ?_)
 refine aN ?_
 cases hm
 exact vW [0, 1, 2, 3, 4, 6, 7, 5, 8]
 obtain ⟨x58, h59, hm⟩ := Z0 hm
 refine (cgG [0] (Y3 h59) ?_)
 refine tK 1 1 rfl (kD ?_)
 obtain ⟨h60, hm⟩ := Z9 hm
 refine tD 9 1 [10, 11] rfl (K8 rfl E37 rfl rfl rfl h60 ?_)
 refine tK 10 1 rfl (kF ?_)
 refine oK 11 rfl (Z9x (({ op_ := x58.1, w := (at_ ((at_ j3.2.2.2.2.1 x11.1).insts) x56.1).w, a := (at_ ((at_ j3.2.2.2.2.1 x11.1).insts) x56.1).a, b := (at_ ((at_ j3.2.2.2.2.1 x11.1).insts) x56.1).b, c := (at_ ((at_ j3.2.2.2.2.1 x11.1).insts) x56.1).c, imm := (at_ ((at_ j3.2.2.2.2.1 x11.1).insts) x56.1).imm, args := (at_ ((at_ j3.2.2.2.2.1 x11.1).insts) x56.1).args } : GInst)) T2 rfl rfl rfl h60 rfl rfl rfl rfl ?_)
 refine aN ?_
 cases hm
 exact vW [0, 1, 2, 3, 4, 6, 7, 5, 8]
 obtain ⟨x56, h57, hm⟩ := Z0 hm
 refine (cgG [0] (Z2 h57) ?_)
 refine t_2 0 8 rfl rfl (by decide +kernel) ?_ ?_
 refine (kF ?_)
 refine t_2 1 8 rfl rfl (by decide +kernel) ?_ ?_
 refine (kD ?_)
 obtain ⟨x58, h59, hm⟩ := Z0 hm
 refine oK 8 rfl (cgG [0] (Y3 h59) ?_)
 obtain ⟨h60, hm⟩ := Z9 hm
 refine tD 9 1 [10, 11] rfl (K8 rfl E37 rfl rfl rfl h60 ?_)
 refine tK 10 1 rfl (kF ?_)
 refine oK 11 rfl (Z9x (({ op_ := x58.1, w := (at_ ((at_ j3.2.2.2.2.1 x11.1).insts) x56.1).w, a := (at_ ((at_ j3.2.2.2.2.1 x11.1).insts) x56.1).a, b := (at_ ((at_ j3.2.2.2.2.1 x11.1).insts) x56.1).b, c := (at_ ((at_ j3.2.2.2.2.1 x11.1).insts) x56.1).c, imm := (at_ ((at_ j3.2.2.2.2.1 x11.1).insts) x56.1).imm, args := (at_ ((at_ j3.2.2.2.2.1 x11.1).insts) x56.1).args } : GInst)) T2 rfl rfl rfl h60 rfl rfl rfl rfl ?_)
 refine aN ?_
 cases hm
 exact vW [0, 1, 2, 3, 4, 6, 7, 5, 8]
 obtain ⟨x58, h59, hm⟩ := Z0 hm
 refine (cgG [0] (Y3 h59) ?_)
 refine tK 1 1 rfl (kD ?_)
 obtain ⟨h60, hm⟩ := Z9 hm
 refine tD 9 1 [10, 11] rfl (K8 rfl E37 rfl rfl rfl h60 ?_)
 refine tK 10 1 rfl (kF ?_)
 refine oK 11 rfl (Z9x (({ op_ := x58.1, w := (at_ ((at_ j3.2.2.2.2.1 x11.1).insts) x56.1).w, a := (at_ ((at_ j3.2.2.2.2.1 x11.1).insts) x56.1).a, b := (at_ ((at_ j3.2.2.2.2.1 x11.1).insts) x56.1).b, c := (at_ ((at_ j3.2.2.2.2.1 x11.1).insts) x56.1).c, imm := (at_ ((at_ j3.2.2.2.2.1 x11.1).insts) x56.1).imm, args := (at_ ((at_ j3.2.2.2.2.1 x11.1).insts) x56.1).args } : GInst)) T2 rfl rfl rfl h60 rfl rfl rfl rfl ?_)
 refine aN ?_
 cases hm
 exact vW [0, 1, 2, 3, 4, 6, 7, 5, 8]
 obtain ⟨x58, h59, hm⟩ := Z0 hm
 refine (cgG [0] (Y3 h59) ?_)
 refine tK 0 1 rfl (kF ?_)
 refine tK 1 1 rfl (kD ?_)
 obtain ⟨h60, hm⟩ := Z9 hm
 refine tD 9 1 [10, 11] rfl (K8 rfl E37 rfl rfl rfl h60 ?_)
 refine tK 10 1 rfl (kF ?_)
 refine oK 11 rfl (Z9x (({ op_ := x58.1, w := (at_ ((at_ j3.2.2.2.2.1 x11.1).insts) x56.1).w, a := (at_ ((at_ j3.2.2.2.2.1 x11.1).insts) x56.1).a, b := (at_ ((at_ j3.2.2.2.2.1 x11.1).insts) x56.1).b, c := (at_ ((at_ j3.2.2.2.2.1 x11.1).insts) x56.1).c, imm := (at_ ((at_ j3.2.2.2.2.1 x11.1).insts) x56.1).imm, args := (at_ ((at_ j3.2.2.2.2.1 x11.1).insts) x56.1).args } : GInst)) T2 rfl rfl rfl h60 rfl rfl rfl rfl ?_)
 refine aN ?_
 cases hm
 exact vW [0, 1, 2, 3, 4, 6, 7, 5, 8]
 cases hm
 exact vW [0, 1, 2, 3, 4, 5, 6, 7, 8]
 refine K5 ?_
 cases hm
 exact vW [0, 1, 2, 3, 4, 6, 7, 5, 8]
 refine yG ?_
 intro _ hm
 refine bS hm (fun hb62 hm => ?_) fun hb62 hm => ?_
 refine yG ?_
 intro k6 hm
 refine bS hm (fun hb64 hm => ?_) fun hb64 hm => ?_
 obtain ⟨h65, hm⟩ := Z9 hm
 obtain ⟨x66, h67, hm⟩ := Z0 hm
 have hS24_6 := (Y3 h67)
 obtain ⟨h68, hm⟩ := Z9 hm
 refine gH (X5f 6 1 h65) ?_
 refine Z4t (Y := sysH _ [0] []) Z4j ?_
 refine tE 0 [1, 2, 3, 4, 7, 8] rfl (kF ?_)
 refine tE 1 [2, 3, 4, 7, 8] rfl (kD ?_)
 refine tE 2 [3, 4, 7, 8] rfl (K8 rfl E36 rfl rfl rfl h65 ?_)
 refine tE 3 [4, 7, 8] rfl (kF ?_)
 refine tE 4 [7, 8] rfl (Y2e rfl T29 rfl rfl (Z4i h65) rfl rfl ?_)
 refine tK 5 0 rfl (kV ?_)
 refine oK 6 rfl (Z6h (H := [0]) (X := []) (v := .u (.one (.int .i64 x66.1))) (nobs := []) (oa' := _) (nx' := 10) hS24_6 [0] rfl (by decide) (h_c rfl h_n) rfl (g_1 rfl rfl rfl (g_1 rfl rfl rfl (g_1 rfl rfl rfl g_n))) EntC.h rfl rfl rfl rfl ?_ rfl)
 refine tK 7 1 rfl (K8 rfl E29 rfl rfl rfl h68 ?_)
 refine oK 8 rfl (Z9x x66.1 T2 rfl rfl rfl h68 rfl rfl rfl rfl ?_)
 refine aN ?_
 cases hm
 exact (GhB.trans (W2g (({ w := (at_ ((at_ j3.2.2.2.2.1 x11.1).phis) 0).w, ins := List.set ((at_ ((at_ j3.2.2.2.2.1 x11.1).phis) 0).ins) (Int.toNat 0) x66.1 } : GPhi)) 6 9 1 h65) (vW [0, 1, 2, 3, 4, 6, 7, 5, 8]))
 refine K5 ?_
 cases hm
 exact vW [0, 1, 2, 3, 4, 6, 7, 5, 8]
 refine yG ?_
 intro _ hm
 refine bS hm (fun hb69 hm => ?_) fun hb69 hm => ?_
 refine yG ?_
 intro _ hm
 obtain ⟨x70, h71, hm⟩ := Z0 hm
 refine nO (cG [0] (Y3 h71) ?_)
 refine yG ?_
 intro _ hm
 cases hm
 exact vW [0, 1, 2, 3, 4, 6, 7, 5, 8]
 refine K5 ?_
 cases hm
 exact vW [0, 1, 2, 3, 4, 6, 7, 5, 8]
 refine yG ?_
 intro _ hm
 refine nO (kW ?_)
 refine yG ?_
 intro k7 hm
 refine nO (x_st T41 (rows := List.set (List.map (W2 true) j3.2.2.2.2.1) (Int.toNat x11.1) [.ref () 5 0 (List.length j14.2.1), .ref () 6 0 (List.length j14.2.2.1), .int .i64 j14.2.2.2.1, .int .i64 j14.2.2.2.2.1, .int .i64 j14.2.2.2.2.2, .int .i64 (((at_ j3.2.2.2.2.1 x11.1).term).y)]) rfl rfl rfl (Z4i k7.2) rfl rfl rfl (by rw [List.set_set]; rfl) ?_)
 refine yG ?_
 intro _ hm
 refine nO (kW ?_)
 refine yG ?_
 intro _ hm
 cases hm
 exact rG1h [0] (hg := (W6f (rows2 := List.map (ePhi true) j14.2.1) (rows' := List.set (List.map (W2 true) j3.2.2.2.2.1) (Int.toNat x11.1) [.os () 2 (List.map (ePhi true) j14.2.1), .ref () 6 0 (List.length j14.2.2.1), .int .i64 j14.2.2.2.1, .int .i64 j14.2.2.2.2.1, .int .i64 j14.2.2.2.2.2, .int .i64 (((at_ j3.2.2.2.2.1 x11.1).term).y)]) 4 5 (Int.toNat x11.1) 0 rfl rfl rfl (Z3d (enc := ePhi true) (j14.2.1)) (Z4i k7.2) rfl (by simp) X7z).trans ((W6f (rows2 := List.map (Q1 false) j14.2.2.1) (rows' := List.map (W2 true) (List.set j3.2.2.2.2.1 (Int.toNat x11.1) (({ phis := j14.2.1, insts := j14.2.2.1, term := ({ kind := j14.2.2.2.1, a := j14.2.2.2.2.1, x := j14.2.2.2.2.2, y := ((at_ j3.2.2.2.2.1 x11.1).term).y } : GTerm) } : GBlock)))) 4 6 (Int.toNat x11.1) 1 rfl rfl rfl (Z3d (enc := Q1 false) (j14.2.2.1)) (Z4i k7.2) rfl (by simp) (Y8e rfl)).trans ((W6f (rows2 := List.map (W2 true) (List.set j3.2.2.2.2.1 (Int.toNat x11.1) (({ phis := j14.2.1, insts := j14.2.2.1, term := ({ kind := j14.2.2.2.1, a := j14.2.2.2.2.1, x := j14.2.2.2.2.2, y := ((at_ j3.2.2.2.2.1 x11.1).term).y } : GTerm) } : GBlock)))) (rows' := List.map (Y1 true) (List.set x1.1.funcs (Int.toNat j3.2.1) (({ params := j3.2.2.1, ret := j3.2.2.2.1, blocks := List.set j3.2.2.2.2.1 (Int.toNat x11.1) (({ phis := j14.2.1, insts := j14.2.2.1, term := ({ kind := j14.2.2.2.1, a := j14.2.2.2.2.1, x := j14.2.2.2.2.2, y := ((at_ j3.2.2.2.2.1 x11.1).term).y } : GTerm) } : GBlock)) } : GFunc)))) 3 4 (Int.toNat j3.2.1) 2 rfl rfl rfl (Z3d (enc := W2 true) (List.set j3.2.2.2.2.1 (Int.toNat x11.1) (({ phis := j14.2.1, insts := j14.2.2.1, term := ({ kind := j14.2.2.2.1, a := j14.2.2.2.2.1, x := j14.2.2.2.2.2, y := ((at_ j3.2.2.2.2.1 x11.1).term).y } : GTerm) } : GBlock)))) (Z4i h9) rfl (by simp) (Y8e rfl)).trans ((W3w (e := Y1 true) (e' := Y1 false) (xs := List.set x1.1.funcs (Int.toNat j3.2.1) (({ params := j3.2.2.1, ret := j3.2.2.2.1, blocks := List.set j3.2.2.2.2.1 (Int.toNat x11.1) (({ phis := j14.2.1, insts := j14.2.2.1, term := ({ kind := j14.2.2.2.1, a := j14.2.2.2.2.1, x := j14.2.2.2.2.2, y := ((at_ j3.2.2.2.2.1 x11.1).term).y } : GTerm) } : GBlock)) } : GFunc))) 3 rfl).trans (f_foldl 0 0 rfl rfl rfl (by simp) rfl)))))
noncomputable def Z2m (code : List Int) : Option GModule :=
 (Option.bind (J6 ((Z4w code)) 12) fun x1 =>
 (if x1.1 = true then
 (Option.bind (Z1v x1.2) fun x4 =>
 (some (({ funcs := x4.1.funcs } : GModule))))
 else
 (Option.bind (Z0q x1.2) fun x6 =>
 (some (({ funcs := x6.1.funcs } : GModule))))))
theorem Y3y {code : List Int} {r : GModule} (hm : Z2m code = some r) : Sim Tryz.prog 5 [.one (.bs () 1 (List.map (iK .u8) code))] [] (.u (.agg [.os () 3 (List.map (Y1 false) r.funcs)])) [] := by
 refine fN 12 0 Tryz.func5 [.cell 2 26] fun B hB0 => ?_
 unfold Z2m at hm
 refine yG ?_
 intro _ hm
 refine nO (cG [] (Y9j code) ?_)
 refine yG ?_
 intro _ hm
 obtain ⟨x1, h2, hm⟩ := Z0 hm
 refine nO (cG [1] (Z4b h2) ?_)
 refine W5 ?_
 refine bS hm (fun hb3 hm => ?_) fun hb3 hm => ?_
 refine yG ?_
 intro _ hm
 obtain ⟨x4, h5, hm⟩ := Z0 hm
 refine nO (cG [1] (Y3m h5) ?_)
 refine yG ?_
 intro _ hm
 cases hm
 exact rZ1h (hg := Z3s 0 0 rfl rfl rfl rfl)
 refine yG ?_
 intro _ hm
 obtain ⟨x6, h7, hm⟩ := Z0 hm
 refine nO (cG [1] (Z8x h7) ?_)
 refine yG ?_
 intro _ hm
 cases hm
 exact rZ1h (hg := (W3w (e := Y1 true) (e' := Y1 false) (xs := x6.1.funcs) 2 rfl).trans (Z3s 0 0 rfl rfl rfl rfl))
end
section
set_option maxHeartbeats 8000000
set_option maxRecDepth 100000
attribute [local irreducible] aopK J8 Wp St WpO
noncomputable def Z4 (n : Int) (low : Int) (high : Int) : Bool :=
 ((decide (n ≥ low) && decide (n ≤ high)))
theorem W9 (n : Int) (low : Int) (high : Int) : Sim Tryz.prog 34 [.one (.int .i64 n), .one (.int .i64 low), .one (.int .i64 high)] [] (.u (.one (.bool ((Z4 n low high))))) [] := by
 generalize hm : Z4 n low high = r
 refine fN 15 0 Tryz.func34 [.tmp 6] fun B hB0 => ?_
 unfold Z4 at hm
 refine Wp.seq ?_
 refine X7 ?_
 refine nO (x_as rfl rfl ?_)
 refine W5 ?_
 refine Wp.seq ?_
 refine V7 (St 15 [(6, vB ((decide (n ≥ low) && decide (n ≤ high))))] [] 0) ?_ ?_
 refine yG ?_
 intro _ hm
 refine gO_s rfl rfl rfl (fun hb2 => ?_) (fun hb2 => ?_)
 refine yG ?_
 intro _ hm
 exact w_ [] (.cons (by simp only [hb2, BO]; rfl) rfl .nil) .nil (by decide) (hB_0 hB0)
 refine yG ?_
 intro _ hm
 exact w_ [] (.cons (by simp only [hb2, BO]; rfl) rfl .nil) .nil (by decide) (hB_0 hB0)
 refine Z2d ?_
 cases hm
 exact rZ1
noncomputable def X0 (w : Int) : Bool :=
 (((w == 1) || ((w == 8) || ((w == 16) || (w == 32)))))
theorem Z1t (w : Int) : Sim Tryz.prog 66 [.one (.int .i64 w)] [] (.u (.one (.bool ((X0 w))))) [] := by
 generalize hm : X0 w = r
 refine fN 17 0 Tryz.func66 [.tmp 2] fun B hB0 => ?_
 unfold X0 at hm
 refine Wp.seq ?_
 refine X7 ?_
 refine nO (x_as rfl rfl ?_)
 refine W5 ?_
 refine Wp.seq ?_
 refine V7 (St 17 [(2, vB (((w == 1) || ((w == 8) || ((w == 16) || (w == 32))))))] [] 0) ?_ ?_
 refine yG ?_
 intro _ hm
 refine gO_s rfl rfl rfl (fun hb2 => ?_) (fun hb2 => ?_)
 refine yG ?_
 intro _ hm
 refine gO_s rfl rfl rfl (fun hb3 => ?_) (fun hb3 => ?_)
 refine yG ?_
 intro _ hm
 refine gO_s rfl rfl rfl (fun hb4 => ?_) (fun hb4 => ?_)
 refine yG ?_
 intro _ hm
 exact w_ [] (.cons (by simp only [hb2, hb3, hb4, BO]; rfl) rfl .nil) .nil (by decide) (hB_0 hB0)
 refine yG ?_
 intro _ hm
 exact w_ [] (.cons (by simp only [hb2, hb3, hb4, BO]; rfl) rfl .nil) .nil (by decide) (hB_0 hB0)
 refine yG ?_
 intro _ hm
 exact w_ [] (.cons (by simp only [hb2, hb3, BO]; rfl) rfl .nil) .nil (by decide) (hB_0 hB0)
 refine yG ?_
 intro _ hm
 exact w_ [] (.cons (by simp only [hb2, BO]; rfl) rfl .nil) .nil (by decide) (hB_0 hB0)
 refine Z2d ?_
 cases hm
 exact rZ1
noncomputable def K2 (s : List Int) (f : Int → Option Bool) : Option Int :=
 (Option.bind (Y6 (fun (st2 : Int) =>
 ((if decide (st2 < ((List.length s : Int))) = true then
 (if 0 ≤ st2 ∧ st2 < (List.length s : Int) then
 (Option.bind (f (at_ s st2)) fun x7 =>
 (if x7 = true then
 (some (Sum.inr ((Sum.inl st2))))
 else
 (if inI (st2 + 1) then
 (some (Sum.inl (st2 + 1)))
 else none)))
 else none)
 else
 (some (Sum.inr ((Sum.inr (())))))) : Option ((Int) ⊕ (Int ⊕ Unit)))) 0) fun (y11 : Int ⊕ Unit) => match y11 with
 | (Sum.inl j3) =>
 (some j3)
 | (Sum.inr j4) =>
 (some ((-1))))
theorem Z7n (s : List Int) (fi : FuncId) (fc : List (L Unit)) (f : Int → Option Bool) (hef : Ent Tryz.prog fi) (hcf : CapOk fc) (hsf : ∀ z0 y, f z0 = some y → Sim Tryz.prog fi ([.one (.int .i64 z0)] ++ List.map .one fc) [] (.u (.one (.bool y))) []) {r : Int} (hm : K2 s f = some r) : Sim Tryz.prog 95 [.one (.bs () 1 (List.map iL s)), .one (.fn () fi fc)] [] (.u (.one (.int .i64 r))) [] := by
 refine Y2b (N := 19) (k0 := 0) Tryz.func95 rfl rfl rfl rfl (rs := [.tmp 4]) rfl (by simp [Z1, idsL, List.all_cons, hcf.ids]) rfl fun B hB0 => ?_
 unfold K2 at hm
 refine yG ?_
 intro k1 hm
 obtain ⟨y11, hl12, hm⟩ := Z0 hm
 refine J7 hl12 (fun (st2 : Int) => St 19 [(0, .u (.one (.bs () 1 (List.map iL s)))), (1, .u (.one (.fn () fi fc))), (7, vI ((List.length s : Int))), (8, vI st2)] [] 0) (fun (y : Int ⊕ Unit) => match y with | (Sum.inl j3) => (.ret, St 19 [(4, vI j3)] [] 0) | (Sum.inr j4) => (.exit 0, St 19 [] [] 0)) (w_ [] (.cons rfl rfl (.cons (by rw [Y0p hcf]; rfl) (Z6c hcf _ _) (.cons rfl rfl (.cons rfl rfl .nil)))) .nil (by decide) (hB_0 hB0)) ?_ (by rintro (_ | _) <;> simp) ?_
 intro st2 x hm
 refine yG ?_
 intro _ hm
 refine bS hm (fun hb5 hm => ?_) fun hb5 hm => ?_
 refine yG ?_
 intro k2 hm
 obtain ⟨x7, h8, hm⟩ := Z0 hm
 refine nO (Z5 (Z0b (v := .u (.one (.bool x7))) (nobs := []) (oa' := _) (nx' := 0) rfl (a_1 rfl (b_s rfl) a_n) hcf.bor hef (hsf (at_ s st2) x7 h8) rfl rfl rfl rfl ?_))
 refine W5 ?_
 refine bS hm (fun hb9 hm => ?_) fun hb9 hm => ?_
 refine yG ?_
 intro _ hm
 cases hm
 exact ⟨rfl, vW []⟩
 refine yG ?_
 intro k3 hm
 cases hm
 exact ⟨rfl, w_ [] (.cons rfl rfl (.cons (by rw [Y0p hcf]; rfl) (Z6c hcf _ _) (.cons rfl rfl (.cons rfl rfl .nil)))) .nil (by decide) (hB_0 hB0)⟩
 refine V2 ?_
 cases hm
 exact ⟨rfl, vW []⟩
 rcases y11 with j3 | j4 <;> simp only at hm
 cases hm
 exact rZ1
 refine yG ?_
 intro _ hm
 cases hm
 exact rZ1
noncomputable def Z7 (s : List Int) (f : Int → Option Bool) : Option Bool :=
 (Option.bind (K2 s f) fun x1 =>
 (some (decide (x1 ≥ 0))))
theorem X5 (s : List Int) (fi : FuncId) (fc : List (L Unit)) (f : Int → Option Bool) (hef : Ent Tryz.prog fi) (hcf : CapOk fc) (hsf : ∀ z0 y, f z0 = some y → Sim Tryz.prog fi ([.one (.int .i64 z0)] ++ List.map .one fc) [] (.u (.one (.bool y))) []) {r : Bool} (hm : Z7 s f = some r) : Sim Tryz.prog 54 [.one (.bs () 1 (List.map iL s)), .one (.fn () fi fc)] [] (.u (.one (.bool r))) [] := by
 refine Y2b (N := 9) (k0 := 0) Tryz.func54 rfl rfl rfl rfl (rs := [.tmp 4]) rfl (by simp [Z1, idsL, List.all_cons, hcf.ids]) rfl fun B hB0 => ?_
 unfold Z7 at hm
 refine yG ?_
 intro _ hm
 obtain ⟨x1, h2, hm⟩ := Z0 hm
 refine nO (Z5 (Z0b (v := .u (.one (.int .i64 x1))) (nobs := []) (oa' := _) (nx' := 0) rfl (a_1 rfl (b_s rfl) (a_1 rfl (b_f hcf.bor) a_n)) c_n EntC.h (Z7n s fi fc f hef hcf hsf h2) rfl rfl rfl rfl ?_))
 refine yG ?_
 intro _ hm
 cases hm
 exact rZ1
noncomputable def Z2t (w : Int) : Bool :=
 ((!((X0 w))))
theorem Y6u (w : Int) : Sim Tryz.prog 67 [.one (.int .i64 w)] [] (.u (.one (.bool ((Z2t w))))) [] := by
 generalize hm : Z2t w = r
 refine fN 6 0 Tryz.func67 [.tmp 2] fun B hB0 => ?_
 unfold Z2t at hm
 refine yG ?_
 intro _ hm
 refine nO (Z5 (cB (Z1t w) ?_))
 refine yG ?_
 intro _ hm
 cases hm
 exact rZ1
noncomputable def Z0j (f : GFunc) : Option Int :=
 (Option.bind (Y6 (fun (st3 : Int × Int) =>
 ((if decide (st3.1 < ((List.length f.blocks : Int))) = true then
 (if 0 ≤ st3.1 ∧ st3.1 < (List.length f.blocks : Int) then
 (if inI (st3.2 + (((List.length ((at_ f.blocks st3.1).phis) : Int)) + ((List.length ((at_ f.blocks st3.1).insts) : Int)))) then
 (if inI (st3.1 + 1) then
 (some (Sum.inl ((st3.1 + 1, st3.2 + (((List.length ((at_ f.blocks st3.1).phis) : Int)) + ((List.length ((at_ f.blocks st3.1).insts) : Int)))))))
 else none)
 else none)
 else none)
 else
 (some (Sum.inr st3.2))) : Option ((Int × Int) ⊕ (Int)))) (0, (List.length f.params : Int))) fun (j4 : Int) =>
 (some j4))
theorem Z3r {f : GFunc} {r : Int} (hm : Z0j f = some r) : Sim Tryz.prog 8 [.agg (Y1 false f)] [] (.u (.one (.int .i64 r))) [] := by
 refine fN 27 0 Tryz.func8 [.tmp 2] fun B hB0 => ?_
 unfold Z0j at hm
 refine yG ?_
 intro k1 hm
 obtain ⟨j4, hl12, hm⟩ := Z0 hm
 refine lP hl12 (fun st3 => St 27 [(3, vI st3.2), (10, .u (.one (.bs () 6 (List.map (W2 false) f.blocks)))), (11, vI ((List.length f.blocks : Int))), (12, vI st3.1)] [] 0) (fun j4 => (.exit 0, St 27 [(3, vI j4)] [] 0)) (vW []) ?_ ?_
 intro st3 x hm
 refine yG ?_
 intro _ hm
 refine bS hm (fun hb5 hm => ?_) fun hb5 hm => ?_
 refine yG ?_
 intro k2 hm
 refine nO (K7 T41 rfl (J0 rfl rfl) rfl ?_)
 refine yG ?_
 intro k3 hm
 cases hm
 exact ⟨rfl, vW []⟩
 refine V2 ?_
 cases hm
 exact ⟨rfl, vW []⟩
 refine yG ?_
 intro _ hm
 cases hm
 exact rZ1
noncomputable def Z2s (id : Int) (a : Int) : Option Bool :=
 (if inI (a - 1) then
 (some ((!((Z4 id 0 (a - 1))))))
 else none)
theorem Y4a {id : Int} {a : Int} {r : Bool} (hm : Z2s id a = some r) : Sim Tryz.prog 70 [.one (.int .i64 id), .one (.ip () (iL a))] [] (.u (.one (.bool r))) [] := by
 refine fN 9 0 Tryz.func70 [.tmp 3] fun B hB0 => ?_
 unfold Z2s at hm
 refine yG ?_
 intro k1 hm
 refine nO (Z5 (cB (W9 id 0 (a - 1)) ?_))
 refine yG ?_
 intro _ hm
 cases hm
 exact rZ1
noncomputable def Z1f (p : GPhi) (a : Int) : Option Bool :=
 (Option.bind ((if (!((X0 p.w))) = true then
 (some true)
 else
 (if decide (((List.length p.ins : Int)) > 10) = true then
 (some true)
 else
 (Option.bind (Z7 p.ins ((fun z0 => Z2s z0 a))) fun x5 =>
 (some x5))))) fun (j1 : Bool) =>
 (some j1))
theorem Y6t {p : GPhi} {a : Int} {r : Bool} (hm : Z1f p a = some r) : Sim Tryz.prog 69 [.agg (ePhi false p), .one (.ip () (iL a))] [] (.u (.one (.bool r))) [] := by
 refine fN 20 0 Tryz.func69 [.tmp 3] fun B hB0 => ?_
 unfold Z1f at hm
 refine Wp.seq ?_
 refine X7 ?_
 refine yR ?_
 intro _ hm
 refine W5 ?_
 refine Wp.seq ?_
 obtain ⟨j1, hj7, hm⟩ := Z0 hm
 refine V7 (St 20 [(3, vB j1)] [] 0) ?_ ?_
 replace hm := hj7
 refine yG ?_
 intro _ hm
 refine nO (Z5 (cB (Z1t p.w) ?_))
 refine yG ?_
 intro _ hm
 refine bG0 hm (fun hb2 hm => ?_) fun hb2 hm => ?_
 refine yG ?_
 intro k1 hm
 refine bG0 hm (fun hb4 hm => ?_) fun hb4 hm => ?_
 refine yG ?_
 intro _ hm
 refine gO_t rfl rfl rfl (x_mf (ls := [.ip () (iL a)]) rfl ?_)
 obtain ⟨x5, h6, hm⟩ := Z0 hm
 refine gO_t rfl rfl rfl (Z5 (Z0b (v := .u (.one (.bool x5))) (nobs := []) (oa' := _) (nx' := 1) rfl (a_1 rfl (b_s rfl) (a_1 rfl (b_f (c_c b_ip c_n)) a_n)) c_n EntC.h (X5 p.ins 70 [.ip () (iL a)] (fun z0 => Z2s z0 a) EntC.h rfl (fun z0 y hy => Y4a hy) h6) rfl rfl rfl rfl ?_))
 refine yG ?_
 intro _ hm
 cases hm
 exact vW []
 refine yG ?_
 intro _ hm
 cases hm
 exact vW []
 refine yG ?_
 intro _ hm
 cases hm
 exact vW []
 refine Z2d ?_
 cases hm
 exact rZ1
noncomputable def U5 (s : List GPhi) (f : GPhi → Option Bool) : Option Int :=
 (Option.bind (Y6 (fun (st2 : Int) =>
 ((if decide (st2 < ((List.length s : Int))) = true then
 (if 0 ≤ st2 ∧ st2 < (List.length s : Int) then
 (Option.bind (f (at_ s st2)) fun x7 =>
 (if x7 = true then
 (some (Sum.inr ((Sum.inl st2))))
 else
 (if inI (st2 + 1) then
 (some (Sum.inl (st2 + 1)))
 else none)))
 else none)
 else
 (some (Sum.inr ((Sum.inr (())))))) : Option ((Int) ⊕ (Int ⊕ Unit)))) 0) fun (y11 : Int ⊕ Unit) => match y11 with
 | (Sum.inl j3) =>
 (some j3)
 | (Sum.inr j4) =>
 (some ((-1))))
theorem Z4x (s : List GPhi) (fi : FuncId) (fc : List (L Unit)) (f : GPhi → Option Bool) (hef : Ent Tryz.prog fi) (hcf : CapOk fc) (hsf : ∀ z0 y, f z0 = some y → Sim Tryz.prog fi ([.agg (ePhi false z0)] ++ List.map .one fc) [] (.u (.one (.bool y))) []) {r : Int} (hm : U5 s f = some r) : Sim Tryz.prog 103 [.one (.bs () 2 (List.map (ePhi false) s)), .one (.fn () fi fc)] [] (.u (.one (.int .i64 r))) [] := by
 refine Y2b (N := 19) (k0 := 0) Tryz.func103 rfl rfl rfl rfl (rs := [.tmp 4]) rfl (by simp [Z1, idsL, List.all_cons, hcf.ids]) rfl fun B hB0 => ?_
 unfold U5 at hm
 refine yG ?_
 intro k1 hm
 obtain ⟨y11, hl12, hm⟩ := Z0 hm
 refine J7 hl12 (fun (st2 : Int) => St 19 [(0, .u (.one (.bs () 2 (List.map (ePhi false) s)))), (1, .u (.one (.fn () fi fc))), (7, vI ((List.length s : Int))), (8, vI st2)] [] 0) (fun (y : Int ⊕ Unit) => match y with | (Sum.inl j3) => (.ret, St 19 [(4, vI j3)] [] 0) | (Sum.inr j4) => (.exit 0, St 19 [] [] 0)) (w_ [] (.cons rfl rfl (.cons (by rw [Y0p hcf]; rfl) (Z6c hcf _ _) (.cons rfl rfl (.cons rfl rfl .nil)))) .nil (by decide) (hB_0 hB0)) ?_ (by rintro (_ | _) <;> simp) ?_
 intro st2 x hm
 refine yG ?_
 intro _ hm
 refine bS hm (fun hb5 hm => ?_) fun hb5 hm => ?_
 refine yG ?_
 intro k2 hm
 refine nO (K7 T65 rfl (J0 rfl rfl) rfl ?_)
 obtain ⟨x7, h8, hm⟩ := Z0 hm
 refine nO (Z5 (Z0b (v := .u (.one (.bool x7))) (nobs := []) (oa' := _) (nx' := 0) rfl (a_a rfl (Z8w rfl) a_n) hcf.bor hef (hsf (at_ s st2) x7 h8) rfl rfl rfl rfl ?_))
 refine W5 ?_
 refine bS hm (fun hb9 hm => ?_) fun hb9 hm => ?_
 refine yG ?_
 intro _ hm
 cases hm
 exact ⟨rfl, vW []⟩
 refine yG ?_
 intro k3 hm
 cases hm
 exact ⟨rfl, w_ [] (.cons rfl rfl (.cons (by rw [Y0p hcf]; rfl) (Z6c hcf _ _) (.cons rfl rfl (.cons rfl rfl .nil)))) .nil (by decide) (hB_0 hB0)⟩
 refine V2 ?_
 cases hm
 exact ⟨rfl, vW []⟩
 rcases y11 with j3 | j4 <;> simp only at hm
 cases hm
 exact rZ1
 refine yG ?_
 intro _ hm
 cases hm
 exact rZ1
noncomputable def Y9 (s : List GPhi) (f : GPhi → Option Bool) : Option Bool :=
 (Option.bind (U5 s f) fun x1 =>
 (some (decide (x1 ≥ 0))))
theorem Z0c (s : List GPhi) (fi : FuncId) (fc : List (L Unit)) (f : GPhi → Option Bool) (hef : Ent Tryz.prog fi) (hcf : CapOk fc) (hsf : ∀ z0 y, f z0 = some y → Sim Tryz.prog fi ([.agg (ePhi false z0)] ++ List.map .one fc) [] (.u (.one (.bool y))) []) {r : Bool} (hm : Y9 s f = some r) : Sim Tryz.prog 68 [.one (.bs () 2 (List.map (ePhi false) s)), .one (.fn () fi fc)] [] (.u (.one (.bool r))) [] := by
 refine Y2b (N := 9) (k0 := 0) Tryz.func68 rfl rfl rfl rfl (rs := [.tmp 4]) rfl (by simp [Z1, idsL, List.all_cons, hcf.ids]) rfl fun B hB0 => ?_
 unfold Y9 at hm
 refine yG ?_
 intro _ hm
 obtain ⟨x1, h2, hm⟩ := Z0 hm
 refine nO (Z5 (Z0b (v := .u (.one (.int .i64 x1))) (nobs := []) (oa' := _) (nx' := 0) rfl (a_1 rfl (b_s rfl) (a_1 rfl (b_f hcf.bor) a_n)) c_n EntC.h (Z4x s fi fc f hef hcf hsf h2) rfl rfl rfl rfl ?_))
 refine yG ?_
 intro _ hm
 cases hm
 exact rZ1
noncomputable def U3 (op_ : Int) : Bool :=
 ((Z4 op_ 1 17))
theorem Z5c (op_ : Int) : Sim Tryz.prog 25 [.one (.int .i64 op_)] [] (.u (.one (.bool ((U3 op_))))) [] := by
 generalize hm : U3 op_ = r
 refine fN 5 0 Tryz.func25 [.tmp 2] fun B hB0 => ?_
 unfold U3 at hm
 refine yG ?_
 intro _ hm
 refine nO (Z5 (cB (W9 op_ 1 17) ?_))
 refine yG ?_
 intro _ hm
 cases hm
 exact rZ1
noncomputable def Z5b (op_ : Int) : Bool :=
 ((Z4 op_ 18 20))
theorem X0g (op_ : Int) : Sim Tryz.prog 26 [.one (.int .i64 op_)] [] (.u (.one (.bool ((Z5b op_))))) [] := by
 generalize hm : Z5b op_ = r
 refine fN 5 0 Tryz.func26 [.tmp 2] fun B hB0 => ?_
 unfold Z5b at hm
 refine yG ?_
 intro _ hm
 refine nO (Z5 (cB (W9 op_ 18 20) ?_))
 refine yG ?_
 intro _ hm
 cases hm
 exact rZ1
noncomputable def Z0a (s : List Int) : Option (List Int) :=
 (if (List.length ([] : List Int) + List.length s) * 8 ≤ 140737488355328 ∧ List.length ([] : List Int) + List.length s ≤ LIM then (some (([] : List Int) ++ s)) else none)
theorem Z8z {s : List Int} {r : List Int} (hm : Z0a s = some r) : Sim Tryz.prog 27 [.one (.bs () 1 (List.map iL s))] [] (.u (.one (.os () 1 (List.map iL r)))) [] := by
 refine Y2b (N := 8) (k0 := 0) Tryz.func27 rfl rfl rfl rfl (rs := [.tmp 2]) rfl rfl rfl fun B hB0 => ?_
 unfold Z0a at hm
 obtain ⟨h1, hm⟩ := Z9 hm
 have hr := Option.some.inj hm
 refine Wp.seq ?_
 refine c_reg (Y := sysA _) ?_
 refine n_ (x_as rfl rfl ?_)
 refine z_ ?_
 refine Wp.seq ?_
 refine Wp.seq ?_
 refine X7 ?_
 refine X6s (Y := sysA _) 1 ?_
 refine n_ (x_mv rfl rfl ?_)
 refine z_ ?_
 refine o_nlq (e := 2) (by kernel_rfl) rfl rfl (fun hq => ?_) ?_
 ·refine W5 ?_
  refine c_t rfl rfl ?_
  refine Wp.seq ?_
  refine c_reg (Y := sysA _) ?_
  refine n_ (x_as rfl rfl ?_)
  refine z_ ?_
  refine Z2d ?_
  have hs : s = [] := List.map_eq_nil_iff.1 hq
  subst hs
  rw [← hr]
  exact ret0 (us' := [.one (.os () 1 (List.map iL (([] : List Int) ++ [])))]) rfl (Y9r rfl rfl rfl Y9s) ((f_nl 0 0 1 true rfl rfl rfl).trans X0p) rfl rfl
 ·refine W5 ?_
  refine c_f rfl rfl ?_
  refine K5 ?_
  refine Wp.seq ?_
  refine c_reg (Y := sysA _) ?_
  refine n_ (Y4g (enc := iL) (([] : List Int)) A29 rfl rfl rfl rfl ?_)
  refine n_ (x_mv rfl rfl ?_)
  refine n_ (W4x (enc := iL) (xs := ([] : List Int)) (ys := s) A29 N29 (X2h _) rfl rfl rfl (X9v _) h1 ?_)
  refine n_ (x_as rfl rfl ?_)
  refine z_ ?_
  refine Z2d ?_
  rw [← hr]
  exact ret0 (us' := [.one (.os () 1 (List.map iL (([] : List Int) ++ s)))]) rfl (Y9r rfl rfl rfl Y9s) ((Z3s 0 0 rfl rfl rfl rfl).trans X0p) rfl rfl
noncomputable def Z0e (i : GInst) : Option (List Int) :=
 (if ((U3 i.op_) || (i.op_ == 24)) = true then
 (some ([i.a, i.b]))
 else
 (if ((Z5b i.op_) || ((i.op_ == 23) || ((i.op_ == 25) || (i.op_ == 27)))) = true then
 (some ([i.a]))
 else
 (if (i.op_ == 22) = true then
 (some ([i.a, i.b, i.c]))
 else
 (if (i.op_ == 26) = true then
 (Option.bind (Z0a i.args) fun x11 =>
 (some x11))
 else
 (some ([]))))))
theorem Z6r {i : GInst} {r : List Int} (hm : Z0e i = some r) : Sim Tryz.prog 12 [.agg (Q1 false i)] [] (.u (.one (.os () 1 (List.map iL r)))) [] := by
 refine fN 57 0 Tryz.func12 [.tmp 2] fun B hB0 => ?_
 unfold Z0e at hm
 refine Wp.seq ?_
 refine X7 ?_
 refine yR ?_
 intro _ hm
 refine W5 ?_
 refine Wp.seq ?_
 refine Wp.block ?_
 refine Wp.seq ?_
 refine V7 (St 57 [(1, vP 0), (3, vB (((U3 i.op_) || (i.op_ == 24))))] [(0, oL 7 (Q1 false i))] 1) ?_ ?_
 refine yG ?_
 intro _ hm
 refine nO (Z5 (cB (Z5c i.op_) ?_))
 refine yG ?_
 intro _ hm
 refine gO_s rfl rfl rfl (fun hb2 => ?_) (fun hb2 => ?_)
 refine yG ?_
 intro _ hm
 exact w_ [0] (.cons rfl rfl (.cons (by simp only [hb2, BO]; rfl) rfl .nil)) (.lit rfl rfl .nil) (by decide) (hB_0 hB0)
 refine yG ?_
 intro _ hm
 exact w_ [0] (.cons rfl rfl (.cons (by simp only [hb2, BO]; rfl) rfl .nil)) (.lit rfl rfl .nil) (by decide) (hB_0 hB0)
 refine bS hm (fun hb3 hm => ?_) fun hb3 hm => ?_
 refine yG ?_
 intro _ hm
 refine nO (kM (iL) ([i.a, i.b]) ?_)
 refine yG ?_
 intro _ hm
 cases hm
 exact rZ1h (hg := Z3s 0 0 rfl rfl rfl rfl)
 refine Wp.seq ?_
 refine V7 (St 57 [(1, vP 0), (17, vB (((Z5b i.op_) || ((i.op_ == 23) || ((i.op_ == 25) || (i.op_ == 27))))))] [(0, oL 7 (Q1 false i))] 1) ?_ ?_
 refine yG ?_
 intro _ hm
 refine nO (Z5 (cB (X0g i.op_) ?_))
 refine yG ?_
 intro _ hm
 refine gO_s rfl rfl rfl (fun hb5 => ?_) (fun hb5 => ?_)
 refine yG ?_
 intro _ hm
 refine gO_s rfl rfl rfl (fun hb6 => ?_) (fun hb6 => ?_)
 refine yG ?_
 intro _ hm
 refine gO_s rfl rfl rfl (fun hb7 => ?_) (fun hb7 => ?_)
 refine yG ?_
 intro _ hm
 exact w_ [0] (.cons rfl rfl (.cons (by simp only [hb5, hb6, hb7, BO]; rfl) rfl .nil)) (.lit rfl rfl .nil) (by decide) (hB_0 hB0)
 refine yG ?_
 intro _ hm
 exact w_ [0] (.cons rfl rfl (.cons (by simp only [hb5, hb6, hb7, BO]; rfl) rfl .nil)) (.lit rfl rfl .nil) (by decide) (hB_0 hB0)
 refine yG ?_
 intro _ hm
 exact w_ [0] (.cons rfl rfl (.cons (by simp only [hb5, hb6, BO]; rfl) rfl .nil)) (.lit rfl rfl .nil) (by decide) (hB_0 hB0)
 refine yG ?_
 intro _ hm
 exact w_ [0] (.cons rfl rfl (.cons (by simp only [hb5, BO]; rfl) rfl .nil)) (.lit rfl rfl .nil) (by decide) (hB_0 hB0)
 refine bS hm (fun hb8 hm => ?_) fun hb8 hm => ?_
 refine yG ?_
 intro _ hm
 refine nO (kM (iL) ([i.a]) ?_)
 refine yG ?_
 intro _ hm
 cases hm
 exact rZ1h (hg := Z3s 0 0 rfl rfl rfl rfl)
 refine yG ?_
 intro _ hm
 refine bS hm (fun hb9 hm => ?_) fun hb9 hm => ?_
 refine yG ?_
 intro _ hm
 refine nO (kM (iL) ([i.a, i.b, i.c]) ?_)
 refine yG ?_
 intro _ hm
 cases hm
 exact rZ1h (hg := Z3s 0 0 rfl rfl rfl rfl)
 refine yG ?_
 intro _ hm
 refine bS hm (fun hb10 hm => ?_) fun hb10 hm => ?_
 refine yG ?_
 intro _ hm
 obtain ⟨x11, h12, hm⟩ := Z0 hm
 refine nO (Z5 (cB (Z8z h12) ?_))
 refine yG ?_
 intro _ hm
 cases hm
 exact rZ1h (hg := Z3s 0 0 rfl rfl rfl rfl)
 refine yG ?_
 intro _ hm
 cases hm
 exact rZ1h (hg := f_nl 0 0 1 true rfl rfl rfl)
noncomputable def Z4n (id : Int) (a : Int) : Option Bool :=
 (if inI (a - 1) then
 (some ((!((Z4 id 0 (a - 1))))))
 else none)
theorem Y6r {id : Int} {a : Int} {r : Bool} (hm : Z4n id a = some r) : Sim Tryz.prog 104 [.one (.int .i64 id), .one (.ip () (iL a))] [] (.u (.one (.bool r))) [] := by
 refine fN 9 0 Tryz.func104 [.tmp 3] fun B hB0 => ?_
 unfold Z4n at hm
 refine yG ?_
 intro k1 hm
 refine nO (Z5 (cB (W9 id 0 (a - 1)) ?_))
 refine yG ?_
 intro _ hm
 cases hm
 exact rZ1
noncomputable def Z2q (n : Int) : Bool :=
 ((n != 0))
theorem Y6q (n : Int) : Sim Tryz.prog 105 [.one (.int .i64 n)] [] (.u (.one (.bool ((Z2q n))))) [] := by
 generalize hm : Z2q n = r
 refine fN 5 0 Tryz.func105 [.tmp 2] fun B hB0 => ?_
 unfold Z2q at hm
 refine yG ?_
 intro _ hm
 cases hm
 exact rZ1
noncomputable def Z3y (i : GInst) : Bool :=
 (if ((i.op_ == 24) || (i.op_ == 25)) = true then
 ((i.w == 0))
 else
 (if (i.op_ == 23) = true then
 ((i.w == 8))
 else
 ((X0 i.w))))
theorem Y7t (i : GInst) : Sim Tryz.prog 106 [.agg (Q1 false i)] [] (.u (.one (.bool ((Z3y i))))) [] := by
 generalize hm : Z3y i = r
 refine fN 19 0 Tryz.func106 [.tmp 2] fun B hB0 => ?_
 unfold Z3y at hm
 refine Wp.seq ?_
 refine X7 ?_
 refine yR ?_
 intro _ hm
 refine W5 ?_
 refine Wp.seq ?_
 refine Wp.seq ?_
 refine X7 ?_
 refine yR ?_
 intro _ hm
 refine W5 ?_
 refine Wp.block ?_
 refine Wp.seq ?_
 refine V7 (St 19 [(1, vP 0), (4, vI i.op_), (5, vB (((i.op_ == 24) || (i.op_ == 25))))] [(0, oL 7 (Q1 false i))] 1) ?_ ?_
 refine yG ?_
 intro _ hm
 refine c_s rfl rfl (fun hb2 => ?_) (fun hb2 => ?_)
 refine K5 ?_
 exact w_ [0] (.cons rfl rfl (.cons rfl rfl (.cons (by simp only [hb2, BO]; rfl) rfl .nil))) (.lit rfl rfl .nil) (by decide) (hB_0 hB0)
 refine yG ?_
 intro _ hm
 exact w_ [0] (.cons rfl rfl (.cons rfl rfl (.cons (by simp only [hb2, BO]; rfl) rfl .nil))) (.lit rfl rfl .nil) (by decide) (hB_0 hB0)
 refine bS hm (fun hb3 hm => ?_) fun hb3 hm => ?_
 refine yG ?_
 intro _ hm
 cases hm
 exact rZ1
 refine yG ?_
 intro _ hm
 refine bS hm (fun hb4 hm => ?_) fun hb4 hm => ?_
 refine yG ?_
 intro _ hm
 cases hm
 exact rZ1
 refine yG ?_
 intro _ hm
 refine nO (Z5 (cB (Z1t i.w) ?_))
 refine yG ?_
 intro _ hm
 cases hm
 exact rZ1
noncomputable def Y1n (w : Int) : Option Int :=
 (if 0 ≤ w then
 (if inI ((IntKind.i64.wrap (1 * 2 ^ min (Int.toNat w) (IntKind.bits .i64))) - 1) then
 (some ((IntKind.i64.wrap (1 * 2 ^ min (Int.toNat w) (IntKind.bits .i64))) - 1))
 else none)
 else none)
theorem X3r {w : Int} {r : Int} (hm : Y1n w = some r) : Sim Tryz.prog 124 [.one (.int .i64 w)] [] (.u (.one (.int .i64 r))) [] := by
 refine fN 6 0 Tryz.func124 [.tmp 2] fun B hB0 => ?_
 unfold Y1n at hm
 refine yG ?_
 intro k1 hm
 cases hm
 exact rZ1
noncomputable def Z5t (w : Int) (v : Int) : Option Bool :=
 (Option.bind ((if (X0 w) = true then
 (Option.bind (Y1n w) fun x3 =>
 (some ((Z4 v 0 x3))))
 else
 (some false))) fun (j1 : Bool) =>
 (some j1))
theorem Y7u {w : Int} {v : Int} {r : Bool} (hm : Z5t w v = some r) : Sim Tryz.prog 119 [.one (.int .i64 w), .one (.int .i64 v)] [] (.u (.one (.bool r))) [] := by
 refine fN 13 0 Tryz.func119 [.tmp 4] fun B hB0 => ?_
 unfold Z5t at hm
 refine Wp.seq ?_
 refine X7 ?_
 refine nO (x_as rfl rfl ?_)
 refine W5 ?_
 refine Wp.seq ?_
 obtain ⟨j1, hj5, hm⟩ := Z0 hm
 refine V7 (St 13 [(4, vB j1)] [] 0) ?_ ?_
 replace hm := hj5
 refine yG ?_
 intro _ hm
 refine nO (Z5 (cB (Z1t w) ?_))
 refine yG ?_
 intro _ hm
 refine bG1 hm (fun hb2 hm => ?_) fun hb2 hm => ?_
 refine yG ?_
 intro _ hm
 obtain ⟨x3, h4, hm⟩ := Z0 hm
 refine gO_t rfl rfl rfl (Z5 (cB (X3r h4) ?_))
 refine gO_t rfl rfl rfl (Z5 (cB (W9 v 0 x3) ?_))
 refine yG ?_
 intro _ hm
 cases hm
 exact vW []
 refine yG ?_
 intro _ hm
 cases hm
 exact vW []
 refine Z2d ?_
 cases hm
 exact rZ1
noncomputable def Z8i (i : GInst) (funcs : Int) : Option Bool :=
 (if (i.op_ == 21) = true then
 (Option.bind (Z5t i.w i.imm) fun x2 =>
 (some x2))
 else
 (if (i.op_ == 26) = true then
 (if inI (funcs - 1) then
 (some ((Z4 i.imm 0 (funcs - 1))))
 else none)
 else
 (some ((i.imm == 0)))))
theorem X1i {i : GInst} {funcs : Int} {r : Bool} (hm : Z8i i funcs = some r) : Sim Tryz.prog 107 [.agg (Q1 false i), .one (.int .i64 funcs)] [] (.u (.one (.bool r))) [] := by
 refine fN 24 0 Tryz.func107 [.tmp 4] fun B hB0 => ?_
 unfold Z8i at hm
 refine yG ?_
 intro _ hm
 refine bS hm (fun hb1 hm => ?_) fun hb1 hm => ?_
 refine yG ?_
 intro _ hm
 obtain ⟨x2, h3, hm⟩ := Z0 hm
 refine nO (Z5 (cB (Y7u h3) ?_))
 refine yG ?_
 intro _ hm
 cases hm
 exact rZ1
 refine yG ?_
 intro _ hm
 refine bS hm (fun hb4 hm => ?_) fun hb4 hm => ?_
 refine yG ?_
 intro k1 hm
 refine nO (Z5 (cB (W9 i.imm 0 (funcs - 1)) ?_))
 refine yG ?_
 intro _ hm
 cases hm
 exact rZ1
 refine yG ?_
 intro _ hm
 cases hm
 exact rZ1
noncomputable def Q3 (i : GInst) (ids : Int) (funcs : Int) : Option Bool :=
 (if (if (!((Z4 i.op_ 1 27))) = true then true else (decide (((List.length i.args : Int)) > 4) || (decide (((List.length i.args : Int)) > 0) && (i.op_ != 26)))) = true then
 (some false)
 else
 (Option.bind (Z0e i) fun x8 =>
 (Option.bind (Z7 x8 ((fun z0 => Z4n z0 ids))) fun x10 =>
 (if x10 = true then
 (some false)
 else
 (Option.bind ((if (i.op_ == 26) = true then
 (some (([] : List Int)))
 else
 (some x8))) fun (j13 : (List Int)) =>
 (if 0 ≤ ((List.length j13 : Int)) ∧ (Int.toNat ((List.length j13 : Int))) ≤ (List.length ([i.a, i.b, i.c])) ∧ (List.length ([i.a, i.b, i.c])) ≤ List.length ([i.a, i.b, i.c]) then
 (Option.bind (Z7 (List.drop (Int.toNat ((List.length j13 : Int))) ([i.a, i.b, i.c])) ((fun z0 => some (Z2q z0)))) fun x18 =>
 (if x18 = true then
 (some false)
 else
 (Option.bind ((if (Z3y i) = true then
 (Option.bind (Z8i i funcs) fun x23 =>
 (some x23))
 else
 (some false))) fun (j21 : Bool) =>
 (some j21))))
 else none))))))
theorem X0e {i : GInst} {ids : Int} {funcs : Int} {r : Bool} (hm : Q3 i ids funcs = some r) : Sim Tryz.prog 72 [.agg (Q1 false i), .one (.int .i64 ids), .one (.int .i64 funcs)] [] (.u (.one (.bool r))) [] := by
 refine fN 57 0 Tryz.func72 [.tmp 6] fun B hB0 => ?_
 unfold Q3 at hm
 refine Wp.seq ?_
 refine X7 ?_
 refine yR ?_
 intro _ hm
 refine W5 ?_
 refine Wp.seq ?_
 refine Wp.seq ?_
 refine V7 (St 57 [(2, vI funcs), (3, vP 0), (4, vP 1), (29, vB ((if (!((Z4 i.op_ 1 27))) = true then true else (decide (((List.length i.args : Int)) > 4) || (decide (((List.length i.args : Int)) > 0) && (i.op_ != 26))))))] [(0, oL 7 (Q1 false i)), (1, oL 1 [.int .i64 ids])] 2) ?_ ?_
 refine yG ?_
 intro _ hm
 refine nO (Z5 (cB (W9 i.op_ 1 27) ?_))
 refine yG ?_
 intro _ hm
 refine gO_s rfl rfl rfl (fun hb2 => ?_) (fun hb2 => ?_)
 refine yG ?_
 intro k1 hm
 refine gO_s rfl rfl rfl (fun hb4 => ?_) (fun hb4 => ?_)
 refine yG ?_
 intro k2 hm
 refine gO_s rfl rfl rfl (fun hb6 => ?_) (fun hb6 => ?_)
 refine yG ?_
 intro _ hm
 exact w_ [0, 1] (.cons rfl rfl (.cons rfl rfl (.cons rfl rfl (.cons (by simp only [hb2, hb4, hb6, BO]; rfl) rfl .nil)))) (.lit rfl rfl (.lit rfl rfl .nil)) (by decide) (hB_0 hB0)
 refine yG ?_
 intro _ hm
 exact w_ [0, 1] (.cons rfl rfl (.cons rfl rfl (.cons rfl rfl (.cons (by simp only [hb2, hb4, hb6, BO]; rfl) rfl .nil)))) (.lit rfl rfl (.lit rfl rfl .nil)) (by decide) (hB_0 hB0)
 refine yG ?_
 intro _ hm
 exact w_ [0, 1] (.cons rfl rfl (.cons rfl rfl (.cons rfl rfl (.cons (by simp only [hb2, hb4, BO]; rfl) rfl .nil)))) (.lit rfl rfl (.lit rfl rfl .nil)) (by decide) (hB_0 hB0)
 refine yG ?_
 intro _ hm
 exact w_ [0, 1] (.cons rfl rfl (.cons rfl rfl (.cons rfl rfl (.cons (by simp only [hb2, BO]; rfl) rfl .nil)))) (.lit rfl rfl (.lit rfl rfl .nil)) (by decide) (hB_0 hB0)
 refine bS hm (fun hb7 hm => ?_) fun hb7 hm => ?_
 refine yG ?_
 intro _ hm
 cases hm
 exact rZ1
 refine yG ?_
 intro _ hm
 refine nO (kW ?_)
 obtain ⟨x8, h9, hm⟩ := Z0 hm
 refine nO (Z5 (cB (Z6r h9) ?_))
 refine yG ?_
 intro _ hm
 refine nO (x_mf (ls := [.ptr () 1 0 0]) rfl ?_)
 obtain ⟨x10, h11, hm⟩ := Z0 hm
 refine nO (Z5 (Z0b (v := .u (.one (.bool x10))) (nobs := []) (oa' := _) (nx' := 3) rfl (a_1 rfl (b_r rfl) (a_1 rfl (b_f (c_c (b_p (cs := [.int .i64 ids]) rfl (c_c (b_s rfl) c_n) rfl) c_n)) a_n)) c_n EntC.h (X5 x8 104 [.ip () [.int .i64 ids]] (fun z0 => Z4n z0 ids) EntC.h rfl (fun z0 y hy => Y6r hy) h11) rfl rfl rfl rfl ?_))
 refine W5 ?_
 refine bS hm (fun hb12 hm => ?_) fun hb12 hm => ?_
 refine yG ?_
 intro _ hm
 cases hm
 exact rZ1
 refine K5 ?_
 refine Wp.seq ?_
 obtain ⟨j13, hj15, hm⟩ := Z0 hm
 refine V7 (St 57 [(2, vI funcs), (3, vP 0), (7, vR 1 (List.length j13))] [(0, oL 7 (Q1 false i)), (1, oM 1 iL j13)] 2) ?_ ?_
 replace hm := hj15
 refine yG ?_
 intro _ hm
 refine bS hm (fun hb14 hm => ?_) fun hb14 hm => ?_
 refine yG ?_
 intro _ hm
 cases hm
 exact (GhB.trans (f_nls (u' := .one (.ref () 3 0 0)) 7 0 1 rfl rfl rfl rfl) (vW [0, 3]))
 refine K5 ?_
 cases hm
 exact vW [0, 2]
 refine yG ?_
 intro _ hm
 refine nO (kM (iL) ([i.a, i.b, i.c]) ?_)
 refine yG ?_
 intro k3 hm
 obtain ⟨h17, hm⟩ := Z9 hm
 refine nO (W4u (l := (Int.toNat ((List.length j13 : Int)))) (h := (List.length ([i.a, i.b, i.c]))) rfl E29 rfl rfl (bd_s rfl h17.1) bd_n h17.2 ?_)
 refine WpO.ghb (W3x 48 ([i.a, i.b, i.c]) (List.drop (Int.toNat ((List.length j13 : Int))) ([i.a, i.b, i.c])) rfl rfl rfl (by simp only [List.length_take, List.length_drop] <;> omega) (by first | rfl | (simp only [Nat.zero_add]; done) | (simp only [Nat.zero_add]; exact List.take_of_length_le (by first | (simp only [List.length_drop] <;> omega) | (simp <;> omega))) | exact List.take_of_length_le (by simp only [List.length_drop, Nat.zero_add] <;> omega))) ?_
 obtain ⟨x18, h19, hm⟩ := Z0 hm
 refine nO (Z5 (Z0b (v := .u (.one (.bool x18))) (nobs := []) (oa' := _) (nx' := 4) rfl (a_1 rfl (b_r rfl) (a_1 rfl (b_f c_n) a_n)) c_n EntC.h (X5 (List.drop (Int.toNat ((List.length j13 : Int))) ([i.a, i.b, i.c])) 105 [] (fun z0 => some (Z2q z0)) EntC.h rfl (fun z0 y hy => by cases hy; exact Y6q z0) h19) rfl rfl rfl rfl ?_))
 refine W5 ?_
 refine bS hm (fun hb20 hm => ?_) fun hb20 hm => ?_
 refine yG ?_
 intro _ hm
 cases hm
 exact rZ1
 refine K5 ?_
 refine Wp.seq ?_
 obtain ⟨j21, hj25, hm⟩ := Z0 hm
 refine V7 (St 57 [(6, vB j21)] [] 0) ?_ ?_
 replace hm := hj25
 refine X7 ?_
 refine nO (kW ?_)
 refine nO (Z5 (cB (Y7t i) ?_))
 refine yG ?_
 intro _ hm
 refine bG1 hm (fun hb22 hm => ?_) fun hb22 hm => ?_
 refine gO_t rfl rfl rfl (kW ?_)
 refine yG ?_
 intro _ hm
 obtain ⟨x23, h24, hm⟩ := Z0 hm
 refine gO_t rfl rfl rfl (Z5 (cB (X1i h24) ?_))
 refine yG ?_
 intro _ hm
 cases hm
 exact vW []
 refine yG ?_
 intro _ hm
 cases hm
 exact vW []
 refine Z2d ?_
 cases hm
 exact rZ1
noncomputable def Z2r (i : GInst) (a : Int) (aq : Int) : Option Bool :=
 (Option.bind (Q3 i a aq) fun x1 =>
 (some ((!x1))))
theorem Y6s {i : GInst} {a : Int} {aq : Int} {r : Bool} (hm : Z2r i a aq = some r) : Sim Tryz.prog 71 [.agg (Q1 false i), .one (.ip () (iL a)), .one (.ip () (iL aq))] [] (.u (.one (.bool r))) [] := by
 refine fN 10 0 Tryz.func71 [.tmp 4] fun B hB0 => ?_
 unfold Z2r at hm
 refine yG ?_
 intro _ hm
 refine nO (kW ?_)
 refine yG ?_
 intro _ hm
 obtain ⟨x1, h2, hm⟩ := Z0 hm
 refine nO (Z5 (cB (X0e h2) ?_))
 refine yG ?_
 intro _ hm
 cases hm
 exact rZ1
noncomputable def V9 (s : List GInst) (f : GInst → Option Bool) : Option Int :=
 (Option.bind (Y6 (fun (st2 : Int) =>
 ((if decide (st2 < ((List.length s : Int))) = true then
 (if 0 ≤ st2 ∧ st2 < (List.length s : Int) then
 (Option.bind (f (at_ s st2)) fun x7 =>
 (if x7 = true then
 (some (Sum.inr ((Sum.inl st2))))
 else
 (if inI (st2 + 1) then
 (some (Sum.inl (st2 + 1)))
 else none)))
 else none)
 else
 (some (Sum.inr ((Sum.inr (())))))) : Option ((Int) ⊕ (Int ⊕ Unit)))) 0) fun (y11 : Int ⊕ Unit) => match y11 with
 | (Sum.inl j3) =>
 (some j3)
 | (Sum.inr j4) =>
 (some ((-1))))
theorem Z4e (s : List GInst) (fi : FuncId) (fc : List (L Unit)) (f : GInst → Option Bool) (hef : Ent Tryz.prog fi) (hcf : CapOk fc) (hsf : ∀ z0 y, f z0 = some y → Sim Tryz.prog fi ([.agg (Q1 false z0)] ++ List.map .one fc) [] (.u (.one (.bool y))) []) {r : Int} (hm : V9 s f = some r) : Sim Tryz.prog 80 [.one (.bs () 7 (List.map (Q1 false) s)), .one (.fn () fi fc)] [] (.u (.one (.int .i64 r))) [] := by
 refine Y2b (N := 19) (k0 := 0) Tryz.func80 rfl rfl rfl rfl (rs := [.tmp 4]) rfl (by simp [Z1, idsL, List.all_cons, hcf.ids]) rfl fun B hB0 => ?_
 unfold V9 at hm
 refine yG ?_
 intro k1 hm
 obtain ⟨y11, hl12, hm⟩ := Z0 hm
 refine J7 hl12 (fun (st2 : Int) => St 19 [(0, .u (.one (.bs () 7 (List.map (Q1 false) s)))), (1, .u (.one (.fn () fi fc))), (7, vI ((List.length s : Int))), (8, vI st2)] [] 0) (fun (y : Int ⊕ Unit) => match y with | (Sum.inl j3) => (.ret, St 19 [(4, vI j3)] [] 0) | (Sum.inr j4) => (.exit 0, St 19 [] [] 0)) (w_ [] (.cons rfl rfl (.cons (by rw [Y0p hcf]; rfl) (Z6c hcf _ _) (.cons rfl rfl (.cons rfl rfl .nil)))) .nil (by decide) (hB_0 hB0)) ?_ (by rintro (_ | _) <;> simp) ?_
 intro st2 x hm
 refine yG ?_
 intro _ hm
 refine bS hm (fun hb5 hm => ?_) fun hb5 hm => ?_
 refine yG ?_
 intro k2 hm
 refine nO (K7 T46 rfl (J0 rfl rfl) rfl ?_)
 obtain ⟨x7, h8, hm⟩ := Z0 hm
 refine nO (Z5 (Z0b (v := .u (.one (.bool x7))) (nobs := []) (oa' := _) (nx' := 0) rfl (a_a rfl (Z8w rfl) a_n) hcf.bor hef (hsf (at_ s st2) x7 h8) rfl rfl rfl rfl ?_))
 refine W5 ?_
 refine bS hm (fun hb9 hm => ?_) fun hb9 hm => ?_
 refine yG ?_
 intro _ hm
 cases hm
 exact ⟨rfl, vW []⟩
 refine yG ?_
 intro k3 hm
 cases hm
 exact ⟨rfl, w_ [] (.cons rfl rfl (.cons (by rw [Y0p hcf]; rfl) (Z6c hcf _ _) (.cons rfl rfl (.cons rfl rfl .nil)))) .nil (by decide) (hB_0 hB0)⟩
 refine V2 ?_
 cases hm
 exact ⟨rfl, vW []⟩
 rcases y11 with j3 | j4 <;> simp only at hm
 cases hm
 exact rZ1
 refine yG ?_
 intro _ hm
 cases hm
 exact rZ1
noncomputable def Y0 (s : List GInst) (f : GInst → Option Bool) : Option Bool :=
 (Option.bind (V9 s f) fun x1 =>
 (some (decide (x1 ≥ 0))))
theorem U8 (s : List GInst) (fi : FuncId) (fc : List (L Unit)) (f : GInst → Option Bool) (hef : Ent Tryz.prog fi) (hcf : CapOk fc) (hsf : ∀ z0 y, f z0 = some y → Sim Tryz.prog fi ([.agg (Q1 false z0)] ++ List.map .one fc) [] (.u (.one (.bool y))) []) {r : Bool} (hm : Y0 s f = some r) : Sim Tryz.prog 41 [.one (.bs () 7 (List.map (Q1 false) s)), .one (.fn () fi fc)] [] (.u (.one (.bool r))) [] := by
 refine Y2b (N := 9) (k0 := 0) Tryz.func41 rfl rfl rfl rfl (rs := [.tmp 4]) rfl (by simp [Z1, idsL, List.all_cons, hcf.ids]) rfl fun B hB0 => ?_
 unfold Y0 at hm
 refine yG ?_
 intro _ hm
 obtain ⟨x1, h2, hm⟩ := Z0 hm
 refine nO (Z5 (Z0b (v := .u (.one (.int .i64 x1))) (nobs := []) (oa' := _) (nx' := 0) rfl (a_1 rfl (b_s rfl) (a_1 rfl (b_f hcf.bor) a_n)) c_n EntC.h (Z4e s fi fc f hef hcf hsf h2) rfl rfl rfl rfl ?_))
 refine yG ?_
 intro _ hm
 cases hm
 exact rZ1
noncomputable def J5 (b : Int) (a : GFunc) : Bool :=
 ((Z4 b 0 (((List.length a.blocks : Int)) - 1)))
theorem Z7x (b : Int) (a : GFunc) : Sim Tryz.prog 108 [.one (.int .i64 b), .one (.ip () (Y1 false a))] [] (.u (.one (.bool ((J5 b a))))) [] := by
 generalize hm : J5 b a = r
 refine fN 10 0 Tryz.func108 [.tmp 3] fun B hB0 => ?_
 unfold J5 at hm
 refine yG ?_
 intro k1 hm
 refine nO (Z5 (cB (W9 b 0 (((List.length a.blocks : Int)) - 1)) ?_))
 refine yG ?_
 intro _ hm
 cases hm
 exact rZ1
end
section
set_option maxHeartbeats 8000000
set_option maxRecDepth 100000
attribute [local irreducible] aopK J8 Wp St WpO
noncomputable def Z1x (f : GFunc) (t : GTerm) (ids : Int) : Option Bool :=
 (if (t.kind == 1) = true then
 (Option.bind ((if inI (ids - 1) then
 (if (Z4 t.a 0 (ids - 1)) = true then
 (if (t.x == 0) = true then
 (some ((t.y == 0)))
 else
 (some false))
 else
 (some false))
 else none)) fun (j2 : Bool) =>
 (some j2))
 else
 (if (t.kind == 2) = true then
 (some (((t.a == 0) && ((J5 t.x f) && (t.y == 0)))))
 else
 (if (t.kind == 3) = true then
 (Option.bind ((if inI (ids - 1) then
 (if (Z4 t.a 0 (ids - 1)) = true then
 (if (J5 t.x f) = true then
 (if (J5 t.y f) = true then
 (some ((t.x != t.y)))
 else
 (some false))
 else
 (some false))
 else
 (some false))
 else none)) fun (j12 : Bool) =>
 (some j12))
 else
 (if (t.kind == 4) = true then
 (some (((t.a == 0) && ((t.x == 0) && (t.y == 0)))))
 else
 (some false)))))
theorem X0d {f : GFunc} {t : GTerm} {ids : Int} {r : Bool} (hm : Z1x f t ids = some r) : Sim Tryz.prog 73 [.agg (Y1 false f), .agg (Y3r t), .one (.int .i64 ids)] [] (.u (.one (.bool r))) [] := by
 refine fN 85 0 Tryz.func73 [.tmp 6] fun B hB0 => ?_
 unfold Z1x at hm
 refine yG ?_
 intro _ hm
 refine nO (x_mf (ls := [.ptr () 0 0 0]) rfl ?_)
 refine yG ?_
 intro _ hm
 refine bS hm (fun hb1 hm => ?_) fun hb1 hm => ?_
 refine Wp.seq ?_
 obtain ⟨j2, hj6, hm⟩ := Z0 hm
 refine V7 (St 85 [(6, vB j2)] [] 0) ?_ ?_
 replace hm := hj6
 refine yG ?_
 intro k1 hm
 refine nO (Z5 (cB (W9 t.a 0 (ids - 1)) ?_))
 refine yG ?_
 intro _ hm
 refine bG1 hm (fun hb4 hm => ?_) fun hb4 hm => ?_
 refine yG ?_
 intro _ hm
 refine bG1 hm (fun hb5 hm => ?_) fun hb5 hm => ?_
 refine yG ?_
 intro _ hm
 cases hm
 exact vW []
 refine yG ?_
 intro _ hm
 cases hm
 exact vW []
 refine yG ?_
 intro _ hm
 cases hm
 exact vW []
 refine Z2d ?_
 cases hm
 exact rZ1
 refine yG ?_
 intro _ hm
 refine bS hm (fun hb7 hm => ?_) fun hb7 hm => ?_
 refine Wp.seq ?_
 refine V7 (St 85 [(6, vB (((t.a == 0) && ((J5 t.x f) && (t.y == 0)))))] [] 0) ?_ ?_
 refine yG ?_
 intro _ hm
 refine gO_s rfl rfl rfl (fun hb9 => ?_) (fun hb9 => ?_)
 refine yG ?_
 intro _ hm
 refine gO_t rfl rfl rfl (Z5 (Z0b (v := .u (.one (.bool ((J5 t.x f))))) (nobs := []) (oa' := _) (nx' := 2) rfl (a_1 rfl (b_s rfl) a_n) (c_c (b_p rfl (Z8w rfl) rfl) c_n) EntC.h (Z7x t.x f) rfl rfl rfl rfl ?_))
 refine yG ?_
 intro _ hm
 refine gO_s rfl rfl rfl (fun hb10 => ?_) (fun hb10 => ?_)
 refine yG ?_
 intro _ hm
 exact w_ [] (.cons (by simp only [hb9, hb10, BO]; rfl) rfl .nil) .nil (by decide) (hB_0 hB0)
 refine yG ?_
 intro _ hm
 exact w_ [] (.cons (by simp only [hb9, hb10, BO]; rfl) rfl .nil) .nil (by decide) (hB_0 hB0)
 refine yG ?_
 intro _ hm
 exact w_ [] (.cons (by simp only [hb9, BO]; rfl) rfl .nil) .nil (by decide) (hB_0 hB0)
 refine Z2d ?_
 cases hm
 exact rZ1
 refine yG ?_
 intro _ hm
 refine bS hm (fun hb11 hm => ?_) fun hb11 hm => ?_
 refine Wp.seq ?_
 obtain ⟨j12, hj17, hm⟩ := Z0 hm
 refine V7 (St 85 [(6, vB j12)] [] 0) ?_ ?_
 replace hm := hj17
 refine yG ?_
 intro k2 hm
 refine nO (Z5 (cB (W9 t.a 0 (ids - 1)) ?_))
 refine yG ?_
 intro _ hm
 refine bG1 hm (fun hb14 hm => ?_) fun hb14 hm => ?_
 refine yG ?_
 intro _ hm
 refine gO_t rfl rfl rfl (Z5 (Z0b (v := .u (.one (.bool ((J5 t.x f))))) (nobs := []) (oa' := _) (nx' := 2) rfl (a_1 rfl (b_s rfl) a_n) (c_c (b_p rfl (Z8w rfl) rfl) c_n) EntC.h (Z7x t.x f) rfl rfl rfl rfl ?_))
 refine yG ?_
 intro _ hm
 refine bG1 hm (fun hb15 hm => ?_) fun hb15 hm => ?_
 refine yG ?_
 intro _ hm
 refine gO_t rfl rfl rfl (Z5 (Z0b (v := .u (.one (.bool ((J5 t.y f))))) (nobs := []) (oa' := _) (nx' := 2) rfl (a_1 rfl (b_s rfl) a_n) (c_c (b_p rfl (Z8w rfl) rfl) c_n) EntC.h (Z7x t.y f) rfl rfl rfl rfl ?_))
 refine yG ?_
 intro _ hm
 refine bG1 hm (fun hb16 hm => ?_) fun hb16 hm => ?_
 refine yG ?_
 intro _ hm
 cases hm
 exact vW []
 refine yG ?_
 intro _ hm
 cases hm
 exact vW []
 refine yG ?_
 intro _ hm
 cases hm
 exact vW []
 refine yG ?_
 intro _ hm
 cases hm
 exact vW []
 refine Z2d ?_
 cases hm
 exact rZ1
 refine yG ?_
 intro _ hm
 refine bS hm (fun hb18 hm => ?_) fun hb18 hm => ?_
 refine Wp.seq ?_
 refine V7 (St 85 [(6, vB (((t.a == 0) && ((t.x == 0) && (t.y == 0)))))] [] 0) ?_ ?_
 refine yG ?_
 intro _ hm
 refine gO_s rfl rfl rfl (fun hb20 => ?_) (fun hb20 => ?_)
 refine yG ?_
 intro _ hm
 refine gO_s rfl rfl rfl (fun hb21 => ?_) (fun hb21 => ?_)
 refine yG ?_
 intro _ hm
 exact w_ [] (.cons (by simp only [hb20, hb21, BO]; rfl) rfl .nil) .nil (by decide) (hB_0 hB0)
 refine yG ?_
 intro _ hm
 exact w_ [] (.cons (by simp only [hb20, hb21, BO]; rfl) rfl .nil) .nil (by decide) (hB_0 hB0)
 refine yG ?_
 intro _ hm
 exact w_ [] (.cons (by simp only [hb20, BO]; rfl) rfl .nil) .nil (by decide) (hB_0 hB0)
 refine Z2d ?_
 cases hm
 exact rZ1
 refine yG ?_
 intro _ hm
 cases hm
 exact rZ1
noncomputable def Z7i (f : GFunc) (funcs : Int) : Option Bool :=
 (Option.bind ((if decide (((List.length f.params : Int)) > 4) = true then
 (some true)
 else
 (if (!((X0 f.ret))) = true then
 (some true)
 else
 (if (!((Z4 ((List.length f.blocks : Int)) 1 10))) = true then
 (some true)
 else
 (Option.bind (Z7 f.params ((fun z0 => some (Z2t z0)))) fun x7 =>
 (some x7)))))) fun (j1 : Bool) =>
 (if j1 = true then
 (some false)
 else
 (Option.bind (Z0j f) fun x11 =>
 (if decide (x11 > 60) = true then
 (some false)
 else
 (Option.bind (Y6 (fun (st15 : Int) =>
 ((if decide (st15 < ((List.length f.blocks : Int))) = true then
 (if 0 ≤ st15 ∧ st15 < (List.length f.blocks : Int) then
 (Option.bind (Y9 ((at_ f.blocks st15).phis) ((fun z0 => Z1f z0 x11))) fun x20 =>
 (if x20 = true then
 (some (Sum.inr ((Sum.inl (())))))
 else
 (Option.bind ((Option.bind (Y0 ((at_ f.blocks st15).insts) ((fun z0 => Z2r z0 x11 funcs))) fun x24 =>
 (if x24 = true then
 (some true)
 else
 (Option.bind (Z1x f (((at_ f.blocks st15).term)) x11) fun x27 =>
 (some ((!x27))))))) fun (j23 : Bool) =>
 (if j23 = true then
 (some (Sum.inr ((Sum.inl (())))))
 else
 (if inI (st15 + 1) then
 (some (Sum.inl (st15 + 1)))
 else none)))))
 else none)
 else
 (some (Sum.inr ((Sum.inr (())))))) : Option ((Int) ⊕ (Unit ⊕ Unit)))) 0) fun (y32 : Unit ⊕ Unit) => match y32 with
 | (Sum.inl j16) =>
 (some false)
 | (Sum.inr j17) =>
 (some true))))))
theorem X0f {f : GFunc} {funcs : Int} {r : Bool} (hm : Z7i f funcs = some r) : Sim Tryz.prog 37 [.agg (Y1 false f), .one (.int .i64 funcs)] [] (.u (.one (.bool r))) [] := by
 refine fN 58 0 Tryz.func37 [.tmp 4] fun B hB0 => ?_
 unfold Z7i at hm
 refine Wp.seq ?_
 refine X7 ?_
 refine yR ?_
 intro _ hm
 refine W5 ?_
 refine Wp.seq ?_
 refine Wp.seq ?_
 obtain ⟨j1, hj9, hm⟩ := Z0 hm
 refine V7 (St 58 [(2, vP 0), (3, vP 1), (29, vB j1)] [(0, oL 3 (Y1 false f)), (1, oL 1 [.int .i64 funcs])] 2) ?_ ?_
 replace hm := hj9
 refine yG ?_
 intro k1 hm
 refine bG0 hm (fun hb3 hm => ?_) fun hb3 hm => ?_
 refine yG ?_
 intro _ hm
 refine gO_t rfl rfl rfl (Z5 (cB (Z1t f.ret) ?_))
 refine yG ?_
 intro _ hm
 refine bG0 hm (fun hb4 hm => ?_) fun hb4 hm => ?_
 refine yG ?_
 intro k2 hm
 refine gO_t rfl rfl rfl (Z5 (cB (W9 ((List.length f.blocks : Int)) 1 10) ?_))
 refine yG ?_
 intro _ hm
 refine bG0 hm (fun hb6 hm => ?_) fun hb6 hm => ?_
 refine yG ?_
 intro _ hm
 obtain ⟨x7, h8, hm⟩ := Z0 hm
 refine gO_t rfl rfl rfl (Z5 (Z0b (v := .u (.one (.bool x7))) (nobs := []) (oa' := _) (nx' := 2) rfl (a_1 rfl (b_s rfl) (a_1 rfl (b_f c_n) a_n)) c_n EntC.h (X5 f.params 67 [] (fun z0 => some (Z2t z0)) EntC.h rfl (fun z0 y hy => by cases hy; exact Y6u z0) h8) rfl rfl rfl rfl ?_))
 refine yG ?_
 intro _ hm
 cases hm
 exact vW [0, 1]
 refine yG ?_
 intro _ hm
 cases hm
 exact vW [0, 1]
 refine yG ?_
 intro _ hm
 cases hm
 exact vW [0, 1]
 refine yG ?_
 intro _ hm
 cases hm
 exact vW [0, 1]
 refine bS hm (fun hb10 hm => ?_) fun hb10 hm => ?_
 refine yG ?_
 intro _ hm
 cases hm
 exact rZ1
 refine yG ?_
 intro _ hm
 refine nO (kW ?_)
 obtain ⟨x11, h12, hm⟩ := Z0 hm
 refine nO (Z5 (cB (Z3r h12) ?_))
 refine yG ?_
 intro _ hm
 refine bS hm (fun hb13 hm => ?_) fun hb13 hm => ?_
 refine yG ?_
 intro _ hm
 cases hm
 exact rZ1
 refine yG ?_
 intro k3 hm
 obtain ⟨y32, hl33, hm⟩ := Z0 hm
 refine J7 hl33 (fun (st15 : Int) => St 58 [(2, vP 0), (3, vP 1), (5, vP 2), (35, .u (.one (.bs () 6 (List.map (W2 false) f.blocks)))), (36, vI ((List.length f.blocks : Int))), (37, vI st15)] [(0, oL 3 (Y1 false f)), (1, oL 1 [.int .i64 funcs]), (2, oL 1 [.int .i64 x11])] 3) (fun (y : Unit ⊕ Unit) => match y with | (Sum.inl j16) => (.ret, St 58 [(4, vB false)] [] 0) | (Sum.inr j17) => (.exit 0, St 58 [] [] 0)) (vW [0, 1, 2]) ?_ (by rintro (_ | _) <;> simp) ?_
 intro st15 x hm
 refine yG ?_
 intro _ hm
 refine bS hm (fun hb18 hm => ?_) fun hb18 hm => ?_
 refine yG ?_
 intro k4 hm
 refine nO (K7 T41 rfl (J0 rfl rfl) rfl ?_)
 refine yG ?_
 intro _ hm
 refine nO (x_mf (ls := [.ptr () 2 0 0]) rfl ?_)
 obtain ⟨x20, h21, hm⟩ := Z0 hm
 refine nO (Z5 (Z0b (v := .u (.one (.bool x20))) (nobs := []) (oa' := _) (nx' := 4) rfl (a_1 rfl (b_s rfl) (a_1 rfl (b_f (c_c (b_p (cs := [.int .i64 x11]) rfl (c_c (b_s rfl) c_n) rfl) c_n)) a_n)) c_n EntC.h (Z0c ((at_ f.blocks st15).phis) 69 [.ip () [.int .i64 x11]] (fun z0 => Z1f z0 x11) EntC.h rfl (fun z0 y hy => Y6t hy) h21) rfl rfl rfl rfl ?_))
 refine W5 ?_
 refine bS hm (fun hb22 hm => ?_) fun hb22 hm => ?_
 refine yG ?_
 intro _ hm
 cases hm
 exact ⟨rfl, vW []⟩
 refine K5 ?_
 refine Wp.seq ?_
 obtain ⟨j23, hj29, hm⟩ := Z0 hm
 refine V7 (St 58 [(2, vP 0), (3, vP 1), (5, vP 2), (35, .u (.one (.bs () 6 (List.map (W2 false) f.blocks)))), (36, vI ((List.length f.blocks : Int))), (37, vI st15), (56, vB j23)] [(0, oL 3 (Y1 false f)), (1, oL 1 [.int .i64 funcs]), (2, oL 1 [.int .i64 x11])] 3) ?_ ?_
 replace hm := hj29
 refine yG ?_
 intro _ hm
 refine nO (x_mf (ls := [.ptr () 2 0 0, .ptr () 1 0 0]) rfl ?_)
 obtain ⟨x24, h25, hm⟩ := Z0 hm
 refine nO (Z5 (Z0b (v := .u (.one (.bool x24))) (nobs := []) (oa' := _) (nx' := 4) rfl (a_1 rfl (b_s rfl) (a_1 rfl (b_f (c_c (b_p (cs := [.int .i64 x11]) rfl (c_c (b_s rfl) c_n) rfl) (c_c (b_p (cs := [.int .i64 funcs]) rfl (c_c (b_s rfl) c_n) rfl) c_n))) a_n)) c_n EntC.h (U8 ((at_ f.blocks st15).insts) 71 [.ip () [.int .i64 x11], .ip () [.int .i64 funcs]] (fun z0 => Z2r z0 x11 funcs) EntC.h rfl (fun z0 y hy => Y6s hy) h25) rfl rfl rfl rfl ?_))
 refine yG ?_
 intro _ hm
 refine bG0 hm (fun hb26 hm => ?_) fun hb26 hm => ?_
 refine gO_t rfl rfl rfl (kW ?_)
 refine yG ?_
 intro _ hm
 refine gO_t rfl rfl rfl (kL (.agg (Y3r (((at_ f.blocks st15).term)))) ?_)
 refine yG ?_
 intro _ hm
 obtain ⟨x27, h28, hm⟩ := Z0 hm
 refine gO_t rfl rfl rfl (Z5 (cB (X0d h28) ?_))
 refine yG ?_
 intro _ hm
 cases hm
 exact vW [0, 1, 2]
 refine yG ?_
 intro _ hm
 cases hm
 exact vW [0, 1, 2]
 refine bS hm (fun hb30 hm => ?_) fun hb30 hm => ?_
 refine yG ?_
 intro _ hm
 cases hm
 exact ⟨rfl, vW []⟩
 refine yG ?_
 intro k5 hm
 cases hm
 exact ⟨rfl, vW [0, 1, 2]⟩
 refine V2 ?_
 cases hm
 exact ⟨rfl, vW []⟩
 rcases y32 with j16 | j17 <;> simp only at hm
 cases hm
 exact rZ1
 refine yG ?_
 intro _ hm
 cases hm
 exact rZ1
noncomputable def Z3p (f : GFunc) (a : Int) : Option Bool :=
 (Option.bind (Z7i f a) fun x1 =>
 (some ((!x1))))
theorem Y5g {f : GFunc} {a : Int} {r : Bool} (hm : Z3p f a = some r) : Sim Tryz.prog 36 [.agg (Y1 false f), .one (.ip () (iL a))] [] (.u (.one (.bool r))) [] := by
 refine fN 8 0 Tryz.func36 [.tmp 3] fun B hB0 => ?_
 unfold Z3p at hm
 refine yG ?_
 intro _ hm
 refine nO (kW ?_)
 refine yG ?_
 intro _ hm
 obtain ⟨x1, h2, hm⟩ := Z0 hm
 refine nO (Z5 (cB (X0f h2) ?_))
 refine yG ?_
 intro _ hm
 cases hm
 exact rZ1
noncomputable def U0 (s : List GFunc) (f : GFunc → Option Bool) : Option Int :=
 (Option.bind (Y6 (fun (st2 : Int) =>
 ((if decide (st2 < ((List.length s : Int))) = true then
 (if 0 ≤ st2 ∧ st2 < (List.length s : Int) then
 (Option.bind (f (at_ s st2)) fun x7 =>
 (if x7 = true then
 (some (Sum.inr ((Sum.inl st2))))
 else
 (if inI (st2 + 1) then
 (some (Sum.inl (st2 + 1)))
 else none)))
 else none)
 else
 (some (Sum.inr ((Sum.inr (())))))) : Option ((Int) ⊕ (Int ⊕ Unit)))) 0) fun (y11 : Int ⊕ Unit) => match y11 with
 | (Sum.inl j3) =>
 (some j3)
 | (Sum.inr j4) =>
 (some ((-1))))
theorem Z4f (s : List GFunc) (fi : FuncId) (fc : List (L Unit)) (f : GFunc → Option Bool) (hef : Ent Tryz.prog fi) (hcf : CapOk fc) (hsf : ∀ z0 y, f z0 = some y → Sim Tryz.prog fi ([.agg (Y1 false z0)] ++ List.map .one fc) [] (.u (.one (.bool y))) []) {r : Int} (hm : U0 s f = some r) : Sim Tryz.prog 65 [.one (.bs () 3 (List.map (Y1 false) s)), .one (.fn () fi fc)] [] (.u (.one (.int .i64 r))) [] := by
 refine Y2b (N := 19) (k0 := 0) Tryz.func65 rfl rfl rfl rfl (rs := [.tmp 4]) rfl (by simp [Z1, idsL, List.all_cons, hcf.ids]) rfl fun B hB0 => ?_
 unfold U0 at hm
 refine yG ?_
 intro k1 hm
 obtain ⟨y11, hl12, hm⟩ := Z0 hm
 refine J7 hl12 (fun (st2 : Int) => St 19 [(0, .u (.one (.bs () 3 (List.map (Y1 false) s)))), (1, .u (.one (.fn () fi fc))), (7, vI ((List.length s : Int))), (8, vI st2)] [] 0) (fun (y : Int ⊕ Unit) => match y with | (Sum.inl j3) => (.ret, St 19 [(4, vI j3)] [] 0) | (Sum.inr j4) => (.exit 0, St 19 [] [] 0)) (w_ [] (.cons rfl rfl (.cons (by rw [Y0p hcf]; rfl) (Z6c hcf _ _) (.cons rfl rfl (.cons rfl rfl .nil)))) .nil (by decide) (hB_0 hB0)) ?_ (by rintro (_ | _) <;> simp) ?_
 intro st2 x hm
 refine yG ?_
 intro _ hm
 refine bS hm (fun hb5 hm => ?_) fun hb5 hm => ?_
 refine yG ?_
 intro k2 hm
 refine nO (K7 T32 rfl (J0 rfl rfl) rfl ?_)
 obtain ⟨x7, h8, hm⟩ := Z0 hm
 refine nO (Z5 (Z0b (v := .u (.one (.bool x7))) (nobs := []) (oa' := _) (nx' := 0) rfl (a_a rfl (Z8w rfl) a_n) hcf.bor hef (hsf (at_ s st2) x7 h8) rfl rfl rfl rfl ?_))
 refine W5 ?_
 refine bS hm (fun hb9 hm => ?_) fun hb9 hm => ?_
 refine yG ?_
 intro _ hm
 cases hm
 exact ⟨rfl, vW []⟩
 refine yG ?_
 intro k3 hm
 cases hm
 exact ⟨rfl, w_ [] (.cons rfl rfl (.cons (by rw [Y0p hcf]; rfl) (Z6c hcf _ _) (.cons rfl rfl (.cons rfl rfl .nil)))) .nil (by decide) (hB_0 hB0)⟩
 refine V2 ?_
 cases hm
 exact ⟨rfl, vW []⟩
 rcases y11 with j3 | j4 <;> simp only at hm
 cases hm
 exact rZ1
 refine yG ?_
 intro _ hm
 cases hm
 exact rZ1
noncomputable def W4 (s : List GFunc) (f : GFunc → Option Bool) : Option Bool :=
 (Option.bind (U0 s f) fun x1 =>
 (some (decide (x1 ≥ 0))))
theorem Z3a (s : List GFunc) (fi : FuncId) (fc : List (L Unit)) (f : GFunc → Option Bool) (hef : Ent Tryz.prog fi) (hcf : CapOk fc) (hsf : ∀ z0 y, f z0 = some y → Sim Tryz.prog fi ([.agg (Y1 false z0)] ++ List.map .one fc) [] (.u (.one (.bool y))) []) {r : Bool} (hm : W4 s f = some r) : Sim Tryz.prog 35 [.one (.bs () 3 (List.map (Y1 false) s)), .one (.fn () fi fc)] [] (.u (.one (.bool r))) [] := by
 refine Y2b (N := 9) (k0 := 0) Tryz.func35 rfl rfl rfl rfl (rs := [.tmp 4]) rfl (by simp [Z1, idsL, List.all_cons, hcf.ids]) rfl fun B hB0 => ?_
 unfold W4 at hm
 refine yG ?_
 intro _ hm
 obtain ⟨x1, h2, hm⟩ := Z0 hm
 refine nO (Z5 (Z0b (v := .u (.one (.int .i64 x1))) (nobs := []) (oa' := _) (nx' := 0) rfl (a_1 rfl (b_s rfl) (a_1 rfl (b_f hcf.bor) a_n)) c_n EntC.h (Z4f s fi fc f hef hcf hsf h2) rfl rfl rfl rfl ?_))
 refine yG ?_
 intro _ hm
 cases hm
 exact rZ1
noncomputable def Z5z (m : GModule) : Option Bool :=
 (Option.bind ((if (Z4 ((List.length m.funcs : Int)) 1 3) = true then
 (Option.bind (W4 m.funcs ((fun z0 => Z3p z0 ((List.length m.funcs : Int))))) fun x4 =>
 (some ((!x4))))
 else
 (some false))) fun (j2 : Bool) =>
 (some j2))
theorem Y7z {m : GModule} {r : Bool} (hm : Z5z m = some r) : Sim Tryz.prog 18 [.agg (Z0f false m)] [] (.u (.one (.bool r))) [] := by
 refine fN 16 0 Tryz.func18 [.tmp 2] fun B hB0 => ?_
 unfold Z5z at hm
 refine Wp.seq ?_
 refine X7 ?_
 refine yR ?_
 intro _ hm
 refine W5 ?_
 refine Wp.seq ?_
 refine X7 ?_
 refine yR ?_
 intro k1 hm
 refine W5 ?_
 refine Wp.seq ?_
 obtain ⟨j2, hj6, hm⟩ := Z0 hm
 refine V7 (St 16 [(2, vB j2)] [] 0) ?_ ?_
 replace hm := hj6
 refine yG ?_
 intro _ hm
 refine nO (Z5 (cB (W9 ((List.length m.funcs : Int)) 1 3) ?_))
 refine yG ?_
 intro _ hm
 refine bG1 hm (fun hb3 hm => ?_) fun hb3 hm => ?_
 refine yG ?_
 intro _ hm
 refine gO_t rfl rfl rfl (x_mf (ls := [.ptr () 1 0 0]) rfl ?_)
 obtain ⟨x4, h5, hm⟩ := Z0 hm
 refine gO_t rfl rfl rfl (Z5 (Z0b (v := .u (.one (.bool x4))) (nobs := []) (oa' := _) (nx' := 2) rfl (a_1 rfl (b_s rfl) (a_1 rfl (b_f (c_c (b_p (cs := [.int .i64 ((List.length m.funcs : Int))]) rfl (c_c (b_s rfl) c_n) rfl) c_n)) a_n)) c_n EntC.h (Z3a m.funcs 36 [.ip () [.int .i64 ((List.length m.funcs : Int))]] (fun z0 => Z3p z0 ((List.length m.funcs : Int))) EntC.h rfl (fun z0 y hy => Y5g hy) h5) rfl rfl rfl rfl ?_))
 refine yG ?_
 intro _ hm
 cases hm
 exact vW []
 refine yG ?_
 intro _ hm
 cases hm
 exact vW []
 refine Z2d ?_
 cases hm
 exact rZ1
noncomputable def W8 (t : GTerm) : List Int :=
 (if (t.kind == 2) = true then
 ([t.x])
 else
 (if (t.kind == 3) = true then
 ([t.x, t.y])
 else
 ([])))
theorem Z8u (t : GTerm) : Sim Tryz.prog 55 [.agg (Y3r t)] [] (.u (.one (.os () 1 (List.map iL ((W8 t)))))) [] := by
 generalize hm : W8 t = r
 refine fN 17 0 Tryz.func55 [.tmp 2] fun B hB0 => ?_
 unfold W8 at hm
 refine yG ?_
 intro _ hm
 refine bS hm (fun hb1 hm => ?_) fun hb1 hm => ?_
 refine yG ?_
 intro _ hm
 refine nO (kM (iL) ([t.x]) ?_)
 refine yG ?_
 intro _ hm
 cases hm
 exact rZ1h (hg := Z3s 0 0 rfl rfl rfl rfl)
 refine yG ?_
 intro _ hm
 refine bS hm (fun hb2 hm => ?_) fun hb2 hm => ?_
 refine yG ?_
 intro _ hm
 refine nO (kM (iL) ([t.x, t.y]) ?_)
 refine yG ?_
 intro _ hm
 cases hm
 exact rZ1h (hg := Z3s 0 0 rfl rfl rfl rfl)
 refine yG ?_
 intro _ hm
 cases hm
 exact rZ1h (hg := f_nl 0 0 1 true rfl rfl rfl)
noncomputable def Q9 (s : List Int) (v : Int) : Option Int :=
 (Option.bind (Y6 (fun (st2 : Int) =>
 ((if decide (st2 < ((List.length s : Int))) = true then
 (if 0 ≤ st2 ∧ st2 < (List.length s : Int) then
 (if (v == (at_ s st2)) = true then
 (some (Sum.inr ((Sum.inl st2))))
 else
 (if inI (st2 + 1) then
 (some (Sum.inl (st2 + 1)))
 else none))
 else none)
 else
 (some (Sum.inr ((Sum.inr (())))))) : Option ((Int) ⊕ (Int ⊕ Unit)))) 0) fun (y9 : Int ⊕ Unit) => match y9 with
 | (Sum.inl j3) =>
 (some j3)
 | (Sum.inr j4) =>
 (some ((-1))))
theorem Z8y {s : List Int} {v : Int} {r : Int} (hm : Q9 s v = some r) : Sim Tryz.prog 120 [.one (.bs () 1 (List.map iL s)), .one (.int .i64 v)] [] (.u (.one (.int .i64 r))) [] := by
 refine fN 19 0 Tryz.func120 [.tmp 4] fun B hB0 => ?_
 unfold Q9 at hm
 refine yG ?_
 intro k1 hm
 obtain ⟨y9, hl10, hm⟩ := Z0 hm
 refine J7 hl10 (fun (st2 : Int) => St 19 [(0, .u (.one (.bs () 1 (List.map iL s)))), (1, vI v), (7, vI ((List.length s : Int))), (8, vI st2)] [] 0) (fun (y : Int ⊕ Unit) => match y with | (Sum.inl j3) => (.ret, St 19 [(4, vI j3)] [] 0) | (Sum.inr j4) => (.exit 0, St 19 [] [] 0)) (vW []) ?_ (by rintro (_ | _) <;> simp) ?_
 intro st2 x hm
 refine yG ?_
 intro _ hm
 refine bS hm (fun hb5 hm => ?_) fun hb5 hm => ?_
 refine yG ?_
 intro k2 hm
 refine bS hm (fun hb7 hm => ?_) fun hb7 hm => ?_
 refine yG ?_
 intro _ hm
 cases hm
 exact ⟨rfl, vW []⟩
 refine yG ?_
 intro k3 hm
 cases hm
 exact ⟨rfl, vW []⟩
 refine V2 ?_
 cases hm
 exact ⟨rfl, vW []⟩
 rcases y9 with j3 | j4 <;> simp only at hm
 cases hm
 exact rZ1
 refine yG ?_
 intro _ hm
 cases hm
 exact rZ1
noncomputable def J1 (s : List Int) (v : Int) : Option Bool :=
 (Option.bind (Q9 s v) fun x1 =>
 (some (decide (x1 ≥ 0))))
theorem Z7r {s : List Int} {v : Int} {r : Bool} (hm : J1 s v = some r) : Sim Tryz.prog 109 [.one (.bs () 1 (List.map iL s)), .one (.int .i64 v)] [] (.u (.one (.bool r))) [] := by
 refine fN 9 0 Tryz.func109 [.tmp 4] fun B hB0 => ?_
 unfold J1 at hm
 refine yG ?_
 intro _ hm
 obtain ⟨x1, h2, hm⟩ := Z0 hm
 refine nO (Z5 (cB (Z8y h2) ?_))
 refine yG ?_
 intro _ hm
 cases hm
 exact rZ1
noncomputable def Z2c (f : GFunc) (b : Int) : Option (List Int) :=
 (Option.bind (Y6 (fun (st2 : (List Int) × Int) =>
 ((if decide (st2.2 < ((List.length f.blocks : Int))) = true then
 (if 0 ≤ st2.2 ∧ st2.2 < (List.length f.blocks : Int) then
 (Option.bind (J1 ((W8 (((at_ f.blocks st2.2).term)))) b) fun x6 =>
 (if x6 = true then
 (if (List.length st2.1 + List.length ([st2.2])) * 8 ≤ 140737488355328 ∧ List.length st2.1 + List.length ([st2.2]) ≤ LIM then
 (if inI (st2.2 + 1) then
 (some (Sum.inl ((st2.1 ++ ([st2.2]), st2.2 + 1))))
 else none)
 else none)
 else
 (if inI (st2.2 + 1) then
 (some (Sum.inl ((st2.1, st2.2 + 1))))
 else none)))
 else none)
 else
 (some (Sum.inr st2.1))) : Option (((List Int) × Int) ⊕ (((List Int)))))) (([] : List Int), 0)) fun (j3 : (List Int)) =>
 (some j3))
theorem Z8t {f : GFunc} {b : Int} {r : List Int} (hm : Z2c f b = some r) : Sim Tryz.prog 74 [.agg (Y1 false f), .one (.int .i64 b)] [] (.u (.one (.os () 1 (List.map iL r)))) [] := by
 refine fN 28 0 Tryz.func74 [.tmp 4] fun B hB0 => ?_
 unfold Z2c at hm
 refine yG ?_
 intro _ hm
 refine nO (kM (iL) (([] : List Int)) ?_)
 refine yG ?_
 intro k1 hm
 obtain ⟨j3, hl13, hm⟩ := Z0 hm
 refine lP hl13 (fun st2 => St 28 [(1, vI b), (5, vR 0 (List.length st2.1)), (10, .u (.one (.bs () 6 (List.map (W2 false) f.blocks)))), (11, vI ((List.length f.blocks : Int))), (12, vI st2.2)] [(0, oM 1 iL st2.1)] 1) (fun j3 => (.exit 0, St 28 [(5, vR 0 (List.length j3))] [(0, oM 1 iL j3)] 1)) (vW [1]) ?_ ?_
 intro st2 x hm
 refine yG ?_
 intro _ hm
 refine bS hm (fun hb4 hm => ?_) fun hb4 hm => ?_
 refine yG ?_
 intro k2 hm
 refine nO (K7 T41 rfl (J0 rfl rfl) rfl ?_)
 refine yG ?_
 intro _ hm
 refine nO (kL (.agg (Y3r (((at_ f.blocks st2.2).term)))) ?_)
 refine nO (Z5 (cB (Z8u (((at_ f.blocks st2.2).term))) ?_))
 refine yG ?_
 intro _ hm
 obtain ⟨x6, h7, hm⟩ := Z0 hm
 refine nO (Z5 (cB (Z7r h7) ?_))
 refine W5 ?_
 refine bS hm (fun hb8 hm => ?_) fun hb8 hm => ?_
 refine yG ?_
 intro _ hm
 refine nO (kM (iL) ([st2.2]) ?_)
 refine yG ?_
 intro k3 hm
 cases hm
 exact ⟨rfl, vW [4]⟩
 refine yG ?_
 intro k4 hm
 cases hm
 exact ⟨rfl, vW [0]⟩
 refine V2 ?_
 cases hm
 exact ⟨rfl, vW [0]⟩
 refine yG ?_
 intro _ hm
 cases hm
 exact rZ1h (hg := Z3s 0 0 rfl rfl rfl rfl)
noncomputable def Z5u (f : GFunc) : Option Bool :=
 (Option.bind ((if (0 : Int) ≤ 0 ∧ 0 < (List.length f.blocks : Int) then
 (if (((List.length ((at_ f.blocks 0).phis) : Int)) == 0) = true then
 (Option.bind (Z2c f 0) fun x5 =>
 (some ((((List.length x5 : Int)) == 0))))
 else
 (some false))
 else none)) fun (j1 : Bool) =>
 (some j1))
theorem Y7v {f : GFunc} {r : Bool} (hm : Z5u f = some r) : Sim Tryz.prog 38 [.agg (Y1 false f)] [] (.u (.one (.bool r))) [] := by
 refine fN 16 0 Tryz.func38 [.tmp 2] fun B hB0 => ?_
 unfold Z5u at hm
 refine Wp.seq ?_
 refine X7 ?_
 refine yR ?_
 intro _ hm
 refine W5 ?_
 refine Wp.seq ?_
 obtain ⟨j1, hj8, hm⟩ := Z0 hm
 refine V7 (St 16 [(2, vB j1)] [] 0) ?_ ?_
 replace hm := hj8
 refine yG ?_
 intro k1 hm
 refine bG1 hm (fun hb4 hm => ?_) fun hb4 hm => ?_
 refine gO_t rfl rfl rfl (kW ?_)
 obtain ⟨x5, h6, hm⟩ := Z0 hm
 refine gO_t rfl rfl rfl (Z5 (cB (Z8t h6) ?_))
 refine yG ?_
 intro k2 hm
 cases hm
 exact vW []
 refine yG ?_
 intro _ hm
 cases hm
 exact vW []
 refine Z2d ?_
 cases hm
 exact rZ1
noncomputable def Z1s (p : GPhi) (a : Int) : Bool :=
 ((((List.length p.ins : Int)) != a))
theorem Y5f (p : GPhi) (a : Int) : Sim Tryz.prog 75 [.agg (ePhi false p), .one (.ip () (iL a))] [] (.u (.one (.bool ((Z1s p a))))) [] := by
 generalize hm : Z1s p a = r
 refine fN 9 0 Tryz.func75 [.tmp 3] fun B hB0 => ?_
 unfold Z1s at hm
 refine yG ?_
 intro k1 hm
 cases hm
 exact rZ1
noncomputable def Z5y (f : GFunc) : Option Bool :=
 (Option.bind (Y6 (fun (st2 : Int) =>
 ((if decide (st2 < ((List.length f.blocks : Int))) = true then
 (if 0 ≤ st2 ∧ st2 < (List.length f.blocks : Int) then
 (Option.bind (Z2c f st2) fun x7 =>
 (Option.bind (Y9 ((at_ f.blocks st2).phis) ((fun z0 => some (Z1s z0 ((List.length x7 : Int)))))) fun x10 =>
 (if x10 = true then
 (some (Sum.inr ((Sum.inl (())))))
 else
 (if inI (st2 + 1) then
 (some (Sum.inl (st2 + 1)))
 else none))))
 else none)
 else
 (some (Sum.inr ((Sum.inr (())))))) : Option ((Int) ⊕ (Unit ⊕ Unit)))) 0) fun (y14 : Unit ⊕ Unit) => match y14 with
 | (Sum.inl j3) =>
 (some false)
 | (Sum.inr j4) =>
 (some true))
theorem Y7y {f : GFunc} {r : Bool} (hm : Z5y f = some r) : Sim Tryz.prog 39 [.agg (Y1 false f)] [] (.u (.one (.bool r))) [] := by
 refine fN 23 0 Tryz.func39 [.tmp 2] fun B hB0 => ?_
 unfold Z5y at hm
 refine yG ?_
 intro k1 hm
 obtain ⟨y14, hl15, hm⟩ := Z0 hm
 refine J7 hl15 (fun (st2 : Int) => St 23 [(1, vP 0), (7, .u (.one (.bs () 6 (List.map (W2 false) f.blocks)))), (8, vI ((List.length f.blocks : Int))), (9, vI st2)] [(0, oL 3 (Y1 false f))] 1) (fun (y : Unit ⊕ Unit) => match y with | (Sum.inl j3) => (.ret, St 23 [(2, vB false)] [] 0) | (Sum.inr j4) => (.exit 0, St 23 [] [] 0)) (vW [0]) ?_ (by rintro (_ | _) <;> simp) ?_
 intro st2 x hm
 refine yG ?_
 intro _ hm
 refine bS hm (fun hb5 hm => ?_) fun hb5 hm => ?_
 refine yG ?_
 intro k2 hm
 refine nO (K7 T41 rfl (J0 rfl rfl) rfl ?_)
 refine yG ?_
 intro _ hm
 refine nO (kW ?_)
 refine yG ?_
 intro _ hm
 obtain ⟨x7, h8, hm⟩ := Z0 hm
 refine nO (Z5 (cB (Z8t h8) ?_))
 refine yG ?_
 intro k3 hm
 refine nO (x_mf (ls := [.ptr () 3 0 0]) rfl ?_)
 obtain ⟨x10, h11, hm⟩ := Z0 hm
 refine nO (Z5 (Z0b (v := .u (.one (.bool x10))) (nobs := []) (oa' := _) (nx' := 4) rfl (a_1 rfl (b_s rfl) (a_1 rfl (b_f (c_c (b_p (cs := [.int .i64 ((List.length x7 : Int))]) rfl (c_c (b_s rfl) c_n) rfl) c_n)) a_n)) c_n EntC.h (Z0c ((at_ f.blocks st2).phis) 75 [.ip () [.int .i64 ((List.length x7 : Int))]] (fun z0 => some (Z1s z0 ((List.length x7 : Int)))) EntC.h rfl (fun z0 y hy => by cases hy; exact Y5f z0 ((List.length x7 : Int))) h11) rfl rfl rfl rfl ?_))
 refine W5 ?_
 refine bS hm (fun hb12 hm => ?_) fun hb12 hm => ?_
 refine yG ?_
 intro _ hm
 cases hm
 exact ⟨rfl, vW []⟩
 refine yG ?_
 intro k4 hm
 cases hm
 exact ⟨rfl, vW [0]⟩
 refine V2 ?_
 cases hm
 exact ⟨rfl, vW []⟩
 rcases y14 with j3 | j4 <;> simp only at hm
 cases hm
 exact rZ1
 refine yG ?_
 intro _ hm
 cases hm
 exact rZ1
noncomputable def Y1p (f : GFunc) (id : Int) : Option Bool :=
 (Option.bind (Z0j f) fun x1 =>
 (if inI (x1 - 1) then
 (some ((Z4 id 0 (x1 - 1))))
 else none))
theorem X3s {f : GFunc} {id : Int} {r : Bool} (hm : Y1p f id = some r) : Sim Tryz.prog 22 [.agg (Y1 false f), .one (.int .i64 id)] [] (.u (.one (.bool r))) [] := by
 refine fN 10 0 Tryz.func22 [.tmp 4] fun B hB0 => ?_
 unfold Y1p at hm
 refine yG ?_
 intro _ hm
 refine nO (kW ?_)
 obtain ⟨x1, h2, hm⟩ := Z0 hm
 refine nO (Z5 (cB (Z3r h2) ?_))
 refine yG ?_
 intro k1 hm
 refine nO (Z5 (cB (W9 id 0 (x1 - 1)) ?_))
 refine yG ?_
 intro _ hm
 cases hm
 exact rZ1
noncomputable def Z0i (f : GFunc) (id : Int) : Option (Int × Int) :=
 (Option.bind (Y1p f id) fun x1 =>
 (if (!x1) = true then
 (some (((-2), 0)))
 else
 (if decide (id < ((List.length f.params : Int))) = true then
 (some (((-1), id)))
 else
 (Option.bind (Y6 (fun (st7 : Int × Int) =>
 ((if decide (st7.1 < ((List.length f.blocks : Int))) = true then
 (if 0 ≤ st7.1 ∧ st7.1 < (List.length f.blocks : Int) then
 (if inI (st7.2 + (((List.length ((at_ f.blocks st7.1).phis) : Int)) + ((List.length ((at_ f.blocks st7.1).insts) : Int)))) then
 (if decide (id < (st7.2 + (((List.length ((at_ f.blocks st7.1).phis) : Int)) + ((List.length ((at_ f.blocks st7.1).insts) : Int))))) = true then
 (some (Sum.inr ((Sum.inl ((st7.1, IntKind.i64.wrap (id - st7.2)))))))
 else
 (if inI (st7.2 + (((List.length ((at_ f.blocks st7.1).phis) : Int)) + ((List.length ((at_ f.blocks st7.1).insts) : Int)))) then
 (if inI (st7.1 + 1) then
 (some (Sum.inl ((st7.1 + 1, st7.2 + (((List.length ((at_ f.blocks st7.1).phis) : Int)) + ((List.length ((at_ f.blocks st7.1).insts) : Int)))))))
 else none)
 else none))
 else none)
 else none)
 else
 (some (Sum.inr ((Sum.inr (())))))) : Option ((Int × Int) ⊕ ((Int × Int) ⊕ Unit)))) (0, (List.length f.params : Int))) fun (y18 : (Int × Int) ⊕ Unit) => match y18 with
 | (Sum.inl j8) =>
 (some ((j8.1, j8.2)))
 | (Sum.inr j9) =>
 (some (((-2), 0)))))))
theorem Z3q {f : GFunc} {id : Int} {r : Int × Int} (hm : Z0i f id = some r) : Sim Tryz.prog 9 [.agg (Y1 false f), .one (.int .i64 id)] [] (.tup [.one (.int .i64 r.1), .one (.int .i64 r.2)]) [] := by
 refine fN 49 0 Tryz.func9 [.tmp 4, .tmp 5] fun B hB0 => ?_
 have fW := trivial
 unfold Z0i at hm
 refine yG ?_
 intro _ hm
 refine nO (kW ?_)
 refine yG ?_
 intro _ hm
 obtain ⟨x1, h2, hm⟩ := Z0 hm
 refine nO (Z5 (cB (X3s h2) ?_))
 refine yG ?_
 intro _ hm
 refine bS hm (fun hb3 hm => ?_) fun hb3 hm => ?_
 refine yG ?_
 intro _ hm
 cases hm
 exact rZt
 refine yG ?_
 intro k1 hm
 refine bS hm (fun hb5 hm => ?_) fun hb5 hm => ?_
 refine yG ?_
 intro _ hm
 cases hm
 exact rZt
 refine yG ?_
 intro k2 hm
 obtain ⟨y18, hl19, hm⟩ := Z0 hm
 refine J7 hl19 (fun (st7 : Int × Int) => St 49 [(1, vI id), (6, vI st7.2), (22, .u (.one (.bs () 6 (List.map (W2 false) f.blocks)))), (23, vI ((List.length f.blocks : Int))), (24, vI st7.1)] [] 0) (fun (y : (Int × Int) ⊕ Unit) => match y with | (Sum.inl j8) => (.ret, St 49 [(4, vI j8.1), (5, vI j8.2)] [] 0) | (Sum.inr j9) => (.exit 0, St 49 [] [] 0)) (vW []) ?_ (by rintro (_ | _) <;> simp) ?_
 intro st7 x hm
 refine yG ?_
 intro _ hm
 refine bS hm (fun hb10 hm => ?_) fun hb10 hm => ?_
 refine yG ?_
 intro k3 hm
 refine nO (K7 T41 rfl (J0 rfl rfl) rfl ?_)
 refine yG ?_
 intro k4 hm
 refine nO (Y3s T3 rfl rfl (by unfold inI; omega) ?_)
 refine yG ?_
 intro k5 hm
 refine bS hm (fun hb15 hm => ?_) fun hb15 hm => ?_
 refine yG ?_
 intro _ hm
 refine nO (Y2g T2 rfl rfl rfl ?_)
 refine yG ?_
 intro _ hm
 cases hm
 exact ⟨rfl, vW []⟩
 refine yG ?_
 intro k6 hm
 cases hm
 exact ⟨rfl, vW []⟩
 refine V2 ?_
 cases hm
 exact ⟨rfl, vW []⟩
 rcases y18 with j8 | j9 <;> simp only at hm
 cases hm
 exact rZt
 refine yG ?_
 intro _ hm
 cases hm
 exact rZt
noncomputable def Z7k (f : GFunc) (id : Int) : Option (GInst × Bool) :=
 (Option.bind (Z0i f id) fun x1 =>
 (Option.bind ((if decide (x1.1 < 0) = true then
 (some true)
 else
 (if 0 ≤ x1.1 ∧ x1.1 < (List.length f.blocks : Int) then
 (some (decide (x1.2 < ((List.length ((at_ f.blocks x1.1).phis) : Int)))))
 else none))) fun (j3 : Bool) =>
 (if j3 = true then
 (some ((({ op_ := 0, w := 0, a := 0, b := 0, c := 0, imm := 0, args := [] } : GInst), false)))
 else
 (if 0 ≤ x1.1 ∧ x1.1 < (List.length f.blocks : Int) then
 (if 0 ≤ x1.1 ∧ x1.1 < (List.length f.blocks : Int) then
 (if 0 ≤ (IntKind.i64.wrap (x1.2 - ((List.length ((at_ f.blocks x1.1).phis) : Int)))) ∧ (IntKind.i64.wrap (x1.2 - ((List.length ((at_ f.blocks x1.1).phis) : Int)))) < (List.length ((at_ f.blocks x1.1).insts) : Int) then
 (some ((({ op_ := (at_ ((at_ f.blocks x1.1).insts) (IntKind.i64.wrap (x1.2 - ((List.length ((at_ f.blocks x1.1).phis) : Int))))).op_, w := (at_ ((at_ f.blocks x1.1).insts) (IntKind.i64.wrap (x1.2 - ((List.length ((at_ f.blocks x1.1).phis) : Int))))).w, a := (at_ ((at_ f.blocks x1.1).insts) (IntKind.i64.wrap (x1.2 - ((List.length ((at_ f.blocks x1.1).phis) : Int))))).a, b := (at_ ((at_ f.blocks x1.1).insts) (IntKind.i64.wrap (x1.2 - ((List.length ((at_ f.blocks x1.1).phis) : Int))))).b, c := (at_ ((at_ f.blocks x1.1).insts) (IntKind.i64.wrap (x1.2 - ((List.length ((at_ f.blocks x1.1).phis) : Int))))).c, imm := (at_ ((at_ f.blocks x1.1).insts) (IntKind.i64.wrap (x1.2 - ((List.length ((at_ f.blocks x1.1).phis) : Int))))).imm, args := (at_ ((at_ f.blocks x1.1).insts) (IntKind.i64.wrap (x1.2 - ((List.length ((at_ f.blocks x1.1).phis) : Int))))).args } : GInst), true)))
 else none)
 else none)
 else none))))
theorem X0i {f : GFunc} {id : Int} {r : GInst × Bool} (hm : Z7k f id = some r) : Sim Tryz.prog 110 [.agg (Y1 false f), .one (.int .i64 id)] [] (.tup [.agg (Q1 false r.1), .one (.bool r.2)]) [] := by
 refine fN 45 0 Tryz.func110 [.cell 4 46, .tmp 5] fun B hB0 => ?_
 have fW := trivial
 unfold Z7k at hm
 refine yG ?_
 intro _ hm
 refine nO (kW ?_)
 refine yG ?_
 intro _ hm
 obtain ⟨x1, h2, hm⟩ := Z0 hm
 refine nO (Z5 (cB (Z3q h2) ?_))
 refine yR ?_
 intro _ hm
 refine W5 ?_
 refine Wp.seq ?_
 refine Wp.seq ?_
 obtain ⟨j3, hj7, hm⟩ := Z0 hm
 refine V7 (St 45 [(2, vP 0), (4, vP 1), (6, vI x1.1), (7, vI x1.2), (26, vB j3)] [(0, oL 3 (Y1 false f)), (1, oL 7 [.int .i64 0, .int .i64 0, .int .i64 0, .int .i64 0, .int .i64 0, .int .i64 0, .nl])] 2) ?_ ?_
 replace hm := hj7
 refine yG ?_
 intro _ hm
 refine bG0 hm (fun hb4 hm => ?_) fun hb4 hm => ?_
 refine yG ?_
 intro k1 hm
 cases hm
 exact vW [0, 1]
 refine yG ?_
 intro _ hm
 cases hm
 exact vW [0, 1]
 refine bS hm (fun hb8 hm => ?_) fun hb8 hm => ?_
 refine yG ?_
 intro _ hm
 cases hm
 exact rZth (hg := f_nl 0 6 1 false rfl rfl rfl)
 refine K5 ?_
 refine Wp.seq ?_
 refine Z4t (Y := sysC _) Z4j ?_
 refine tK 0 1 rfl (kF ?_)
 refine tK 1 1 rfl (kD ?_)
 refine tK 2 0 rfl (kV ?_)
 obtain ⟨h9, hm⟩ := Z9 hm
 refine tK 3 0 rfl (Z8m E30 rfl rfl h9 ?_)
 refine tK 4 0 rfl (Y5x W6y rfl ?_)
 refine tK 5 0 rfl (K7 T37 rfl rfl rfl ?_)
 refine tK 6 0 rfl (kV ?_)
 refine tK 7 1 rfl (kF ?_)
 refine tK 8 1 rfl (kD ?_)
 refine tK 9 0 rfl (kV ?_)
 obtain ⟨h10, hm⟩ := Z9 hm
 refine tK 10 0 rfl (Z8m E30 rfl rfl h10 ?_)
 refine tK 11 0 rfl (Y5x X7q rfl ?_)
 refine tK 12 0 rfl (K7 T36 rfl rfl rfl ?_)
 refine tK 13 0 rfl (Y5w N36 rfl fun hL11 => ?_)
 refine tK 14 0 rfl (Y2g T2 rfl rfl rfl ?_)
 obtain ⟨h12, hm⟩ := Z9 hm
 refine tK 15 0 rfl (Z8m E37 rfl rfl h12 ?_)
 refine tK 16 0 rfl (K7 T46 rfl (J0 rfl rfl) rfl ?_)
 refine oK 17 rfl (kS ?_)
 refine tK 18 0 rfl (x_as rfl rfl ?_)
 refine aN ?_
 refine Z2d ?_
 cases hm
 exact rZt
noncomputable def Z1z (op_ : Int) (w : Int) : Int :=
 (if ((!((U3 op_))) || (!((X0 w)))) = true then
 0
 else
 (if decide (op_ ≥ 14) = true then
 1
 else
 w))
theorem Y3q (op_ : Int) (w : Int) : Sim Tryz.prog 121 [.one (.int .i64 op_), .one (.int .i64 w)] [] (.u (.one (.int .i64 ((Z1z op_ w))))) [] := by
 generalize hm : Z1z op_ w = r
 refine fN 18 0 Tryz.func121 [.tmp 4] fun B hB0 => ?_
 unfold Z1z at hm
 refine Wp.seq ?_
 refine X7 ?_
 refine nO (x_as rfl rfl ?_)
 refine W5 ?_
 refine Wp.seq ?_
 refine Wp.block ?_
 refine Wp.seq ?_
 refine V7 (St 18 [(0, vI op_), (1, vI w), (5, vB (((!((U3 op_))) || (!((X0 w))))))] [] 0) ?_ ?_
 refine yG ?_
 intro _ hm
 refine nO (Z5 (cB (Z5c op_) ?_))
 refine yG ?_
 intro _ hm
 refine gO_s rfl rfl rfl (fun hb2 => ?_) (fun hb2 => ?_)
 refine yG ?_
 intro _ hm
 refine gO_t rfl rfl rfl (Z5 (cB (Z1t w) ?_))
 refine yG ?_
 intro _ hm
 exact w_ [] (.cons rfl rfl (.cons rfl rfl (.cons (by simp only [hb2, BO]; rfl) rfl .nil))) .nil (by decide) (hB_0 hB0)
 refine yG ?_
 intro _ hm
 exact w_ [] (.cons rfl rfl (.cons rfl rfl (.cons (by simp only [hb2, BO]; rfl) rfl .nil))) .nil (by decide) (hB_0 hB0)
 refine bS hm (fun hb3 hm => ?_) fun hb3 hm => ?_
 refine yG ?_
 intro _ hm
 cases hm
 exact rZ1
 refine yG ?_
 intro _ hm
 refine bS hm (fun hb4 hm => ?_) fun hb4 hm => ?_
 refine yG ?_
 intro _ hm
 cases hm
 exact rZ1
 refine yG ?_
 intro _ hm
 cases hm
 exact rZ1
noncomputable def Z3x (i : GInst) : Int :=
 (if (U3 i.op_) = true then
 ((Z1z i.op_ i.w))
 else
 (if ((i.op_ == 24) || (i.op_ == 25)) = true then
 0
 else
 i.w))
theorem Y7s (i : GInst) : Sim Tryz.prog 111 [.agg (Q1 false i)] [] (.u (.one (.int .i64 ((Z3x i))))) [] := by
 generalize hm : Z3x i = r
 refine fN 23 0 Tryz.func111 [.tmp 2] fun B hB0 => ?_
 unfold Z3x at hm
 refine yG ?_
 intro _ hm
 refine nO (Z5 (cB (Z5c i.op_) ?_))
 refine yG ?_
 intro _ hm
 refine bS hm (fun hb1 hm => ?_) fun hb1 hm => ?_
 refine yG ?_
 intro _ hm
 refine nO (Z5 (cB (Y3q i.op_ i.w) ?_))
 refine yG ?_
 intro _ hm
 cases hm
 exact rZ1
 refine Wp.seq ?_
 refine V7 (St 23 [(1, vP 0), (12, vB (((i.op_ == 24) || (i.op_ == 25))))] [(0, oL 7 (Q1 false i))] 1) ?_ ?_
 refine yG ?_
 intro _ hm
 refine gO_s rfl rfl rfl (fun hb3 => ?_) (fun hb3 => ?_)
 refine yG ?_
 intro _ hm
 exact w_ [0] (.cons rfl rfl (.cons (by simp only [hb3, BO]; rfl) rfl .nil)) (.lit rfl rfl .nil) (by decide) (hB_0 hB0)
 refine yG ?_
 intro _ hm
 exact w_ [0] (.cons rfl rfl (.cons (by simp only [hb3, BO]; rfl) rfl .nil)) (.lit rfl rfl .nil) (by decide) (hB_0 hB0)
 refine bS hm (fun hb4 hm => ?_) fun hb4 hm => ?_
 refine yG ?_
 intro _ hm
 cases hm
 exact rZ1
 refine yG ?_
 intro _ hm
 cases hm
 exact rZ1
noncomputable def Q4 (f : GFunc) (id : Int) : Option Int :=
 (Option.bind (Z0i f id) fun x1 =>
 (if (x1.1 == ((-2))) = true then
 (some ((-1)))
 else
 (if (x1.1 == ((-1))) = true then
 (if 0 ≤ x1.2 ∧ x1.2 < (List.length f.params : Int) then
 (some (at_ f.params x1.2))
 else none)
 else
 (if 0 ≤ x1.1 ∧ x1.1 < (List.length f.blocks : Int) then
 (if decide (x1.2 < ((List.length ((at_ f.blocks x1.1).phis) : Int))) = true then
 (if 0 ≤ x1.1 ∧ x1.1 < (List.length f.blocks : Int) then
 (if 0 ≤ x1.2 ∧ x1.2 < (List.length ((at_ f.blocks x1.1).phis) : Int) then
 (some ((at_ ((at_ f.blocks x1.1).phis) x1.2).w))
 else none)
 else none)
 else
 (Option.bind (Z7k f id) fun x11 =>
 (some ((Z3x x11.1)))))
 else none))))
theorem Z1g {f : GFunc} {id : Int} {r : Int} (hm : Q4 f id = some r) : Sim Tryz.prog 77 [.agg (Y1 false f), .one (.int .i64 id)] [] (.u (.one (.int .i64 r))) [] := by
 refine fN 54 0 Tryz.func77 [.tmp 4] fun B hB0 => ?_
 unfold Q4 at hm
 refine yG ?_
 intro _ hm
 refine nO (kW ?_)
 refine yG ?_
 intro _ hm
 obtain ⟨x1, h2, hm⟩ := Z0 hm
 refine nO (Z5 (cB (Z3q h2) ?_))
 refine yG ?_
 intro _ hm
 refine bS hm (fun hb3 hm => ?_) fun hb3 hm => ?_
 refine yG ?_
 intro _ hm
 cases hm
 exact rZ1
 refine yG ?_
 intro _ hm
 refine bS hm (fun hb4 hm => ?_) fun hb4 hm => ?_
 refine yG ?_
 intro k1 hm
 cases hm
 exact rZ1
 refine yG ?_
 intro k2 hm
 refine bS hm (fun hb8 hm => ?_) fun hb8 hm => ?_
 refine yG ?_
 intro k3 hm
 cases hm
 exact rZ1
 refine yG ?_
 intro _ hm
 refine nO (kW ?_)
 refine yG ?_
 intro _ hm
 obtain ⟨x11, h12, hm⟩ := Z0 hm
 refine nO (cG [] (X0i h12) ?_)
 refine yG ?_
 intro _ hm
 refine nO (kW ?_)
 refine nO (Z5 (cB (Y7s x11.1) ?_))
 refine yG ?_
 intro _ hm
 cases hm
 exact rZ1
end
end Go.Proofs.YtaocimmckbhhbaaGreat.AM
