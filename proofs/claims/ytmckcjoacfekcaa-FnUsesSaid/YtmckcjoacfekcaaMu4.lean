import Derived.Test.YtmckcjoacfekcaaMu3
set_option linter.unusedVariables false
set_option linter.unusedSimpArgs false
namespace Go.Proofs.Ytmckcjoacfekcaa.AM
open Go
set_option linter.unusedSimpArgs false
set_option linter.unusedVariables false
/-- laws.big -/
noncomputable def laws_big_m (code : List Int) : Bool :=
  (decide (((List.length code : Int)) > 1048576))
set_option maxHeartbeats 8000000 in
set_option maxRecDepth 100000 in
theorem laws_big_sim (code : List Int) : Sim Try.prog 8 [.one (.bs () 1 (List.map (iK .u8) code))] [] (.u (.one (.bool ((laws_big_m code))))) [] := by
  obtain ⟨r, hm⟩ : ∃ r, laws_big_m code = r := ⟨_, rfl⟩
  rw [hm]
  refine sim_st (N := 6) (k0 := 0) Try.func8 rfl rfl rfl rfl (rs := [.tmp 2]) rfl rfl rfl fun B hB0 => ?_
  unfold laws_big_m at hm
  refine Wp.seq ?_
  refine c_reg (Y := sysA _) ?_
  refine n_ (x_as rfl rfl ?_)
  refine z_ ?_
  refine Wp.seq ?_
  refine c_reg (Y := sysA _) ?_
  refine n_ (x_mv rfl rfl ?_)
  refine n_ (x_lnb N22 rfl fun hL1 => ?_)
  refine n_ (x_bin T3 rfl rfl rfl ?_)
  refine n_ (x_as rfl rfl ?_)
  refine z_ ?_
  refine c_ret ?_
  rw [← hm]
  exact ret0 (us' := [.one (.bool (decide (((List.length code : Int)) > 1048576)))]) rfl (r_tmp rfl rfl rfl r_nil) f_done rfl rfl

/-- spec.l1Open -/
noncomputable def spec_l1Open_m (code : List Int) : Gl1Rd :=
  (({ b := code, p := 0 } : Gl1Rd))
set_option maxHeartbeats 8000000 in
set_option maxRecDepth 100000 in
theorem spec_l1Open_sim (code : List Int) : Sim Try.prog 38 [.one (.bs () 1 (List.map (iK .u8) code))] [] (.u (.one (.ptr () 0 0 0))) [⟨(), 2, [el1Rd false ((spec_l1Open_m code))]⟩] := by
  obtain ⟨r, hm⟩ : ∃ r, spec_l1Open_m code = r := ⟨_, rfl⟩
  rw [hm]
  refine sim_st (N := 6) (k0 := 0) Try.func38 rfl rfl rfl rfl (rs := [.tmp 2]) rfl rfl rfl fun B hB0 => ?_
  unfold spec_l1Open_m at hm
  refine Wp.seq ?_
  refine c_reg (Y := sysA _) ?_
  refine n_ (x_as rfl rfl ?_)
  refine z_ ?_
  refine Wp.seq ?_
  refine c_reg (Y := sysA _) ?_
  refine n_ (x_mv rfl rfl ?_)
  refine n_ (x_bu (cells := (el1Rd false (({ b := code, p := 0 } : Gl1Rd)))) T102 rfl rfl rfl ?_)
  refine n_ (x_bx rfl rfl rfl rfl ?_)
  refine n_ (x_as rfl rfl ?_)
  refine z_ ?_
  refine c_ret ?_
  rw [← hm]
  exact retG (us' := [.one (.ptr () 0 0 0)]) (obs' := [⟨(), 2, [el1Rd false (({ b := code, p := 0 } : Gl1Rd))]⟩]) rfl (r_tmp rfl rfl rfl r_nil) (f_end [0] rfl (h_c rfl h_n) (by decide) rfl rfl hB0 rfl rfl) rfl rfl rfl rfl rfl

/-- (*spec.l1Rd).next -/
noncomputable def spec_l1Rd_next_m (vr : Gl1Rd) : Option (Int × Gl1Rd) :=
  (if decide (vr.p ≥ ((List.length vr.b : Int))) = true then
    (some ((0, vr)))
    else
    (if inI (vr.p + 1) then
      (if inI (((({ b := vr.b, p := vr.p + 1 } : Gl1Rd)).p) - 1) then
        (if 0 ≤ (((({ b := vr.b, p := vr.p + 1 } : Gl1Rd)).p) - 1) ∧ (((({ b := vr.b, p := vr.p + 1 } : Gl1Rd)).p) - 1) < (List.length ((({ b := vr.b, p := vr.p + 1 } : Gl1Rd)).b) : Int) then
          (some ((IntKind.i64.wrap (at_ ((({ b := vr.b, p := vr.p + 1 } : Gl1Rd)).b) (((({ b := vr.b, p := vr.p + 1 } : Gl1Rd)).p) - 1)), ({ b := vr.b, p := vr.p + 1 } : Gl1Rd))))
          else none)
        else none)
      else none))
set_option maxHeartbeats 8000000 in
set_option maxRecDepth 100000 in
theorem spec_l1Rd_next_sim (vr : Gl1Rd) {r : Int × Gl1Rd} (hm : spec_l1Rd_next_m vr = some r) : Sim Try.prog 108 [.one (.ptr () 0 0 0)] [⟨(), 2, [el1Rd false vr]⟩] (.u (.one (.int .i64 r.1))) [⟨(), 2, [el1Rd false r.2]⟩] := by
  refine sim_st (N := 32) (k0 := 1) Try.func108 rfl rfl rfl rfl (rs := [.tmp 2]) rfl rfl rfl fun B hB0 => ?_
  unfold spec_l1Rd_next_m at hm
  refine Wp.seq ?_
  refine c_reg (Y := sysA _) ?_
  refine n_ (x_as rfl rfl ?_)
  refine z_ ?_
  refine Wp.seq ?_
  refine Wp.seq ?_
  refine c_drw (Y := sysC _) mixed ?_
  refine t_ 0 0 rfl (by decide +kernel) (x_mv rfl rfl ?_)
  refine t_ 1 1 rfl (by decide +kernel) (x_ncp rfl rfl rfl ?_)
  refine t_ 2 1 rfl (by decide +kernel) (x_fap rfl F102_1 rfl rfl ?_)
  refine t_ 3 1 rfl (by decide +kernel) (x_ldp rfl T3 rfl rfl rfl rfl rfl ?_)
  refine t_ 4 0 rfl (by decide +kernel) (x_mv rfl rfl ?_)
  refine t_ 5 1 rfl (by decide +kernel) (x_ncp rfl rfl rfl ?_)
  refine t_ 6 1 rfl (by decide +kernel) (x_fap rfl F102_0 rfl rfl ?_)
  refine t_ 7 1 rfl (by decide +kernel) (x_ldp rfl T22 rfl rfl rfl rfl rfl ?_)
  refine t_ 8 0 rfl (by decide +kernel) (x_lnb N22 rfl fun hL1 => ?_)
  refine t_ 9 0 rfl (by decide +kernel) (x_bin T3 rfl rfl rfl ?_)
  refine a_nil (by decide +kernel) ?_
  refine c_s rfl rfl (fun hb2 => ?_) (fun hb2 => ?_)
  · rw [if_pos (show _ = true from hb2)] at hm
    refine Wp.seq ?_
    refine c_reg (Y := sysA _) ?_
    refine n_ (x_as rfl rfl ?_)
    refine z_ ?_
    refine c_ret ?_
    rw [← Option.some.inj hm]
    exact retG (us' := [.one (.int .i64 0)]) (obs' := [⟨(), 2, [el1Rd false vr]⟩]) rfl (r_tmp rfl rfl rfl r_nil) (f_end [0] rfl (h_c rfl h_n) (by decide) rfl rfl hB0 rfl rfl) rfl rfl rfl rfl rfl
  · rw [if_neg (by rw [hb2]; decide)] at hm
    refine c_skip ?_
    refine Wp.seq ?_
    refine c_reg (Y := sysA _) ?_
    refine n_ (x_mv rfl rfl ?_)
    refine n_ (x_ncp rfl rfl rfl ?_)
    refine n_ (x_fap rfl F102_1 rfl rfl ?_)
    refine n_ (x_ldp rfl T3 rfl rfl rfl rfl rfl ?_)
    obtain ⟨h3, hm⟩ := of_ite hm
    refine n_ (x_addc T3 rfl rfl h3 ?_)
    refine n_ (x_ncp rfl rfl rfl ?_)
    refine n_ (x_fap rfl F102_1 rfl rfl ?_)
    refine n_ (x_st T3 (rows := [(el1Rd false (({ b := vr.b, p := vr.p + 1 } : Gl1Rd)))]) rfl rfl rfl rfl rfl rfl rfl rfl ?_)
    refine z_ ?_
    refine Wp.seq ?_
    refine c_drw (Y := sysC _) mixed ?_
    refine t_ 0 0 rfl (by decide +kernel) (x_mv rfl rfl ?_)
    refine t_ 1 1 rfl (by decide +kernel) (x_ncp rfl rfl rfl ?_)
    refine t_ 2 1 rfl (by decide +kernel) (x_fap rfl F102_0 rfl rfl ?_)
    refine t_ 3 1 rfl (by decide +kernel) (x_ldp rfl T22 rfl rfl rfl rfl rfl ?_)
    refine t_ 4 0 rfl (by decide +kernel) (x_mv rfl rfl ?_)
    refine t_ 5 1 rfl (by decide +kernel) (x_ncp rfl rfl rfl ?_)
    refine t_ 6 1 rfl (by decide +kernel) (x_fap rfl F102_1 rfl rfl ?_)
    refine t_ 7 1 rfl (by decide +kernel) (x_ldp rfl T3 rfl rfl rfl rfl rfl ?_)
    obtain ⟨h4, hm⟩ := of_ite hm
    refine t_ 8 0 rfl (by decide +kernel) (x_subc T3 rfl rfl h4 ?_)
    obtain ⟨h5, hm⟩ := of_ite hm
    refine t_ 9 0 rfl (by decide +kernel) (x_ixb E22 rfl rfl h5 ?_)
    refine t_ 10 0 rfl (by decide +kernel) (x_ldi T5 rfl rfl rfl ?_)
    refine t_ 11 0 rfl (by decide +kernel) (x_cvi T5 T3 rfl rfl ?_)
    refine t_ 12 0 rfl (by decide +kernel) (x_as rfl rfl ?_)
    refine a_nil (by decide +kernel) ?_
    refine c_ret ?_
    rw [← Option.some.inj hm]
    exact retG (us' := [.one (.int .i64 (IntKind.i64.wrap (at_ ((({ b := vr.b, p := vr.p + 1 } : Gl1Rd)).b) (((({ b := vr.b, p := vr.p + 1 } : Gl1Rd)).p) - 1))))]) (obs' := [⟨(), 2, [el1Rd false (({ b := vr.b, p := vr.p + 1 } : Gl1Rd))]⟩]) rfl (r_tmp rfl rfl rfl r_nil) (f_end [0] rfl (h_c rfl h_n) (by decide) rfl rfl hB0 rfl rfl) rfl rfl rfl rfl rfl

/-- (*spec.l1Rd).below -/
noncomputable def spec_l1Rd_below_m (vr : Gl1Rd) (n : Int) : Option (Int × Gl1Rd) :=
  (if decide (n ≤ 1) = true then
    (some ((0, vr)))
    else
    (if decide (n ≤ 256) = true then
      (Option.bind (spec_l1Rd_next_m vr) fun x3 =>
        (if n ≠ 0 then
          (some ((Int.tmod x3.1 n, x3.2)))
          else none))
      else
      (Option.bind (spec_l1Rd_next_m vr) fun x6 =>
        (Option.bind (spec_l1Rd_next_m x6.2) fun x8 =>
          (if n ≠ 0 then
            (some ((Int.tmod (IntKind.i64.wrap ((IntKind.i64.wrap (x6.1 * 256)) + x8.1)) n, x8.2)))
            else none)))))
set_option maxHeartbeats 8000000 in
set_option maxRecDepth 100000 in
theorem spec_l1Rd_below_sim (vr : Gl1Rd) (n : Int) {r : Int × Gl1Rd} (hm : spec_l1Rd_below_m vr n = some r) : Sim Try.prog 76 [.one (.ptr () 0 0 0), .one (.int .i64 n)] [⟨(), 2, [el1Rd false vr]⟩] (.u (.one (.int .i64 r.1))) [⟨(), 2, [el1Rd false r.2]⟩] := by
  refine sim_st (N := 24) (k0 := 1) Try.func76 rfl rfl rfl rfl (rs := [.tmp 4]) rfl rfl rfl fun B hB0 => ?_
  unfold spec_l1Rd_below_m at hm
  refine Wp.seq ?_
  refine c_reg (Y := sysA _) ?_
  refine n_ (x_as rfl rfl ?_)
  refine z_ ?_
  refine Wp.seq ?_
  refine Wp.seq ?_
  refine c_reg (Y := sysA _) ?_
  refine n_ (x_mv rfl rfl ?_)
  refine n_ (x_bin T3 rfl rfl rfl ?_)
  refine z_ ?_
  refine c_s rfl rfl (fun hb1 => ?_) (fun hb1 => ?_)
  · rw [if_pos (show _ = true from hb1)] at hm
    refine Wp.seq ?_
    refine c_reg (Y := sysA _) ?_
    refine n_ (x_as rfl rfl ?_)
    refine z_ ?_
    refine c_ret ?_
    rw [← Option.some.inj hm]
    exact retG (us' := [.one (.int .i64 0)]) (obs' := [⟨(), 2, [el1Rd false vr]⟩]) rfl (r_tmp rfl rfl rfl r_nil) (f_end [0] rfl (h_c rfl h_n) (by decide) rfl rfl hB0 rfl rfl) rfl rfl rfl rfl rfl
  · rw [if_neg (by rw [hb1]; decide)] at hm
    refine c_skip ?_
    refine Wp.seq ?_
    refine Wp.seq ?_
    refine c_reg (Y := sysA _) ?_
    refine n_ (x_mv rfl rfl ?_)
    refine n_ (x_bin T3 rfl rfl rfl ?_)
    refine z_ ?_
    refine c_s rfl rfl (fun hb2 => ?_) (fun hb2 => ?_)
    · rw [if_pos (show _ = true from hb2)] at hm
      refine Wp.seq ?_
      refine c_reg (Y := sysA _) ?_
      refine n_ (x_mv rfl rfl ?_)
      obtain ⟨x3, h4, hm⟩ := of_bind hm
      refine n_ (x_cg (v := .u (.one (.int .i64 x3.1))) (nobs := []) (oa' := _) (nx' := 1) (cs := []) (obs := [⟨(), 2, [el1Rd false vr]⟩]) [0] false rfl (by decide) (h_c rfl h_n) rfl (g_1 (l := .ptr () 0 0 0) rfl rfl rfl g_n) rfl rfl ent108 (spec_l1Rd_next_sim vr h4) (.inl rfl) rfl rfl rfl rfl ?_)
      refine n_ (x_mv rfl rfl ?_)
      obtain ⟨h5, hm⟩ := of_ite hm
      refine n_ (x_rem T3 rfl rfl h5 ?_)
      refine n_ (x_as rfl rfl ?_)
      refine z_ ?_
      refine c_ret ?_
      rw [← Option.some.inj hm]
      exact retG (us' := [.one (.int .i64 (Int.tmod x3.1 n))]) (obs' := [⟨(), 2, [el1Rd false x3.2]⟩]) rfl (r_tmp rfl rfl rfl r_nil) (f_end [0] rfl (h_c rfl h_n) (by decide) rfl rfl hB0 rfl rfl) rfl rfl rfl rfl rfl
    · rw [if_neg (by rw [hb2]; decide)] at hm
      refine c_skip ?_
      refine Wp.seq ?_
      refine c_reg (Y := sysA _) ?_
      refine n_ (x_mv rfl rfl ?_)
      obtain ⟨x6, h7, hm⟩ := of_bind hm
      refine n_ (x_cg (v := .u (.one (.int .i64 x6.1))) (nobs := []) (oa' := _) (nx' := 1) (cs := []) (obs := [⟨(), 2, [el1Rd false vr]⟩]) [0] false rfl (by decide) (h_c rfl h_n) rfl (g_1 (l := .ptr () 0 0 0) rfl rfl rfl g_n) rfl rfl ent108 (spec_l1Rd_next_sim vr h7) (.inl rfl) rfl rfl rfl rfl ?_)
      refine n_ (x_bin T3 rfl rfl rfl ?_)
      refine n_ (x_as rfl rfl ?_)
      refine z_ ?_
      refine Wp.seq ?_
      refine c_reg (Y := sysA _) ?_
      refine n_ (x_mv rfl rfl ?_)
      refine n_ (x_mv rfl rfl ?_)
      obtain ⟨x8, h9, hm⟩ := of_bind hm
      refine n_ (x_cg (v := .u (.one (.int .i64 x8.1))) (nobs := []) (oa' := _) (nx' := 1) (cs := []) (obs := [⟨(), 2, [el1Rd false x6.2]⟩]) [0] false rfl (by decide) (h_c rfl h_n) rfl (g_1 (l := .ptr () 0 0 0) rfl rfl rfl g_n) rfl rfl ent108 (spec_l1Rd_next_sim x6.2 h9) (.inl rfl) rfl rfl rfl rfl ?_)
      refine n_ (x_bin T3 rfl rfl rfl ?_)
      refine n_ (x_as rfl rfl ?_)
      refine z_ ?_
      refine Wp.seq ?_
      refine c_reg (Y := sysA _) ?_
      refine n_ (x_mv rfl rfl ?_)
      refine n_ (x_mv rfl rfl ?_)
      obtain ⟨h10, hm⟩ := of_ite hm
      refine n_ (x_rem T3 rfl rfl h10 ?_)
      refine n_ (x_as rfl rfl ?_)
      refine z_ ?_
      refine c_ret ?_
      rw [← Option.some.inj hm]
      exact retG (us' := [.one (.int .i64 (Int.tmod (IntKind.i64.wrap ((IntKind.i64.wrap (x6.1 * 256)) + x8.1)) n))]) (obs' := [⟨(), 2, [el1Rd false x8.2]⟩]) rfl (r_tmp rfl rfl rfl r_nil) (f_end [0] rfl (h_c rfl h_n) (by decide) rfl rfl hB0 rfl rfl) rfl rfl rfl rfl rfl

/-- (*spec.l1Rd).width -/
noncomputable def spec_l1Rd_width_m (vr : Gl1Rd) : Option (Int × Gl1Rd) :=
  (Option.bind (spec_l1Rd_below_m vr 4) fun x1 =>
    (if 0 ≤ x1.1 ∧ x1.1 < (List.length ([32, 8, 1, 16]) : Int) then
      (some ((at_ ([32, 8, 1, 16]) x1.1, x1.2)))
      else none))
set_option maxHeartbeats 8000000 in
set_option maxRecDepth 100000 in
theorem spec_l1Rd_width_sim (vr : Gl1Rd) {r : Int × Gl1Rd} (hm : spec_l1Rd_width_m vr = some r) : Sim Try.prog 119 [.one (.ptr () 0 0 0)] [⟨(), 2, [el1Rd false vr]⟩] (.u (.one (.int .i64 r.1))) [⟨(), 2, [el1Rd false r.2]⟩] := by
  refine sim_st (N := 8) (k0 := 1) Try.func119 rfl rfl rfl rfl (rs := [.tmp 2]) rfl rfl rfl fun B hB0 => ?_
  unfold spec_l1Rd_width_m at hm
  refine Wp.seq ?_
  refine c_reg (Y := sysA _) ?_
  refine n_ (x_as rfl rfl ?_)
  refine z_ ?_
  refine Wp.seq ?_
  refine c_reg (Y := sysA _) ?_
  refine n_ (x_bsm (enc := iL) ([32, 8, 1, 16]) A24 rfl rfl rfl rfl ?_)
  refine n_ (x_mv rfl rfl ?_)
  obtain ⟨x1, h2, hm⟩ := of_bind hm
  refine n_ (x_cg (v := .u (.one (.int .i64 x1.1))) (nobs := []) (oa' := _) (nx' := 2) (cs := []) (obs := [⟨(), 2, [el1Rd false vr]⟩]) [0] false rfl (by decide) (h_c rfl h_n) rfl (g_1 (l := .ptr () 0 0 0) rfl rfl rfl (g_1 (l := .int .i64 4) rfl rfl rfl g_n)) rfl rfl ent76 (spec_l1Rd_below_sim vr 4 h2) (.inl rfl) rfl rfl rfl rfl ?_)
  obtain ⟨h3, hm⟩ := of_ite hm
  refine n_ (x_ix0 rfl E24 rfl rfl rfl h3 ?_)
  refine n_ (x_ldn rfl T2 rfl rfl h3 rfl rfl ?_)
  refine n_ (x_as rfl rfl ?_)
  refine z_ ?_
  refine c_ret ?_
  rw [← Option.some.inj hm]
  exact retG (us' := [.one (.int .i64 (at_ ([32, 8, 1, 16]) x1.1))]) (obs' := [⟨(), 2, [el1Rd false x1.2]⟩]) rfl (r_tmp rfl rfl rfl r_nil) (f_end [0] rfl (h_c rfl h_n) (by decide) rfl rfl hB0 rfl rfl) rfl rfl rfl rfl rfl

/-- (*spec.l2G).add -/
noncomputable def spec_l2G_add_m (g : Gl2G) (gr : Gl1Rd) (grets : List Int) (gpars : List (List Int)) (w : Int) : Option (Int × Gl2G × Gl1Rd) :=
  (Option.bind ((if (List.length (([] : List Int)) + List.length g.ids) * 8 ≤ 140737488355328 ∧ List.length (([] : List Int)) + List.length g.ids ≤ LIM then
        (if (List.length ((([] : List Int)) ++ g.ids) + List.length ([g.next])) * 8 ≤ 140737488355328 ∧ List.length ((([] : List Int)) ++ g.ids) + List.length ([g.next]) ≤ LIM then
          (some (()))
          else none)
        else none)) fun (j1 : Unit) =>
    (if (List.length (([] : List Int)) + List.length ((({ f := g.f, b := g.b, next := g.next, ids := ((([] : List Int)) ++ g.ids) ++ ([g.next]), ws := g.ws } : Gl2G)).ws)) * 8 ≤ 140737488355328 ∧ List.length (([] : List Int)) + List.length ((({ f := g.f, b := g.b, next := g.next, ids := ((([] : List Int)) ++ g.ids) ++ ([g.next]), ws := g.ws } : Gl2G)).ws) ≤ LIM then
      (if (List.length ((([] : List Int)) ++ ((({ f := g.f, b := g.b, next := g.next, ids := ((([] : List Int)) ++ g.ids) ++ ([g.next]), ws := g.ws } : Gl2G)).ws)) + List.length ([w])) * 8 ≤ 140737488355328 ∧ List.length ((([] : List Int)) ++ ((({ f := g.f, b := g.b, next := g.next, ids := ((([] : List Int)) ++ g.ids) ++ ([g.next]), ws := g.ws } : Gl2G)).ws)) + List.length ([w]) ≤ LIM then
        (if inI (((({ f := g.f, b := g.b, next := g.next, ids := ((([] : List Int)) ++ g.ids) ++ ([g.next]), ws := g.ws } : Gl2G)).next) + 1) then
          (if inI ((((({ f := g.f, b := g.b, next := g.next, ids := ((([] : List Int)) ++ g.ids) ++ ([g.next]), ws := g.ws } : Gl2G)).next) + 1) - 1) then
            (some (((((({ f := g.f, b := g.b, next := g.next, ids := ((([] : List Int)) ++ g.ids) ++ ([g.next]), ws := g.ws } : Gl2G)).next) + 1) - 1, ({ f := ((({ f := g.f, b := g.b, next := g.next, ids := ((([] : List Int)) ++ g.ids) ++ ([g.next]), ws := g.ws } : Gl2G)).f), b := ({ phis := ((({ f := g.f, b := g.b, next := g.next, ids := ((([] : List Int)) ++ g.ids) ++ ([g.next]), ws := g.ws } : Gl2G)).b).phis, insts := ((({ f := g.f, b := g.b, next := g.next, ids := ((([] : List Int)) ++ g.ids) ++ ([g.next]), ws := g.ws } : Gl2G)).b).insts, term := (((({ f := g.f, b := g.b, next := g.next, ids := ((([] : List Int)) ++ g.ids) ++ ([g.next]), ws := g.ws } : Gl2G)).b).term) } : GBlock), next := ((({ f := g.f, b := g.b, next := g.next, ids := ((([] : List Int)) ++ g.ids) ++ ([g.next]), ws := g.ws } : Gl2G)).next) + 1, ids := (({ f := g.f, b := g.b, next := g.next, ids := ((([] : List Int)) ++ g.ids) ++ ([g.next]), ws := g.ws } : Gl2G)).ids, ws := ((([] : List Int)) ++ ((({ f := g.f, b := g.b, next := g.next, ids := ((([] : List Int)) ++ g.ids) ++ ([g.next]), ws := g.ws } : Gl2G)).ws)) ++ ([w]) } : Gl2G), gr)))
            else none)
          else none)
        else none)
      else none))
set_option maxHeartbeats 8000000 in
set_option maxRecDepth 100000 in
theorem spec_l2G_add_sim (g : Gl2G) (gr : Gl1Rd) (grets : List Int) (gpars : List (List Int)) (w : Int) {r : Int × Gl2G × Gl1Rd} (hm : spec_l2G_add_m g gr grets gpars w = some r) : Sim Try.prog 120 [.one (.ptr () 0 0 0), .one (.int .i64 w)] [⟨(), 15, [hl2G (.ptr () 1 0 0) (.ref () 2 0 (List.length grets)) (.ref () 3 0 (List.length gpars)) g]⟩, ⟨(), 2, [el1Rd false gr]⟩, ⟨(), 1, List.map iL grets⟩, ⟨(), 1, List.map (lL false 1 iL) gpars⟩] (.u (.one (.int .i64 r.1))) [⟨(), 15, [hl2G (.ptr () 1 0 0) (.ref () 2 0 (List.length grets)) (.ref () 3 0 (List.length gpars)) r.2.1]⟩, ⟨(), 2, [el1Rd false r.2.2]⟩, ⟨(), 1, List.map iL grets⟩, ⟨(), 1, List.map (lL false 1 iL) gpars⟩] := by
  refine sim_st (N := 44) (k0 := 4) Try.func120 rfl rfl rfl rfl (rs := [.tmp 4]) rfl rfl (by simp only [hl2G, List.all_cons, List.all_nil, knows_map, Bool.and_true, Bool.true_and] <;> rfl) fun B hB0 => ?_
  unfold spec_l2G_add_m at hm
  refine Wp.seq ?_
  refine c_reg (Y := sysA _) ?_
  refine n_ (x_as rfl rfl ?_)
  refine z_ ?_
  refine Wp.seq ?_
  obtain ⟨j1, hj4, hm⟩ := of_bind hm
  refine c_cut (St 44 [(0, .u (.one (.ptr () 0 0 0))), (1, .u (.one (.int .i64 w)))] [(0, some ⟨(), 15, [[.ptr () 1 0 0, .os () 1 (List.map iL (((({ f := g.f, b := g.b, next := g.next, ids := ((([] : List Int)) ++ g.ids) ++ ([g.next]), ws := g.ws } : Gl2G)).f).params)), .int .i64 (((({ f := g.f, b := g.b, next := g.next, ids := ((([] : List Int)) ++ g.ids) ++ ([g.next]), ws := g.ws } : Gl2G)).f).ret), .os () 6 (List.map (eBlock true) (((({ f := g.f, b := g.b, next := g.next, ids := ((([] : List Int)) ++ g.ids) ++ ([g.next]), ws := g.ws } : Gl2G)).f).blocks)), .os () 2 (List.map (ePhi true) (((({ f := g.f, b := g.b, next := g.next, ids := ((([] : List Int)) ++ g.ids) ++ ([g.next]), ws := g.ws } : Gl2G)).b).phis)), .os () 7 (List.map (eInst false) (((({ f := g.f, b := g.b, next := g.next, ids := ((([] : List Int)) ++ g.ids) ++ ([g.next]), ws := g.ws } : Gl2G)).b).insts)), .int .i64 ((((({ f := g.f, b := g.b, next := g.next, ids := ((([] : List Int)) ++ g.ids) ++ ([g.next]), ws := g.ws } : Gl2G)).b).term).kind), .int .i64 ((((({ f := g.f, b := g.b, next := g.next, ids := ((([] : List Int)) ++ g.ids) ++ ([g.next]), ws := g.ws } : Gl2G)).b).term).a), .int .i64 ((((({ f := g.f, b := g.b, next := g.next, ids := ((([] : List Int)) ++ g.ids) ++ ([g.next]), ws := g.ws } : Gl2G)).b).term).x), .int .i64 ((((({ f := g.f, b := g.b, next := g.next, ids := ((([] : List Int)) ++ g.ids) ++ ([g.next]), ws := g.ws } : Gl2G)).b).term).y), .int .i64 ((({ f := g.f, b := g.b, next := g.next, ids := ((([] : List Int)) ++ g.ids) ++ ([g.next]), ws := g.ws } : Gl2G)).next), .bs () 1 (List.map iL ((({ f := g.f, b := g.b, next := g.next, ids := ((([] : List Int)) ++ g.ids) ++ ([g.next]), ws := g.ws } : Gl2G)).ids)), .bs () 1 (List.map iL ((({ f := g.f, b := g.b, next := g.next, ids := ((([] : List Int)) ++ g.ids) ++ ([g.next]), ws := g.ws } : Gl2G)).ws)), .ref () 2 0 (List.length grets), .ref () 3 0 (List.length gpars)]]⟩), (1, some ⟨(), 2, [(el1Rd false gr)]⟩), (2, some ⟨(), 1, List.map iL grets⟩), (3, some ⟨(), 1, List.map (lL false 1 iL) gpars⟩)] 4) ?_ ?_
  · replace hm := hj4
    refine c_drw (Y := sysC _) mixed ?_
    refine t_ 0 0 rfl (by decide +kernel) (x_mv rfl rfl ?_)
    refine t_ 2 0 rfl (by decide +kernel) (x_mv rfl rfl ?_)
    refine t_D 3 1 [4, 5, 6, 12, 13, 14, 15] rfl (by decide +kernel) (x_ncp rfl rfl rfl ?_)
    refine t_D 4 1 [5, 6, 12, 13, 14, 15] rfl (by decide +kernel) (x_fap rfl F135_4 rfl rfl ?_)
    refine t_D 5 1 [6, 12, 13, 14, 15] rfl (by decide +kernel) (x_ldp rfl T24 rfl rfl rfl rfl rfl ?_)
    refine t_ 7 0 rfl (by decide +kernel) (x_mv rfl rfl ?_)
    refine t_2 1 8 rfl rfl (by decide +kernel) ?_ ?_
    · refine (x_bsm (enc := iL) (([] : List Int)) A24 rfl rfl rfl rfl ?_)
      refine t_2 6 8 rfl rfl (by decide +kernel) ?_ ?_
      · obtain ⟨h2, hm⟩ := of_ite hm
        refine (x_apr (enc := iL) (xs := ([] : List Int)) (ys := g.ids) A24 N24 (encB_N _) rfl rfl rfl (argR_b _) h2 ?_)
        refine t_D 8 1 [9, 10, 11, 12, 13, 14, 15] rfl (by decide +kernel) (x_ncp rfl rfl rfl ?_)
        refine t_D 9 1 [10, 11, 12, 13, 14, 15] rfl (by decide +kernel) (x_fap rfl F135_3 rfl rfl ?_)
        refine t_D 10 1 [11, 12, 13, 14, 15] rfl (by decide +kernel) (x_ldp rfl T2 rfl rfl rfl rfl rfl ?_)
        refine o_ 11 rfl (by decide +kernel) (x_bsm (enc := iL) ([g.next]) A24 rfl rfl rfl rfl ?_)
        obtain ⟨h3, hm⟩ := of_ite hm
        refine o_ 12 rfl (by decide +kernel) (x_apr (enc := iL) (xs := (([] : List Int)) ++ g.ids) (ys := [g.next]) A24 N24 (encB_N _) rfl rfl rfl (argR_r rfl) h3 ?_)
        refine t_D 13 1 [14, 15] rfl (by decide +kernel) (x_ncp rfl rfl rfl ?_)
        refine t_ 14 1 rfl (by decide +kernel) (x_fap rfl F135_4 rfl rfl ?_)
        refine o_ 15 rfl (by decide +kernel) (x_st T24 (rows := [[.ptr () 1 0 0, .os () 1 (List.map iL g.f.params), .int .i64 g.f.ret, .os () 6 (List.map (eBlock true) g.f.blocks), .os () 2 (List.map (ePhi true) g.b.phis), .os () 7 (List.map (eInst false) g.b.insts), .int .i64 g.b.term.kind, .int .i64 g.b.term.a, .int .i64 g.b.term.x, .int .i64 g.b.term.y, .int .i64 g.next, .ref () 7 0 (List.length (((([] : List Int)) ++ g.ids) ++ ([g.next]))), .bs () 1 (List.map iL g.ws), .ref () 2 0 (List.length grets), .ref () 3 0 (List.length gpars)]]) rfl rfl rfl rfl rfl rfl rfl rfl ?_)
        refine a_nil (by decide +kernel) ?_
        cases hm
        exact (GhB.trans (f_cl (rows2 := List.map iL (((([] : List Int)) ++ g.ids) ++ ([g.next]))) (rows' := [[.ptr () 1 0 0, .os () 1 (List.map iL g.f.params), .int .i64 g.f.ret, .os () 6 (List.map (eBlock true) g.f.blocks), .os () 2 (List.map (ePhi true) g.b.phis), .os () 7 (List.map (eInst false) g.b.insts), .int .i64 g.b.term.kind, .int .i64 g.b.term.a, .int .i64 g.b.term.x, .int .i64 g.b.term.y, .int .i64 g.next, .os () 1 (List.map iL (((([] : List Int)) ++ g.ids) ++ ([g.next]))), .bs () 1 (List.map iL g.ws), .ref () 2 0 (List.length grets), .ref () 3 0 (List.length gpars)]]) 0 7 0 11 rfl rfl rfl (nest_map (enc := iL) (((([] : List Int)) ++ g.ids) ++ ([g.next]))) rfl rfl (by simp) rfl) ((GhB.trans (f_cb (xs := ((([] : List Int)) ++ g.ids) ++ ([g.next])) (rows' := [[.ptr () 1 0 0, .os () 1 (List.map iL g.f.params), .int .i64 g.f.ret, .os () 6 (List.map (eBlock true) g.f.blocks), .os () 2 (List.map (ePhi true) g.b.phis), .os () 7 (List.map (eInst false) g.b.insts), .int .i64 g.b.term.kind, .int .i64 g.b.term.a, .int .i64 g.b.term.x, .int .i64 g.b.term.y, .int .i64 g.next, .bs () 1 (List.map iL (((([] : List Int)) ++ g.ids) ++ ([g.next]))), .bs () 1 (List.map iL g.ws), .ref () 2 0 (List.length grets), .ref () 3 0 (List.length gpars)]]) 0 0 11 rfl rfl rfl rfl) (w_ [0, 1, 2, 3] (.cons rfl rfl (.cons rfl rfl .nil)) (.lit rfl rfl (.lit rfl rfl (.map rfl (.map rfl .nil)))) (by decide) (hB_n 4 hB0 rfl)))))
      · refine (x_ncp rfl rfl rfl ?_)
        refine t_2 6 9 rfl rfl (by decide +kernel) ?_ ?_
        · obtain ⟨h2, hm⟩ := of_ite hm
          refine (x_apr (enc := iL) (xs := ([] : List Int)) (ys := g.ids) A24 N24 (encB_N _) rfl rfl rfl (argR_b _) h2 ?_)
          refine t_D 9 1 [10, 11, 12, 13, 14, 15] rfl (by decide +kernel) (x_fap rfl F135_3 rfl rfl ?_)
          refine t_D 10 1 [11, 12, 13, 14, 15] rfl (by decide +kernel) (x_ldp rfl T2 rfl rfl rfl rfl rfl ?_)
          refine o_ 11 rfl (by decide +kernel) (x_bsm (enc := iL) ([g.next]) A24 rfl rfl rfl rfl ?_)
          obtain ⟨h3, hm⟩ := of_ite hm
          refine o_ 12 rfl (by decide +kernel) (x_apr (enc := iL) (xs := (([] : List Int)) ++ g.ids) (ys := [g.next]) A24 N24 (encB_N _) rfl rfl rfl (argR_r rfl) h3 ?_)
          refine t_D 13 1 [14, 15] rfl (by decide +kernel) (x_ncp rfl rfl rfl ?_)
          refine t_ 14 1 rfl (by decide +kernel) (x_fap rfl F135_4 rfl rfl ?_)
          refine o_ 15 rfl (by decide +kernel) (x_st T24 (rows := [[.ptr () 1 0 0, .os () 1 (List.map iL g.f.params), .int .i64 g.f.ret, .os () 6 (List.map (eBlock true) g.f.blocks), .os () 2 (List.map (ePhi true) g.b.phis), .os () 7 (List.map (eInst false) g.b.insts), .int .i64 g.b.term.kind, .int .i64 g.b.term.a, .int .i64 g.b.term.x, .int .i64 g.b.term.y, .int .i64 g.next, .ref () 7 0 (List.length (((([] : List Int)) ++ g.ids) ++ ([g.next]))), .bs () 1 (List.map iL g.ws), .ref () 2 0 (List.length grets), .ref () 3 0 (List.length gpars)]]) rfl rfl rfl rfl rfl rfl rfl rfl ?_)
          refine a_nil (by decide +kernel) ?_
          cases hm
          exact (GhB.trans (f_cl (rows2 := List.map iL (((([] : List Int)) ++ g.ids) ++ ([g.next]))) (rows' := [[.ptr () 1 0 0, .os () 1 (List.map iL g.f.params), .int .i64 g.f.ret, .os () 6 (List.map (eBlock true) g.f.blocks), .os () 2 (List.map (ePhi true) g.b.phis), .os () 7 (List.map (eInst false) g.b.insts), .int .i64 g.b.term.kind, .int .i64 g.b.term.a, .int .i64 g.b.term.x, .int .i64 g.b.term.y, .int .i64 g.next, .os () 1 (List.map iL (((([] : List Int)) ++ g.ids) ++ ([g.next]))), .bs () 1 (List.map iL g.ws), .ref () 2 0 (List.length grets), .ref () 3 0 (List.length gpars)]]) 0 7 0 11 rfl rfl rfl (nest_map (enc := iL) (((([] : List Int)) ++ g.ids) ++ ([g.next]))) rfl rfl (by simp) rfl) ((GhB.trans (f_cb (xs := ((([] : List Int)) ++ g.ids) ++ ([g.next])) (rows' := [[.ptr () 1 0 0, .os () 1 (List.map iL g.f.params), .int .i64 g.f.ret, .os () 6 (List.map (eBlock true) g.f.blocks), .os () 2 (List.map (ePhi true) g.b.phis), .os () 7 (List.map (eInst false) g.b.insts), .int .i64 g.b.term.kind, .int .i64 g.b.term.a, .int .i64 g.b.term.x, .int .i64 g.b.term.y, .int .i64 g.next, .bs () 1 (List.map iL (((([] : List Int)) ++ g.ids) ++ ([g.next]))), .bs () 1 (List.map iL g.ws), .ref () 2 0 (List.length grets), .ref () 3 0 (List.length gpars)]]) 0 0 11 rfl rfl rfl rfl) (w_ [0, 1, 2, 3] (.cons rfl rfl (.cons rfl rfl .nil)) (.lit rfl rfl (.lit rfl rfl (.map rfl (.map rfl .nil)))) (by decide) (hB_n 4 hB0 rfl)))))
        · refine (x_fap rfl F135_3 rfl rfl ?_)
          refine t_2 6 10 rfl rfl (by decide +kernel) ?_ ?_
          · obtain ⟨h2, hm⟩ := of_ite hm
            refine (x_apr (enc := iL) (xs := ([] : List Int)) (ys := g.ids) A24 N24 (encB_N _) rfl rfl rfl (argR_b _) h2 ?_)
            refine t_D 10 1 [11, 12, 13, 14, 15] rfl (by decide +kernel) (x_ldp rfl T2 rfl rfl rfl rfl rfl ?_)
            refine o_ 11 rfl (by decide +kernel) (x_bsm (enc := iL) ([g.next]) A24 rfl rfl rfl rfl ?_)
            obtain ⟨h3, hm⟩ := of_ite hm
            refine o_ 12 rfl (by decide +kernel) (x_apr (enc := iL) (xs := (([] : List Int)) ++ g.ids) (ys := [g.next]) A24 N24 (encB_N _) rfl rfl rfl (argR_r rfl) h3 ?_)
            refine t_D 13 1 [14, 15] rfl (by decide +kernel) (x_ncp rfl rfl rfl ?_)
            refine t_ 14 1 rfl (by decide +kernel) (x_fap rfl F135_4 rfl rfl ?_)
            refine o_ 15 rfl (by decide +kernel) (x_st T24 (rows := [[.ptr () 1 0 0, .os () 1 (List.map iL g.f.params), .int .i64 g.f.ret, .os () 6 (List.map (eBlock true) g.f.blocks), .os () 2 (List.map (ePhi true) g.b.phis), .os () 7 (List.map (eInst false) g.b.insts), .int .i64 g.b.term.kind, .int .i64 g.b.term.a, .int .i64 g.b.term.x, .int .i64 g.b.term.y, .int .i64 g.next, .ref () 7 0 (List.length (((([] : List Int)) ++ g.ids) ++ ([g.next]))), .bs () 1 (List.map iL g.ws), .ref () 2 0 (List.length grets), .ref () 3 0 (List.length gpars)]]) rfl rfl rfl rfl rfl rfl rfl rfl ?_)
            refine a_nil (by decide +kernel) ?_
            cases hm
            exact (GhB.trans (f_cl (rows2 := List.map iL (((([] : List Int)) ++ g.ids) ++ ([g.next]))) (rows' := [[.ptr () 1 0 0, .os () 1 (List.map iL g.f.params), .int .i64 g.f.ret, .os () 6 (List.map (eBlock true) g.f.blocks), .os () 2 (List.map (ePhi true) g.b.phis), .os () 7 (List.map (eInst false) g.b.insts), .int .i64 g.b.term.kind, .int .i64 g.b.term.a, .int .i64 g.b.term.x, .int .i64 g.b.term.y, .int .i64 g.next, .os () 1 (List.map iL (((([] : List Int)) ++ g.ids) ++ ([g.next]))), .bs () 1 (List.map iL g.ws), .ref () 2 0 (List.length grets), .ref () 3 0 (List.length gpars)]]) 0 7 0 11 rfl rfl rfl (nest_map (enc := iL) (((([] : List Int)) ++ g.ids) ++ ([g.next]))) rfl rfl (by simp) rfl) ((GhB.trans (f_cb (xs := ((([] : List Int)) ++ g.ids) ++ ([g.next])) (rows' := [[.ptr () 1 0 0, .os () 1 (List.map iL g.f.params), .int .i64 g.f.ret, .os () 6 (List.map (eBlock true) g.f.blocks), .os () 2 (List.map (ePhi true) g.b.phis), .os () 7 (List.map (eInst false) g.b.insts), .int .i64 g.b.term.kind, .int .i64 g.b.term.a, .int .i64 g.b.term.x, .int .i64 g.b.term.y, .int .i64 g.next, .bs () 1 (List.map iL (((([] : List Int)) ++ g.ids) ++ ([g.next]))), .bs () 1 (List.map iL g.ws), .ref () 2 0 (List.length grets), .ref () 3 0 (List.length gpars)]]) 0 0 11 rfl rfl rfl rfl) (w_ [0, 1, 2, 3] (.cons rfl rfl (.cons rfl rfl .nil)) (.lit rfl rfl (.lit rfl rfl (.map rfl (.map rfl .nil)))) (by decide) (hB_n 4 hB0 rfl)))))
          · refine (x_ldp rfl T2 rfl rfl rfl rfl rfl ?_)
            refine t_2 6 11 rfl rfl (by decide +kernel) ?_ ?_
            · obtain ⟨h2, hm⟩ := of_ite hm
              refine (x_apr (enc := iL) (xs := ([] : List Int)) (ys := g.ids) A24 N24 (encB_N _) rfl rfl rfl (argR_b _) h2 ?_)
              refine o_ 11 rfl (by decide +kernel) (x_bsm (enc := iL) ([g.next]) A24 rfl rfl rfl rfl ?_)
              obtain ⟨h3, hm⟩ := of_ite hm
              refine o_ 12 rfl (by decide +kernel) (x_apr (enc := iL) (xs := (([] : List Int)) ++ g.ids) (ys := [g.next]) A24 N24 (encB_N _) rfl rfl rfl (argR_r rfl) h3 ?_)
              refine t_D 13 1 [14, 15] rfl (by decide +kernel) (x_ncp rfl rfl rfl ?_)
              refine t_ 14 1 rfl (by decide +kernel) (x_fap rfl F135_4 rfl rfl ?_)
              refine o_ 15 rfl (by decide +kernel) (x_st T24 (rows := [[.ptr () 1 0 0, .os () 1 (List.map iL g.f.params), .int .i64 g.f.ret, .os () 6 (List.map (eBlock true) g.f.blocks), .os () 2 (List.map (ePhi true) g.b.phis), .os () 7 (List.map (eInst false) g.b.insts), .int .i64 g.b.term.kind, .int .i64 g.b.term.a, .int .i64 g.b.term.x, .int .i64 g.b.term.y, .int .i64 g.next, .ref () 7 0 (List.length (((([] : List Int)) ++ g.ids) ++ ([g.next]))), .bs () 1 (List.map iL g.ws), .ref () 2 0 (List.length grets), .ref () 3 0 (List.length gpars)]]) rfl rfl rfl rfl rfl rfl rfl rfl ?_)
              refine a_nil (by decide +kernel) ?_
              cases hm
              exact (GhB.trans (f_cl (rows2 := List.map iL (((([] : List Int)) ++ g.ids) ++ ([g.next]))) (rows' := [[.ptr () 1 0 0, .os () 1 (List.map iL g.f.params), .int .i64 g.f.ret, .os () 6 (List.map (eBlock true) g.f.blocks), .os () 2 (List.map (ePhi true) g.b.phis), .os () 7 (List.map (eInst false) g.b.insts), .int .i64 g.b.term.kind, .int .i64 g.b.term.a, .int .i64 g.b.term.x, .int .i64 g.b.term.y, .int .i64 g.next, .os () 1 (List.map iL (((([] : List Int)) ++ g.ids) ++ ([g.next]))), .bs () 1 (List.map iL g.ws), .ref () 2 0 (List.length grets), .ref () 3 0 (List.length gpars)]]) 0 7 0 11 rfl rfl rfl (nest_map (enc := iL) (((([] : List Int)) ++ g.ids) ++ ([g.next]))) rfl rfl (by simp) rfl) ((GhB.trans (f_cb (xs := ((([] : List Int)) ++ g.ids) ++ ([g.next])) (rows' := [[.ptr () 1 0 0, .os () 1 (List.map iL g.f.params), .int .i64 g.f.ret, .os () 6 (List.map (eBlock true) g.f.blocks), .os () 2 (List.map (ePhi true) g.b.phis), .os () 7 (List.map (eInst false) g.b.insts), .int .i64 g.b.term.kind, .int .i64 g.b.term.a, .int .i64 g.b.term.x, .int .i64 g.b.term.y, .int .i64 g.next, .bs () 1 (List.map iL (((([] : List Int)) ++ g.ids) ++ ([g.next]))), .bs () 1 (List.map iL g.ws), .ref () 2 0 (List.length grets), .ref () 3 0 (List.length gpars)]]) 0 0 11 rfl rfl rfl rfl) (w_ [0, 1, 2, 3] (.cons rfl rfl (.cons rfl rfl .nil)) (.lit rfl rfl (.lit rfl rfl (.map rfl (.map rfl .nil)))) (by decide) (hB_n 4 hB0 rfl)))))
            · refine (x_bsm (enc := iL) ([g.next]) A24 rfl rfl rfl rfl ?_)
              obtain ⟨h2, hm⟩ := of_ite hm
              refine o_ 6 rfl (by decide +kernel) (x_apr (enc := iL) (xs := ([] : List Int)) (ys := g.ids) A24 N24 (encB_N _) rfl rfl rfl (argR_b _) h2 ?_)
              obtain ⟨h3, hm⟩ := of_ite hm
              refine o_ 12 rfl (by decide +kernel) (x_apr (enc := iL) (xs := (([] : List Int)) ++ g.ids) (ys := [g.next]) A24 N24 (encB_N _) rfl rfl rfl (argR_r rfl) h3 ?_)
              refine t_D 13 1 [14, 15] rfl (by decide +kernel) (x_ncp rfl rfl rfl ?_)
              refine t_ 14 1 rfl (by decide +kernel) (x_fap rfl F135_4 rfl rfl ?_)
              refine o_ 15 rfl (by decide +kernel) (x_st T24 (rows := [[.ptr () 1 0 0, .os () 1 (List.map iL g.f.params), .int .i64 g.f.ret, .os () 6 (List.map (eBlock true) g.f.blocks), .os () 2 (List.map (ePhi true) g.b.phis), .os () 7 (List.map (eInst false) g.b.insts), .int .i64 g.b.term.kind, .int .i64 g.b.term.a, .int .i64 g.b.term.x, .int .i64 g.b.term.y, .int .i64 g.next, .ref () 7 0 (List.length (((([] : List Int)) ++ g.ids) ++ ([g.next]))), .bs () 1 (List.map iL g.ws), .ref () 2 0 (List.length grets), .ref () 3 0 (List.length gpars)]]) rfl rfl rfl rfl rfl rfl rfl rfl ?_)
              refine a_nil (by decide +kernel) ?_
              cases hm
              exact (GhB.trans (f_cl (rows2 := List.map iL (((([] : List Int)) ++ g.ids) ++ ([g.next]))) (rows' := [[.ptr () 1 0 0, .os () 1 (List.map iL g.f.params), .int .i64 g.f.ret, .os () 6 (List.map (eBlock true) g.f.blocks), .os () 2 (List.map (ePhi true) g.b.phis), .os () 7 (List.map (eInst false) g.b.insts), .int .i64 g.b.term.kind, .int .i64 g.b.term.a, .int .i64 g.b.term.x, .int .i64 g.b.term.y, .int .i64 g.next, .os () 1 (List.map iL (((([] : List Int)) ++ g.ids) ++ ([g.next]))), .bs () 1 (List.map iL g.ws), .ref () 2 0 (List.length grets), .ref () 3 0 (List.length gpars)]]) 0 7 0 11 rfl rfl rfl (nest_map (enc := iL) (((([] : List Int)) ++ g.ids) ++ ([g.next]))) rfl rfl (by simp) rfl) ((GhB.trans (f_cb (xs := ((([] : List Int)) ++ g.ids) ++ ([g.next])) (rows' := [[.ptr () 1 0 0, .os () 1 (List.map iL g.f.params), .int .i64 g.f.ret, .os () 6 (List.map (eBlock true) g.f.blocks), .os () 2 (List.map (ePhi true) g.b.phis), .os () 7 (List.map (eInst false) g.b.insts), .int .i64 g.b.term.kind, .int .i64 g.b.term.a, .int .i64 g.b.term.x, .int .i64 g.b.term.y, .int .i64 g.next, .bs () 1 (List.map iL (((([] : List Int)) ++ g.ids) ++ ([g.next]))), .bs () 1 (List.map iL g.ws), .ref () 2 0 (List.length grets), .ref () 3 0 (List.length gpars)]]) 0 0 11 rfl rfl rfl rfl) (w_ [0, 1, 2, 3] (.cons rfl rfl (.cons rfl rfl .nil)) (.lit rfl rfl (.lit rfl rfl (.map rfl (.map rfl .nil)))) (by decide) (hB_n 4 hB0 rfl)))))
    · refine (x_ncp rfl rfl rfl ?_)
      refine t_2 1 9 rfl rfl (by decide +kernel) ?_ ?_
      · refine (x_bsm (enc := iL) (([] : List Int)) A24 rfl rfl rfl rfl ?_)
        refine t_2 6 9 rfl rfl (by decide +kernel) ?_ ?_
        · obtain ⟨h2, hm⟩ := of_ite hm
          refine (x_apr (enc := iL) (xs := ([] : List Int)) (ys := g.ids) A24 N24 (encB_N _) rfl rfl rfl (argR_b _) h2 ?_)
          refine t_D 9 1 [10, 11, 12, 13, 14, 15] rfl (by decide +kernel) (x_fap rfl F135_3 rfl rfl ?_)
          refine t_D 10 1 [11, 12, 13, 14, 15] rfl (by decide +kernel) (x_ldp rfl T2 rfl rfl rfl rfl rfl ?_)
          refine o_ 11 rfl (by decide +kernel) (x_bsm (enc := iL) ([g.next]) A24 rfl rfl rfl rfl ?_)
          obtain ⟨h3, hm⟩ := of_ite hm
          refine o_ 12 rfl (by decide +kernel) (x_apr (enc := iL) (xs := (([] : List Int)) ++ g.ids) (ys := [g.next]) A24 N24 (encB_N _) rfl rfl rfl (argR_r rfl) h3 ?_)
          refine t_D 13 1 [14, 15] rfl (by decide +kernel) (x_ncp rfl rfl rfl ?_)
          refine t_ 14 1 rfl (by decide +kernel) (x_fap rfl F135_4 rfl rfl ?_)
          refine o_ 15 rfl (by decide +kernel) (x_st T24 (rows := [[.ptr () 1 0 0, .os () 1 (List.map iL g.f.params), .int .i64 g.f.ret, .os () 6 (List.map (eBlock true) g.f.blocks), .os () 2 (List.map (ePhi true) g.b.phis), .os () 7 (List.map (eInst false) g.b.insts), .int .i64 g.b.term.kind, .int .i64 g.b.term.a, .int .i64 g.b.term.x, .int .i64 g.b.term.y, .int .i64 g.next, .ref () 7 0 (List.length (((([] : List Int)) ++ g.ids) ++ ([g.next]))), .bs () 1 (List.map iL g.ws), .ref () 2 0 (List.length grets), .ref () 3 0 (List.length gpars)]]) rfl rfl rfl rfl rfl rfl rfl rfl ?_)
          refine a_nil (by decide +kernel) ?_
          cases hm
          exact (GhB.trans (f_cl (rows2 := List.map iL (((([] : List Int)) ++ g.ids) ++ ([g.next]))) (rows' := [[.ptr () 1 0 0, .os () 1 (List.map iL g.f.params), .int .i64 g.f.ret, .os () 6 (List.map (eBlock true) g.f.blocks), .os () 2 (List.map (ePhi true) g.b.phis), .os () 7 (List.map (eInst false) g.b.insts), .int .i64 g.b.term.kind, .int .i64 g.b.term.a, .int .i64 g.b.term.x, .int .i64 g.b.term.y, .int .i64 g.next, .os () 1 (List.map iL (((([] : List Int)) ++ g.ids) ++ ([g.next]))), .bs () 1 (List.map iL g.ws), .ref () 2 0 (List.length grets), .ref () 3 0 (List.length gpars)]]) 0 7 0 11 rfl rfl rfl (nest_map (enc := iL) (((([] : List Int)) ++ g.ids) ++ ([g.next]))) rfl rfl (by simp) rfl) ((GhB.trans (f_cb (xs := ((([] : List Int)) ++ g.ids) ++ ([g.next])) (rows' := [[.ptr () 1 0 0, .os () 1 (List.map iL g.f.params), .int .i64 g.f.ret, .os () 6 (List.map (eBlock true) g.f.blocks), .os () 2 (List.map (ePhi true) g.b.phis), .os () 7 (List.map (eInst false) g.b.insts), .int .i64 g.b.term.kind, .int .i64 g.b.term.a, .int .i64 g.b.term.x, .int .i64 g.b.term.y, .int .i64 g.next, .bs () 1 (List.map iL (((([] : List Int)) ++ g.ids) ++ ([g.next]))), .bs () 1 (List.map iL g.ws), .ref () 2 0 (List.length grets), .ref () 3 0 (List.length gpars)]]) 0 0 11 rfl rfl rfl rfl) (w_ [0, 1, 2, 3] (.cons rfl rfl (.cons rfl rfl .nil)) (.lit rfl rfl (.lit rfl rfl (.map rfl (.map rfl .nil)))) (by decide) (hB_n 4 hB0 rfl)))))
        · refine (x_fap rfl F135_3 rfl rfl ?_)
          refine t_2 6 10 rfl rfl (by decide +kernel) ?_ ?_
          · obtain ⟨h2, hm⟩ := of_ite hm
            refine (x_apr (enc := iL) (xs := ([] : List Int)) (ys := g.ids) A24 N24 (encB_N _) rfl rfl rfl (argR_b _) h2 ?_)
            refine t_D 10 1 [11, 12, 13, 14, 15] rfl (by decide +kernel) (x_ldp rfl T2 rfl rfl rfl rfl rfl ?_)
            refine o_ 11 rfl (by decide +kernel) (x_bsm (enc := iL) ([g.next]) A24 rfl rfl rfl rfl ?_)
            obtain ⟨h3, hm⟩ := of_ite hm
            refine o_ 12 rfl (by decide +kernel) (x_apr (enc := iL) (xs := (([] : List Int)) ++ g.ids) (ys := [g.next]) A24 N24 (encB_N _) rfl rfl rfl (argR_r rfl) h3 ?_)
            refine t_D 13 1 [14, 15] rfl (by decide +kernel) (x_ncp rfl rfl rfl ?_)
            refine t_ 14 1 rfl (by decide +kernel) (x_fap rfl F135_4 rfl rfl ?_)
            refine o_ 15 rfl (by decide +kernel) (x_st T24 (rows := [[.ptr () 1 0 0, .os () 1 (List.map iL g.f.params), .int .i64 g.f.ret, .os () 6 (List.map (eBlock true) g.f.blocks), .os () 2 (List.map (ePhi true) g.b.phis), .os () 7 (List.map (eInst false) g.b.insts), .int .i64 g.b.term.kind, .int .i64 g.b.term.a, .int .i64 g.b.term.x, .int .i64 g.b.term.y, .int .i64 g.next, .ref () 7 0 (List.length (((([] : List Int)) ++ g.ids) ++ ([g.next]))), .bs () 1 (List.map iL g.ws), .ref () 2 0 (List.length grets), .ref () 3 0 (List.length gpars)]]) rfl rfl rfl rfl rfl rfl rfl rfl ?_)
            refine a_nil (by decide +kernel) ?_
            cases hm
            exact (GhB.trans (f_cl (rows2 := List.map iL (((([] : List Int)) ++ g.ids) ++ ([g.next]))) (rows' := [[.ptr () 1 0 0, .os () 1 (List.map iL g.f.params), .int .i64 g.f.ret, .os () 6 (List.map (eBlock true) g.f.blocks), .os () 2 (List.map (ePhi true) g.b.phis), .os () 7 (List.map (eInst false) g.b.insts), .int .i64 g.b.term.kind, .int .i64 g.b.term.a, .int .i64 g.b.term.x, .int .i64 g.b.term.y, .int .i64 g.next, .os () 1 (List.map iL (((([] : List Int)) ++ g.ids) ++ ([g.next]))), .bs () 1 (List.map iL g.ws), .ref () 2 0 (List.length grets), .ref () 3 0 (List.length gpars)]]) 0 7 0 11 rfl rfl rfl (nest_map (enc := iL) (((([] : List Int)) ++ g.ids) ++ ([g.next]))) rfl rfl (by simp) rfl) ((GhB.trans (f_cb (xs := ((([] : List Int)) ++ g.ids) ++ ([g.next])) (rows' := [[.ptr () 1 0 0, .os () 1 (List.map iL g.f.params), .int .i64 g.f.ret, .os () 6 (List.map (eBlock true) g.f.blocks), .os () 2 (List.map (ePhi true) g.b.phis), .os () 7 (List.map (eInst false) g.b.insts), .int .i64 g.b.term.kind, .int .i64 g.b.term.a, .int .i64 g.b.term.x, .int .i64 g.b.term.y, .int .i64 g.next, .bs () 1 (List.map iL (((([] : List Int)) ++ g.ids) ++ ([g.next]))), .bs () 1 (List.map iL g.ws), .ref () 2 0 (List.length grets), .ref () 3 0 (List.length gpars)]]) 0 0 11 rfl rfl rfl rfl) (w_ [0, 1, 2, 3] (.cons rfl rfl (.cons rfl rfl .nil)) (.lit rfl rfl (.lit rfl rfl (.map rfl (.map rfl .nil)))) (by decide) (hB_n 4 hB0 rfl)))))
          · refine (x_ldp rfl T2 rfl rfl rfl rfl rfl ?_)
            refine t_2 6 11 rfl rfl (by decide +kernel) ?_ ?_
            · obtain ⟨h2, hm⟩ := of_ite hm
              refine (x_apr (enc := iL) (xs := ([] : List Int)) (ys := g.ids) A24 N24 (encB_N _) rfl rfl rfl (argR_b _) h2 ?_)
              refine o_ 11 rfl (by decide +kernel) (x_bsm (enc := iL) ([g.next]) A24 rfl rfl rfl rfl ?_)
              obtain ⟨h3, hm⟩ := of_ite hm
              refine o_ 12 rfl (by decide +kernel) (x_apr (enc := iL) (xs := (([] : List Int)) ++ g.ids) (ys := [g.next]) A24 N24 (encB_N _) rfl rfl rfl (argR_r rfl) h3 ?_)
              refine t_D 13 1 [14, 15] rfl (by decide +kernel) (x_ncp rfl rfl rfl ?_)
              refine t_ 14 1 rfl (by decide +kernel) (x_fap rfl F135_4 rfl rfl ?_)
              refine o_ 15 rfl (by decide +kernel) (x_st T24 (rows := [[.ptr () 1 0 0, .os () 1 (List.map iL g.f.params), .int .i64 g.f.ret, .os () 6 (List.map (eBlock true) g.f.blocks), .os () 2 (List.map (ePhi true) g.b.phis), .os () 7 (List.map (eInst false) g.b.insts), .int .i64 g.b.term.kind, .int .i64 g.b.term.a, .int .i64 g.b.term.x, .int .i64 g.b.term.y, .int .i64 g.next, .ref () 7 0 (List.length (((([] : List Int)) ++ g.ids) ++ ([g.next]))), .bs () 1 (List.map iL g.ws), .ref () 2 0 (List.length grets), .ref () 3 0 (List.length gpars)]]) rfl rfl rfl rfl rfl rfl rfl rfl ?_)
              refine a_nil (by decide +kernel) ?_
              cases hm
              exact (GhB.trans (f_cl (rows2 := List.map iL (((([] : List Int)) ++ g.ids) ++ ([g.next]))) (rows' := [[.ptr () 1 0 0, .os () 1 (List.map iL g.f.params), .int .i64 g.f.ret, .os () 6 (List.map (eBlock true) g.f.blocks), .os () 2 (List.map (ePhi true) g.b.phis), .os () 7 (List.map (eInst false) g.b.insts), .int .i64 g.b.term.kind, .int .i64 g.b.term.a, .int .i64 g.b.term.x, .int .i64 g.b.term.y, .int .i64 g.next, .os () 1 (List.map iL (((([] : List Int)) ++ g.ids) ++ ([g.next]))), .bs () 1 (List.map iL g.ws), .ref () 2 0 (List.length grets), .ref () 3 0 (List.length gpars)]]) 0 7 0 11 rfl rfl rfl (nest_map (enc := iL) (((([] : List Int)) ++ g.ids) ++ ([g.next]))) rfl rfl (by simp) rfl) ((GhB.trans (f_cb (xs := ((([] : List Int)) ++ g.ids) ++ ([g.next])) (rows' := [[.ptr () 1 0 0, .os () 1 (List.map iL g.f.params), .int .i64 g.f.ret, .os () 6 (List.map (eBlock true) g.f.blocks), .os () 2 (List.map (ePhi true) g.b.phis), .os () 7 (List.map (eInst false) g.b.insts), .int .i64 g.b.term.kind, .int .i64 g.b.term.a, .int .i64 g.b.term.x, .int .i64 g.b.term.y, .int .i64 g.next, .bs () 1 (List.map iL (((([] : List Int)) ++ g.ids) ++ ([g.next]))), .bs () 1 (List.map iL g.ws), .ref () 2 0 (List.length grets), .ref () 3 0 (List.length gpars)]]) 0 0 11 rfl rfl rfl rfl) (w_ [0, 1, 2, 3] (.cons rfl rfl (.cons rfl rfl .nil)) (.lit rfl rfl (.lit rfl rfl (.map rfl (.map rfl .nil)))) (by decide) (hB_n 4 hB0 rfl)))))
            · refine (x_bsm (enc := iL) ([g.next]) A24 rfl rfl rfl rfl ?_)
              obtain ⟨h2, hm⟩ := of_ite hm
              refine o_ 6 rfl (by decide +kernel) (x_apr (enc := iL) (xs := ([] : List Int)) (ys := g.ids) A24 N24 (encB_N _) rfl rfl rfl (argR_b _) h2 ?_)
              obtain ⟨h3, hm⟩ := of_ite hm
              refine o_ 12 rfl (by decide +kernel) (x_apr (enc := iL) (xs := (([] : List Int)) ++ g.ids) (ys := [g.next]) A24 N24 (encB_N _) rfl rfl rfl (argR_r rfl) h3 ?_)
              refine t_D 13 1 [14, 15] rfl (by decide +kernel) (x_ncp rfl rfl rfl ?_)
              refine t_ 14 1 rfl (by decide +kernel) (x_fap rfl F135_4 rfl rfl ?_)
              refine o_ 15 rfl (by decide +kernel) (x_st T24 (rows := [[.ptr () 1 0 0, .os () 1 (List.map iL g.f.params), .int .i64 g.f.ret, .os () 6 (List.map (eBlock true) g.f.blocks), .os () 2 (List.map (ePhi true) g.b.phis), .os () 7 (List.map (eInst false) g.b.insts), .int .i64 g.b.term.kind, .int .i64 g.b.term.a, .int .i64 g.b.term.x, .int .i64 g.b.term.y, .int .i64 g.next, .ref () 7 0 (List.length (((([] : List Int)) ++ g.ids) ++ ([g.next]))), .bs () 1 (List.map iL g.ws), .ref () 2 0 (List.length grets), .ref () 3 0 (List.length gpars)]]) rfl rfl rfl rfl rfl rfl rfl rfl ?_)
              refine a_nil (by decide +kernel) ?_
              cases hm
              exact (GhB.trans (f_cl (rows2 := List.map iL (((([] : List Int)) ++ g.ids) ++ ([g.next]))) (rows' := [[.ptr () 1 0 0, .os () 1 (List.map iL g.f.params), .int .i64 g.f.ret, .os () 6 (List.map (eBlock true) g.f.blocks), .os () 2 (List.map (ePhi true) g.b.phis), .os () 7 (List.map (eInst false) g.b.insts), .int .i64 g.b.term.kind, .int .i64 g.b.term.a, .int .i64 g.b.term.x, .int .i64 g.b.term.y, .int .i64 g.next, .os () 1 (List.map iL (((([] : List Int)) ++ g.ids) ++ ([g.next]))), .bs () 1 (List.map iL g.ws), .ref () 2 0 (List.length grets), .ref () 3 0 (List.length gpars)]]) 0 7 0 11 rfl rfl rfl (nest_map (enc := iL) (((([] : List Int)) ++ g.ids) ++ ([g.next]))) rfl rfl (by simp) rfl) ((GhB.trans (f_cb (xs := ((([] : List Int)) ++ g.ids) ++ ([g.next])) (rows' := [[.ptr () 1 0 0, .os () 1 (List.map iL g.f.params), .int .i64 g.f.ret, .os () 6 (List.map (eBlock true) g.f.blocks), .os () 2 (List.map (ePhi true) g.b.phis), .os () 7 (List.map (eInst false) g.b.insts), .int .i64 g.b.term.kind, .int .i64 g.b.term.a, .int .i64 g.b.term.x, .int .i64 g.b.term.y, .int .i64 g.next, .bs () 1 (List.map iL (((([] : List Int)) ++ g.ids) ++ ([g.next]))), .bs () 1 (List.map iL g.ws), .ref () 2 0 (List.length grets), .ref () 3 0 (List.length gpars)]]) 0 0 11 rfl rfl rfl rfl) (w_ [0, 1, 2, 3] (.cons rfl rfl (.cons rfl rfl .nil)) (.lit rfl rfl (.lit rfl rfl (.map rfl (.map rfl .nil)))) (by decide) (hB_n 4 hB0 rfl)))))
      · refine (x_fap rfl F135_3 rfl rfl ?_)
        refine t_2 1 10 rfl rfl (by decide +kernel) ?_ ?_
        · refine (x_bsm (enc := iL) (([] : List Int)) A24 rfl rfl rfl rfl ?_)
          refine t_2 6 10 rfl rfl (by decide +kernel) ?_ ?_
          · obtain ⟨h2, hm⟩ := of_ite hm
            refine (x_apr (enc := iL) (xs := ([] : List Int)) (ys := g.ids) A24 N24 (encB_N _) rfl rfl rfl (argR_b _) h2 ?_)
            refine t_D 10 1 [11, 12, 13, 14, 15] rfl (by decide +kernel) (x_ldp rfl T2 rfl rfl rfl rfl rfl ?_)
            refine o_ 11 rfl (by decide +kernel) (x_bsm (enc := iL) ([g.next]) A24 rfl rfl rfl rfl ?_)
            obtain ⟨h3, hm⟩ := of_ite hm
            refine o_ 12 rfl (by decide +kernel) (x_apr (enc := iL) (xs := (([] : List Int)) ++ g.ids) (ys := [g.next]) A24 N24 (encB_N _) rfl rfl rfl (argR_r rfl) h3 ?_)
            refine t_D 13 1 [14, 15] rfl (by decide +kernel) (x_ncp rfl rfl rfl ?_)
            refine t_ 14 1 rfl (by decide +kernel) (x_fap rfl F135_4 rfl rfl ?_)
            refine o_ 15 rfl (by decide +kernel) (x_st T24 (rows := [[.ptr () 1 0 0, .os () 1 (List.map iL g.f.params), .int .i64 g.f.ret, .os () 6 (List.map (eBlock true) g.f.blocks), .os () 2 (List.map (ePhi true) g.b.phis), .os () 7 (List.map (eInst false) g.b.insts), .int .i64 g.b.term.kind, .int .i64 g.b.term.a, .int .i64 g.b.term.x, .int .i64 g.b.term.y, .int .i64 g.next, .ref () 7 0 (List.length (((([] : List Int)) ++ g.ids) ++ ([g.next]))), .bs () 1 (List.map iL g.ws), .ref () 2 0 (List.length grets), .ref () 3 0 (List.length gpars)]]) rfl rfl rfl rfl rfl rfl rfl rfl ?_)
            refine a_nil (by decide +kernel) ?_
            cases hm
            exact (GhB.trans (f_cl (rows2 := List.map iL (((([] : List Int)) ++ g.ids) ++ ([g.next]))) (rows' := [[.ptr () 1 0 0, .os () 1 (List.map iL g.f.params), .int .i64 g.f.ret, .os () 6 (List.map (eBlock true) g.f.blocks), .os () 2 (List.map (ePhi true) g.b.phis), .os () 7 (List.map (eInst false) g.b.insts), .int .i64 g.b.term.kind, .int .i64 g.b.term.a, .int .i64 g.b.term.x, .int .i64 g.b.term.y, .int .i64 g.next, .os () 1 (List.map iL (((([] : List Int)) ++ g.ids) ++ ([g.next]))), .bs () 1 (List.map iL g.ws), .ref () 2 0 (List.length grets), .ref () 3 0 (List.length gpars)]]) 0 7 0 11 rfl rfl rfl (nest_map (enc := iL) (((([] : List Int)) ++ g.ids) ++ ([g.next]))) rfl rfl (by simp) rfl) ((GhB.trans (f_cb (xs := ((([] : List Int)) ++ g.ids) ++ ([g.next])) (rows' := [[.ptr () 1 0 0, .os () 1 (List.map iL g.f.params), .int .i64 g.f.ret, .os () 6 (List.map (eBlock true) g.f.blocks), .os () 2 (List.map (ePhi true) g.b.phis), .os () 7 (List.map (eInst false) g.b.insts), .int .i64 g.b.term.kind, .int .i64 g.b.term.a, .int .i64 g.b.term.x, .int .i64 g.b.term.y, .int .i64 g.next, .bs () 1 (List.map iL (((([] : List Int)) ++ g.ids) ++ ([g.next]))), .bs () 1 (List.map iL g.ws), .ref () 2 0 (List.length grets), .ref () 3 0 (List.length gpars)]]) 0 0 11 rfl rfl rfl rfl) (w_ [0, 1, 2, 3] (.cons rfl rfl (.cons rfl rfl .nil)) (.lit rfl rfl (.lit rfl rfl (.map rfl (.map rfl .nil)))) (by decide) (hB_n 4 hB0 rfl)))))
          · refine (x_ldp rfl T2 rfl rfl rfl rfl rfl ?_)
            refine t_2 6 11 rfl rfl (by decide +kernel) ?_ ?_
            · obtain ⟨h2, hm⟩ := of_ite hm
              refine (x_apr (enc := iL) (xs := ([] : List Int)) (ys := g.ids) A24 N24 (encB_N _) rfl rfl rfl (argR_b _) h2 ?_)
              refine o_ 11 rfl (by decide +kernel) (x_bsm (enc := iL) ([g.next]) A24 rfl rfl rfl rfl ?_)
              obtain ⟨h3, hm⟩ := of_ite hm
              refine o_ 12 rfl (by decide +kernel) (x_apr (enc := iL) (xs := (([] : List Int)) ++ g.ids) (ys := [g.next]) A24 N24 (encB_N _) rfl rfl rfl (argR_r rfl) h3 ?_)
              refine t_D 13 1 [14, 15] rfl (by decide +kernel) (x_ncp rfl rfl rfl ?_)
              refine t_ 14 1 rfl (by decide +kernel) (x_fap rfl F135_4 rfl rfl ?_)
              refine o_ 15 rfl (by decide +kernel) (x_st T24 (rows := [[.ptr () 1 0 0, .os () 1 (List.map iL g.f.params), .int .i64 g.f.ret, .os () 6 (List.map (eBlock true) g.f.blocks), .os () 2 (List.map (ePhi true) g.b.phis), .os () 7 (List.map (eInst false) g.b.insts), .int .i64 g.b.term.kind, .int .i64 g.b.term.a, .int .i64 g.b.term.x, .int .i64 g.b.term.y, .int .i64 g.next, .ref () 7 0 (List.length (((([] : List Int)) ++ g.ids) ++ ([g.next]))), .bs () 1 (List.map iL g.ws), .ref () 2 0 (List.length grets), .ref () 3 0 (List.length gpars)]]) rfl rfl rfl rfl rfl rfl rfl rfl ?_)
              refine a_nil (by decide +kernel) ?_
              cases hm
              exact (GhB.trans (f_cl (rows2 := List.map iL (((([] : List Int)) ++ g.ids) ++ ([g.next]))) (rows' := [[.ptr () 1 0 0, .os () 1 (List.map iL g.f.params), .int .i64 g.f.ret, .os () 6 (List.map (eBlock true) g.f.blocks), .os () 2 (List.map (ePhi true) g.b.phis), .os () 7 (List.map (eInst false) g.b.insts), .int .i64 g.b.term.kind, .int .i64 g.b.term.a, .int .i64 g.b.term.x, .int .i64 g.b.term.y, .int .i64 g.next, .os () 1 (List.map iL (((([] : List Int)) ++ g.ids) ++ ([g.next]))), .bs () 1 (List.map iL g.ws), .ref () 2 0 (List.length grets), .ref () 3 0 (List.length gpars)]]) 0 7 0 11 rfl rfl rfl (nest_map (enc := iL) (((([] : List Int)) ++ g.ids) ++ ([g.next]))) rfl rfl (by simp) rfl) ((GhB.trans (f_cb (xs := ((([] : List Int)) ++ g.ids) ++ ([g.next])) (rows' := [[.ptr () 1 0 0, .os () 1 (List.map iL g.f.params), .int .i64 g.f.ret, .os () 6 (List.map (eBlock true) g.f.blocks), .os () 2 (List.map (ePhi true) g.b.phis), .os () 7 (List.map (eInst false) g.b.insts), .int .i64 g.b.term.kind, .int .i64 g.b.term.a, .int .i64 g.b.term.x, .int .i64 g.b.term.y, .int .i64 g.next, .bs () 1 (List.map iL (((([] : List Int)) ++ g.ids) ++ ([g.next]))), .bs () 1 (List.map iL g.ws), .ref () 2 0 (List.length grets), .ref () 3 0 (List.length gpars)]]) 0 0 11 rfl rfl rfl rfl) (w_ [0, 1, 2, 3] (.cons rfl rfl (.cons rfl rfl .nil)) (.lit rfl rfl (.lit rfl rfl (.map rfl (.map rfl .nil)))) (by decide) (hB_n 4 hB0 rfl)))))
            · refine (x_bsm (enc := iL) ([g.next]) A24 rfl rfl rfl rfl ?_)
              obtain ⟨h2, hm⟩ := of_ite hm
              refine o_ 6 rfl (by decide +kernel) (x_apr (enc := iL) (xs := ([] : List Int)) (ys := g.ids) A24 N24 (encB_N _) rfl rfl rfl (argR_b _) h2 ?_)
              obtain ⟨h3, hm⟩ := of_ite hm
              refine o_ 12 rfl (by decide +kernel) (x_apr (enc := iL) (xs := (([] : List Int)) ++ g.ids) (ys := [g.next]) A24 N24 (encB_N _) rfl rfl rfl (argR_r rfl) h3 ?_)
              refine t_D 13 1 [14, 15] rfl (by decide +kernel) (x_ncp rfl rfl rfl ?_)
              refine t_ 14 1 rfl (by decide +kernel) (x_fap rfl F135_4 rfl rfl ?_)
              refine o_ 15 rfl (by decide +kernel) (x_st T24 (rows := [[.ptr () 1 0 0, .os () 1 (List.map iL g.f.params), .int .i64 g.f.ret, .os () 6 (List.map (eBlock true) g.f.blocks), .os () 2 (List.map (ePhi true) g.b.phis), .os () 7 (List.map (eInst false) g.b.insts), .int .i64 g.b.term.kind, .int .i64 g.b.term.a, .int .i64 g.b.term.x, .int .i64 g.b.term.y, .int .i64 g.next, .ref () 7 0 (List.length (((([] : List Int)) ++ g.ids) ++ ([g.next]))), .bs () 1 (List.map iL g.ws), .ref () 2 0 (List.length grets), .ref () 3 0 (List.length gpars)]]) rfl rfl rfl rfl rfl rfl rfl rfl ?_)
              refine a_nil (by decide +kernel) ?_
              cases hm
              exact (GhB.trans (f_cl (rows2 := List.map iL (((([] : List Int)) ++ g.ids) ++ ([g.next]))) (rows' := [[.ptr () 1 0 0, .os () 1 (List.map iL g.f.params), .int .i64 g.f.ret, .os () 6 (List.map (eBlock true) g.f.blocks), .os () 2 (List.map (ePhi true) g.b.phis), .os () 7 (List.map (eInst false) g.b.insts), .int .i64 g.b.term.kind, .int .i64 g.b.term.a, .int .i64 g.b.term.x, .int .i64 g.b.term.y, .int .i64 g.next, .os () 1 (List.map iL (((([] : List Int)) ++ g.ids) ++ ([g.next]))), .bs () 1 (List.map iL g.ws), .ref () 2 0 (List.length grets), .ref () 3 0 (List.length gpars)]]) 0 7 0 11 rfl rfl rfl (nest_map (enc := iL) (((([] : List Int)) ++ g.ids) ++ ([g.next]))) rfl rfl (by simp) rfl) ((GhB.trans (f_cb (xs := ((([] : List Int)) ++ g.ids) ++ ([g.next])) (rows' := [[.ptr () 1 0 0, .os () 1 (List.map iL g.f.params), .int .i64 g.f.ret, .os () 6 (List.map (eBlock true) g.f.blocks), .os () 2 (List.map (ePhi true) g.b.phis), .os () 7 (List.map (eInst false) g.b.insts), .int .i64 g.b.term.kind, .int .i64 g.b.term.a, .int .i64 g.b.term.x, .int .i64 g.b.term.y, .int .i64 g.next, .bs () 1 (List.map iL (((([] : List Int)) ++ g.ids) ++ ([g.next]))), .bs () 1 (List.map iL g.ws), .ref () 2 0 (List.length grets), .ref () 3 0 (List.length gpars)]]) 0 0 11 rfl rfl rfl rfl) (w_ [0, 1, 2, 3] (.cons rfl rfl (.cons rfl rfl .nil)) (.lit rfl rfl (.lit rfl rfl (.map rfl (.map rfl .nil)))) (by decide) (hB_n 4 hB0 rfl)))))
        · refine (x_ldp rfl T2 rfl rfl rfl rfl rfl ?_)
          refine t_2 1 11 rfl rfl (by decide +kernel) ?_ ?_
          · refine (x_bsm (enc := iL) (([] : List Int)) A24 rfl rfl rfl rfl ?_)
            refine t_2 6 11 rfl rfl (by decide +kernel) ?_ ?_
            · obtain ⟨h2, hm⟩ := of_ite hm
              refine (x_apr (enc := iL) (xs := ([] : List Int)) (ys := g.ids) A24 N24 (encB_N _) rfl rfl rfl (argR_b _) h2 ?_)
              refine o_ 11 rfl (by decide +kernel) (x_bsm (enc := iL) ([g.next]) A24 rfl rfl rfl rfl ?_)
              obtain ⟨h3, hm⟩ := of_ite hm
              refine o_ 12 rfl (by decide +kernel) (x_apr (enc := iL) (xs := (([] : List Int)) ++ g.ids) (ys := [g.next]) A24 N24 (encB_N _) rfl rfl rfl (argR_r rfl) h3 ?_)
              refine t_D 13 1 [14, 15] rfl (by decide +kernel) (x_ncp rfl rfl rfl ?_)
              refine t_ 14 1 rfl (by decide +kernel) (x_fap rfl F135_4 rfl rfl ?_)
              refine o_ 15 rfl (by decide +kernel) (x_st T24 (rows := [[.ptr () 1 0 0, .os () 1 (List.map iL g.f.params), .int .i64 g.f.ret, .os () 6 (List.map (eBlock true) g.f.blocks), .os () 2 (List.map (ePhi true) g.b.phis), .os () 7 (List.map (eInst false) g.b.insts), .int .i64 g.b.term.kind, .int .i64 g.b.term.a, .int .i64 g.b.term.x, .int .i64 g.b.term.y, .int .i64 g.next, .ref () 7 0 (List.length (((([] : List Int)) ++ g.ids) ++ ([g.next]))), .bs () 1 (List.map iL g.ws), .ref () 2 0 (List.length grets), .ref () 3 0 (List.length gpars)]]) rfl rfl rfl rfl rfl rfl rfl rfl ?_)
              refine a_nil (by decide +kernel) ?_
              cases hm
              exact (GhB.trans (f_cl (rows2 := List.map iL (((([] : List Int)) ++ g.ids) ++ ([g.next]))) (rows' := [[.ptr () 1 0 0, .os () 1 (List.map iL g.f.params), .int .i64 g.f.ret, .os () 6 (List.map (eBlock true) g.f.blocks), .os () 2 (List.map (ePhi true) g.b.phis), .os () 7 (List.map (eInst false) g.b.insts), .int .i64 g.b.term.kind, .int .i64 g.b.term.a, .int .i64 g.b.term.x, .int .i64 g.b.term.y, .int .i64 g.next, .os () 1 (List.map iL (((([] : List Int)) ++ g.ids) ++ ([g.next]))), .bs () 1 (List.map iL g.ws), .ref () 2 0 (List.length grets), .ref () 3 0 (List.length gpars)]]) 0 7 0 11 rfl rfl rfl (nest_map (enc := iL) (((([] : List Int)) ++ g.ids) ++ ([g.next]))) rfl rfl (by simp) rfl) ((GhB.trans (f_cb (xs := ((([] : List Int)) ++ g.ids) ++ ([g.next])) (rows' := [[.ptr () 1 0 0, .os () 1 (List.map iL g.f.params), .int .i64 g.f.ret, .os () 6 (List.map (eBlock true) g.f.blocks), .os () 2 (List.map (ePhi true) g.b.phis), .os () 7 (List.map (eInst false) g.b.insts), .int .i64 g.b.term.kind, .int .i64 g.b.term.a, .int .i64 g.b.term.x, .int .i64 g.b.term.y, .int .i64 g.next, .bs () 1 (List.map iL (((([] : List Int)) ++ g.ids) ++ ([g.next]))), .bs () 1 (List.map iL g.ws), .ref () 2 0 (List.length grets), .ref () 3 0 (List.length gpars)]]) 0 0 11 rfl rfl rfl rfl) (w_ [0, 1, 2, 3] (.cons rfl rfl (.cons rfl rfl .nil)) (.lit rfl rfl (.lit rfl rfl (.map rfl (.map rfl .nil)))) (by decide) (hB_n 4 hB0 rfl)))))
            · refine (x_bsm (enc := iL) ([g.next]) A24 rfl rfl rfl rfl ?_)
              obtain ⟨h2, hm⟩ := of_ite hm
              refine o_ 6 rfl (by decide +kernel) (x_apr (enc := iL) (xs := ([] : List Int)) (ys := g.ids) A24 N24 (encB_N _) rfl rfl rfl (argR_b _) h2 ?_)
              obtain ⟨h3, hm⟩ := of_ite hm
              refine o_ 12 rfl (by decide +kernel) (x_apr (enc := iL) (xs := (([] : List Int)) ++ g.ids) (ys := [g.next]) A24 N24 (encB_N _) rfl rfl rfl (argR_r rfl) h3 ?_)
              refine t_D 13 1 [14, 15] rfl (by decide +kernel) (x_ncp rfl rfl rfl ?_)
              refine t_ 14 1 rfl (by decide +kernel) (x_fap rfl F135_4 rfl rfl ?_)
              refine o_ 15 rfl (by decide +kernel) (x_st T24 (rows := [[.ptr () 1 0 0, .os () 1 (List.map iL g.f.params), .int .i64 g.f.ret, .os () 6 (List.map (eBlock true) g.f.blocks), .os () 2 (List.map (ePhi true) g.b.phis), .os () 7 (List.map (eInst false) g.b.insts), .int .i64 g.b.term.kind, .int .i64 g.b.term.a, .int .i64 g.b.term.x, .int .i64 g.b.term.y, .int .i64 g.next, .ref () 7 0 (List.length (((([] : List Int)) ++ g.ids) ++ ([g.next]))), .bs () 1 (List.map iL g.ws), .ref () 2 0 (List.length grets), .ref () 3 0 (List.length gpars)]]) rfl rfl rfl rfl rfl rfl rfl rfl ?_)
              refine a_nil (by decide +kernel) ?_
              cases hm
              exact (GhB.trans (f_cl (rows2 := List.map iL (((([] : List Int)) ++ g.ids) ++ ([g.next]))) (rows' := [[.ptr () 1 0 0, .os () 1 (List.map iL g.f.params), .int .i64 g.f.ret, .os () 6 (List.map (eBlock true) g.f.blocks), .os () 2 (List.map (ePhi true) g.b.phis), .os () 7 (List.map (eInst false) g.b.insts), .int .i64 g.b.term.kind, .int .i64 g.b.term.a, .int .i64 g.b.term.x, .int .i64 g.b.term.y, .int .i64 g.next, .os () 1 (List.map iL (((([] : List Int)) ++ g.ids) ++ ([g.next]))), .bs () 1 (List.map iL g.ws), .ref () 2 0 (List.length grets), .ref () 3 0 (List.length gpars)]]) 0 7 0 11 rfl rfl rfl (nest_map (enc := iL) (((([] : List Int)) ++ g.ids) ++ ([g.next]))) rfl rfl (by simp) rfl) ((GhB.trans (f_cb (xs := ((([] : List Int)) ++ g.ids) ++ ([g.next])) (rows' := [[.ptr () 1 0 0, .os () 1 (List.map iL g.f.params), .int .i64 g.f.ret, .os () 6 (List.map (eBlock true) g.f.blocks), .os () 2 (List.map (ePhi true) g.b.phis), .os () 7 (List.map (eInst false) g.b.insts), .int .i64 g.b.term.kind, .int .i64 g.b.term.a, .int .i64 g.b.term.x, .int .i64 g.b.term.y, .int .i64 g.next, .bs () 1 (List.map iL (((([] : List Int)) ++ g.ids) ++ ([g.next]))), .bs () 1 (List.map iL g.ws), .ref () 2 0 (List.length grets), .ref () 3 0 (List.length gpars)]]) 0 0 11 rfl rfl rfl rfl) (w_ [0, 1, 2, 3] (.cons rfl rfl (.cons rfl rfl .nil)) (.lit rfl rfl (.lit rfl rfl (.map rfl (.map rfl .nil)))) (by decide) (hB_n 4 hB0 rfl)))))
          · refine (x_bsm (enc := iL) ([g.next]) A24 rfl rfl rfl rfl ?_)
            refine o_ 1 rfl (by decide +kernel) (x_bsm (enc := iL) (([] : List Int)) A24 rfl rfl rfl rfl ?_)
            obtain ⟨h2, hm⟩ := of_ite hm
            refine o_ 6 rfl (by decide +kernel) (x_apr (enc := iL) (xs := ([] : List Int)) (ys := g.ids) A24 N24 (encB_N _) rfl rfl rfl (argR_b _) h2 ?_)
            obtain ⟨h3, hm⟩ := of_ite hm
            refine o_ 12 rfl (by decide +kernel) (x_apr (enc := iL) (xs := (([] : List Int)) ++ g.ids) (ys := [g.next]) A24 N24 (encB_N _) rfl rfl rfl (argR_r rfl) h3 ?_)
            refine t_D 13 1 [14, 15] rfl (by decide +kernel) (x_ncp rfl rfl rfl ?_)
            refine t_ 14 1 rfl (by decide +kernel) (x_fap rfl F135_4 rfl rfl ?_)
            refine o_ 15 rfl (by decide +kernel) (x_st T24 (rows := [[.ptr () 1 0 0, .os () 1 (List.map iL g.f.params), .int .i64 g.f.ret, .os () 6 (List.map (eBlock true) g.f.blocks), .os () 2 (List.map (ePhi true) g.b.phis), .os () 7 (List.map (eInst false) g.b.insts), .int .i64 g.b.term.kind, .int .i64 g.b.term.a, .int .i64 g.b.term.x, .int .i64 g.b.term.y, .int .i64 g.next, .ref () 7 0 (List.length (((([] : List Int)) ++ g.ids) ++ ([g.next]))), .bs () 1 (List.map iL g.ws), .ref () 2 0 (List.length grets), .ref () 3 0 (List.length gpars)]]) rfl rfl rfl rfl rfl rfl rfl rfl ?_)
            refine a_nil (by decide +kernel) ?_
            cases hm
            exact (GhB.trans (f_cl (rows2 := List.map iL (((([] : List Int)) ++ g.ids) ++ ([g.next]))) (rows' := [[.ptr () 1 0 0, .os () 1 (List.map iL g.f.params), .int .i64 g.f.ret, .os () 6 (List.map (eBlock true) g.f.blocks), .os () 2 (List.map (ePhi true) g.b.phis), .os () 7 (List.map (eInst false) g.b.insts), .int .i64 g.b.term.kind, .int .i64 g.b.term.a, .int .i64 g.b.term.x, .int .i64 g.b.term.y, .int .i64 g.next, .os () 1 (List.map iL (((([] : List Int)) ++ g.ids) ++ ([g.next]))), .bs () 1 (List.map iL g.ws), .ref () 2 0 (List.length grets), .ref () 3 0 (List.length gpars)]]) 0 7 0 11 rfl rfl rfl (nest_map (enc := iL) (((([] : List Int)) ++ g.ids) ++ ([g.next]))) rfl rfl (by simp) rfl) ((GhB.trans (f_cb (xs := ((([] : List Int)) ++ g.ids) ++ ([g.next])) (rows' := [[.ptr () 1 0 0, .os () 1 (List.map iL g.f.params), .int .i64 g.f.ret, .os () 6 (List.map (eBlock true) g.f.blocks), .os () 2 (List.map (ePhi true) g.b.phis), .os () 7 (List.map (eInst false) g.b.insts), .int .i64 g.b.term.kind, .int .i64 g.b.term.a, .int .i64 g.b.term.x, .int .i64 g.b.term.y, .int .i64 g.next, .bs () 1 (List.map iL (((([] : List Int)) ++ g.ids) ++ ([g.next]))), .bs () 1 (List.map iL g.ws), .ref () 2 0 (List.length grets), .ref () 3 0 (List.length gpars)]]) 0 0 11 rfl rfl rfl rfl) (w_ [0, 1, 2, 3] (.cons rfl rfl (.cons rfl rfl .nil)) (.lit rfl rfl (.lit rfl rfl (.map rfl (.map rfl .nil)))) (by decide) (hB_n 4 hB0 rfl)))))
  · refine Wp.seq ?_
    refine c_reg (Y := sysA _) ?_
    refine n_ (x_mv rfl rfl ?_)
    refine n_ (x_bsm (enc := iL) (([] : List Int)) A24 rfl rfl rfl rfl ?_)
    refine n_ (x_mv rfl rfl ?_)
    refine n_ (x_ncp rfl rfl rfl ?_)
    refine n_ (x_fap rfl F135_5 rfl rfl ?_)
    refine n_ (x_ldp rfl T24 rfl rfl rfl rfl rfl ?_)
    obtain ⟨h5, hm⟩ := of_ite hm
    refine n_ (x_apr (enc := iL) (xs := ([] : List Int)) (ys := (({ f := g.f, b := g.b, next := g.next, ids := ((([] : List Int)) ++ g.ids) ++ ([g.next]), ws := g.ws } : Gl2G)).ws) A24 N24 (encB_N _) rfl rfl rfl (argR_b _) h5 ?_)
    refine n_ (x_mv rfl rfl ?_)
    refine n_ (x_bsm (enc := iL) ([w]) A24 rfl rfl rfl rfl ?_)
    obtain ⟨h6, hm⟩ := of_ite hm
    refine n_ (x_apr (enc := iL) (xs := (([] : List Int)) ++ ((({ f := g.f, b := g.b, next := g.next, ids := ((([] : List Int)) ++ g.ids) ++ ([g.next]), ws := g.ws } : Gl2G)).ws)) (ys := [w]) A24 N24 (encB_N _) rfl rfl rfl (argR_r rfl) h6 ?_)
    refine n_ (x_ncp rfl rfl rfl ?_)
    refine n_ (x_fap rfl F135_5 rfl rfl ?_)
    refine n_ (x_st T24 (rows := [[.ptr () 1 0 0, .os () 1 (List.map iL (((({ f := g.f, b := g.b, next := g.next, ids := ((([] : List Int)) ++ g.ids) ++ ([g.next]), ws := g.ws } : Gl2G)).f).params)), .int .i64 (((({ f := g.f, b := g.b, next := g.next, ids := ((([] : List Int)) ++ g.ids) ++ ([g.next]), ws := g.ws } : Gl2G)).f).ret), .os () 6 (List.map (eBlock true) (((({ f := g.f, b := g.b, next := g.next, ids := ((([] : List Int)) ++ g.ids) ++ ([g.next]), ws := g.ws } : Gl2G)).f).blocks)), .os () 2 (List.map (ePhi true) (((({ f := g.f, b := g.b, next := g.next, ids := ((([] : List Int)) ++ g.ids) ++ ([g.next]), ws := g.ws } : Gl2G)).b).phis)), .os () 7 (List.map (eInst false) (((({ f := g.f, b := g.b, next := g.next, ids := ((([] : List Int)) ++ g.ids) ++ ([g.next]), ws := g.ws } : Gl2G)).b).insts)), .int .i64 ((((({ f := g.f, b := g.b, next := g.next, ids := ((([] : List Int)) ++ g.ids) ++ ([g.next]), ws := g.ws } : Gl2G)).b).term).kind), .int .i64 ((((({ f := g.f, b := g.b, next := g.next, ids := ((([] : List Int)) ++ g.ids) ++ ([g.next]), ws := g.ws } : Gl2G)).b).term).a), .int .i64 ((((({ f := g.f, b := g.b, next := g.next, ids := ((([] : List Int)) ++ g.ids) ++ ([g.next]), ws := g.ws } : Gl2G)).b).term).x), .int .i64 ((((({ f := g.f, b := g.b, next := g.next, ids := ((([] : List Int)) ++ g.ids) ++ ([g.next]), ws := g.ws } : Gl2G)).b).term).y), .int .i64 ((({ f := g.f, b := g.b, next := g.next, ids := ((([] : List Int)) ++ g.ids) ++ ([g.next]), ws := g.ws } : Gl2G)).next), .bs () 1 (List.map iL ((({ f := g.f, b := g.b, next := g.next, ids := ((([] : List Int)) ++ g.ids) ++ ([g.next]), ws := g.ws } : Gl2G)).ids)), .ref () 7 0 (List.length (((([] : List Int)) ++ ((({ f := g.f, b := g.b, next := g.next, ids := ((([] : List Int)) ++ g.ids) ++ ([g.next]), ws := g.ws } : Gl2G)).ws)) ++ ([w]))), .ref () 2 0 (List.length grets), .ref () 3 0 (List.length gpars)]]) rfl rfl rfl rfl rfl rfl rfl rfl ?_)
    refine z_ ?_
    refine Wp.seq ?_
    refine Wp.ghb _ (f_cl (rows2 := List.map iL (((([] : List Int)) ++ ((({ f := g.f, b := g.b, next := g.next, ids := ((([] : List Int)) ++ g.ids) ++ ([g.next]), ws := g.ws } : Gl2G)).ws)) ++ ([w]))) (rows' := [[.ptr () 1 0 0, .os () 1 (List.map iL (((({ f := g.f, b := g.b, next := g.next, ids := ((([] : List Int)) ++ g.ids) ++ ([g.next]), ws := g.ws } : Gl2G)).f).params)), .int .i64 (((({ f := g.f, b := g.b, next := g.next, ids := ((([] : List Int)) ++ g.ids) ++ ([g.next]), ws := g.ws } : Gl2G)).f).ret), .os () 6 (List.map (eBlock true) (((({ f := g.f, b := g.b, next := g.next, ids := ((([] : List Int)) ++ g.ids) ++ ([g.next]), ws := g.ws } : Gl2G)).f).blocks)), .os () 2 (List.map (ePhi true) (((({ f := g.f, b := g.b, next := g.next, ids := ((([] : List Int)) ++ g.ids) ++ ([g.next]), ws := g.ws } : Gl2G)).b).phis)), .os () 7 (List.map (eInst false) (((({ f := g.f, b := g.b, next := g.next, ids := ((([] : List Int)) ++ g.ids) ++ ([g.next]), ws := g.ws } : Gl2G)).b).insts)), .int .i64 ((((({ f := g.f, b := g.b, next := g.next, ids := ((([] : List Int)) ++ g.ids) ++ ([g.next]), ws := g.ws } : Gl2G)).b).term).kind), .int .i64 ((((({ f := g.f, b := g.b, next := g.next, ids := ((([] : List Int)) ++ g.ids) ++ ([g.next]), ws := g.ws } : Gl2G)).b).term).a), .int .i64 ((((({ f := g.f, b := g.b, next := g.next, ids := ((([] : List Int)) ++ g.ids) ++ ([g.next]), ws := g.ws } : Gl2G)).b).term).x), .int .i64 ((((({ f := g.f, b := g.b, next := g.next, ids := ((([] : List Int)) ++ g.ids) ++ ([g.next]), ws := g.ws } : Gl2G)).b).term).y), .int .i64 ((({ f := g.f, b := g.b, next := g.next, ids := ((([] : List Int)) ++ g.ids) ++ ([g.next]), ws := g.ws } : Gl2G)).next), .bs () 1 (List.map iL ((({ f := g.f, b := g.b, next := g.next, ids := ((([] : List Int)) ++ g.ids) ++ ([g.next]), ws := g.ws } : Gl2G)).ids)), .os () 1 (List.map iL (((([] : List Int)) ++ ((({ f := g.f, b := g.b, next := g.next, ids := ((([] : List Int)) ++ g.ids) ++ ([g.next]), ws := g.ws } : Gl2G)).ws)) ++ ([w]))), .ref () 2 0 (List.length grets), .ref () 3 0 (List.length gpars)]]) 0 7 0 12 rfl rfl rfl (nest_map (enc := iL) (((([] : List Int)) ++ ((({ f := g.f, b := g.b, next := g.next, ids := ((([] : List Int)) ++ g.ids) ++ ([g.next]), ws := g.ws } : Gl2G)).ws)) ++ ([w]))) rfl rfl (by simp) rfl) ?_
    refine Wp.ghb _ (f_cb (xs := ((([] : List Int)) ++ ((({ f := g.f, b := g.b, next := g.next, ids := ((([] : List Int)) ++ g.ids) ++ ([g.next]), ws := g.ws } : Gl2G)).ws)) ++ ([w])) (rows' := [[.ptr () 1 0 0, .os () 1 (List.map iL (((({ f := g.f, b := g.b, next := g.next, ids := ((([] : List Int)) ++ g.ids) ++ ([g.next]), ws := g.ws } : Gl2G)).f).params)), .int .i64 (((({ f := g.f, b := g.b, next := g.next, ids := ((([] : List Int)) ++ g.ids) ++ ([g.next]), ws := g.ws } : Gl2G)).f).ret), .os () 6 (List.map (eBlock true) (((({ f := g.f, b := g.b, next := g.next, ids := ((([] : List Int)) ++ g.ids) ++ ([g.next]), ws := g.ws } : Gl2G)).f).blocks)), .os () 2 (List.map (ePhi true) (((({ f := g.f, b := g.b, next := g.next, ids := ((([] : List Int)) ++ g.ids) ++ ([g.next]), ws := g.ws } : Gl2G)).b).phis)), .os () 7 (List.map (eInst false) (((({ f := g.f, b := g.b, next := g.next, ids := ((([] : List Int)) ++ g.ids) ++ ([g.next]), ws := g.ws } : Gl2G)).b).insts)), .int .i64 ((((({ f := g.f, b := g.b, next := g.next, ids := ((([] : List Int)) ++ g.ids) ++ ([g.next]), ws := g.ws } : Gl2G)).b).term).kind), .int .i64 ((((({ f := g.f, b := g.b, next := g.next, ids := ((([] : List Int)) ++ g.ids) ++ ([g.next]), ws := g.ws } : Gl2G)).b).term).a), .int .i64 ((((({ f := g.f, b := g.b, next := g.next, ids := ((([] : List Int)) ++ g.ids) ++ ([g.next]), ws := g.ws } : Gl2G)).b).term).x), .int .i64 ((((({ f := g.f, b := g.b, next := g.next, ids := ((([] : List Int)) ++ g.ids) ++ ([g.next]), ws := g.ws } : Gl2G)).b).term).y), .int .i64 ((({ f := g.f, b := g.b, next := g.next, ids := ((([] : List Int)) ++ g.ids) ++ ([g.next]), ws := g.ws } : Gl2G)).next), .bs () 1 (List.map iL ((({ f := g.f, b := g.b, next := g.next, ids := ((([] : List Int)) ++ g.ids) ++ ([g.next]), ws := g.ws } : Gl2G)).ids)), .bs () 1 (List.map iL (((([] : List Int)) ++ ((({ f := g.f, b := g.b, next := g.next, ids := ((([] : List Int)) ++ g.ids) ++ ([g.next]), ws := g.ws } : Gl2G)).ws)) ++ ([w]))), .ref () 2 0 (List.length grets), .ref () 3 0 (List.length gpars)]]) 0 0 12 rfl rfl rfl rfl) ?_
    refine c_reg (Y := sysA _) ?_
    refine n_ (x_mv rfl rfl ?_)
    refine n_ (x_ncp rfl rfl rfl ?_)
    refine n_ (x_fap rfl F135_3 rfl rfl ?_)
    refine n_ (x_ldp rfl T2 rfl rfl rfl rfl rfl ?_)
    obtain ⟨h7, hm⟩ := of_ite hm
    refine n_ (x_addc T2 rfl rfl h7 ?_)
    refine n_ (x_ncp rfl rfl rfl ?_)
    refine n_ (x_fap rfl F135_3 rfl rfl ?_)
    refine n_ (x_st T2 (rows := [[.ptr () 1 0 0, .os () 1 (List.map iL (((({ f := g.f, b := g.b, next := g.next, ids := ((([] : List Int)) ++ g.ids) ++ ([g.next]), ws := g.ws } : Gl2G)).f).params)), .int .i64 (((({ f := g.f, b := g.b, next := g.next, ids := ((([] : List Int)) ++ g.ids) ++ ([g.next]), ws := g.ws } : Gl2G)).f).ret), .os () 6 (List.map (eBlock true) (((({ f := g.f, b := g.b, next := g.next, ids := ((([] : List Int)) ++ g.ids) ++ ([g.next]), ws := g.ws } : Gl2G)).f).blocks)), .os () 2 (List.map (ePhi true) (((({ f := g.f, b := g.b, next := g.next, ids := ((([] : List Int)) ++ g.ids) ++ ([g.next]), ws := g.ws } : Gl2G)).b).phis)), .os () 7 (List.map (eInst false) (((({ f := g.f, b := g.b, next := g.next, ids := ((([] : List Int)) ++ g.ids) ++ ([g.next]), ws := g.ws } : Gl2G)).b).insts)), .int .i64 ((((({ f := g.f, b := g.b, next := g.next, ids := ((([] : List Int)) ++ g.ids) ++ ([g.next]), ws := g.ws } : Gl2G)).b).term).kind), .int .i64 ((((({ f := g.f, b := g.b, next := g.next, ids := ((([] : List Int)) ++ g.ids) ++ ([g.next]), ws := g.ws } : Gl2G)).b).term).a), .int .i64 ((((({ f := g.f, b := g.b, next := g.next, ids := ((([] : List Int)) ++ g.ids) ++ ([g.next]), ws := g.ws } : Gl2G)).b).term).x), .int .i64 ((((({ f := g.f, b := g.b, next := g.next, ids := ((([] : List Int)) ++ g.ids) ++ ([g.next]), ws := g.ws } : Gl2G)).b).term).y), .int .i64 (((({ f := g.f, b := g.b, next := g.next, ids := ((([] : List Int)) ++ g.ids) ++ ([g.next]), ws := g.ws } : Gl2G)).next) + 1), .bs () 1 (List.map iL ((({ f := g.f, b := g.b, next := g.next, ids := ((([] : List Int)) ++ g.ids) ++ ([g.next]), ws := g.ws } : Gl2G)).ids)), .bs () 1 (List.map iL (((([] : List Int)) ++ ((({ f := g.f, b := g.b, next := g.next, ids := ((([] : List Int)) ++ g.ids) ++ ([g.next]), ws := g.ws } : Gl2G)).ws)) ++ ([w]))), .ref () 2 0 (List.length grets), .ref () 3 0 (List.length gpars)]]) rfl rfl rfl rfl rfl rfl rfl rfl ?_)
    refine z_ ?_
    refine Wp.seq ?_
    refine c_reg (Y := sysA _) ?_
    refine n_ (x_mv rfl rfl ?_)
    refine n_ (x_ncp rfl rfl rfl ?_)
    refine n_ (x_fap rfl F135_3 rfl rfl ?_)
    refine n_ (x_ldp rfl T2 rfl rfl rfl rfl rfl ?_)
    obtain ⟨h8, hm⟩ := of_ite hm
    refine n_ (x_subc T2 rfl rfl h8 ?_)
    refine n_ (x_as rfl rfl ?_)
    refine z_ ?_
    refine c_ret ?_
    rw [← Option.some.inj hm]
    exact retG (us' := [.one (.int .i64 ((((({ f := g.f, b := g.b, next := g.next, ids := ((([] : List Int)) ++ g.ids) ++ ([g.next]), ws := g.ws } : Gl2G)).next) + 1) - 1))]) (obs' := [⟨(), 15, [hl2G (.ptr () 1 0 0) (.ref () 2 0 (List.length grets)) (.ref () 3 0 (List.length gpars)) (({ f := ((({ f := g.f, b := g.b, next := g.next, ids := ((([] : List Int)) ++ g.ids) ++ ([g.next]), ws := g.ws } : Gl2G)).f), b := ({ phis := ((({ f := g.f, b := g.b, next := g.next, ids := ((([] : List Int)) ++ g.ids) ++ ([g.next]), ws := g.ws } : Gl2G)).b).phis, insts := ((({ f := g.f, b := g.b, next := g.next, ids := ((([] : List Int)) ++ g.ids) ++ ([g.next]), ws := g.ws } : Gl2G)).b).insts, term := (((({ f := g.f, b := g.b, next := g.next, ids := ((([] : List Int)) ++ g.ids) ++ ([g.next]), ws := g.ws } : Gl2G)).b).term) } : GBlock), next := ((({ f := g.f, b := g.b, next := g.next, ids := ((([] : List Int)) ++ g.ids) ++ ([g.next]), ws := g.ws } : Gl2G)).next) + 1, ids := (({ f := g.f, b := g.b, next := g.next, ids := ((([] : List Int)) ++ g.ids) ++ ([g.next]), ws := g.ws } : Gl2G)).ids, ws := ((([] : List Int)) ++ ((({ f := g.f, b := g.b, next := g.next, ids := ((([] : List Int)) ++ g.ids) ++ ([g.next]), ws := g.ws } : Gl2G)).ws)) ++ ([w]) } : Gl2G))]⟩, ⟨(), 2, [el1Rd false gr]⟩, ⟨(), 1, List.map iL grets⟩, ⟨(), 1, List.map (lL false 1 iL) gpars⟩]) rfl (r_tmp rfl rfl rfl r_nil) (f_end [0, 1, 2, 3] rfl (h_c rfl (h_c rfl (h_c (hrow rfl) (h_c (hrow rfl) h_n)))) (by decide) rfl (by simp only [hl2G, List.all_cons, List.all_nil, knows_map, Bool.and_true, Bool.true_and] <;> rfl) hB0 rfl rfl) rfl rfl rfl rfl (by simp only [hl2G, List.all_cons, List.all_nil, knows_map, Bool.and_true, Bool.true_and] <;> rfl)

/-- (*spec.l1Rd).word -/
noncomputable def spec_l1Rd_word_m (vr : Gl1Rd) : Option (Int × Gl1Rd) :=
  (Option.bind (loopO (fun (st1 : Gl1Rd × Int × Int) =>
        ((if decide (st1.2.2 < 8) = true then
            (Option.bind (spec_l1Rd_next_m st1.1) fun x4 =>
              (if inI (st1.2.2 + 1) then
                (some (Sum.inl ((x4.2, bits .or .u64 (IntKind.u64.wrap (st1.2.1 * 2 ^ min (Int.toNat 8) (IntKind.bits .u64))) (IntKind.u64.wrap x4.1), st1.2.2 + 1))))
                else none))
            else
            (some (Sum.inr (((st1.1, st1.2.1)))))) : Option ((Gl1Rd × Int × Int) ⊕ ((Gl1Rd × Int))))) (vr, 0, 0)) fun (j2 : Gl1Rd × Int) =>
    (some ((j2.2, j2.1))))
set_option maxHeartbeats 8000000 in
set_option maxRecDepth 100000 in
theorem spec_l1Rd_word_sim (vr : Gl1Rd) {r : Int × Gl1Rd} (hm : spec_l1Rd_word_m vr = some r) : Sim Try.prog 125 [.one (.ptr () 0 0 0)] [⟨(), 2, [el1Rd false vr]⟩] (.u (.one (.int .u64 r.1))) [⟨(), 2, [el1Rd false r.2]⟩] := by
  refine sim_st (N := 16) (k0 := 1) Try.func125 rfl rfl rfl rfl (rs := [.tmp 2]) rfl rfl rfl fun B hB0 => ?_
  unfold spec_l1Rd_word_m at hm
  refine Wp.seq ?_
  refine c_reg (Y := sysA _) ?_
  refine n_ (x_as rfl rfl ?_)
  refine z_ ?_
  refine Wp.seq ?_
  refine c_reg (Y := sysA _) ?_
  refine n_ (x_as rfl rfl ?_)
  refine z_ ?_
  refine Wp.seq ?_
  refine Wp.seq ?_
  refine c_reg (Y := sysA _) ?_
  refine n_ (x_as rfl rfl ?_)
  refine z_ ?_
  refine Wp.block ?_
  obtain ⟨j2, hl8, hm⟩ := of_bind hm
  refine c_loop hl8 (fun (st1 : Gl1Rd × Int × Int) => St 16 [(0, .u (.one (.ptr () 0 0 0))), (3, .u (.one (.int .u64 st1.2.1))), (4, .u (.one (.int .i64 st1.2.2)))] [(0, some ⟨(), 2, [(el1Rd false st1.1)]⟩)] 1) (fun (j2 : Gl1Rd × Int) => (.exit 0, St 16 [(3, .u (.one (.int .u64 j2.2)))] [(0, some ⟨(), 2, [(el1Rd false j2.1)]⟩)] 1)) (w_ [0] (.cons rfl rfl (.cons rfl rfl (.cons rfl rfl .nil))) (.lit rfl rfl .nil) (by decide) (hB_n 1 hB0 rfl)) ?_ (by intro y; simp) ?_
  · intro st1 x hm
    refine Wp.seq ?_
    refine Wp.seq ?_
    refine c_reg (Y := sysA _) ?_
    refine n_ (x_mv rfl rfl ?_)
    refine n_ (x_bin T3 rfl rfl rfl ?_)
    refine z_ ?_
    refine c_s rfl rfl (fun hb3 => ?_) (fun hb3 => ?_)
    · rw [if_pos (show _ = true from hb3)] at hm
      refine c_skip ?_
      refine Wp.seq ?_
      refine Wp.block ?_
      refine c_reg (Y := sysA _) ?_
      refine n_ (x_mv rfl rfl ?_)
      refine n_ (x_shl T138 rfl rfl (by decide) ?_)
      refine n_ (x_mv rfl rfl ?_)
      obtain ⟨x4, h5, hm⟩ := of_bind hm
      refine n_ (x_cg (v := .u (.one (.int .i64 x4.1))) (nobs := []) (oa' := _) (nx' := 1) (cs := []) (obs := [⟨(), 2, [el1Rd false st1.1]⟩]) [0] false rfl (by decide) (h_c rfl h_n) rfl (g_1 (l := .ptr () 0 0 0) rfl rfl rfl g_n) rfl rfl ent108 (spec_l1Rd_next_sim st1.1 h5) (.inl rfl) rfl rfl rfl rfl ?_)
      refine n_ (x_cvi T3 T138 rfl rfl ?_)
      refine n_ (x_bin T138 rfl rfl rfl ?_)
      refine n_ (x_as rfl rfl ?_)
      refine z_ ?_
      refine c_reg (Y := sysA _) ?_
      refine n_ (x_mv rfl rfl ?_)
      obtain ⟨h6, hm⟩ := of_ite hm
      refine n_ (x_addc T3 rfl rfl h6 ?_)
      refine n_ (x_as rfl rfl ?_)
      refine z_ ?_
      cases hm
      exact ⟨rfl, w_ [0] (.cons rfl rfl (.cons rfl rfl (.cons rfl rfl .nil))) (.lit rfl rfl .nil) (by decide) (hB_n 1 hB0 rfl)⟩
    · rw [if_neg (by rw [hb3]; decide)] at hm
      refine c_exit ?_
      cases hm
      exact ⟨rfl, w_ [0] (.cons rfl rfl .nil) (.lit rfl rfl .nil) (by decide) (hB_n 1 hB0 rfl)⟩
  · refine Wp.seq ?_
    refine c_reg (Y := sysA _) ?_
    refine n_ (x_mv rfl rfl ?_)
    refine n_ (x_as rfl rfl ?_)
    refine z_ ?_
    refine c_ret ?_
    rw [← Option.some.inj hm]
    exact retG (us' := [.one (.int .u64 j2.2)]) (obs' := [⟨(), 2, [el1Rd false j2.1]⟩]) rfl (r_tmp rfl rfl rfl r_nil) (f_end [0] rfl (h_c rfl h_n) (by decide) rfl rfl hB0 rfl rfl) rfl rfl rfl rfl rfl

/-- (*spec.l1Rd).value -/
noncomputable def spec_l1Rd_value_m (vr : Gl1Rd) (w : Int) : Option (Int × Gl1Rd) :=
  (if 0 ≤ (IntKind.u64.wrap w) then
    (Option.bind (spec_l1Rd_below_m vr 7) fun x2 =>
      (if (x2.1 == 0) = true then
        (some ((0, x2.2)))
        else
        (if (x2.1 == 1) = true then
          (some ((1, x2.2)))
          else
          (if (x2.1 == 2) = true then
            (if inI ((IntKind.i64.wrap (1 * 2 ^ min (Int.toNat (IntKind.u64.wrap w)) (IntKind.bits .i64))) - 1) then
              (some (((IntKind.i64.wrap (1 * 2 ^ min (Int.toNat (IntKind.u64.wrap w)) (IntKind.bits .i64))) - 1, x2.2)))
              else none)
            else
            (if (x2.1 == 3) = true then
              (some ((IntKind.i64.wrap (Int.tdiv (IntKind.i64.wrap (1 * 2 ^ min (Int.toNat (IntKind.u64.wrap w)) (IntKind.bits .i64))) 2), x2.2)))
              else
              (Option.bind (spec_l1Rd_word_m x2.2) fun x9 =>
                (if (IntKind.i64.wrap (1 * 2 ^ min (Int.toNat (IntKind.u64.wrap w)) (IntKind.bits .i64))) ≠ 0 then
                  (some ((Int.tmod (IntKind.i64.wrap (x9.1 / 2 ^ min (Int.toNat 1) (IntKind.bits .u64))) (IntKind.i64.wrap (1 * 2 ^ min (Int.toNat (IntKind.u64.wrap w)) (IntKind.bits .i64))), x9.2)))
                  else none)))))))
    else none)
set_option maxHeartbeats 8000000 in
set_option maxRecDepth 100000 in
theorem spec_l1Rd_value_sim (vr : Gl1Rd) (w : Int) {r : Int × Gl1Rd} (hm : spec_l1Rd_value_m vr w = some r) : Sim Try.prog 130 [.one (.ptr () 0 0 0), .one (.int .i64 w)] [⟨(), 2, [el1Rd false vr]⟩] (.u (.one (.int .i64 r.1))) [⟨(), 2, [el1Rd false r.2]⟩] := by
  refine sim_st (N := 29) (k0 := 1) Try.func130 rfl rfl rfl rfl (rs := [.tmp 4]) rfl rfl rfl fun B hB0 => ?_
  unfold spec_l1Rd_value_m at hm
  refine Wp.seq ?_
  refine c_reg (Y := sysA _) ?_
  refine n_ (x_as rfl rfl ?_)
  refine z_ ?_
  refine Wp.seq ?_
  refine c_reg (Y := sysA _) ?_
  refine n_ (x_mv rfl rfl ?_)
  refine n_ (x_cvi T2 T140 rfl rfl ?_)
  obtain ⟨h1, hm⟩ := of_ite hm
  refine n_ (x_shl T2 rfl rfl h1 ?_)
  refine n_ (x_as rfl rfl ?_)
  refine z_ ?_
  refine Wp.seq ?_
  refine Wp.seq ?_
  refine c_reg (Y := sysA _) ?_
  refine n_ (x_mv rfl rfl ?_)
  obtain ⟨x2, h3, hm⟩ := of_bind hm
  refine n_ (x_cg (v := .u (.one (.int .i64 x2.1))) (nobs := []) (oa' := _) (nx' := 1) (cs := []) (obs := [⟨(), 2, [el1Rd false vr]⟩]) [0] false rfl (by decide) (h_c rfl h_n) rfl (g_1 (l := .ptr () 0 0 0) rfl rfl rfl (g_1 (l := .int .i64 7) rfl rfl rfl g_n)) rfl rfl ent76 (spec_l1Rd_below_sim vr 7 h3) (.inl rfl) rfl rfl rfl rfl ?_)
  refine z_ ?_
  refine Wp.block ?_
  refine Wp.seq ?_
  refine c_reg (Y := sysA _) ?_
  refine n_ (x_bin T3 rfl rfl rfl ?_)
  refine n_ (x_as rfl rfl ?_)
  refine z_ ?_
  refine c_s rfl rfl (fun hb4 => ?_) (fun hb4 => ?_)
  · rw [if_pos (show _ = true from hb4)] at hm
    refine Wp.seq ?_
    refine c_reg (Y := sysA _) ?_
    refine n_ (x_as rfl rfl ?_)
    refine z_ ?_
    refine c_ret ?_
    rw [← Option.some.inj hm]
    exact retG (us' := [.one (.int .i64 0)]) (obs' := [⟨(), 2, [el1Rd false x2.2]⟩]) rfl (r_tmp rfl rfl rfl r_nil) (f_end [0] rfl (h_c rfl h_n) (by decide) rfl rfl hB0 rfl rfl) rfl rfl rfl rfl rfl
  · rw [if_neg (by rw [hb4]; decide)] at hm
    refine Wp.seq ?_
    refine c_reg (Y := sysA _) ?_
    refine n_ (x_bin T3 rfl rfl rfl ?_)
    refine n_ (x_as rfl rfl ?_)
    refine z_ ?_
    refine c_s rfl rfl (fun hb5 => ?_) (fun hb5 => ?_)
    · rw [if_pos (show _ = true from hb5)] at hm
      refine Wp.seq ?_
      refine c_reg (Y := sysA _) ?_
      refine n_ (x_as rfl rfl ?_)
      refine z_ ?_
      refine c_ret ?_
      rw [← Option.some.inj hm]
      exact retG (us' := [.one (.int .i64 1)]) (obs' := [⟨(), 2, [el1Rd false x2.2]⟩]) rfl (r_tmp rfl rfl rfl r_nil) (f_end [0] rfl (h_c rfl h_n) (by decide) rfl rfl hB0 rfl rfl) rfl rfl rfl rfl rfl
    · rw [if_neg (by rw [hb5]; decide)] at hm
      refine Wp.seq ?_
      refine c_reg (Y := sysA _) ?_
      refine n_ (x_bin T3 rfl rfl rfl ?_)
      refine n_ (x_as rfl rfl ?_)
      refine z_ ?_
      refine c_s rfl rfl (fun hb6 => ?_) (fun hb6 => ?_)
      · rw [if_pos (show _ = true from hb6)] at hm
        refine Wp.seq ?_
        refine c_reg (Y := sysA _) ?_
        refine n_ (x_mv rfl rfl ?_)
        obtain ⟨h7, hm⟩ := of_ite hm
        refine n_ (x_subc T2 rfl rfl h7 ?_)
        refine n_ (x_as rfl rfl ?_)
        refine z_ ?_
        refine c_ret ?_
        rw [← Option.some.inj hm]
        exact retG (us' := [.one (.int .i64 ((IntKind.i64.wrap (1 * 2 ^ min (Int.toNat (IntKind.u64.wrap w)) (IntKind.bits .i64))) - 1))]) (obs' := [⟨(), 2, [el1Rd false x2.2]⟩]) rfl (r_tmp rfl rfl rfl r_nil) (f_end [0] rfl (h_c rfl h_n) (by decide) rfl rfl hB0 rfl rfl) rfl rfl rfl rfl rfl
      · rw [if_neg (by rw [hb6]; decide)] at hm
        refine Wp.seq ?_
        refine c_reg (Y := sysA _) ?_
        refine n_ (x_bin T3 rfl rfl rfl ?_)
        refine n_ (x_as rfl rfl ?_)
        refine z_ ?_
        refine c_s rfl rfl (fun hb8 => ?_) (fun hb8 => ?_)
        · rw [if_pos (show _ = true from hb8)] at hm
          refine Wp.seq ?_
          refine c_reg (Y := sysA _) ?_
          refine n_ (x_mv rfl rfl ?_)
          refine n_ (x_quo T2 rfl rfl (by decide) ?_)
          refine n_ (x_as rfl rfl ?_)
          refine z_ ?_
          refine c_ret ?_
          rw [← Option.some.inj hm]
          exact retG (us' := [.one (.int .i64 (IntKind.i64.wrap (Int.tdiv (IntKind.i64.wrap (1 * 2 ^ min (Int.toNat (IntKind.u64.wrap w)) (IntKind.bits .i64))) 2)))]) (obs' := [⟨(), 2, [el1Rd false x2.2]⟩]) rfl (r_tmp rfl rfl rfl r_nil) (f_end [0] rfl (h_c rfl h_n) (by decide) rfl rfl hB0 rfl rfl) rfl rfl rfl rfl rfl
        · rw [if_neg (by rw [hb8]; decide)] at hm
          refine c_skip ?_
          refine Wp.seq ?_
          refine c_reg (Y := sysA _) ?_
          refine n_ (x_mv rfl rfl ?_)
          obtain ⟨x9, h10, hm⟩ := of_bind hm
          refine n_ (x_cg (v := .u (.one (.int .u64 x9.1))) (nobs := []) (oa' := _) (nx' := 1) (cs := []) (obs := [⟨(), 2, [el1Rd false x2.2]⟩]) [0] false rfl (by decide) (h_c rfl h_n) rfl (g_1 (l := .ptr () 0 0 0) rfl rfl rfl g_n) rfl rfl ent125 (spec_l1Rd_word_sim x2.2 h10) (.inl rfl) rfl rfl rfl rfl ?_)
          refine n_ (x_shr T138 rfl rfl (by decide) ?_)
          refine n_ (x_cvi T138 T2 rfl rfl ?_)
          refine n_ (x_mv rfl rfl ?_)
          obtain ⟨h11, hm⟩ := of_ite hm
          refine n_ (x_rem T2 rfl rfl h11 ?_)
          refine n_ (x_as rfl rfl ?_)
          refine z_ ?_
          refine c_ret ?_
          rw [← Option.some.inj hm]
          exact retG (us' := [.one (.int .i64 (Int.tmod (IntKind.i64.wrap (x9.1 / 2 ^ min (Int.toNat 1) (IntKind.bits .u64))) (IntKind.i64.wrap (1 * 2 ^ min (Int.toNat (IntKind.u64.wrap w)) (IntKind.bits .i64)))))]) (obs' := [⟨(), 2, [el1Rd false x9.2]⟩]) rfl (r_tmp rfl rfl rfl r_nil) (f_end [0] rfl (h_c rfl h_n) (by decide) rfl rfl hB0 rfl rfl) rfl rfl rfl rfl rfl

/-- spec.l1In -/
noncomputable def spec_l1In_m (n : Int) (low : Int) (high : Int) : Bool :=
  ((decide (n ≥ low) && decide (n ≤ high)))
set_option maxHeartbeats 8000000 in
set_option maxRecDepth 100000 in
theorem spec_l1In_sim (n : Int) (low : Int) (high : Int) : Sim Try.prog 49 [.one (.int .i64 n), .one (.int .i64 low), .one (.int .i64 high)] [] (.u (.one (.bool ((spec_l1In_m n low high))))) [] := by
  obtain ⟨r, hm⟩ : ∃ r, spec_l1In_m n low high = r := ⟨_, rfl⟩
  rw [hm]
  refine sim_st (N := 15) (k0 := 0) Try.func49 rfl rfl rfl rfl (rs := [.tmp 6]) rfl rfl rfl fun B hB0 => ?_
  unfold spec_l1In_m at hm
  refine Wp.seq ?_
  refine c_reg (Y := sysA _) ?_
  refine n_ (x_as rfl rfl ?_)
  refine z_ ?_
  refine Wp.seq ?_
  refine c_cut (St 15 [(6, .u (.one (.bool ((decide (n ≥ low) && decide (n ≤ high))))))] [] 0) ?_ ?_
  · refine c_reg (Y := sysA _) ?_
    refine n_ (x_mv rfl rfl ?_)
    refine n_ (x_mv rfl rfl ?_)
    refine n_ (x_bin T2 rfl rfl rfl ?_)
    refine n_ (x_mv rfl rfl ?_)
    refine g_s rfl rfl rfl (fun hb2 => ?_) (fun hb2 => ?_)
    · refine g_t rfl rfl rfl ?_
      refine n_ (x_mv rfl rfl ?_)
      refine g_t rfl rfl rfl ?_
      refine n_ (x_mv rfl rfl ?_)
      refine g_t rfl rfl rfl ?_
      refine n_ (x_bin T2 rfl rfl rfl ?_)
      refine n_ (x_pk rfl rfl rfl ?_)
      refine n_ (x_as rfl rfl ?_)
      refine z_ ?_
      exact w_ [] (.cons (by simp only [hb2, eq_self, if_true, Bool.false_eq_true, if_false, Bool.true_or, Bool.false_or, Bool.true_and, Bool.false_and, Bool.not_true, Bool.not_false]; rfl) rfl .nil) .nil (by decide) (hB_0 hB0)
    · refine g_f rfl rfl rfl ?_
      refine g_f rfl rfl rfl ?_
      refine g_f rfl rfl rfl ?_
      refine n_ (x_pk rfl rfl rfl ?_)
      refine n_ (x_as rfl rfl ?_)
      refine z_ ?_
      exact w_ [] (.cons (by simp only [hb2, eq_self, if_true, Bool.false_eq_true, if_false, Bool.true_or, Bool.false_or, Bool.true_and, Bool.false_and, Bool.not_true, Bool.not_false]; rfl) rfl .nil) .nil (by decide) (hB_0 hB0)
  · refine c_ret ?_
    rw [← hm]
    exact ret0 (us' := [.one (.bool ((decide (n ≥ low) && decide (n ≤ high))))]) rfl (r_tmp rfl rfl rfl r_nil) f_done rfl rfl

/-- spec.WidthOk -/
noncomputable def spec_WidthOk_m (w : Int) : Bool :=
  (((w == 1) || ((w == 8) || ((w == 16) || (w == 32)))))
set_option maxHeartbeats 8000000 in
set_option maxRecDepth 100000 in
theorem spec_WidthOk_sim (w : Int) : Sim Try.prog 50 [.one (.int .i64 w)] [] (.u (.one (.bool ((spec_WidthOk_m w))))) [] := by
  obtain ⟨r, hm⟩ : ∃ r, spec_WidthOk_m w = r := ⟨_, rfl⟩
  rw [hm]
  refine sim_st (N := 17) (k0 := 0) Try.func50 rfl rfl rfl rfl (rs := [.tmp 2]) rfl rfl rfl fun B hB0 => ?_
  unfold spec_WidthOk_m at hm
  refine Wp.seq ?_
  refine c_reg (Y := sysA _) ?_
  refine n_ (x_as rfl rfl ?_)
  refine z_ ?_
  refine Wp.seq ?_
  refine c_cut (St 17 [(2, .u (.one (.bool (((w == 1) || ((w == 8) || ((w == 16) || (w == 32))))))))] [] 0) ?_ ?_
  · refine c_reg (Y := sysA _) ?_
    refine n_ (x_mv rfl rfl ?_)
    refine n_ (x_bin T2 rfl rfl rfl ?_)
    refine n_ (x_mv rfl rfl ?_)
    refine g_s rfl rfl rfl (fun hb2 => ?_) (fun hb2 => ?_)
    · refine g_t rfl rfl rfl ?_
      refine n_ (x_mv rfl rfl ?_)
      refine g_t rfl rfl rfl ?_
      refine n_ (x_bin T2 rfl rfl rfl ?_)
      refine n_ (x_pk rfl rfl rfl ?_)
      refine n_ (x_mv rfl rfl ?_)
      refine g_s rfl rfl rfl (fun hb3 => ?_) (fun hb3 => ?_)
      · refine g_t rfl rfl rfl ?_
        refine n_ (x_mv rfl rfl ?_)
        refine g_t rfl rfl rfl ?_
        refine n_ (x_bin T2 rfl rfl rfl ?_)
        refine n_ (x_pk rfl rfl rfl ?_)
        refine n_ (x_mv rfl rfl ?_)
        refine g_s rfl rfl rfl (fun hb4 => ?_) (fun hb4 => ?_)
        · refine g_t rfl rfl rfl ?_
          refine n_ (x_mv rfl rfl ?_)
          refine g_t rfl rfl rfl ?_
          refine n_ (x_bin T2 rfl rfl rfl ?_)
          refine n_ (x_pk rfl rfl rfl ?_)
          refine n_ (x_as rfl rfl ?_)
          refine z_ ?_
          exact w_ [] (.cons (by simp only [hb2, hb3, hb4, eq_self, if_true, Bool.false_eq_true, if_false, Bool.true_or, Bool.false_or, Bool.true_and, Bool.false_and, Bool.not_true, Bool.not_false]; rfl) rfl .nil) .nil (by decide) (hB_0 hB0)
        · refine g_f rfl rfl rfl ?_
          refine g_f rfl rfl rfl ?_
          refine n_ (x_pk rfl rfl rfl ?_)
          refine n_ (x_as rfl rfl ?_)
          refine z_ ?_
          exact w_ [] (.cons (by simp only [hb2, hb3, hb4, eq_self, if_true, Bool.false_eq_true, if_false, Bool.true_or, Bool.false_or, Bool.true_and, Bool.false_and, Bool.not_true, Bool.not_false]; rfl) rfl .nil) .nil (by decide) (hB_0 hB0)
      · refine g_f rfl rfl rfl ?_
        refine g_f rfl rfl rfl ?_
        refine n_ (x_pk rfl rfl rfl ?_)
        refine n_ (x_mv rfl rfl ?_)
        refine g_f rfl rfl rfl ?_
        refine g_f rfl rfl rfl ?_
        refine n_ (x_pk rfl rfl rfl ?_)
        refine n_ (x_as rfl rfl ?_)
        refine z_ ?_
        exact w_ [] (.cons (by simp only [hb2, hb3, eq_self, if_true, Bool.false_eq_true, if_false, Bool.true_or, Bool.false_or, Bool.true_and, Bool.false_and, Bool.not_true, Bool.not_false]; rfl) rfl .nil) .nil (by decide) (hB_0 hB0)
    · refine g_f rfl rfl rfl ?_
      refine g_f rfl rfl rfl ?_
      refine n_ (x_pk rfl rfl rfl ?_)
      refine n_ (x_mv rfl rfl ?_)
      refine g_f rfl rfl rfl ?_
      refine g_f rfl rfl rfl ?_
      refine n_ (x_pk rfl rfl rfl ?_)
      refine n_ (x_mv rfl rfl ?_)
      refine g_f rfl rfl rfl ?_
      refine g_f rfl rfl rfl ?_
      refine n_ (x_pk rfl rfl rfl ?_)
      refine n_ (x_as rfl rfl ?_)
      refine z_ ?_
      exact w_ [] (.cons (by simp only [hb2, eq_self, if_true, Bool.false_eq_true, if_false, Bool.true_or, Bool.false_or, Bool.true_and, Bool.false_and, Bool.not_true, Bool.not_false]; rfl) rfl .nil) .nil (by decide) (hB_0 hB0)
  · refine c_ret ?_
    rw [← hm]
    exact ret0 (us' := [.one (.bool (((w == 1) || ((w == 8) || ((w == 16) || (w == 32))))))]) rfl (r_tmp rfl rfl rfl r_nil) f_done rfl rfl

/-- spec.ResultWidth -/
noncomputable def spec_ResultWidth_m (op_ : Int) (w : Int) : Int :=
  (if ((!((spec_WidthOk_m w))) || (!((spec_l1In_m op_ 1 17)))) = true then
    0
    else
    (if decide (op_ ≥ 14) = true then
      1
      else
      w))
set_option maxHeartbeats 8000000 in
set_option maxRecDepth 100000 in
theorem spec_ResultWidth_sim (op_ : Int) (w : Int) : Sim Try.prog 106 [.one (.int .i64 op_), .one (.int .i64 w)] [] (.u (.one (.int .i64 ((spec_ResultWidth_m op_ w))))) [] := by
  obtain ⟨r, hm⟩ : ∃ r, spec_ResultWidth_m op_ w = r := ⟨_, rfl⟩
  rw [hm]
  refine sim_st (N := 16) (k0 := 0) Try.func106 rfl rfl rfl rfl (rs := [.tmp 4]) rfl rfl rfl fun B hB0 => ?_
  unfold spec_ResultWidth_m at hm
  refine Wp.seq ?_
  refine c_reg (Y := sysA _) ?_
  refine n_ (x_as rfl rfl ?_)
  refine z_ ?_
  refine Wp.seq ?_
  refine Wp.seq ?_
  refine c_cut (St 16 [(0, .u (.one (.int .i64 op_))), (1, .u (.one (.int .i64 w))), (12, .u (.one (.bool (((!((spec_WidthOk_m w))) || (!((spec_l1In_m op_ 1 17))))))))] [] 0) ?_ ?_
  · refine c_reg (Y := sysA _) ?_
    refine n_ (x_mv rfl rfl ?_)
    refine n_ (aopK_A (x_call (v := .u (.one (.bool ((spec_WidthOk_m w))))) (nobs := []) (oa' := _) (nx' := 0) rfl (a_1 rfl (b_s rfl) a_n) c_n ent50 (spec_WidthOk_sim w) rfl rfl rfl rfl ?_))
    refine n_ (x_un rfl rfl ?_)
    refine n_ (x_mv rfl rfl ?_)
    refine g_s rfl rfl rfl (fun hb2 => ?_) (fun hb2 => ?_)
    · refine g_t rfl rfl rfl ?_
      refine n_ (x_mv rfl rfl ?_)
      refine g_t rfl rfl rfl ?_
      refine n_ (aopK_A (x_call (v := .u (.one (.bool ((spec_l1In_m op_ 1 17))))) (nobs := []) (oa' := _) (nx' := 0) rfl (a_1 rfl (b_s rfl) (a_1 rfl (b_s rfl) (a_1 rfl (b_s rfl) a_n))) c_n ent49 (spec_l1In_sim op_ 1 17) rfl rfl rfl rfl ?_))
      refine g_t rfl rfl rfl ?_
      refine n_ (x_un rfl rfl ?_)
      refine n_ (x_pk rfl rfl rfl ?_)
      refine z_ ?_
      exact w_ [] (.cons rfl rfl (.cons rfl rfl (.cons (by simp only [hb2, eq_self, if_true, Bool.false_eq_true, if_false, Bool.true_or, Bool.false_or, Bool.true_and, Bool.false_and, Bool.not_true, Bool.not_false]; rfl) rfl .nil))) .nil (by decide) (hB_0 hB0)
    · refine g_f rfl rfl rfl ?_
      refine g_f rfl rfl rfl ?_
      refine g_f rfl rfl rfl ?_
      refine n_ (x_pk rfl rfl rfl ?_)
      refine z_ ?_
      exact w_ [] (.cons rfl rfl (.cons rfl rfl (.cons (by simp only [hb2, eq_self, if_true, Bool.false_eq_true, if_false, Bool.true_or, Bool.false_or, Bool.true_and, Bool.false_and, Bool.not_true, Bool.not_false]; rfl) rfl .nil))) .nil (by decide) (hB_0 hB0)
  · refine c_s rfl rfl (fun hb3 => ?_) (fun hb3 => ?_)
    · rw [if_pos (show _ = true from hb3)] at hm
      refine Wp.seq ?_
      refine c_reg (Y := sysA _) ?_
      refine n_ (x_as rfl rfl ?_)
      refine z_ ?_
      refine c_ret ?_
      rw [← hm]
      exact ret0 (us' := [.one (.int .i64 0)]) rfl (r_tmp rfl rfl rfl r_nil) f_done rfl rfl
    · rw [if_neg (by rw [hb3]; decide)] at hm
      refine c_skip ?_
      refine Wp.seq ?_
      refine Wp.seq ?_
      refine c_reg (Y := sysA _) ?_
      refine n_ (x_mv rfl rfl ?_)
      refine n_ (x_bin T2 rfl rfl rfl ?_)
      refine z_ ?_
      refine c_s rfl rfl (fun hb4 => ?_) (fun hb4 => ?_)
      · rw [if_pos (show _ = true from hb4)] at hm
        refine Wp.seq ?_
        refine c_reg (Y := sysA _) ?_
        refine n_ (x_as rfl rfl ?_)
        refine z_ ?_
        refine c_ret ?_
        rw [← hm]
        exact ret0 (us' := [.one (.int .i64 1)]) rfl (r_tmp rfl rfl rfl r_nil) f_done rfl rfl
      · rw [if_neg (by rw [hb4]; decide)] at hm
        refine c_skip ?_
        refine Wp.seq ?_
        refine c_reg (Y := sysA _) ?_
        refine n_ (x_mv rfl rfl ?_)
        refine n_ (x_as rfl rfl ?_)
        refine z_ ?_
        refine c_ret ?_
        rw [← hm]
        exact ret0 (us' := [.one (.int .i64 w)]) rfl (r_tmp rfl rfl rfl r_nil) f_done rfl rfl

/-- spec.l2Width -/
noncomputable def spec_l2Width_m (i : GInst) : Int :=
  (if (spec_l1In_m i.op_ 1 17) = true then
    ((spec_ResultWidth_m i.op_ i.w))
    else
    i.w)
set_option maxHeartbeats 8000000 in
set_option maxRecDepth 100000 in
theorem spec_l2Width_sim (i : GInst) : Sim Try.prog 74 [.agg (eInst false i)] [] (.u (.one (.int .i64 ((spec_l2Width_m i))))) [] := by
  obtain ⟨r, hm⟩ : ∃ r, spec_l2Width_m i = r := ⟨_, rfl⟩
  rw [hm]
  refine sim_st (N := 13) (k0 := 0) Try.func74 rfl rfl rfl rfl (rs := [.tmp 2]) rfl rfl rfl fun B hB0 => ?_
  unfold spec_l2Width_m at hm
  refine Wp.seq ?_
  refine c_reg (Y := sysA _) ?_
  refine n_ (x_bx rfl rfl rfl rfl ?_)
  refine n_ (x_as rfl rfl ?_)
  refine z_ ?_
  refine Wp.seq ?_
  refine Wp.seq ?_
  refine c_reg (Y := sysA _) ?_
  refine n_ (x_fap rfl F53_0 rfl rfl ?_)
  refine n_ (x_ldp rfl T2 rfl rfl rfl rfl rfl ?_)
  refine n_ (aopK_A (x_call (v := .u (.one (.bool ((spec_l1In_m i.op_ 1 17))))) (nobs := []) (oa' := _) (nx' := 1) rfl (a_1 rfl (b_s rfl) (a_1 rfl (b_s rfl) (a_1 rfl (b_s rfl) a_n))) c_n ent49 (spec_l1In_sim i.op_ 1 17) rfl rfl rfl rfl ?_))
  refine z_ ?_
  refine c_s rfl rfl (fun hb1 => ?_) (fun hb1 => ?_)
  · rw [if_pos (show _ = true from hb1)] at hm
    refine Wp.seq ?_
    refine c_reg (Y := sysA _) ?_
    refine n_ (x_fap rfl F53_0 rfl rfl ?_)
    refine n_ (x_ldp rfl T2 rfl rfl rfl rfl rfl ?_)
    refine n_ (x_fap rfl F53_1 rfl rfl ?_)
    refine n_ (x_ldp rfl T2 rfl rfl rfl rfl rfl ?_)
    refine n_ (aopK_A (x_call (v := .u (.one (.int .i64 ((spec_ResultWidth_m i.op_ i.w))))) (nobs := []) (oa' := _) (nx' := 1) rfl (a_1 rfl (b_s rfl) (a_1 rfl (b_s rfl) a_n)) c_n ent106 (spec_ResultWidth_sim i.op_ i.w) rfl rfl rfl rfl ?_))
    refine n_ (x_as rfl rfl ?_)
    refine z_ ?_
    refine c_ret ?_
    rw [← hm]
    exact ret0 (us' := [.one (.int .i64 ((spec_ResultWidth_m i.op_ i.w)))]) rfl (r_tmp rfl rfl rfl r_nil) f_done rfl rfl
  · rw [if_neg (by rw [hb1]; decide)] at hm
    refine c_skip ?_
    refine Wp.seq ?_
    refine c_reg (Y := sysA _) ?_
    refine n_ (x_fap rfl F53_1 rfl rfl ?_)
    refine n_ (x_ldp rfl T2 rfl rfl rfl rfl rfl ?_)
    refine n_ (x_as rfl rfl ?_)
    refine z_ ?_
    refine c_ret ?_
    rw [← hm]
    exact ret0 (us' := [.one (.int .i64 i.w)]) rfl (r_tmp rfl rfl rfl r_nil) f_done rfl rfl

/-- (*spec.l2G).put -/
noncomputable def spec_l2G_put_m (g : Gl2G) (gr : Gl1Rd) (grets : List Int) (gpars : List (List Int)) (i : GInst) : Option (Int × Gl2G × Gl1Rd) :=
  (if (List.length g.b.insts + List.length ([i])) * 72 ≤ 140737488355328 ∧ List.length g.b.insts + List.length ([i]) ≤ LIM then
    (if (((spec_l2Width_m i)) == 0) = true then
      (if inI (g.next + 1) then
        (some (((-1), ({ f := g.f, b := ({ phis := g.b.phis, insts := g.b.insts ++ ([i]), term := g.b.term } : GBlock), next := g.next + 1, ids := g.ids, ws := g.ws } : Gl2G), gr)))
        else none)
      else
      (Option.bind (spec_l2G_add_m (({ f := g.f, b := ({ phis := g.b.phis, insts := g.b.insts ++ ([i]), term := g.b.term } : GBlock), next := g.next, ids := g.ids, ws := g.ws } : Gl2G)) gr grets gpars ((spec_l2Width_m i))) fun x4 =>
        (some ((x4.1, x4.2.1, x4.2.2)))))
    else none)
set_option maxHeartbeats 8000000 in
set_option maxRecDepth 100000 in
theorem spec_l2G_put_sim (g : Gl2G) (gr : Gl1Rd) (grets : List Int) (gpars : List (List Int)) (i : GInst) {r : Int × Gl2G × Gl1Rd} (hm : spec_l2G_put_m g gr grets gpars i = some r) : Sim Try.prog 129 [.one (.ptr () 0 0 0), .agg (eInst false i)] [⟨(), 15, [hl2G (.ptr () 1 0 0) (.ref () 2 0 (List.length grets)) (.ref () 3 0 (List.length gpars)) g]⟩, ⟨(), 2, [el1Rd false gr]⟩, ⟨(), 1, List.map iL grets⟩, ⟨(), 1, List.map (lL false 1 iL) gpars⟩] (.u (.one (.int .i64 r.1))) [⟨(), 15, [hl2G (.ptr () 1 0 0) (.ref () 2 0 (List.length grets)) (.ref () 3 0 (List.length gpars)) r.2.1]⟩, ⟨(), 2, [el1Rd false r.2.2]⟩, ⟨(), 1, List.map iL grets⟩, ⟨(), 1, List.map (lL false 1 iL) gpars⟩] := by
  refine sim_st (N := 32) (k0 := 4) Try.func129 rfl rfl rfl rfl (rs := [.tmp 4]) rfl rfl (by simp only [hl2G, List.all_cons, List.all_nil, knows_map, Bool.and_true, Bool.true_and] <;> rfl) fun B hB0 => ?_
  unfold spec_l2G_put_m at hm
  refine Wp.seq ?_
  refine c_reg (Y := sysA _) ?_
  refine n_ (x_bx rfl rfl rfl rfl ?_)
  refine n_ (x_as rfl rfl ?_)
  refine z_ ?_
  refine Wp.seq ?_
  refine Wp.ghb _ (f_op (rows' := [[.ptr () 1 0 0, .os () 1 (List.map iL g.f.params), .int .i64 g.f.ret, .os () 6 (List.map (eBlock true) g.f.blocks), .os () 2 (List.map (ePhi true) g.b.phis), .ref () 5 0 (List.length g.b.insts), .int .i64 g.b.term.kind, .int .i64 g.b.term.a, .int .i64 g.b.term.x, .int .i64 g.b.term.y, .int .i64 g.next, .bs () 1 (List.map iL g.ids), .bs () 1 (List.map iL g.ws), .ref () 2 0 (List.length grets), .ref () 3 0 (List.length gpars)]]) 0 0 5 rfl rfl rfl (by simp) rfl) ?_
  refine c_drw (Y := sysC _) mixed ?_
  refine t_ 0 0 rfl (by decide +kernel) (x_mv rfl rfl ?_)
  refine t_ 1 0 rfl (by decide +kernel) (x_mv rfl rfl ?_)
  refine t_D 2 1 [3, 4, 5, 8, 9, 10, 11, 12] rfl (by decide +kernel) (x_ncp rfl rfl rfl ?_)
  refine t_D 3 1 [4, 5, 8, 9, 10, 11, 12] rfl (by decide +kernel) (x_fap rfl F135_2 rfl rfl ?_)
  refine t_D 4 1 [5, 8, 9, 10, 11, 12] rfl (by decide +kernel) (x_fap rfl F61_1 rfl rfl ?_)
  refine t_ 5 1 rfl (by decide +kernel) (x_ldp rfl T57 rfl rfl rfl rfl rfl ?_)
  refine t_D 6 1 [7, 8, 9, 10, 11, 12] rfl (by decide +kernel) (x_ldp rfl T53 rfl rfl rfl (pk_all rfl rfl) rfl ?_)
  refine o_ 7 rfl (by decide +kernel) (x_bsm (enc := eInst false) ([i]) A57 rfl rfl rfl rfl ?_)
  obtain ⟨h1, hm⟩ := of_ite hm
  refine o_ 8 rfl (by decide +kernel) (x_apr (enc := eInst false) (xs := g.b.insts) (ys := [i]) A57 N57 (encB_N _) rfl rfl rfl (argR_r rfl) h1 ?_)
  refine t_D 9 1 [10, 11, 12] rfl (by decide +kernel) (x_ncp rfl rfl rfl ?_)
  refine t_D 10 1 [11, 12] rfl (by decide +kernel) (x_fap rfl F135_2 rfl rfl ?_)
  refine t_ 11 1 rfl (by decide +kernel) (x_fap rfl F61_1 rfl rfl ?_)
  refine o_ 12 rfl (by decide +kernel) (x_st T57 (rows := [[.ptr () 1 0 0, .os () 1 (List.map iL g.f.params), .int .i64 g.f.ret, .os () 6 (List.map (eBlock true) g.f.blocks), .os () 2 (List.map (ePhi true) g.b.phis), .ref () 7 0 (List.length (g.b.insts ++ ([i]))), .int .i64 g.b.term.kind, .int .i64 g.b.term.a, .int .i64 g.b.term.x, .int .i64 g.b.term.y, .int .i64 g.next, .bs () 1 (List.map iL g.ids), .bs () 1 (List.map iL g.ws), .ref () 2 0 (List.length grets), .ref () 3 0 (List.length gpars)]]) rfl rfl rfl rfl rfl rfl rfl rfl ?_)
  refine a_nil (by decide +kernel) ?_
  refine Wp.seq ?_
  refine Wp.ghb _ (f_cl (rows2 := List.map (eInst false) (g.b.insts ++ ([i]))) (rows' := [[.ptr () 1 0 0, .os () 1 (List.map iL g.f.params), .int .i64 g.f.ret, .os () 6 (List.map (eBlock true) g.f.blocks), .os () 2 (List.map (ePhi true) g.b.phis), .os () 7 (List.map (eInst false) (g.b.insts ++ ([i]))), .int .i64 g.b.term.kind, .int .i64 g.b.term.a, .int .i64 g.b.term.x, .int .i64 g.b.term.y, .int .i64 g.next, .bs () 1 (List.map iL g.ids), .bs () 1 (List.map iL g.ws), .ref () 2 0 (List.length grets), .ref () 3 0 (List.length gpars)]]) 0 7 0 5 rfl rfl rfl (nest_map (enc := eInst false) (g.b.insts ++ ([i]))) rfl rfl (by simp) rfl) ?_
  refine c_reg (Y := sysA _) ?_
  refine n_ (x_ldp rfl T53 rfl rfl rfl (pk_all rfl rfl) rfl ?_)
  refine n_ (aopK_A (x_call (v := .u (.one (.int .i64 ((spec_l2Width_m i))))) (nobs := []) (oa' := _) (nx' := 8) rfl (a_a rfl (c_all rfl) a_n) c_n ent74 (spec_l2Width_sim i) rfl rfl rfl rfl ?_))
  refine n_ (x_as rfl rfl ?_)
  refine z_ ?_
  refine Wp.seq ?_
  refine Wp.seq ?_
  refine c_reg (Y := sysA _) ?_
  refine n_ (x_mv rfl rfl ?_)
  refine n_ (x_bin T2 rfl rfl rfl ?_)
  refine z_ ?_
  refine c_s rfl rfl (fun hb2 => ?_) (fun hb2 => ?_)
  · rw [if_pos (show _ = true from hb2)] at hm
    refine Wp.seq ?_
    refine c_reg (Y := sysA _) ?_
    refine n_ (x_mv rfl rfl ?_)
    refine n_ (x_ncp rfl rfl rfl ?_)
    refine n_ (x_fap rfl F135_3 rfl rfl ?_)
    refine n_ (x_ldp rfl T2 rfl rfl rfl rfl rfl ?_)
    obtain ⟨h3, hm⟩ := of_ite hm
    refine n_ (x_addc T2 rfl rfl h3 ?_)
    refine n_ (x_ncp rfl rfl rfl ?_)
    refine n_ (x_fap rfl F135_3 rfl rfl ?_)
    refine n_ (x_st T2 (rows := [[.ptr () 1 0 0, .os () 1 (List.map iL g.f.params), .int .i64 g.f.ret, .os () 6 (List.map (eBlock true) g.f.blocks), .os () 2 (List.map (ePhi true) g.b.phis), .os () 7 (List.map (eInst false) (g.b.insts ++ ([i]))), .int .i64 g.b.term.kind, .int .i64 g.b.term.a, .int .i64 g.b.term.x, .int .i64 g.b.term.y, .int .i64 (g.next + 1), .bs () 1 (List.map iL g.ids), .bs () 1 (List.map iL g.ws), .ref () 2 0 (List.length grets), .ref () 3 0 (List.length gpars)]]) rfl rfl rfl rfl rfl rfl rfl rfl ?_)
    refine z_ ?_
    refine Wp.seq ?_
    refine c_reg (Y := sysA _) ?_
    refine n_ (x_as rfl rfl ?_)
    refine z_ ?_
    refine c_ret ?_
    rw [← Option.some.inj hm]
    exact retG (us' := [.one (.int .i64 ((-1)))]) (obs' := [⟨(), 15, [hl2G (.ptr () 1 0 0) (.ref () 2 0 (List.length grets)) (.ref () 3 0 (List.length gpars)) (({ f := g.f, b := ({ phis := g.b.phis, insts := g.b.insts ++ ([i]), term := g.b.term } : GBlock), next := g.next + 1, ids := g.ids, ws := g.ws } : Gl2G))]⟩, ⟨(), 2, [el1Rd false gr]⟩, ⟨(), 1, List.map iL grets⟩, ⟨(), 1, List.map (lL false 1 iL) gpars⟩]) rfl (r_tmp rfl rfl rfl r_nil) (f_end [0, 1, 2, 3] rfl (h_c rfl (h_c rfl (h_c (hrow rfl) (h_c (hrow rfl) h_n)))) (by decide) rfl (by simp only [hl2G, List.all_cons, List.all_nil, knows_map, Bool.and_true, Bool.true_and] <;> rfl) hB0 rfl rfl) rfl rfl rfl rfl (by simp only [hl2G, List.all_cons, List.all_nil, knows_map, Bool.and_true, Bool.true_and] <;> rfl)
  · rw [if_neg (by rw [hb2]; decide)] at hm
    refine c_skip ?_
    refine Wp.seq ?_
    refine c_reg (Y := sysA _) ?_
    refine n_ (x_mv rfl rfl ?_)
    refine n_ (x_mv rfl rfl ?_)
    obtain ⟨x4, h5, hm⟩ := of_bind hm
    refine n_ (x_cg (v := .u (.one (.int .i64 x4.1))) (nobs := []) (oa' := _) (nx' := 8) (cs := []) (obs := [⟨(), 15, [hl2G (.ptr () 1 0 0) (.ref () 2 0 (List.length grets)) (.ref () 3 0 (List.length gpars)) (({ f := g.f, b := ({ phis := g.b.phis, insts := g.b.insts ++ ([i]), term := g.b.term } : GBlock), next := g.next, ids := g.ids, ws := g.ws } : Gl2G))]⟩, ⟨(), 2, [el1Rd false gr]⟩, ⟨(), 1, List.map iL grets⟩, ⟨(), 1, List.map (lL false 1 iL) gpars⟩]) [0, 1, 2, 3] false rfl (by decide) (h_c rfl (h_c rfl (h_c (hrow rfl) (h_c (hrow rfl) h_n)))) (by simp only [hl2G, List.all_cons, List.all_nil, knows_map, Bool.and_true, Bool.true_and] <;> rfl) (g_1 (l := .ptr () 0 0 0) rfl rfl rfl (g_1 (l := .int .i64 ((spec_l2Width_m i))) rfl rfl rfl g_n)) rfl rfl ent120 (spec_l2G_add_sim (({ f := g.f, b := ({ phis := g.b.phis, insts := g.b.insts ++ ([i]), term := g.b.term } : GBlock), next := g.next, ids := g.ids, ws := g.ws } : Gl2G)) gr grets gpars ((spec_l2Width_m i)) h5) (.inl rfl) rfl rfl (by simp only [hl2G, oaG, List.drop_succ_cons, List.drop_zero, List.drop_nil, List.take_succ_cons, List.take_zero, List.take_nil, List.length_cons, List.length_nil, List.map_cons, List.map_nil, List.zipIdx_nil, List.zip_cons_cons, List.zip_nil_right, updO, pushO, ren_map] <;> rfl) rfl ?_)
    refine n_ (x_as rfl rfl ?_)
    refine z_ ?_
    refine c_ret ?_
    rw [← Option.some.inj hm]
    exact retG (us' := [.one (.int .i64 x4.1)]) (obs' := [⟨(), 15, [hl2G (.ptr () 1 0 0) (.ref () 2 0 (List.length grets)) (.ref () 3 0 (List.length gpars)) x4.2.1]⟩, ⟨(), 2, [el1Rd false x4.2.2]⟩, ⟨(), 1, List.map iL grets⟩, ⟨(), 1, List.map (lL false 1 iL) gpars⟩]) rfl (r_tmp rfl rfl rfl r_nil) (f_end [0, 1, 2, 3] rfl (h_c rfl (h_c rfl (h_c (hrow rfl) (h_c (hrow rfl) h_n)))) (by decide) rfl (by simp only [hl2G, List.all_cons, List.all_nil, knows_map, Bool.and_true, Bool.true_and] <;> rfl) hB0 rfl rfl) rfl rfl rfl rfl (by simp only [hl2G, List.all_cons, List.all_nil, knows_map, Bool.and_true, Bool.true_and] <;> rfl)

/-- (*spec.l1Rd).once -/
noncomputable def spec_l1Rd_once_m (vr : Gl1Rd) (n : Int) : Option (Bool × Gl1Rd) :=
  (Option.bind (spec_l1Rd_below_m vr n) fun x1 =>
    (if inI (n - 1) then
      (some (((x1.1 == (n - 1)), x1.2)))
      else none))
set_option maxHeartbeats 8000000 in
set_option maxRecDepth 100000 in
theorem spec_l1Rd_once_sim (vr : Gl1Rd) (n : Int) {r : Bool × Gl1Rd} (hm : spec_l1Rd_once_m vr n = some r) : Sim Try.prog 77 [.one (.ptr () 0 0 0), .one (.int .i64 n)] [⟨(), 2, [el1Rd false vr]⟩] (.u (.one (.bool r.1))) [⟨(), 2, [el1Rd false r.2]⟩] := by
  refine sim_st (N := 11) (k0 := 1) Try.func77 rfl rfl rfl rfl (rs := [.tmp 4]) rfl rfl rfl fun B hB0 => ?_
  unfold spec_l1Rd_once_m at hm
  refine Wp.seq ?_
  refine c_reg (Y := sysA _) ?_
  refine n_ (x_as rfl rfl ?_)
  refine z_ ?_
  refine Wp.seq ?_
  refine c_reg (Y := sysA _) ?_
  refine n_ (x_mv rfl rfl ?_)
  refine n_ (x_mv rfl rfl ?_)
  obtain ⟨x1, h2, hm⟩ := of_bind hm
  refine n_ (x_cg (v := .u (.one (.int .i64 x1.1))) (nobs := []) (oa' := _) (nx' := 1) (cs := []) (obs := [⟨(), 2, [el1Rd false vr]⟩]) [0] false rfl (by decide) (h_c rfl h_n) rfl (g_1 (l := .ptr () 0 0 0) rfl rfl rfl (g_1 (l := .int .i64 n) rfl rfl rfl g_n)) rfl rfl ent76 (spec_l1Rd_below_sim vr n h2) (.inl rfl) rfl rfl rfl rfl ?_)
  refine n_ (x_mv rfl rfl ?_)
  obtain ⟨h3, hm⟩ := of_ite hm
  refine n_ (x_subc T3 rfl rfl h3 ?_)
  refine n_ (x_bin T3 rfl rfl rfl ?_)
  refine n_ (x_as rfl rfl ?_)
  refine z_ ?_
  refine c_ret ?_
  rw [← Option.some.inj hm]
  exact retG (us' := [.one (.bool ((x1.1 == (n - 1))))]) (obs' := [⟨(), 2, [el1Rd false x1.2]⟩]) rfl (r_tmp rfl rfl rfl r_nil) (f_end [0] rfl (h_c rfl h_n) (by decide) rfl rfl hB0 rfl rfl) rfl rfl rfl rfl rfl

/-- (*spec.l2G).pick -/
noncomputable def spec_l2G_pick_m (g : Gl2G) (gr : Gl1Rd) (grets : List Int) (gpars : List (List Int)) (w : Int) : Option (Int × Gl2G × Gl1Rd) :=
  (Option.bind (loopO (fun (st1 : (List Int) × Int) =>
        ((if decide (st1.2 < ((List.length g.ids : Int))) = true then
            (if 0 ≤ st1.2 ∧ st1.2 < (List.length g.ws : Int) then
              (if ((at_ g.ws st1.2) == w) = true then
                (if 0 ≤ st1.2 ∧ st1.2 < (List.length g.ids : Int) then
                  (if (List.length st1.1 + List.length ([at_ g.ids st1.2])) * 8 ≤ 140737488355328 ∧ List.length st1.1 + List.length ([at_ g.ids st1.2]) ≤ LIM then
                    (if inI (st1.2 + 1) then
                      (some (Sum.inl ((st1.1 ++ ([at_ g.ids st1.2]), st1.2 + 1))))
                      else none)
                    else none)
                  else none)
                else
                (if inI (st1.2 + 1) then
                  (some (Sum.inl ((st1.1, st1.2 + 1))))
                  else none))
              else none)
            else
            (some (Sum.inr st1.1))) : Option (((List Int) × Int) ⊕ (((List Int)))))) (([] : List Int), 0)) fun (j2 : (List Int)) =>
    (Option.bind ((if (((List.length j2 : Int)) == 0) = true then
          (some ((gr, true)))
          else
          (Option.bind (spec_l1Rd_once_m gr 5) fun x16 =>
            (some ((x16.2, x16.1)))))) fun (j13 : Gl1Rd × Bool) =>
      (if j13.2 = true then
        (Option.bind (spec_l1Rd_value_m j13.1 w) fun x20 =>
          (if 0 ≤ (IntKind.u64.wrap w) then
            (if (IntKind.i64.wrap (1 * 2 ^ min (Int.toNat (IntKind.u64.wrap w)) (IntKind.bits .i64))) ≠ 0 then
              (Option.bind (spec_l2G_put_m g x20.2 grets gpars (({ op_ := 21, w := w, a := 0, b := 0, c := 0, imm := Int.tmod (Int.tmod x20.1 7) (IntKind.i64.wrap (1 * 2 ^ min (Int.toNat (IntKind.u64.wrap w)) (IntKind.bits .i64))), args := ([] : List Int) } : GInst))) fun x24 =>
                (some ((x24.1, x24.2.1, x24.2.2))))
              else none)
            else none))
        else
        (Option.bind (spec_l1Rd_below_m j13.1 (((List.length j2 : Int)) + 2)) fun x27 =>
          (if 0 ≤ ((if decide (x27.1 ≥ ((List.length j2 : Int))) = true then ((List.length j2 : Int)) - 1 else x27.1)) ∧ ((if decide (x27.1 ≥ ((List.length j2 : Int))) = true then ((List.length j2 : Int)) - 1 else x27.1)) < (List.length j2 : Int) then
            (some ((at_ j2 ((if decide (x27.1 ≥ ((List.length j2 : Int))) = true then ((List.length j2 : Int)) - 1 else x27.1)), g, x27.2)))
            else none)))))
set_option maxHeartbeats 8000000 in
set_option maxRecDepth 100000 in
theorem spec_l2G_pick_sim (g : Gl2G) (gr : Gl1Rd) (grets : List Int) (gpars : List (List Int)) (w : Int) {r : Int × Gl2G × Gl1Rd} (hm : spec_l2G_pick_m g gr grets gpars w = some r) : Sim Try.prog 131 [.one (.ptr () 0 0 0), .one (.int .i64 w)] [⟨(), 15, [hl2G (.ptr () 1 0 0) (.ref () 2 0 (List.length grets)) (.ref () 3 0 (List.length gpars)) g]⟩, ⟨(), 2, [el1Rd false gr]⟩, ⟨(), 1, List.map iL grets⟩, ⟨(), 1, List.map (lL false 1 iL) gpars⟩] (.u (.one (.int .i64 r.1))) [⟨(), 15, [hl2G (.ptr () 1 0 0) (.ref () 2 0 (List.length grets)) (.ref () 3 0 (List.length gpars)) r.2.1]⟩, ⟨(), 2, [el1Rd false r.2.2]⟩, ⟨(), 1, List.map iL grets⟩, ⟨(), 1, List.map (lL false 1 iL) gpars⟩] := by
  refine sim_st (N := 81) (k0 := 4) Try.func131 rfl rfl rfl rfl (rs := [.tmp 4]) rfl rfl (by simp only [hl2G, List.all_cons, List.all_nil, knows_map, Bool.and_true, Bool.true_and] <;> rfl) fun B hB0 => ?_
  unfold spec_l2G_pick_m at hm
  refine Wp.seq ?_
  refine c_reg (Y := sysA _) ?_
  refine n_ (x_as rfl rfl ?_)
  refine z_ ?_
  refine Wp.seq ?_
  refine c_reg (Y := sysA _) ?_
  refine n_ (x_bsm (enc := iL) (([] : List Int)) A24 rfl rfl rfl rfl ?_)
  refine n_ (x_as rfl rfl ?_)
  refine z_ ?_
  refine Wp.seq ?_
  refine Wp.seq ?_
  refine c_reg (Y := sysA _) ?_
  refine n_ (x_as rfl rfl ?_)
  refine z_ ?_
  refine Wp.block ?_
  obtain ⟨j2, hl12, hm⟩ := of_bind hm
  refine c_loop hl12 (fun (st1 : (List Int) × Int) => St 81 [(0, .u (.one (.ptr () 0 0 0))), (1, .u (.one (.int .i64 w))), (5, .u (.one (.ref () 4 0 (List.length st1.1)))), (6, .u (.one (.int .i64 st1.2)))] [(0, some ⟨(), 15, [[.ptr () 1 0 0, .os () 1 (List.map iL g.f.params), .int .i64 g.f.ret, .os () 6 (List.map (eBlock true) g.f.blocks), .os () 2 (List.map (ePhi true) g.b.phis), .os () 7 (List.map (eInst false) g.b.insts), .int .i64 g.b.term.kind, .int .i64 g.b.term.a, .int .i64 g.b.term.x, .int .i64 g.b.term.y, .int .i64 g.next, .bs () 1 (List.map iL g.ids), .bs () 1 (List.map iL g.ws), .ref () 2 0 (List.length grets), .ref () 3 0 (List.length gpars)]]⟩), (1, some ⟨(), 2, [(el1Rd false gr)]⟩), (2, some ⟨(), 1, List.map iL grets⟩), (3, some ⟨(), 1, List.map (lL false 1 iL) gpars⟩), (4, some ⟨(), 1, List.map iL st1.1⟩)] 5) (fun (j2 : (List Int)) => (.exit 0, St 81 [(0, .u (.one (.ptr () 0 0 0))), (1, .u (.one (.int .i64 w))), (5, .u (.one (.ref () 4 0 (List.length j2))))] [(0, some ⟨(), 15, [[.ptr () 1 0 0, .os () 1 (List.map iL g.f.params), .int .i64 g.f.ret, .os () 6 (List.map (eBlock true) g.f.blocks), .os () 2 (List.map (ePhi true) g.b.phis), .os () 7 (List.map (eInst false) g.b.insts), .int .i64 g.b.term.kind, .int .i64 g.b.term.a, .int .i64 g.b.term.x, .int .i64 g.b.term.y, .int .i64 g.next, .bs () 1 (List.map iL g.ids), .bs () 1 (List.map iL g.ws), .ref () 2 0 (List.length grets), .ref () 3 0 (List.length gpars)]]⟩), (1, some ⟨(), 2, [(el1Rd false gr)]⟩), (2, some ⟨(), 1, List.map iL grets⟩), (3, some ⟨(), 1, List.map (lL false 1 iL) gpars⟩), (4, some ⟨(), 1, List.map iL j2⟩)] 5)) (w_ [0, 1, 2, 3, 4] (.cons rfl rfl (.cons rfl rfl (.cons (by first | rfl | (simp only [List.length_set]; rfl)) rfl (.cons rfl rfl .nil)))) (.lit rfl rfl (.lit rfl rfl (.map rfl (.map rfl (.map rfl .nil))))) (by decide) (hB_n 4 hB0 rfl)) ?_ (by intro y; simp) ?_
  · intro st1 x hm
    refine Wp.seq ?_
    refine Wp.seq ?_
    refine c_reg (Y := sysA _) ?_
    refine n_ (x_mv rfl rfl ?_)
    refine n_ (x_mv rfl rfl ?_)
    refine n_ (x_ncp rfl rfl rfl ?_)
    refine n_ (x_fap rfl F135_4 rfl rfl ?_)
    refine n_ (x_ldp rfl T24 rfl rfl rfl rfl rfl ?_)
    refine n_ (x_lnb N24 rfl fun hL3 => ?_)
    refine n_ (x_bin T3 rfl rfl rfl ?_)
    refine z_ ?_
    refine c_s rfl rfl (fun hb4 => ?_) (fun hb4 => ?_)
    · rw [if_pos (show _ = true from hb4)] at hm
      refine c_skip ?_
      refine Wp.seq ?_
      refine Wp.block ?_
      refine Wp.seq ?_
      refine c_reg (Y := sysA _) ?_
      refine n_ (x_mv rfl rfl ?_)
      refine n_ (x_ncp rfl rfl rfl ?_)
      refine n_ (x_fap rfl F135_5 rfl rfl ?_)
      refine n_ (x_ldp rfl T24 rfl rfl rfl rfl rfl ?_)
      refine n_ (x_mv rfl rfl ?_)
      obtain ⟨h5, hm⟩ := of_ite hm
      refine n_ (x_ixb E24 rfl rfl h5 ?_)
      refine n_ (x_ldi T2 rfl rfl rfl ?_)
      refine n_ (x_mv rfl rfl ?_)
      refine n_ (x_bin T2 rfl rfl rfl ?_)
      refine z_ ?_
      refine c_s rfl rfl (fun hb6 => ?_) (fun hb6 => ?_)
      · rw [if_pos (show _ = true from hb6)] at hm
        refine c_reg (Y := sysA _) ?_
        refine n_ (x_mv rfl rfl ?_)
        refine n_ (x_mv rfl rfl ?_)
        refine n_ (x_ncp rfl rfl rfl ?_)
        refine n_ (x_fap rfl F135_4 rfl rfl ?_)
        refine n_ (x_ldp rfl T24 rfl rfl rfl rfl rfl ?_)
        refine n_ (x_mv rfl rfl ?_)
        obtain ⟨h7, hm⟩ := of_ite hm
        refine n_ (x_ixb E24 rfl rfl h7 ?_)
        refine n_ (x_ldi T2 rfl rfl rfl ?_)
        refine n_ (x_bsm (enc := iL) ([at_ g.ids st1.2]) A24 rfl rfl rfl rfl ?_)
        obtain ⟨h8, hm⟩ := of_ite hm
        refine n_ (x_apr (enc := iL) (xs := st1.1) (ys := [at_ g.ids st1.2]) A24 N24 (encB_N _) rfl rfl rfl (argR_r rfl) h8 ?_)
        refine n_ (x_as rfl rfl ?_)
        refine z_ ?_
        refine c_reg (Y := sysA _) ?_
        refine n_ (x_mv rfl rfl ?_)
        obtain ⟨h9, hm⟩ := of_ite hm
        refine n_ (x_addc T3 rfl rfl h9 ?_)
        refine n_ (x_as rfl rfl ?_)
        refine z_ ?_
        cases hm
        exact ⟨rfl, w_ [0, 1, 2, 3, 6] (.cons rfl rfl (.cons rfl rfl (.cons (by first | rfl | (simp only [List.length_set]; rfl)) rfl (.cons rfl rfl .nil)))) (.lit rfl rfl (.lit rfl rfl (.map rfl (.map rfl (.map rfl .nil))))) (by decide) (hB_n 4 hB0 rfl)⟩
      · rw [if_neg (by rw [hb6]; decide)] at hm
        refine c_skip ?_
        refine c_reg (Y := sysA _) ?_
        refine n_ (x_mv rfl rfl ?_)
        obtain ⟨h10, hm⟩ := of_ite hm
        refine n_ (x_addc T3 rfl rfl h10 ?_)
        refine n_ (x_as rfl rfl ?_)
        refine z_ ?_
        cases hm
        exact ⟨rfl, w_ [0, 1, 2, 3, 4] (.cons rfl rfl (.cons rfl rfl (.cons (by first | rfl | (simp only [List.length_set]; rfl)) rfl (.cons rfl rfl .nil)))) (.lit rfl rfl (.lit rfl rfl (.map rfl (.map rfl (.map rfl .nil))))) (by decide) (hB_n 4 hB0 rfl)⟩
    · rw [if_neg (by rw [hb4]; decide)] at hm
      refine c_exit ?_
      cases hm
      exact ⟨rfl, w_ [0, 1, 2, 3, 4] (.cons rfl rfl (.cons rfl rfl (.cons (by first | rfl | (simp only [List.length_set]; rfl)) rfl .nil))) (.lit rfl rfl (.lit rfl rfl (.map rfl (.map rfl (.map rfl .nil))))) (by decide) (hB_n 4 hB0 rfl)⟩
  · refine Wp.seq ?_
    refine Wp.seq ?_
    obtain ⟨j13, hj18, hm⟩ := of_bind hm
    refine c_cut (St 81 [(0, .u (.one (.ptr () 0 0 0))), (1, .u (.one (.int .i64 w))), (5, .u (.one (.ref () 4 0 (List.length j2)))), (46, .u (.one (.bool j13.2)))] [(0, some ⟨(), 15, [[.ptr () 1 0 0, .os () 1 (List.map iL g.f.params), .int .i64 g.f.ret, .os () 6 (List.map (eBlock true) g.f.blocks), .os () 2 (List.map (ePhi true) g.b.phis), .os () 7 (List.map (eInst false) g.b.insts), .int .i64 g.b.term.kind, .int .i64 g.b.term.a, .int .i64 g.b.term.x, .int .i64 g.b.term.y, .int .i64 g.next, .bs () 1 (List.map iL g.ids), .bs () 1 (List.map iL g.ws), .ref () 2 0 (List.length grets), .ref () 3 0 (List.length gpars)]]⟩), (1, some ⟨(), 2, [(el1Rd false j13.1)]⟩), (2, some ⟨(), 1, List.map iL grets⟩), (3, some ⟨(), 1, List.map (lL false 1 iL) gpars⟩), (4, some ⟨(), 1, List.map iL j2⟩)] 5) ?_ ?_
    · replace hm := hj18
      refine c_reg (Y := sysA _) ?_
      refine n_ (x_mv rfl rfl ?_)
      refine n_ (x_lnr rfl N24 rfl rfl fun hL14 => ?_)
      refine n_ (x_bin T3 rfl rfl rfl ?_)
      refine n_ (x_mv rfl rfl ?_)
      refine g_s rfl rfl rfl (fun hb15 => ?_) (fun hb15 => ?_)
      · rw [if_neg (by rw [hb15]; decide)] at hm
        refine g_t rfl rfl rfl ?_
        refine n_ (x_mv rfl rfl ?_)
        refine g_t rfl rfl rfl ?_
        refine n_ (x_ncp rfl rfl rfl ?_)
        refine g_t rfl rfl rfl ?_
        refine n_ (x_fap rfl F135_0 rfl rfl ?_)
        refine g_t rfl rfl rfl ?_
        refine n_ (x_ldp rfl T64 rfl rfl rfl rfl rfl ?_)
        refine g_t rfl rfl rfl ?_
        obtain ⟨x16, h17, hm⟩ := of_bind hm
        refine n_ (x_cg (v := .u (.one (.bool x16.1))) (nobs := []) (oa' := _) (nx' := 5) (cs := []) (obs := [⟨(), 2, [el1Rd false gr]⟩]) [1] false rfl (by decide) (h_c rfl h_n) rfl (g_1 (l := .ptr () 0 0 0) rfl rfl rfl (g_1 (l := .int .i64 5) rfl rfl rfl g_n)) rfl rfl ent77 (spec_l1Rd_once_sim gr 5 h17) (.inl rfl) rfl rfl rfl rfl ?_)
        refine n_ (x_pk rfl rfl rfl ?_)
        refine z_ ?_
        cases hm
        exact w_ [0, 1, 2, 3, 4] (.cons rfl rfl (.cons rfl rfl (.cons (by first | rfl | (simp only [List.length_set]; rfl)) rfl (.cons rfl rfl .nil)))) (.lit rfl rfl (.lit rfl rfl (.map rfl (.map rfl (.map rfl .nil))))) (by decide) (hB_n 4 hB0 rfl)
      · rw [if_pos (show _ = true from hb15)] at hm
        refine g_f rfl rfl rfl ?_
        refine g_f rfl rfl rfl ?_
        refine g_f rfl rfl rfl ?_
        refine g_f rfl rfl rfl ?_
        refine g_f rfl rfl rfl ?_
        refine n_ (x_pk rfl rfl rfl ?_)
        refine z_ ?_
        cases hm
        exact w_ [0, 1, 2, 3, 4] (.cons rfl rfl (.cons rfl rfl (.cons (by first | rfl | (simp only [List.length_set]; rfl)) rfl (.cons rfl rfl .nil)))) (.lit rfl rfl (.lit rfl rfl (.map rfl (.map rfl (.map rfl .nil))))) (by decide) (hB_n 4 hB0 rfl)
    · refine c_s rfl rfl (fun hb19 => ?_) (fun hb19 => ?_)
      · rw [if_pos (show _ = true from hb19)] at hm
        refine Wp.seq ?_
        refine c_regS ?_
        refine o_run (Y := sysA _) 14 ?_
        refine n_ (x_mv rfl rfl ?_)
        refine n_ (x_mv rfl rfl ?_)
        refine n_ (x_mv rfl rfl ?_)
        refine n_ (x_ncp rfl rfl rfl ?_)
        refine n_ (x_fap rfl F135_0 rfl rfl ?_)
        refine n_ (x_ldp rfl T64 rfl rfl rfl rfl rfl ?_)
        refine n_ (x_mv rfl rfl ?_)
        obtain ⟨x20, h21, hm⟩ := of_bind hm
        refine n_ (x_cg (v := .u (.one (.int .i64 x20.1))) (nobs := []) (oa' := _) (nx' := 5) (cs := []) (obs := [⟨(), 2, [el1Rd false j13.1]⟩]) [1] false rfl (by decide) (h_c rfl h_n) rfl (g_1 (l := .ptr () 0 0 0) rfl rfl rfl (g_1 (l := .int .i64 w) rfl rfl rfl g_n)) rfl rfl ent130 (spec_l1Rd_value_sim j13.1 w h21) (.inl rfl) rfl rfl rfl rfl ?_)
        refine n_ (x_rem T2 rfl rfl (by decide) ?_)
        refine n_ (x_mv rfl rfl ?_)
        refine n_ (x_cvi T2 T140 rfl rfl ?_)
        obtain ⟨h22, hm⟩ := of_ite hm
        refine n_ (x_shl T2 rfl rfl h22 ?_)
        obtain ⟨h23, hm⟩ := of_ite hm
        refine n_ (x_rem T2 rfl rfl h23 ?_)
        refine n_ (x_bu (cells := [.int .i64 21, .int .i64 w, .int .i64 0, .int .i64 0, .int .i64 0, .int .i64 (Int.tmod (Int.tmod x20.1 7) (IntKind.i64.wrap (1 * 2 ^ min (Int.toNat (IntKind.u64.wrap w)) (IntKind.bits .i64)))), .nl]) T53 rfl rfl rfl ?_)
        refine z_ ?_
        refine WpO.ghb (f_nb (u' := .agg [.int .i64 21, .int .i64 w, .int .i64 0, .int .i64 0, .int .i64 0, .int .i64 (Int.tmod (Int.tmod x20.1 7) (IntKind.i64.wrap (1 * 2 ^ min (Int.toNat (IntKind.u64.wrap w)) (IntKind.bits .i64)))), .bs () 1 (List.map iL (([] : List Int)))]) 60 6 1 rfl rfl rfl rfl) ?_
        refine o_run (Y := sysA _) 2 ?_
        obtain ⟨x24, h25, hm⟩ := of_bind hm
        refine n_ (x_cg (v := .u (.one (.int .i64 x24.1))) (nobs := []) (oa' := _) (nx' := 5) (cs := []) (obs := [⟨(), 15, [hl2G (.ptr () 1 0 0) (.ref () 2 0 (List.length grets)) (.ref () 3 0 (List.length gpars)) g]⟩, ⟨(), 2, [el1Rd false x20.2]⟩, ⟨(), 1, List.map iL grets⟩, ⟨(), 1, List.map (lL false 1 iL) gpars⟩]) [0, 1, 2, 3] false rfl (by decide) (h_c rfl (h_c rfl (h_c (hrow rfl) (h_c (hrow rfl) h_n)))) (by simp only [hl2G, List.all_cons, List.all_nil, knows_map, Bool.and_true, Bool.true_and] <;> rfl) (g_1 (l := .ptr () 0 0 0) rfl rfl rfl (g_a (ls := eInst false (({ op_ := 21, w := w, a := 0, b := 0, c := 0, imm := Int.tmod (Int.tmod x20.1 7) (IntKind.i64.wrap (1 * 2 ^ min (Int.toNat (IntKind.u64.wrap w)) (IntKind.bits .i64))), args := ([] : List Int) } : GInst))) rfl rfl rfl g_n)) rfl rfl ent129 (spec_l2G_put_sim g x20.2 grets gpars (({ op_ := 21, w := w, a := 0, b := 0, c := 0, imm := Int.tmod (Int.tmod x20.1 7) (IntKind.i64.wrap (1 * 2 ^ min (Int.toNat (IntKind.u64.wrap w)) (IntKind.bits .i64))), args := ([] : List Int) } : GInst)) h25) (.inl rfl) rfl rfl (by simp only [hl2G, oaG, List.drop_succ_cons, List.drop_zero, List.drop_nil, List.take_succ_cons, List.take_zero, List.take_nil, List.length_cons, List.length_nil, List.map_cons, List.map_nil, List.zipIdx_nil, List.zip_cons_cons, List.zip_nil_right, updO, pushO, ren_map] <;> rfl) rfl ?_)
        refine n_ (x_as rfl rfl ?_)
        refine z_ ?_
        refine o_end ?_
        refine c_ret ?_
        rw [← Option.some.inj hm]
        exact retG (us' := [.one (.int .i64 x24.1)]) (obs' := [⟨(), 15, [hl2G (.ptr () 1 0 0) (.ref () 2 0 (List.length grets)) (.ref () 3 0 (List.length gpars)) x24.2.1]⟩, ⟨(), 2, [el1Rd false x24.2.2]⟩, ⟨(), 1, List.map iL grets⟩, ⟨(), 1, List.map (lL false 1 iL) gpars⟩]) rfl (r_tmp rfl rfl rfl r_nil) (f_end [0, 1, 2, 3] rfl (h_c rfl (h_c rfl (h_c (hrow rfl) (h_c (hrow rfl) h_n)))) (by decide) rfl (by simp only [hl2G, List.all_cons, List.all_nil, knows_map, Bool.and_true, Bool.true_and] <;> rfl) hB0 rfl rfl) rfl rfl rfl rfl (by simp only [hl2G, List.all_cons, List.all_nil, knows_map, Bool.and_true, Bool.true_and] <;> rfl)
      · rw [if_neg (by rw [hb19]; decide)] at hm
        refine c_skip ?_
        refine Wp.seq ?_
        refine c_reg (Y := sysA _) ?_
        refine n_ (x_mv rfl rfl ?_)
        refine n_ (x_ncp rfl rfl rfl ?_)
        refine n_ (x_fap rfl F135_0 rfl rfl ?_)
        refine n_ (x_ldp rfl T64 rfl rfl rfl rfl rfl ?_)
        refine n_ (x_mv rfl rfl ?_)
        refine n_ (x_lnr rfl N24 rfl rfl fun hL26 => ?_)
        refine n_ (x_addc T3 rfl rfl (by unfold inI; omega) ?_)
        obtain ⟨x27, h28, hm⟩ := of_bind hm
        refine n_ (x_cg (v := .u (.one (.int .i64 x27.1))) (nobs := []) (oa' := _) (nx' := 5) (cs := []) (obs := [⟨(), 2, [el1Rd false j13.1]⟩]) [1] false rfl (by decide) (h_c rfl h_n) rfl (g_1 (l := .ptr () 0 0 0) rfl rfl rfl (g_1 (l := .int .i64 (((List.length j2 : Int)) + 2)) rfl rfl rfl g_n)) rfl rfl ent76 (spec_l1Rd_below_sim j13.1 (((List.length j2 : Int)) + 2) h28) (.inl rfl) rfl rfl rfl rfl ?_)
        refine n_ (x_as rfl rfl ?_)
        refine z_ ?_
        refine Wp.seq ?_
        refine c_cut (St 81 [(5, .u (.one (.ref () 4 0 (List.length j2)))), (7, .u (.one (.int .i64 ((if decide (x27.1 ≥ ((List.length j2 : Int))) = true then ((List.length j2 : Int)) - 1 else x27.1)))))] [(0, some ⟨(), 15, [[.ptr () 1 0 0, .os () 1 (List.map iL g.f.params), .int .i64 g.f.ret, .os () 6 (List.map (eBlock true) g.f.blocks), .os () 2 (List.map (ePhi true) g.b.phis), .os () 7 (List.map (eInst false) g.b.insts), .int .i64 g.b.term.kind, .int .i64 g.b.term.a, .int .i64 g.b.term.x, .int .i64 g.b.term.y, .int .i64 g.next, .bs () 1 (List.map iL g.ids), .bs () 1 (List.map iL g.ws), .ref () 2 0 (List.length grets), .ref () 3 0 (List.length gpars)]]⟩), (1, some ⟨(), 2, [(el1Rd false x27.2)]⟩), (2, some ⟨(), 1, List.map iL grets⟩), (3, some ⟨(), 1, List.map (lL false 1 iL) gpars⟩), (4, some ⟨(), 1, List.map iL j2⟩)] 5) ?_ ?_
        · refine Wp.seq ?_
          refine c_reg (Y := sysA _) ?_
          refine n_ (x_mv rfl rfl ?_)
          refine n_ (x_mv rfl rfl ?_)
          refine n_ (x_lnr rfl N24 rfl rfl fun hL30 => ?_)
          refine n_ (x_bin T3 rfl rfl rfl ?_)
          refine z_ ?_
          refine c_s rfl rfl (fun hb31 => ?_) (fun hb31 => ?_)
          · refine c_reg (Y := sysA _) ?_
            refine n_ (x_mv rfl rfl ?_)
            refine n_ (x_lnr rfl N24 rfl rfl fun hL32 => ?_)
            refine n_ (x_subc T3 rfl rfl (by unfold inI; omega) ?_)
            refine n_ (x_as rfl rfl ?_)
            refine z_ ?_
            exact w_ [0, 1, 2, 3, 4] (.cons rfl rfl (.cons (by simp only [hb31, eq_self, if_true, Bool.false_eq_true, if_false, Bool.true_or, Bool.false_or, Bool.true_and, Bool.false_and, Bool.not_true, Bool.not_false]; rfl) rfl .nil)) (.lit rfl rfl (.lit rfl rfl (.map rfl (.map rfl (.map rfl .nil))))) (by decide) (hB_n 4 hB0 rfl)
          · refine c_skip ?_
            exact w_ [0, 1, 2, 3, 4] (.cons rfl rfl (.cons (by simp only [hb31, eq_self, if_true, Bool.false_eq_true, if_false, Bool.true_or, Bool.false_or, Bool.true_and, Bool.false_and, Bool.not_true, Bool.not_false]; rfl) rfl .nil)) (.lit rfl rfl (.lit rfl rfl (.map rfl (.map rfl (.map rfl .nil))))) (by decide) (hB_n 4 hB0 rfl)
        · refine Wp.seq ?_
          refine c_reg (Y := sysA _) ?_
          refine n_ (x_mv rfl rfl ?_)
          refine n_ (x_mv rfl rfl ?_)
          obtain ⟨h33, hm⟩ := of_ite hm
          refine n_ (x_ix0 rfl E24 rfl rfl rfl h33 ?_)
          refine n_ (x_ldn rfl T2 rfl rfl h33 rfl rfl ?_)
          refine n_ (x_as rfl rfl ?_)
          refine z_ ?_
          refine c_ret ?_
          rw [← Option.some.inj hm]
          exact retG (us' := [.one (.int .i64 (at_ j2 ((if decide (x27.1 ≥ ((List.length j2 : Int))) = true then ((List.length j2 : Int)) - 1 else x27.1))))]) (obs' := [⟨(), 15, [hl2G (.ptr () 1 0 0) (.ref () 2 0 (List.length grets)) (.ref () 3 0 (List.length gpars)) g]⟩, ⟨(), 2, [el1Rd false x27.2]⟩, ⟨(), 1, List.map iL grets⟩, ⟨(), 1, List.map (lL false 1 iL) gpars⟩]) rfl (r_tmp rfl rfl rfl r_nil) (f_end [0, 1, 2, 3] rfl (h_c rfl (h_c rfl (h_c (hrow rfl) (h_c (hrow rfl) h_n)))) (by decide) rfl (by simp only [hl2G, List.all_cons, List.all_nil, knows_map, Bool.and_true, Bool.true_and] <;> rfl) hB0 rfl rfl) rfl rfl rfl rfl (by simp only [hl2G, List.all_cons, List.all_nil, knows_map, Bool.and_true, Bool.true_and] <;> rfl)

/-- (*spec.l2G).call -/
noncomputable def spec_l2G_call_m (g : Gl2G) (gr : Gl1Rd) (grets : List Int) (gpars : List (List Int)) : Option (Gl2G × Gl1Rd) :=
  (if (((List.length grets : Int)) == 0) = true then
    (some ((g, gr)))
    else
    (Option.bind (spec_l1Rd_below_m gr ((List.length grets : Int))) fun x4 =>
      (Option.bind (loopO (fun (st6 : Gl2G × Gl1Rd × (List Int) × Int) =>
            ((if 0 ≤ x4.1 ∧ x4.1 < (List.length gpars : Int) then
                (if decide (st6.2.2.2 < ((List.length (at_ gpars x4.1) : Int))) = true then
                  (if 0 ≤ x4.1 ∧ x4.1 < (List.length gpars : Int) then
                    (if 0 ≤ st6.2.2.2 ∧ st6.2.2.2 < (List.length (at_ gpars x4.1) : Int) then
                      (Option.bind (spec_l2G_pick_m st6.1 st6.2.1 grets gpars (at_ (at_ gpars x4.1) st6.2.2.2)) fun x13 =>
                        (if (List.length st6.2.2.1 + List.length ([x13.1])) * 8 ≤ 140737488355328 ∧ List.length st6.2.2.1 + List.length ([x13.1]) ≤ LIM then
                        (if inI (st6.2.2.2 + 1) then
                        (some (Sum.inl ((x13.2.1, x13.2.2, st6.2.2.1 ++ ([x13.1]), st6.2.2.2 + 1))))
                        else none)
                        else none))
                      else none)
                    else none)
                  else
                  (some (Sum.inr (((st6.1, st6.2.1, st6.2.2.1))))))
                else none) : Option ((Gl2G × Gl1Rd × (List Int) × Int) ⊕ ((Gl2G × Gl1Rd × (List Int)))))) (g, x4.2, ([] : List Int), 0)) fun (j7 : Gl2G × Gl1Rd × (List Int)) =>
        (if 0 ≤ x4.1 ∧ x4.1 < (List.length grets : Int) then
          (Option.bind (spec_l2G_put_m j7.1 j7.2.1 grets gpars (({ op_ := 26, w := at_ grets x4.1, a := 0, b := 0, c := 0, imm := x4.1, args := j7.2.2 } : GInst))) fun x20 =>
            (some ((x20.2.1, x20.2.2))))
          else none))))
set_option maxHeartbeats 8000000 in
set_option maxRecDepth 100000 in
theorem spec_l2G_call_sim (g : Gl2G) (gr : Gl1Rd) (grets : List Int) (gpars : List (List Int)) {r : Gl2G × Gl1Rd} (hm : spec_l2G_call_m g gr grets gpars = some r) : Sim Try.prog 132 [.one (.ptr () 0 0 0)] [⟨(), 15, [hl2G (.ptr () 1 0 0) (.ref () 2 0 (List.length grets)) (.ref () 3 0 (List.length gpars)) g]⟩, ⟨(), 2, [el1Rd false gr]⟩, ⟨(), 1, List.map iL grets⟩, ⟨(), 1, List.map (lL false 1 iL) gpars⟩] (.tup []) [⟨(), 15, [hl2G (.ptr () 1 0 0) (.ref () 2 0 (List.length grets)) (.ref () 3 0 (List.length gpars)) r.1]⟩, ⟨(), 2, [el1Rd false r.2]⟩, ⟨(), 1, List.map iL grets⟩, ⟨(), 1, List.map (lL false 1 iL) gpars⟩] := by
  refine sim_st (N := 61) (k0 := 4) Try.func132 rfl rfl rfl rfl (rs := []) rfl rfl (by simp only [hl2G, List.all_cons, List.all_nil, knows_map, Bool.and_true, Bool.true_and] <;> rfl) fun B hB0 => ?_
  unfold spec_l2G_call_m at hm
  refine Wp.seq ?_
  refine Wp.seq ?_
  refine c_reg (Y := sysA _) ?_
  refine n_ (x_mv rfl rfl ?_)
  refine n_ (x_ncp rfl rfl rfl ?_)
  refine n_ (x_fap rfl F135_6 rfl rfl ?_)
  refine n_ (x_ldp rfl T24 rfl rfl rfl rfl rfl ?_)
  refine n_ (x_lnr rfl N24 rfl rfl fun hL1 => ?_)
  refine n_ (x_bin T3 rfl rfl rfl ?_)
  refine z_ ?_
  refine c_s rfl rfl (fun hb2 => ?_) (fun hb2 => ?_)
  · rw [if_pos (show _ = true from hb2)] at hm
    refine c_ret ?_
    rw [← Option.some.inj hm]
    exact retG (us' := []) (obs' := [⟨(), 15, [hl2G (.ptr () 1 0 0) (.ref () 2 0 (List.length grets)) (.ref () 3 0 (List.length gpars)) g]⟩, ⟨(), 2, [el1Rd false gr]⟩, ⟨(), 1, List.map iL grets⟩, ⟨(), 1, List.map (lL false 1 iL) gpars⟩]) rfl r_nil (f_end [0, 1, 2, 3] rfl (h_c rfl (h_c rfl (h_c (hrow rfl) (h_c (hrow rfl) h_n)))) (by decide) rfl (by simp only [hl2G, List.all_cons, List.all_nil, knows_map, Bool.and_true, Bool.true_and] <;> rfl) hB0 rfl rfl) rfl rfl rfl rfl (by simp only [hl2G, List.all_cons, List.all_nil, knows_map, Bool.and_true, Bool.true_and] <;> rfl)
  · rw [if_neg (by rw [hb2]; decide)] at hm
    refine c_skip ?_
    refine Wp.seq ?_
    refine c_drw (Y := sysG _) mixed ?_
    refine t_ 0 0 rfl (by decide +kernel) (x_mv rfl rfl ?_)
    refine t_D 1 1 [2, 3, 9, 10] rfl (by decide +kernel) (x_ncp rfl rfl rfl ?_)
    refine t_D 2 1 [3, 9, 10] rfl (by decide +kernel) (x_fap rfl F135_0 rfl rfl ?_)
    refine t_ 3 1 rfl (by decide +kernel) (x_ldp rfl T64 rfl rfl rfl rfl rfl ?_)
    refine t_ 4 0 rfl (by decide +kernel) (x_mv rfl rfl ?_)
    refine t_D 5 1 [6, 7, 8, 9, 10] rfl (by decide +kernel) (x_ncp rfl rfl rfl ?_)
    refine t_D 6 1 [7, 8, 9, 10] rfl (by decide +kernel) (x_fap rfl F135_6 rfl rfl ?_)
    refine t_D 7 1 [8, 9, 10] rfl (by decide +kernel) (x_ldp rfl T24 rfl rfl rfl rfl rfl ?_)
    refine t_ 8 1 rfl (by decide +kernel) (x_lnr rfl N24 rfl rfl fun hL3 => ?_)
    obtain ⟨x4, h5, hm⟩ := of_bind hm
    refine o_ 9 rfl (by decide +kernel) (x_cgG (v := .u (.one (.int .i64 x4.1))) (nobs := []) (oa' := _) (nx' := 4) (cs := []) (obs := [⟨(), 2, [el1Rd false gr]⟩]) [1] false rfl (by decide) (h_c rfl h_n) rfl (g_1 (l := .ptr () 0 0 0) rfl rfl rfl (g_1 (l := .int .i64 ((List.length grets : Int))) rfl rfl rfl g_n)) rfl rfl ent76 (spec_l1Rd_below_sim gr ((List.length grets : Int)) h5) (.inl rfl) rfl rfl rfl rfl ?_)
    refine t_ 10 0 rfl (by decide +kernel) (x_as rfl rfl ?_)
    refine a_nil (by decide +kernel) ?_
    refine Wp.seq ?_
    refine c_reg (Y := sysA _) ?_
    refine n_ (x_bsm (enc := iL) (([] : List Int)) A24 rfl rfl rfl rfl ?_)
    refine n_ (x_as rfl rfl ?_)
    refine z_ ?_
    refine Wp.seq ?_
    refine Wp.seq ?_
    refine c_reg (Y := sysA _) ?_
    refine n_ (x_as rfl rfl ?_)
    refine z_ ?_
    refine Wp.block ?_
    obtain ⟨j7, hl18, hm⟩ := of_bind hm
    refine c_loop hl18 (fun (st6 : Gl2G × Gl1Rd × (List Int) × Int) => St 61 [(0, .u (.one (.ptr () 0 0 0))), (2, .u (.one (.int .i64 x4.1))), (3, .u (.one (.ref () 4 0 (List.length st6.2.2.1)))), (4, .u (.one (.int .i64 st6.2.2.2)))] [(0, some ⟨(), 15, [[.ptr () 1 0 0, .os () 1 (List.map iL st6.1.f.params), .int .i64 st6.1.f.ret, .os () 6 (List.map (eBlock true) st6.1.f.blocks), .os () 2 (List.map (ePhi true) st6.1.b.phis), .os () 7 (List.map (eInst false) st6.1.b.insts), .int .i64 st6.1.b.term.kind, .int .i64 st6.1.b.term.a, .int .i64 st6.1.b.term.x, .int .i64 st6.1.b.term.y, .int .i64 st6.1.next, .bs () 1 (List.map iL st6.1.ids), .bs () 1 (List.map iL st6.1.ws), .ref () 2 0 (List.length grets), .ref () 3 0 (List.length gpars)]]⟩), (1, some ⟨(), 2, [(el1Rd false st6.2.1)]⟩), (2, some ⟨(), 1, List.map iL grets⟩), (3, some ⟨(), 1, List.map (lL false 1 iL) gpars⟩), (4, some ⟨(), 1, List.map iL st6.2.2.1⟩)] 5) (fun (j7 : Gl2G × Gl1Rd × (List Int)) => (.exit 0, St 61 [(0, .u (.one (.ptr () 0 0 0))), (2, .u (.one (.int .i64 x4.1))), (3, .u (.one (.ref () 4 0 (List.length j7.2.2))))] [(0, some ⟨(), 15, [[.ptr () 1 0 0, .os () 1 (List.map iL j7.1.f.params), .int .i64 j7.1.f.ret, .os () 6 (List.map (eBlock true) j7.1.f.blocks), .os () 2 (List.map (ePhi true) j7.1.b.phis), .os () 7 (List.map (eInst false) j7.1.b.insts), .int .i64 j7.1.b.term.kind, .int .i64 j7.1.b.term.a, .int .i64 j7.1.b.term.x, .int .i64 j7.1.b.term.y, .int .i64 j7.1.next, .bs () 1 (List.map iL j7.1.ids), .bs () 1 (List.map iL j7.1.ws), .ref () 2 0 (List.length grets), .ref () 3 0 (List.length gpars)]]⟩), (1, some ⟨(), 2, [(el1Rd false j7.2.1)]⟩), (2, some ⟨(), 1, List.map iL grets⟩), (3, some ⟨(), 1, List.map (lL false 1 iL) gpars⟩), (4, some ⟨(), 1, List.map iL j7.2.2⟩)] 5)) (w_ [0, 1, 2, 3, 4] (.cons rfl rfl (.cons rfl rfl (.cons (by first | rfl | (simp only [List.length_set]; rfl)) rfl (.cons rfl rfl .nil)))) (.lit rfl rfl (.lit rfl rfl (.map rfl (.map rfl (.map rfl .nil))))) (by decide) (hB_n 4 hB0 rfl)) ?_ (by intro y; simp) ?_
    · intro st6 x hm
      refine Wp.seq ?_
      refine Wp.seq ?_
      refine c_reg (Y := sysA _) ?_
      refine n_ (x_mv rfl rfl ?_)
      refine n_ (x_mv rfl rfl ?_)
      refine n_ (x_ncp rfl rfl rfl ?_)
      refine n_ (x_fap rfl F135_7 rfl rfl ?_)
      refine n_ (x_ldp rfl T117 rfl rfl rfl rfl rfl ?_)
      refine n_ (x_mv rfl rfl ?_)
      obtain ⟨h8, hm⟩ := of_ite hm
      refine n_ (x_ix0 rfl E117 rfl rfl rfl h8 ?_)
      refine n_ (x_ldn rfl T24 rfl rfl h8 rfl rfl ?_)
      refine n_ (x_lnb N24 rfl fun hL9 => ?_)
      refine n_ (x_bin T3 rfl rfl rfl ?_)
      refine z_ ?_
      refine c_s rfl rfl (fun hb10 => ?_) (fun hb10 => ?_)
      · rw [if_pos (show _ = true from hb10)] at hm
        refine c_skip ?_
        refine Wp.seq ?_
        refine Wp.block ?_
        refine c_reg (Y := sysA _) ?_
        refine n_ (x_mv rfl rfl ?_)
        refine n_ (x_mv rfl rfl ?_)
        refine n_ (x_mv rfl rfl ?_)
        refine n_ (x_ncp rfl rfl rfl ?_)
        refine n_ (x_fap rfl F135_7 rfl rfl ?_)
        refine n_ (x_ldp rfl T117 rfl rfl rfl rfl rfl ?_)
        refine n_ (x_mv rfl rfl ?_)
        obtain ⟨h11, hm⟩ := of_ite hm
        refine n_ (x_ix0 rfl E117 rfl rfl rfl h11 ?_)
        refine n_ (x_ldn rfl T24 rfl rfl h11 rfl rfl ?_)
        refine n_ (x_mv rfl rfl ?_)
        obtain ⟨h12, hm⟩ := of_ite hm
        refine n_ (x_ixb E24 rfl rfl h12 ?_)
        refine n_ (x_ldi T2 rfl rfl rfl ?_)
        obtain ⟨x13, h14, hm⟩ := of_bind hm
        refine n_ (x_cg (v := .u (.one (.int .i64 x13.1))) (nobs := []) (oa' := _) (nx' := 5) (cs := []) (obs := [⟨(), 15, [hl2G (.ptr () 1 0 0) (.ref () 2 0 (List.length grets)) (.ref () 3 0 (List.length gpars)) st6.1]⟩, ⟨(), 2, [el1Rd false st6.2.1]⟩, ⟨(), 1, List.map iL grets⟩, ⟨(), 1, List.map (lL false 1 iL) gpars⟩]) [0, 1, 2, 3] false rfl (by decide) (h_c rfl (h_c rfl (h_c (hrow rfl) (h_c (hrow rfl) h_n)))) (by simp only [hl2G, List.all_cons, List.all_nil, knows_map, Bool.and_true, Bool.true_and] <;> rfl) (g_1 (l := .ptr () 0 0 0) rfl rfl rfl (g_1 (l := .int .i64 (at_ (at_ gpars x4.1) st6.2.2.2)) rfl rfl rfl g_n)) rfl rfl ent131 (spec_l2G_pick_sim st6.1 st6.2.1 grets gpars (at_ (at_ gpars x4.1) st6.2.2.2) h14) (.inl rfl) rfl rfl (by simp only [hl2G, oaG, List.drop_succ_cons, List.drop_zero, List.drop_nil, List.take_succ_cons, List.take_zero, List.take_nil, List.length_cons, List.length_nil, List.map_cons, List.map_nil, List.zipIdx_nil, List.zip_cons_cons, List.zip_nil_right, updO, pushO, ren_map] <;> rfl) rfl ?_)
        refine n_ (x_bsm (enc := iL) ([x13.1]) A24 rfl rfl rfl rfl ?_)
        obtain ⟨h15, hm⟩ := of_ite hm
        refine n_ (x_apr (enc := iL) (xs := st6.2.2.1) (ys := [x13.1]) A24 N24 (encB_N _) rfl rfl rfl (argR_r rfl) h15 ?_)
        refine n_ (x_as rfl rfl ?_)
        refine z_ ?_
        refine c_reg (Y := sysA _) ?_
        refine n_ (x_mv rfl rfl ?_)
        obtain ⟨h16, hm⟩ := of_ite hm
        refine n_ (x_addc T3 rfl rfl h16 ?_)
        refine n_ (x_as rfl rfl ?_)
        refine z_ ?_
        cases hm
        exact ⟨rfl, w_ [0, 1, 2, 3, 6] (.cons rfl rfl (.cons rfl rfl (.cons (by first | rfl | (simp only [List.length_set]; rfl)) rfl (.cons rfl rfl .nil)))) (.lit rfl rfl (.lit rfl rfl (.map rfl (.map rfl (.map rfl .nil))))) (by decide) (hB_n 4 hB0 rfl)⟩
      · rw [if_neg (by rw [hb10]; decide)] at hm
        refine c_exit ?_
        cases hm
        exact ⟨rfl, w_ [0, 1, 2, 3, 4] (.cons rfl rfl (.cons rfl rfl (.cons (by first | rfl | (simp only [List.length_set]; rfl)) rfl .nil))) (.lit rfl rfl (.lit rfl rfl (.map rfl (.map rfl (.map rfl .nil))))) (by decide) (hB_n 4 hB0 rfl)⟩
    · refine c_regS ?_
      refine o_run (Y := sysA _) 10 ?_
      refine n_ (x_mv rfl rfl ?_)
      refine n_ (x_mv rfl rfl ?_)
      refine n_ (x_ncp rfl rfl rfl ?_)
      refine n_ (x_fap rfl F135_6 rfl rfl ?_)
      refine n_ (x_ldp rfl T24 rfl rfl rfl rfl rfl ?_)
      refine n_ (x_mv rfl rfl ?_)
      obtain ⟨h19, hm⟩ := of_ite hm
      refine n_ (x_ix0 rfl E24 rfl rfl rfl h19 ?_)
      refine n_ (x_ldn rfl T2 rfl rfl h19 rfl rfl ?_)
      refine n_ (x_mv rfl rfl ?_)
      refine n_ (x_mv rfl rfl ?_)
      refine z_ ?_
      refine WpO.ghb (f_frz 4 [3, 58] rfl (all_plain_map _) (.cons rfl (by simp) (.cons rfl (by simp) .nil)) rfl) ?_
      refine o_run (Y := sysA _) 2 ?_
      refine n_ (x_bu (cells := (eInst false (({ op_ := 26, w := at_ grets x4.1, a := 0, b := 0, c := 0, imm := x4.1, args := j7.2.2 } : GInst)))) T53 rfl rfl rfl ?_)
      obtain ⟨x20, h21, hm⟩ := of_bind hm
      refine n_ (x_cg (v := .u (.one (.int .i64 x20.1))) (nobs := []) (oa' := _) (nx' := 5) (cs := []) (obs := [⟨(), 15, [hl2G (.ptr () 1 0 0) (.ref () 2 0 (List.length grets)) (.ref () 3 0 (List.length gpars)) j7.1]⟩, ⟨(), 2, [el1Rd false j7.2.1]⟩, ⟨(), 1, List.map iL grets⟩, ⟨(), 1, List.map (lL false 1 iL) gpars⟩]) [0, 1, 2, 3] false rfl (by decide) (h_c rfl (h_c rfl (h_c (hrow rfl) (h_c (hrow rfl) h_n)))) (by simp only [hl2G, List.all_cons, List.all_nil, knows_map, Bool.and_true, Bool.true_and] <;> rfl) (g_1 (l := .ptr () 0 0 0) rfl rfl rfl (g_a (ls := eInst false (({ op_ := 26, w := at_ grets x4.1, a := 0, b := 0, c := 0, imm := x4.1, args := j7.2.2 } : GInst))) rfl rfl rfl g_n)) rfl rfl ent129 (spec_l2G_put_sim j7.1 j7.2.1 grets gpars (({ op_ := 26, w := at_ grets x4.1, a := 0, b := 0, c := 0, imm := x4.1, args := j7.2.2 } : GInst)) h21) (.inl rfl) rfl rfl (by simp only [hl2G, oaG, List.drop_succ_cons, List.drop_zero, List.drop_nil, List.take_succ_cons, List.take_zero, List.take_nil, List.length_cons, List.length_nil, List.map_cons, List.map_nil, List.zipIdx_nil, List.zip_cons_cons, List.zip_nil_right, updO, pushO, ren_map] <;> rfl) rfl ?_)
      refine z_ ?_
      refine o_end ?_
      rw [← Option.some.inj hm]
      exact retG (us' := []) (obs' := [⟨(), 15, [hl2G (.ptr () 1 0 0) (.ref () 2 0 (List.length grets)) (.ref () 3 0 (List.length gpars)) x20.2.1]⟩, ⟨(), 2, [el1Rd false x20.2.2]⟩, ⟨(), 1, List.map iL grets⟩, ⟨(), 1, List.map (lL false 1 iL) gpars⟩]) rfl r_nil (f_end [0, 1, 2, 3] rfl (h_c rfl (h_c rfl (h_c (hrow rfl) (h_c (hrow rfl) h_n)))) (by decide) rfl (by simp only [hl2G, List.all_cons, List.all_nil, knows_map, Bool.and_true, Bool.true_and] <;> rfl) hB0 rfl rfl) rfl rfl rfl rfl (by simp only [hl2G, List.all_cons, List.all_nil, knows_map, Bool.and_true, Bool.true_and] <;> rfl)

/-- (*spec.l2G).some -/
noncomputable def spec_l2G_some_m (g : Gl2G) (gr : Gl1Rd) (grets : List Int) (gpars : List (List Int)) (n : Int) : Option (Gl2G × Gl1Rd) :=
  (Option.bind (loopO (fun (st1 : Gl2G × Gl1Rd × Int) =>
        ((if (decide (st1.2.2 < n) && decide (st1.1.next < 40)) = true then
            (Option.bind (spec_l1Rd_width_m st1.2.1) fun x6 =>
              (Option.bind (spec_l1Rd_below_m x6.2 14) fun x8 =>
                (if (x8.1 == 0) = true then
                  (Option.bind (spec_l1Rd_value_m x8.2 x6.1) fun x11 =>
                    (Option.bind (spec_l2G_put_m st1.1 x11.2 grets gpars (({ op_ := 21, w := x6.1, a := 0, b := 0, c := 0, imm := x11.1, args := ([] : List Int) } : GInst))) fun x13 =>
                      (if inI (st1.2.2 + 1) then
                        (some (Sum.inl ((x13.2.1, x13.2.2, st1.2.2 + 1))))
                        else none)))
                  else
                  (if (x8.1 == 1) = true then
                    (Option.bind (spec_l2G_pick_m st1.1 x8.2 grets gpars 1) fun x17 =>
                      (Option.bind (spec_l2G_pick_m x17.2.1 x17.2.2 grets gpars x6.1) fun x19 =>
                        (Option.bind (spec_l2G_pick_m x19.2.1 x19.2.2 grets gpars x6.1) fun x21 =>
                        (Option.bind (spec_l2G_put_m x21.2.1 x21.2.2 grets gpars (({ op_ := 22, w := x6.1, a := x17.1, b := x19.1, c := x21.1, imm := 0, args := ([] : List Int) } : GInst))) fun x23 =>
                        (if inI (st1.2.2 + 1) then
                        (some (Sum.inl ((x23.2.1, x23.2.2, st1.2.2 + 1))))
                        else none)))))
                    else
                    (if (x8.1 == 2) = true then
                      (Option.bind (spec_l2G_pick_m st1.1 x8.2 grets gpars 8) fun x27 =>
                        (Option.bind ((Option.bind (spec_l1Rd_below_m x27.2.2 2) fun x30 =>
                        (if 0 ≤ x30.1 ∧ x30.1 < (List.length ([18, 19]) : Int) then
                        (Option.bind (spec_l1Rd_below_m x30.2 2) fun x33 =>
                        (if 0 ≤ x33.1 ∧ x33.1 < (List.length ([16, 32]) : Int) then
                        (Option.bind (spec_l2G_put_m x27.2.1 x33.2 grets gpars (({ op_ := at_ ([18, 19]) x30.1, w := at_ ([16, 32]) x33.1, a := x27.1, b := 0, c := 0, imm := 0, args := ([] : List Int) } : GInst))) fun x36 =>
                        (some ((x36.2.1, x36.2.2))))
                        else none))
                        else none))) fun (j29 : Gl2G × Gl1Rd) =>
                        (if inI (st1.2.2 + 1) then
                        (some (Sum.inl ((j29.1, j29.2, st1.2.2 + 1))))
                        else none)))
                      else
                      (if (x8.1 == 3) = true then
                        (Option.bind (spec_l2G_pick_m st1.1 x8.2 grets gpars 32) fun x41 =>
                        (Option.bind (spec_l1Rd_below_m x41.2.2 3) fun x43 =>
                        (if 0 ≤ x43.1 ∧ x43.1 < (List.length ([1, 8, 16]) : Int) then
                        (Option.bind (spec_l2G_put_m x41.2.1 x43.2 grets gpars (({ op_ := 20, w := at_ ([1, 8, 16]) x43.1, a := x41.1, b := 0, c := 0, imm := 0, args := ([] : List Int) } : GInst))) fun x46 =>
                        (if inI (st1.2.2 + 1) then
                        (some (Sum.inl ((x46.2.1, x46.2.2, st1.2.2 + 1))))
                        else none))
                        else none)))
                        else
                        (if (x8.1 == 4) = true then
                        (Option.bind (spec_l1Rd_below_m x8.2 34) fun x50 =>
                        (Option.bind (spec_l2G_put_m st1.1 x50.2 grets gpars (({ op_ := 21, w := 32, a := 0, b := 0, c := 0, imm := x50.1, args := ([] : List Int) } : GInst))) fun x52 =>
                        (Option.bind (spec_l2G_put_m x52.2.1 x52.2.2 grets gpars (({ op_ := 23, w := 8, a := x52.1, b := 0, c := 0, imm := 0, args := ([] : List Int) } : GInst))) fun x54 =>
                        (if inI (st1.2.2 + 1) then
                        (some (Sum.inl ((x54.2.1, x54.2.2, st1.2.2 + 1))))
                        else none))))
                        else
                        (if (x8.1 == 5) = true then
                        (Option.bind (spec_l1Rd_below_m x8.2 33) fun x58 =>
                        (Option.bind (spec_l2G_put_m st1.1 x58.2 grets gpars (({ op_ := 21, w := 32, a := 0, b := 0, c := 0, imm := x58.1, args := ([] : List Int) } : GInst))) fun x60 =>
                        (Option.bind (spec_l2G_pick_m x60.2.1 x60.2.2 grets gpars 8) fun x62 =>
                        (Option.bind (spec_l2G_put_m x62.2.1 x62.2.2 grets gpars (({ op_ := 24, w := 0, a := x60.1, b := x62.1, c := 0, imm := 0, args := ([] : List Int) } : GInst))) fun x64 =>
                        (if inI (st1.2.2 + 1) then
                        (some (Sum.inl ((x64.2.1, x64.2.2, st1.2.2 + 1))))
                        else none)))))
                        else
                        (if (x8.1 == 6) = true then
                        (Option.bind (spec_l2G_pick_m st1.1 x8.2 grets gpars x6.1) fun x68 =>
                        (Option.bind (spec_l2G_put_m x68.2.1 x68.2.2 grets gpars (({ op_ := 25, w := 0, a := x68.1, b := 0, c := 0, imm := 0, args := ([] : List Int) } : GInst))) fun x70 =>
                        (if inI (st1.2.2 + 1) then
                        (some (Sum.inl ((x70.2.1, x70.2.2, st1.2.2 + 1))))
                        else none)))
                        else
                        (if (x8.1 == 7) = true then
                        (Option.bind (spec_l2G_pick_m st1.1 x8.2 grets gpars x6.1) fun x74 =>
                        (Option.bind (spec_l2G_put_m x74.2.1 x74.2.2 grets gpars (({ op_ := 27, w := x6.1, a := x74.1, b := 0, c := 0, imm := 0, args := ([] : List Int) } : GInst))) fun x76 =>
                        (if inI (st1.2.2 + 1) then
                        (some (Sum.inl ((x76.2.1, x76.2.2, st1.2.2 + 1))))
                        else none)))
                        else
                        (if (x8.1 == 8) = true then
                        (Option.bind (spec_l2G_call_m st1.1 x8.2 grets gpars) fun x80 =>
                        (if inI (st1.2.2 + 1) then
                        (some (Sum.inl ((x80.1, x80.2, st1.2.2 + 1))))
                        else none))
                        else
                        (Option.bind (spec_l2G_pick_m st1.1 x8.2 grets gpars x6.1) fun x83 =>
                        (Option.bind (spec_l2G_pick_m x83.2.1 x83.2.2 grets gpars x6.1) fun x85 =>
                        (Option.bind (spec_l1Rd_below_m x85.2.2 17) fun x87 =>
                        (if inI (1 + x87.1) then
                        (Option.bind (spec_l2G_put_m x85.2.1 x87.2 grets gpars (({ op_ := 1 + x87.1, w := x6.1, a := x83.1, b := x85.1, c := 0, imm := 0, args := ([] : List Int) } : GInst))) fun x90 =>
                        (if inI (st1.2.2 + 1) then
                        (some (Sum.inl ((x90.2.1, x90.2.2, st1.2.2 + 1))))
                        else none))
                        else none)))))))))))))))
            else
            (some (Sum.inr (((st1.1, st1.2.1)))))) : Option ((Gl2G × Gl1Rd × Int) ⊕ ((Gl2G × Gl1Rd))))) (g, gr, 0)) fun (j2 : Gl2G × Gl1Rd) =>
    (some ((j2.1, j2.2))))
set_option maxHeartbeats 8000000 in
set_option maxRecDepth 100000 in
theorem spec_l2G_some_sim (g : Gl2G) (gr : Gl1Rd) (grets : List Int) (gpars : List (List Int)) (n : Int) {r : Gl2G × Gl1Rd} (hm : spec_l2G_some_m g gr grets gpars n = some r) : Sim Try.prog 121 [.one (.ptr () 0 0 0), .one (.int .i64 n)] [⟨(), 15, [hl2G (.ptr () 1 0 0) (.ref () 2 0 (List.length grets)) (.ref () 3 0 (List.length gpars)) g]⟩, ⟨(), 2, [el1Rd false gr]⟩, ⟨(), 1, List.map iL grets⟩, ⟨(), 1, List.map (lL false 1 iL) gpars⟩] (.tup []) [⟨(), 15, [hl2G (.ptr () 1 0 0) (.ref () 2 0 (List.length grets)) (.ref () 3 0 (List.length gpars)) r.1]⟩, ⟨(), 2, [el1Rd false r.2]⟩, ⟨(), 1, List.map iL grets⟩, ⟨(), 1, List.map (lL false 1 iL) gpars⟩] := by
  refine sim_st (N := 181) (k0 := 4) Try.func121 rfl rfl rfl rfl (rs := []) rfl rfl (by simp only [hl2G, List.all_cons, List.all_nil, knows_map, Bool.and_true, Bool.true_and] <;> rfl) fun B hB0 => ?_
  unfold spec_l2G_some_m at hm
  refine Wp.seq ?_
  refine c_reg (Y := sysA _) ?_
  refine n_ (x_as rfl rfl ?_)
  refine z_ ?_
  refine Wp.block ?_
  obtain ⟨j2, hl94, hm⟩ := of_bind hm
  refine c_loop hl94 (fun (st1 : Gl2G × Gl1Rd × Int) => St 181 [(0, .u (.one (.ptr () 0 0 0))), (1, .u (.one (.int .i64 n))), (4, .u (.one (.int .i64 st1.2.2)))] [(0, some ⟨(), 15, [[.ptr () 1 0 0, .os () 1 (List.map iL st1.1.f.params), .int .i64 st1.1.f.ret, .os () 6 (List.map (eBlock true) st1.1.f.blocks), .os () 2 (List.map (ePhi true) st1.1.b.phis), .os () 7 (List.map (eInst false) st1.1.b.insts), .int .i64 st1.1.b.term.kind, .int .i64 st1.1.b.term.a, .int .i64 st1.1.b.term.x, .int .i64 st1.1.b.term.y, .int .i64 st1.1.next, .bs () 1 (List.map iL st1.1.ids), .bs () 1 (List.map iL st1.1.ws), .ref () 2 0 (List.length grets), .ref () 3 0 (List.length gpars)]]⟩), (1, some ⟨(), 2, [(el1Rd false st1.2.1)]⟩), (2, some ⟨(), 1, List.map iL grets⟩), (3, some ⟨(), 1, List.map (lL false 1 iL) gpars⟩)] 4) (fun (j2 : Gl2G × Gl1Rd) => (.exit 0, St 181 [] [(0, some ⟨(), 15, [[.ptr () 1 0 0, .os () 1 (List.map iL j2.1.f.params), .int .i64 j2.1.f.ret, .os () 6 (List.map (eBlock true) j2.1.f.blocks), .os () 2 (List.map (ePhi true) j2.1.b.phis), .os () 7 (List.map (eInst false) j2.1.b.insts), .int .i64 j2.1.b.term.kind, .int .i64 j2.1.b.term.a, .int .i64 j2.1.b.term.x, .int .i64 j2.1.b.term.y, .int .i64 j2.1.next, .bs () 1 (List.map iL j2.1.ids), .bs () 1 (List.map iL j2.1.ws), .ref () 2 0 (List.length grets), .ref () 3 0 (List.length gpars)]]⟩), (1, some ⟨(), 2, [(el1Rd false j2.2)]⟩), (2, some ⟨(), 1, List.map iL grets⟩), (3, some ⟨(), 1, List.map (lL false 1 iL) gpars⟩)] 4)) (w_ [0, 1, 2, 3] (.cons rfl rfl (.cons rfl rfl (.cons rfl rfl .nil))) (.lit rfl rfl (.lit rfl rfl (.map rfl (.map rfl .nil)))) (by decide) (hB_n 4 hB0 rfl)) ?_ (by intro y; simp) ?_
  · intro st1 x hm
    refine Wp.seq ?_
    refine Wp.seq ?_
    refine c_cut (St 181 [(0, .u (.one (.ptr () 0 0 0))), (1, .u (.one (.int .i64 n))), (4, .u (.one (.int .i64 st1.2.2))), (27, .u (.one (.bool ((decide (st1.2.2 < n) && decide (st1.1.next < 40))))))] [(0, some ⟨(), 15, [[.ptr () 1 0 0, .os () 1 (List.map iL st1.1.f.params), .int .i64 st1.1.f.ret, .os () 6 (List.map (eBlock true) st1.1.f.blocks), .os () 2 (List.map (ePhi true) st1.1.b.phis), .os () 7 (List.map (eInst false) st1.1.b.insts), .int .i64 st1.1.b.term.kind, .int .i64 st1.1.b.term.a, .int .i64 st1.1.b.term.x, .int .i64 st1.1.b.term.y, .int .i64 st1.1.next, .bs () 1 (List.map iL st1.1.ids), .bs () 1 (List.map iL st1.1.ws), .ref () 2 0 (List.length grets), .ref () 3 0 (List.length gpars)]]⟩), (1, some ⟨(), 2, [(el1Rd false st1.2.1)]⟩), (2, some ⟨(), 1, List.map iL grets⟩), (3, some ⟨(), 1, List.map (lL false 1 iL) gpars⟩)] 4) ?_ ?_
    · refine c_reg (Y := sysA _) ?_
      refine n_ (x_mv rfl rfl ?_)
      refine n_ (x_mv rfl rfl ?_)
      refine n_ (x_bin T3 rfl rfl rfl ?_)
      refine n_ (x_mv rfl rfl ?_)
      refine g_s rfl rfl rfl (fun hb4 => ?_) (fun hb4 => ?_)
      · refine g_t rfl rfl rfl ?_
        refine n_ (x_mv rfl rfl ?_)
        refine g_t rfl rfl rfl ?_
        refine n_ (x_ncp rfl rfl rfl ?_)
        refine g_t rfl rfl rfl ?_
        refine n_ (x_fap rfl F135_3 rfl rfl ?_)
        refine g_t rfl rfl rfl ?_
        refine n_ (x_ldp rfl T2 rfl rfl rfl rfl rfl ?_)
        refine g_t rfl rfl rfl ?_
        refine n_ (x_bin T2 rfl rfl rfl ?_)
        refine n_ (x_pk rfl rfl rfl ?_)
        refine z_ ?_
        exact w_ [0, 1, 2, 3] (.cons rfl rfl (.cons rfl rfl (.cons rfl rfl (.cons (by simp only [hb4, eq_self, if_true, Bool.false_eq_true, if_false, Bool.true_or, Bool.false_or, Bool.true_and, Bool.false_and, Bool.not_true, Bool.not_false]; rfl) rfl .nil)))) (.lit rfl rfl (.lit rfl rfl (.map rfl (.map rfl .nil)))) (by decide) (hB_n 4 hB0 rfl)
      · refine g_f rfl rfl rfl ?_
        refine g_f rfl rfl rfl ?_
        refine g_f rfl rfl rfl ?_
        refine g_f rfl rfl rfl ?_
        refine g_f rfl rfl rfl ?_
        refine n_ (x_pk rfl rfl rfl ?_)
        refine z_ ?_
        exact w_ [0, 1, 2, 3] (.cons rfl rfl (.cons rfl rfl (.cons rfl rfl (.cons (by simp only [hb4, eq_self, if_true, Bool.false_eq_true, if_false, Bool.true_or, Bool.false_or, Bool.true_and, Bool.false_and, Bool.not_true, Bool.not_false]; rfl) rfl .nil)))) (.lit rfl rfl (.lit rfl rfl (.map rfl (.map rfl .nil)))) (by decide) (hB_n 4 hB0 rfl)
    · refine c_s rfl rfl (fun hb5 => ?_) (fun hb5 => ?_)
      · rw [if_pos (show _ = true from hb5)] at hm
        refine c_skip ?_
        refine Wp.seq ?_
        refine Wp.block ?_
        refine Wp.seq ?_
        refine c_reg (Y := sysA _) ?_
        refine n_ (x_mv rfl rfl ?_)
        refine n_ (x_ncp rfl rfl rfl ?_)
        refine n_ (x_fap rfl F135_0 rfl rfl ?_)
        refine n_ (x_ldp rfl T64 rfl rfl rfl rfl rfl ?_)
        obtain ⟨x6, h7, hm⟩ := of_bind hm
        refine n_ (x_cg (v := .u (.one (.int .i64 x6.1))) (nobs := []) (oa' := _) (nx' := 4) (cs := []) (obs := [⟨(), 2, [el1Rd false st1.2.1]⟩]) [1] false rfl (by decide) (h_c rfl h_n) rfl (g_1 (l := .ptr () 0 0 0) rfl rfl rfl g_n) rfl rfl ent119 (spec_l1Rd_width_sim st1.2.1 h7) (.inl rfl) rfl rfl rfl rfl ?_)
        refine n_ (x_as rfl rfl ?_)
        refine z_ ?_
        refine Wp.seq ?_
        refine c_reg (Y := sysA _) ?_
        refine n_ (x_mv rfl rfl ?_)
        refine n_ (x_ncp rfl rfl rfl ?_)
        refine n_ (x_fap rfl F135_0 rfl rfl ?_)
        refine n_ (x_ldp rfl T64 rfl rfl rfl rfl rfl ?_)
        obtain ⟨x8, h9, hm⟩ := of_bind hm
        refine n_ (x_cg (v := .u (.one (.int .i64 x8.1))) (nobs := []) (oa' := _) (nx' := 4) (cs := []) (obs := [⟨(), 2, [el1Rd false x6.2]⟩]) [1] false rfl (by decide) (h_c rfl h_n) rfl (g_1 (l := .ptr () 0 0 0) rfl rfl rfl (g_1 (l := .int .i64 14) rfl rfl rfl g_n)) rfl rfl ent76 (spec_l1Rd_below_sim x6.2 14 h9) (.inl rfl) rfl rfl rfl rfl ?_)
        refine z_ ?_
        refine Wp.block ?_
        refine Wp.seq ?_
        refine c_reg (Y := sysA _) ?_
        refine n_ (x_bin T3 rfl rfl rfl ?_)
        refine n_ (x_as rfl rfl ?_)
        refine z_ ?_
        refine c_s rfl rfl (fun hb10 => ?_) (fun hb10 => ?_)
        · rw [if_pos (show _ = true from hb10)] at hm
          refine c_regS ?_
          refine o_run (Y := sysA _) 9 ?_
          refine n_ (x_mv rfl rfl ?_)
          refine n_ (x_mv rfl rfl ?_)
          refine n_ (x_mv rfl rfl ?_)
          refine n_ (x_ncp rfl rfl rfl ?_)
          refine n_ (x_fap rfl F135_0 rfl rfl ?_)
          refine n_ (x_ldp rfl T64 rfl rfl rfl rfl rfl ?_)
          refine n_ (x_mv rfl rfl ?_)
          obtain ⟨x11, h12, hm⟩ := of_bind hm
          refine n_ (x_cg (v := .u (.one (.int .i64 x11.1))) (nobs := []) (oa' := _) (nx' := 4) (cs := []) (obs := [⟨(), 2, [el1Rd false x8.2]⟩]) [1] false rfl (by decide) (h_c rfl h_n) rfl (g_1 (l := .ptr () 0 0 0) rfl rfl rfl (g_1 (l := .int .i64 x6.1) rfl rfl rfl g_n)) rfl rfl ent130 (spec_l1Rd_value_sim x8.2 x6.1 h12) (.inl rfl) rfl rfl rfl rfl ?_)
          refine n_ (x_bu (cells := [.int .i64 21, .int .i64 x6.1, .int .i64 0, .int .i64 0, .int .i64 0, .int .i64 x11.1, .nl]) T53 rfl rfl rfl ?_)
          refine z_ ?_
          refine WpO.ghb (f_nb (u' := .agg [.int .i64 21, .int .i64 x6.1, .int .i64 0, .int .i64 0, .int .i64 0, .int .i64 x11.1, .bs () 1 (List.map iL (([] : List Int)))]) 68 6 1 rfl rfl rfl rfl) ?_
          refine o_run (Y := sysA _) 1 ?_
          obtain ⟨x13, h14, hm⟩ := of_bind hm
          refine n_ (x_cg (v := .u (.one (.int .i64 x13.1))) (nobs := []) (oa' := _) (nx' := 4) (cs := []) (obs := [⟨(), 15, [hl2G (.ptr () 1 0 0) (.ref () 2 0 (List.length grets)) (.ref () 3 0 (List.length gpars)) st1.1]⟩, ⟨(), 2, [el1Rd false x11.2]⟩, ⟨(), 1, List.map iL grets⟩, ⟨(), 1, List.map (lL false 1 iL) gpars⟩]) [0, 1, 2, 3] false rfl (by decide) (h_c rfl (h_c rfl (h_c (hrow rfl) (h_c (hrow rfl) h_n)))) (by simp only [hl2G, List.all_cons, List.all_nil, knows_map, Bool.and_true, Bool.true_and] <;> rfl) (g_1 (l := .ptr () 0 0 0) rfl rfl rfl (g_a (ls := eInst false (({ op_ := 21, w := x6.1, a := 0, b := 0, c := 0, imm := x11.1, args := ([] : List Int) } : GInst))) rfl rfl rfl g_n)) rfl rfl ent129 (spec_l2G_put_sim st1.1 x11.2 grets gpars (({ op_ := 21, w := x6.1, a := 0, b := 0, c := 0, imm := x11.1, args := ([] : List Int) } : GInst)) h14) (.inl rfl) rfl rfl (by simp only [hl2G, oaG, List.drop_succ_cons, List.drop_zero, List.drop_nil, List.take_succ_cons, List.take_zero, List.take_nil, List.length_cons, List.length_nil, List.map_cons, List.map_nil, List.zipIdx_nil, List.zip_cons_cons, List.zip_nil_right, updO, pushO, ren_map] <;> rfl) rfl ?_)
          refine z_ ?_
          refine o_end ?_
          refine c_reg (Y := sysA _) ?_
          refine n_ (x_mv rfl rfl ?_)
          obtain ⟨h15, hm⟩ := of_ite hm
          refine n_ (x_addc T3 rfl rfl h15 ?_)
          refine n_ (x_as rfl rfl ?_)
          refine z_ ?_
          cases hm
          exact ⟨rfl, w_ [0, 1, 2, 3] (.cons rfl rfl (.cons rfl rfl (.cons rfl rfl .nil))) (.lit rfl rfl (.lit rfl rfl (.map rfl (.map rfl .nil)))) (by decide) (hB_n 4 hB0 rfl)⟩
        · rw [if_neg (by rw [hb10]; decide)] at hm
          refine Wp.seq ?_
          refine c_reg (Y := sysA _) ?_
          refine n_ (x_bin T3 rfl rfl rfl ?_)
          refine n_ (x_as rfl rfl ?_)
          refine z_ ?_
          refine c_s rfl rfl (fun hb16 => ?_) (fun hb16 => ?_)
          · rw [if_pos (show _ = true from hb16)] at hm
            refine Wp.seq ?_
            refine c_reg (Y := sysA _) ?_
            refine n_ (x_mv rfl rfl ?_)
            obtain ⟨x17, h18, hm⟩ := of_bind hm
            refine n_ (x_cg (v := .u (.one (.int .i64 x17.1))) (nobs := []) (oa' := _) (nx' := 4) (cs := []) (obs := [⟨(), 15, [hl2G (.ptr () 1 0 0) (.ref () 2 0 (List.length grets)) (.ref () 3 0 (List.length gpars)) st1.1]⟩, ⟨(), 2, [el1Rd false x8.2]⟩, ⟨(), 1, List.map iL grets⟩, ⟨(), 1, List.map (lL false 1 iL) gpars⟩]) [0, 1, 2, 3] false rfl (by decide) (h_c rfl (h_c rfl (h_c (hrow rfl) (h_c (hrow rfl) h_n)))) (by simp only [hl2G, List.all_cons, List.all_nil, knows_map, Bool.and_true, Bool.true_and] <;> rfl) (g_1 (l := .ptr () 0 0 0) rfl rfl rfl (g_1 (l := .int .i64 1) rfl rfl rfl g_n)) rfl rfl ent131 (spec_l2G_pick_sim st1.1 x8.2 grets gpars 1 h18) (.inl rfl) rfl rfl (by simp only [hl2G, oaG, List.drop_succ_cons, List.drop_zero, List.drop_nil, List.take_succ_cons, List.take_zero, List.take_nil, List.length_cons, List.length_nil, List.map_cons, List.map_nil, List.zipIdx_nil, List.zip_cons_cons, List.zip_nil_right, updO, pushO, ren_map] <;> rfl) rfl ?_)
            refine n_ (x_as rfl rfl ?_)
            refine z_ ?_
            refine Wp.seq ?_
            refine c_reg (Y := sysA _) ?_
            refine n_ (x_mv rfl rfl ?_)
            refine n_ (x_mv rfl rfl ?_)
            obtain ⟨x19, h20, hm⟩ := of_bind hm
            refine n_ (x_cg (v := .u (.one (.int .i64 x19.1))) (nobs := []) (oa' := _) (nx' := 4) (cs := []) (obs := [⟨(), 15, [hl2G (.ptr () 1 0 0) (.ref () 2 0 (List.length grets)) (.ref () 3 0 (List.length gpars)) x17.2.1]⟩, ⟨(), 2, [el1Rd false x17.2.2]⟩, ⟨(), 1, List.map iL grets⟩, ⟨(), 1, List.map (lL false 1 iL) gpars⟩]) [0, 1, 2, 3] false rfl (by decide) (h_c rfl (h_c rfl (h_c (hrow rfl) (h_c (hrow rfl) h_n)))) (by simp only [hl2G, List.all_cons, List.all_nil, knows_map, Bool.and_true, Bool.true_and] <;> rfl) (g_1 (l := .ptr () 0 0 0) rfl rfl rfl (g_1 (l := .int .i64 x6.1) rfl rfl rfl g_n)) rfl rfl ent131 (spec_l2G_pick_sim x17.2.1 x17.2.2 grets gpars x6.1 h20) (.inl rfl) rfl rfl (by simp only [hl2G, oaG, List.drop_succ_cons, List.drop_zero, List.drop_nil, List.take_succ_cons, List.take_zero, List.take_nil, List.length_cons, List.length_nil, List.map_cons, List.map_nil, List.zipIdx_nil, List.zip_cons_cons, List.zip_nil_right, updO, pushO, ren_map] <;> rfl) rfl ?_)
            refine n_ (x_as rfl rfl ?_)
            refine z_ ?_
            refine Wp.seq ?_
            refine c_reg (Y := sysA _) ?_
            refine n_ (x_mv rfl rfl ?_)
            refine n_ (x_mv rfl rfl ?_)
            obtain ⟨x21, h22, hm⟩ := of_bind hm
            refine n_ (x_cg (v := .u (.one (.int .i64 x21.1))) (nobs := []) (oa' := _) (nx' := 4) (cs := []) (obs := [⟨(), 15, [hl2G (.ptr () 1 0 0) (.ref () 2 0 (List.length grets)) (.ref () 3 0 (List.length gpars)) x19.2.1]⟩, ⟨(), 2, [el1Rd false x19.2.2]⟩, ⟨(), 1, List.map iL grets⟩, ⟨(), 1, List.map (lL false 1 iL) gpars⟩]) [0, 1, 2, 3] false rfl (by decide) (h_c rfl (h_c rfl (h_c (hrow rfl) (h_c (hrow rfl) h_n)))) (by simp only [hl2G, List.all_cons, List.all_nil, knows_map, Bool.and_true, Bool.true_and] <;> rfl) (g_1 (l := .ptr () 0 0 0) rfl rfl rfl (g_1 (l := .int .i64 x6.1) rfl rfl rfl g_n)) rfl rfl ent131 (spec_l2G_pick_sim x19.2.1 x19.2.2 grets gpars x6.1 h22) (.inl rfl) rfl rfl (by simp only [hl2G, oaG, List.drop_succ_cons, List.drop_zero, List.drop_nil, List.take_succ_cons, List.take_zero, List.take_nil, List.length_cons, List.length_nil, List.map_cons, List.map_nil, List.zipIdx_nil, List.zip_cons_cons, List.zip_nil_right, updO, pushO, ren_map] <;> rfl) rfl ?_)
            refine n_ (x_as rfl rfl ?_)
            refine z_ ?_
            refine c_regS ?_
            refine o_run (Y := sysA _) 6 ?_
            refine n_ (x_mv rfl rfl ?_)
            refine n_ (x_mv rfl rfl ?_)
            refine n_ (x_mv rfl rfl ?_)
            refine n_ (x_mv rfl rfl ?_)
            refine n_ (x_mv rfl rfl ?_)
            refine n_ (x_bu (cells := [.int .i64 22, .int .i64 x6.1, .int .i64 x17.1, .int .i64 x19.1, .int .i64 x21.1, .int .i64 0, .nl]) T53 rfl rfl rfl ?_)
            refine z_ ?_
            refine WpO.ghb (f_nb (u' := .agg [.int .i64 22, .int .i64 x6.1, .int .i64 x17.1, .int .i64 x19.1, .int .i64 x21.1, .int .i64 0, .bs () 1 (List.map iL (([] : List Int)))]) 85 6 1 rfl rfl rfl rfl) ?_
            refine o_run (Y := sysA _) 1 ?_
            obtain ⟨x23, h24, hm⟩ := of_bind hm
            refine n_ (x_cg (v := .u (.one (.int .i64 x23.1))) (nobs := []) (oa' := _) (nx' := 4) (cs := []) (obs := [⟨(), 15, [hl2G (.ptr () 1 0 0) (.ref () 2 0 (List.length grets)) (.ref () 3 0 (List.length gpars)) x21.2.1]⟩, ⟨(), 2, [el1Rd false x21.2.2]⟩, ⟨(), 1, List.map iL grets⟩, ⟨(), 1, List.map (lL false 1 iL) gpars⟩]) [0, 1, 2, 3] false rfl (by decide) (h_c rfl (h_c rfl (h_c (hrow rfl) (h_c (hrow rfl) h_n)))) (by simp only [hl2G, List.all_cons, List.all_nil, knows_map, Bool.and_true, Bool.true_and] <;> rfl) (g_1 (l := .ptr () 0 0 0) rfl rfl rfl (g_a (ls := eInst false (({ op_ := 22, w := x6.1, a := x17.1, b := x19.1, c := x21.1, imm := 0, args := ([] : List Int) } : GInst))) rfl rfl rfl g_n)) rfl rfl ent129 (spec_l2G_put_sim x21.2.1 x21.2.2 grets gpars (({ op_ := 22, w := x6.1, a := x17.1, b := x19.1, c := x21.1, imm := 0, args := ([] : List Int) } : GInst)) h24) (.inl rfl) rfl rfl (by simp only [hl2G, oaG, List.drop_succ_cons, List.drop_zero, List.drop_nil, List.take_succ_cons, List.take_zero, List.take_nil, List.length_cons, List.length_nil, List.map_cons, List.map_nil, List.zipIdx_nil, List.zip_cons_cons, List.zip_nil_right, updO, pushO, ren_map] <;> rfl) rfl ?_)
            refine z_ ?_
            refine o_end ?_
            refine c_reg (Y := sysA _) ?_
            refine n_ (x_mv rfl rfl ?_)
            obtain ⟨h25, hm⟩ := of_ite hm
            refine n_ (x_addc T3 rfl rfl h25 ?_)
            refine n_ (x_as rfl rfl ?_)
            refine z_ ?_
            cases hm
            exact ⟨rfl, w_ [0, 1, 2, 3] (.cons rfl rfl (.cons rfl rfl (.cons rfl rfl .nil))) (.lit rfl rfl (.lit rfl rfl (.map rfl (.map rfl .nil)))) (by decide) (hB_n 4 hB0 rfl)⟩
          · rw [if_neg (by rw [hb16]; decide)] at hm
            refine Wp.seq ?_
            refine c_reg (Y := sysA _) ?_
            refine n_ (x_bin T3 rfl rfl rfl ?_)
            refine n_ (x_as rfl rfl ?_)
            refine z_ ?_
            refine c_s rfl rfl (fun hb26 => ?_) (fun hb26 => ?_)
            · rw [if_pos (show _ = true from hb26)] at hm
              refine Wp.seq ?_
              refine c_reg (Y := sysA _) ?_
              refine n_ (x_mv rfl rfl ?_)
              obtain ⟨x27, h28, hm⟩ := of_bind hm
              refine n_ (x_cg (v := .u (.one (.int .i64 x27.1))) (nobs := []) (oa' := _) (nx' := 4) (cs := []) (obs := [⟨(), 15, [hl2G (.ptr () 1 0 0) (.ref () 2 0 (List.length grets)) (.ref () 3 0 (List.length gpars)) st1.1]⟩, ⟨(), 2, [el1Rd false x8.2]⟩, ⟨(), 1, List.map iL grets⟩, ⟨(), 1, List.map (lL false 1 iL) gpars⟩]) [0, 1, 2, 3] false rfl (by decide) (h_c rfl (h_c rfl (h_c (hrow rfl) (h_c (hrow rfl) h_n)))) (by simp only [hl2G, List.all_cons, List.all_nil, knows_map, Bool.and_true, Bool.true_and] <;> rfl) (g_1 (l := .ptr () 0 0 0) rfl rfl rfl (g_1 (l := .int .i64 8) rfl rfl rfl g_n)) rfl rfl ent131 (spec_l2G_pick_sim st1.1 x8.2 grets gpars 8 h28) (.inl rfl) rfl rfl (by simp only [hl2G, oaG, List.drop_succ_cons, List.drop_zero, List.drop_nil, List.take_succ_cons, List.take_zero, List.take_nil, List.length_cons, List.length_nil, List.map_cons, List.map_nil, List.zipIdx_nil, List.zip_cons_cons, List.zip_nil_right, updO, pushO, ren_map] <;> rfl) rfl ?_)
              refine n_ (x_as rfl rfl ?_)
              refine z_ ?_
              obtain ⟨j29, hj38, hm⟩ := of_bind hm
              refine c_cut (St 181 [(0, .u (.one (.ptr () 0 0 0))), (1, .u (.one (.int .i64 n))), (4, .u (.one (.int .i64 st1.2.2)))] [(0, some ⟨(), 15, [[.ptr () 1 0 0, .os () 1 (List.map iL j29.1.f.params), .int .i64 j29.1.f.ret, .os () 6 (List.map (eBlock true) j29.1.f.blocks), .os () 2 (List.map (ePhi true) j29.1.b.phis), .os () 7 (List.map (eInst false) j29.1.b.insts), .int .i64 j29.1.b.term.kind, .int .i64 j29.1.b.term.a, .int .i64 j29.1.b.term.x, .int .i64 j29.1.b.term.y, .int .i64 j29.1.next, .bs () 1 (List.map iL j29.1.ids), .bs () 1 (List.map iL j29.1.ws), .ref () 2 0 (List.length grets), .ref () 3 0 (List.length gpars)]]⟩), (1, some ⟨(), 2, [(el1Rd false j29.2)]⟩), (2, some ⟨(), 1, List.map iL grets⟩), (3, some ⟨(), 1, List.map (lL false 1 iL) gpars⟩)] 4) ?_ ?_
              · replace hm := hj38
                refine c_drw (Y := sysH _ [1] [110]) mixed ?_
                obtain ⟨x30, h31, hm⟩ := of_bind hm
                have hS17_6 := (spec_l1Rd_below_sim x27.2.2 2 h31)
                obtain ⟨h32, hm⟩ := of_ite hm
                obtain ⟨x33, h34, hm⟩ := of_bind hm
                have hS17_14 := (spec_l1Rd_below_sim x30.2 2 h34)
                obtain ⟨h35, hm⟩ := of_ite hm
                obtain ⟨x36, h37, hm⟩ := of_bind hm
                have hS17_19 := (spec_l2G_put_sim x27.2.1 x33.2 grets gpars (({ op_ := at_ ([18, 19]) x30.1, w := at_ ([16, 32]) x33.1, a := x27.1, b := 0, c := 0, imm := 0, args := ([] : List Int) } : GInst)) h37)
                refine t_ 0 0 rfl (by decide +kernel) (x_mv rfl rfl ?_)
                refine t_ 2 0 rfl (by decide +kernel) (x_mv rfl rfl ?_)
                refine t_D 3 1 [4, 5, 6, 7, 8, 14, 15, 16, 18, 19] rfl (by decide +kernel) (x_ncp rfl rfl rfl ?_)
                refine t_D 4 1 [5, 6, 7, 8, 14, 15, 16, 18, 19] rfl (by decide +kernel) (x_fap rfl F135_0 rfl rfl ?_)
                refine t_D 5 1 [6, 7, 8, 14, 15, 16, 18, 19] rfl (by decide +kernel) (x_ldp rfl T64 rfl rfl rfl rfl rfl ?_)
                refine t_ 10 0 rfl (by decide +kernel) (x_mv rfl rfl ?_)
                refine t_E 11 [12, 13, 14, 15, 16, 18, 19] rfl (by decide +kernel) rfl rfl rfl (x_ncp rfl rfl rfl ?_)
                refine t_E 12 [13, 14, 15, 16, 18, 19] rfl (by decide +kernel) rfl rfl rfl (x_fap rfl F135_0 rfl rfl ?_)
                refine t_E 13 [14, 15, 16, 18, 19] rfl (by decide +kernel) rfl rfl rfl (x_ldp rfl T64 rfl rfl rfl rfl rfl ?_)
                refine t_ 17 0 rfl (by decide +kernel) (x_mv rfl rfl ?_)
                refine t_n 1 [6, 9] (by decide +kernel) (.cons (wy rfl (x_bsm (enc := iL) ([18, 19]) A24 rfl rfl rfl rfl ?_)) (.cons (wy rfl (x_cgS (H := [1]) (X := [110]) (v := .u (.one (.int .i64 x30.1))) (nobs := []) (oa' := _) (nx' := 4) hS17_6 [1] rfl (by decide) (h_c rfl h_n) rfl (g_1 rfl rfl rfl (g_1 rfl rfl rfl g_n)) ent76 rfl rfl rfl rfl ?_ rfl)) (.cons (wy rfl (x_bsm (enc := iL) ([16, 32]) A24 rfl rfl rfl rfl ?_)) .nil)))
                · refine t_n 6 [9] (by decide +kernel) (.cons (wy rfl (x_cgS (H := [1]) (X := [110]) (v := .u (.one (.int .i64 x30.1))) (nobs := []) (oa' := _) (nx' := 5) hS17_6 [1] rfl (by decide) (h_c rfl h_n) rfl (g_1 rfl rfl rfl (g_1 rfl rfl rfl g_n)) ent76 rfl rfl rfl rfl ?_ rfl)) (.cons (wy rfl (x_bsm (enc := iL) ([16, 32]) A24 rfl rfl rfl rfl ?_)) .nil))
                  · refine t_E 7 [8, 18, 19] rfl (by decide +kernel) rfl rfl rfl (x_ix0 rfl E24 rfl rfl rfl h32 ?_)
                    refine t_E 8 [18, 19] rfl (by decide +kernel) rfl rfl rfl (x_ldn rfl T2 rfl rfl h32 rfl rfl ?_)
                    refine t_n 9 [14] (by decide +kernel) (.cons (wy rfl (x_bsm (enc := iL) ([16, 32]) A24 rfl rfl rfl rfl ?_)) (.cons (wy rfl (x_cgS (H := [1]) (X := [110]) (v := .u (.one (.int .i64 x33.1))) (nobs := []) (oa' := _) (nx' := 5) hS17_14 [1] rfl (by decide) (h_c rfl h_n) rfl (g_1 rfl rfl rfl (g_1 rfl rfl rfl g_n)) ent76 rfl rfl rfl rfl ?_ rfl)) .nil))
                    · refine o_ 14 rfl (by decide +kernel) (x_cgS (H := [1]) (X := [110]) (v := .u (.one (.int .i64 x33.1))) (nobs := []) (oa' := _) (nx' := 6) hS17_14 [1] rfl (by decide) (h_c rfl h_n) rfl (g_1 rfl rfl rfl (g_1 rfl rfl rfl g_n)) ent76 rfl rfl rfl rfl ?_ rfl)
                      refine t_D 15 1 [16, 18, 19] rfl (by decide +kernel) (x_ix0 rfl E24 rfl rfl rfl h35 ?_)
                      refine t_D 16 1 [18, 19] rfl (by decide +kernel) (x_ldn rfl T2 rfl rfl h35 rfl rfl ?_)
                      refine t_ 18 0 rfl (by decide +kernel) (x_bu (cells := [.int .i64 (at_ ([18, 19]) x30.1), .int .i64 (at_ ([16, 32]) x33.1), .int .i64 x27.1, .int .i64 0, .int .i64 0, .int .i64 0, .nl]) T53 rfl rfl rfl ?_)
                      refine o_ 19 rfl (by decide +kernel) (x_cgS (H := [1]) (X := [110]) (v := .u (.one (.int .i64 x36.1))) (nobs := []) (oa' := _) (nx' := 6) hS17_19 [0, 1, 2, 3] rfl (by decide) (h_c rfl (h_c rfl (h_c (hrow rfl) (h_c (hrow rfl) h_n)))) (by simp only [hl2G, List.all_cons, List.all_nil, knows_map, Bool.and_true, Bool.true_and] <;> rfl) (g_1 rfl rfl rfl (g_an rfl (.cons (.same rfl) (.cons (.same rfl) (.cons (.same rfl) (.cons (.same rfl) (.cons (.same rfl) (.cons (.same rfl) (.cons .nl .nil))))))) rfl g_n)) ent129 rfl rfl (by simp only [hl2G, oaG, List.drop_succ_cons, List.drop_zero, List.drop_nil, List.take_succ_cons, List.take_zero, List.take_nil, List.length_cons, List.length_nil, List.map_cons, List.map_nil, List.zipIdx_nil, List.zip_cons_cons, List.zip_nil_right, updO, pushO, ren_map] <;> rfl) rfl ?_ rfl)
                      refine a_nil (by decide +kernel) ?_
                      cases hm
                      exact w_ [0, 1, 2, 3] (.cons rfl rfl (.cons rfl rfl (.cons rfl rfl .nil))) (.lit rfl rfl (.lit rfl rfl (.map rfl (.map rfl .nil)))) (by decide) (hB_n 4 hB0 rfl)
                    · refine o_ 9 rfl (by decide +kernel) (x_bsm (enc := iL) ([16, 32]) A24 rfl rfl rfl rfl ?_)
                      refine t_D 15 1 [16, 18, 19] rfl (by decide +kernel) (x_ix0 rfl E24 rfl rfl rfl h35 ?_)
                      refine t_D 16 1 [18, 19] rfl (by decide +kernel) (x_ldn rfl T2 rfl rfl h35 rfl rfl ?_)
                      refine t_ 18 0 rfl (by decide +kernel) (x_bu (cells := [.int .i64 (at_ ([18, 19]) x30.1), .int .i64 (at_ ([16, 32]) x33.1), .int .i64 x27.1, .int .i64 0, .int .i64 0, .int .i64 0, .nl]) T53 rfl rfl rfl ?_)
                      refine o_ 19 rfl (by decide +kernel) (x_cgS (H := [1]) (X := [110]) (v := .u (.one (.int .i64 x36.1))) (nobs := []) (oa' := _) (nx' := 6) hS17_19 [0, 1, 2, 3] rfl (by decide) (h_c rfl (h_c rfl (h_c (hrow rfl) (h_c (hrow rfl) h_n)))) (by simp only [hl2G, List.all_cons, List.all_nil, knows_map, Bool.and_true, Bool.true_and] <;> rfl) (g_1 rfl rfl rfl (g_an rfl (.cons (.same rfl) (.cons (.same rfl) (.cons (.same rfl) (.cons (.same rfl) (.cons (.same rfl) (.cons (.same rfl) (.cons .nl .nil))))))) rfl g_n)) ent129 rfl rfl (by simp only [hl2G, oaG, List.drop_succ_cons, List.drop_zero, List.drop_nil, List.take_succ_cons, List.take_zero, List.take_nil, List.length_cons, List.length_nil, List.map_cons, List.map_nil, List.zipIdx_nil, List.zip_cons_cons, List.zip_nil_right, updO, pushO, ren_map] <;> rfl) rfl ?_ rfl)
                      refine a_nil (by decide +kernel) ?_
                      cases hm
                      exact w_ [0, 1, 2, 3] (.cons rfl rfl (.cons rfl rfl (.cons rfl rfl .nil))) (.lit rfl rfl (.lit rfl rfl (.map rfl (.map rfl .nil)))) (by decide) (hB_n 4 hB0 rfl)
                  · refine o_ 6 rfl (by decide +kernel) (x_cgS (H := [1]) (X := [110]) (v := .u (.one (.int .i64 x30.1))) (nobs := []) (oa' := _) (nx' := 6) hS17_6 [1] rfl (by decide) (h_c rfl h_n) rfl (g_1 rfl rfl rfl (g_1 rfl rfl rfl g_n)) ent76 rfl rfl rfl rfl ?_ rfl)
                    refine t_E 7 [8, 18, 19] rfl (by decide +kernel) rfl rfl rfl (x_ix0 rfl E24 rfl rfl rfl h32 ?_)
                    refine t_E 8 [18, 19] rfl (by decide +kernel) rfl rfl rfl (x_ldn rfl T2 rfl rfl h32 rfl rfl ?_)
                    refine o_ 14 rfl (by decide +kernel) (x_cgS (H := [1]) (X := [110]) (v := .u (.one (.int .i64 x33.1))) (nobs := []) (oa' := _) (nx' := 6) hS17_14 [1] rfl (by decide) (h_c rfl h_n) rfl (g_1 rfl rfl rfl (g_1 rfl rfl rfl g_n)) ent76 rfl rfl rfl rfl ?_ rfl)
                    refine t_D 15 1 [16, 18, 19] rfl (by decide +kernel) (x_ix0 rfl E24 rfl rfl rfl h35 ?_)
                    refine t_D 16 1 [18, 19] rfl (by decide +kernel) (x_ldn rfl T2 rfl rfl h35 rfl rfl ?_)
                    refine t_ 18 0 rfl (by decide +kernel) (x_bu (cells := [.int .i64 (at_ ([18, 19]) x30.1), .int .i64 (at_ ([16, 32]) x33.1), .int .i64 x27.1, .int .i64 0, .int .i64 0, .int .i64 0, .nl]) T53 rfl rfl rfl ?_)
                    refine o_ 19 rfl (by decide +kernel) (x_cgS (H := [1]) (X := [110]) (v := .u (.one (.int .i64 x36.1))) (nobs := []) (oa' := _) (nx' := 6) hS17_19 [0, 1, 2, 3] rfl (by decide) (h_c rfl (h_c rfl (h_c (hrow rfl) (h_c (hrow rfl) h_n)))) (by simp only [hl2G, List.all_cons, List.all_nil, knows_map, Bool.and_true, Bool.true_and] <;> rfl) (g_1 rfl rfl rfl (g_an rfl (.cons (.same rfl) (.cons (.same rfl) (.cons (.same rfl) (.cons (.same rfl) (.cons (.same rfl) (.cons (.same rfl) (.cons .nl .nil))))))) rfl g_n)) ent129 rfl rfl (by simp only [hl2G, oaG, List.drop_succ_cons, List.drop_zero, List.drop_nil, List.take_succ_cons, List.take_zero, List.take_nil, List.length_cons, List.length_nil, List.map_cons, List.map_nil, List.zipIdx_nil, List.zip_cons_cons, List.zip_nil_right, updO, pushO, ren_map] <;> rfl) rfl ?_ rfl)
                    refine a_nil (by decide +kernel) ?_
                    cases hm
                    exact w_ [0, 1, 2, 3] (.cons rfl rfl (.cons rfl rfl (.cons rfl rfl .nil))) (.lit rfl rfl (.lit rfl rfl (.map rfl (.map rfl .nil)))) (by decide) (hB_n 4 hB0 rfl)
                · refine t_n 1 [9, 14] (by decide +kernel) (.cons (wy rfl (x_bsm (enc := iL) ([18, 19]) A24 rfl rfl rfl rfl ?_)) (.cons (wy rfl (x_bsm (enc := iL) ([16, 32]) A24 rfl rfl rfl rfl ?_)) (.cons (wy rfl (x_cgS (H := [1]) (X := [110]) (v := .u (.one (.int .i64 x33.1))) (nobs := []) (oa' := _) (nx' := 4) hS17_14 [1] rfl (by decide) (h_c rfl h_n) rfl (g_1 rfl rfl rfl (g_1 rfl rfl rfl g_n)) ent76 rfl rfl rfl rfl ?_ rfl)) .nil)))
                  · refine t_E 7 [8, 18, 19] rfl (by decide +kernel) rfl rfl rfl (x_ix0 rfl E24 rfl rfl rfl h32 ?_)
                    refine t_E 8 [18, 19] rfl (by decide +kernel) rfl rfl rfl (x_ldn rfl T2 rfl rfl h32 rfl rfl ?_)
                    refine t_n 9 [14] (by decide +kernel) (.cons (wy rfl (x_bsm (enc := iL) ([16, 32]) A24 rfl rfl rfl rfl ?_)) (.cons (wy rfl (x_cgS (H := [1]) (X := [110]) (v := .u (.one (.int .i64 x33.1))) (nobs := []) (oa' := _) (nx' := 5) hS17_14 [1] rfl (by decide) (h_c rfl h_n) rfl (g_1 rfl rfl rfl (g_1 rfl rfl rfl g_n)) ent76 rfl rfl rfl rfl ?_ rfl)) .nil))
                    · refine o_ 14 rfl (by decide +kernel) (x_cgS (H := [1]) (X := [110]) (v := .u (.one (.int .i64 x33.1))) (nobs := []) (oa' := _) (nx' := 6) hS17_14 [1] rfl (by decide) (h_c rfl h_n) rfl (g_1 rfl rfl rfl (g_1 rfl rfl rfl g_n)) ent76 rfl rfl rfl rfl ?_ rfl)
                      refine t_D 15 1 [16, 18, 19] rfl (by decide +kernel) (x_ix0 rfl E24 rfl rfl rfl h35 ?_)
                      refine t_D 16 1 [18, 19] rfl (by decide +kernel) (x_ldn rfl T2 rfl rfl h35 rfl rfl ?_)
                      refine t_ 18 0 rfl (by decide +kernel) (x_bu (cells := [.int .i64 (at_ ([18, 19]) x30.1), .int .i64 (at_ ([16, 32]) x33.1), .int .i64 x27.1, .int .i64 0, .int .i64 0, .int .i64 0, .nl]) T53 rfl rfl rfl ?_)
                      refine o_ 19 rfl (by decide +kernel) (x_cgS (H := [1]) (X := [110]) (v := .u (.one (.int .i64 x36.1))) (nobs := []) (oa' := _) (nx' := 6) hS17_19 [0, 1, 2, 3] rfl (by decide) (h_c rfl (h_c rfl (h_c (hrow rfl) (h_c (hrow rfl) h_n)))) (by simp only [hl2G, List.all_cons, List.all_nil, knows_map, Bool.and_true, Bool.true_and] <;> rfl) (g_1 rfl rfl rfl (g_an rfl (.cons (.same rfl) (.cons (.same rfl) (.cons (.same rfl) (.cons (.same rfl) (.cons (.same rfl) (.cons (.same rfl) (.cons .nl .nil))))))) rfl g_n)) ent129 rfl rfl (by simp only [hl2G, oaG, List.drop_succ_cons, List.drop_zero, List.drop_nil, List.take_succ_cons, List.take_zero, List.take_nil, List.length_cons, List.length_nil, List.map_cons, List.map_nil, List.zipIdx_nil, List.zip_cons_cons, List.zip_nil_right, updO, pushO, ren_map] <;> rfl) rfl ?_ rfl)
                      refine a_nil (by decide +kernel) ?_
                      cases hm
                      exact w_ [0, 1, 2, 3] (.cons rfl rfl (.cons rfl rfl (.cons rfl rfl .nil))) (.lit rfl rfl (.lit rfl rfl (.map rfl (.map rfl .nil)))) (by decide) (hB_n 4 hB0 rfl)
                    · refine o_ 9 rfl (by decide +kernel) (x_bsm (enc := iL) ([16, 32]) A24 rfl rfl rfl rfl ?_)
                      refine t_D 15 1 [16, 18, 19] rfl (by decide +kernel) (x_ix0 rfl E24 rfl rfl rfl h35 ?_)
                      refine t_D 16 1 [18, 19] rfl (by decide +kernel) (x_ldn rfl T2 rfl rfl h35 rfl rfl ?_)
                      refine t_ 18 0 rfl (by decide +kernel) (x_bu (cells := [.int .i64 (at_ ([18, 19]) x30.1), .int .i64 (at_ ([16, 32]) x33.1), .int .i64 x27.1, .int .i64 0, .int .i64 0, .int .i64 0, .nl]) T53 rfl rfl rfl ?_)
                      refine o_ 19 rfl (by decide +kernel) (x_cgS (H := [1]) (X := [110]) (v := .u (.one (.int .i64 x36.1))) (nobs := []) (oa' := _) (nx' := 6) hS17_19 [0, 1, 2, 3] rfl (by decide) (h_c rfl (h_c rfl (h_c (hrow rfl) (h_c (hrow rfl) h_n)))) (by simp only [hl2G, List.all_cons, List.all_nil, knows_map, Bool.and_true, Bool.true_and] <;> rfl) (g_1 rfl rfl rfl (g_an rfl (.cons (.same rfl) (.cons (.same rfl) (.cons (.same rfl) (.cons (.same rfl) (.cons (.same rfl) (.cons (.same rfl) (.cons .nl .nil))))))) rfl g_n)) ent129 rfl rfl (by simp only [hl2G, oaG, List.drop_succ_cons, List.drop_zero, List.drop_nil, List.take_succ_cons, List.take_zero, List.take_nil, List.length_cons, List.length_nil, List.map_cons, List.map_nil, List.zipIdx_nil, List.zip_cons_cons, List.zip_nil_right, updO, pushO, ren_map] <;> rfl) rfl ?_ rfl)
                      refine a_nil (by decide +kernel) ?_
                      cases hm
                      exact w_ [0, 1, 2, 3] (.cons rfl rfl (.cons rfl rfl (.cons rfl rfl .nil))) (.lit rfl rfl (.lit rfl rfl (.map rfl (.map rfl .nil)))) (by decide) (hB_n 4 hB0 rfl)
                  · refine t_n 1 [14] (by decide +kernel) (.cons (wy rfl (x_bsm (enc := iL) ([18, 19]) A24 rfl rfl rfl rfl ?_)) (.cons (wy rfl (x_cgS (H := [1]) (X := [110]) (v := .u (.one (.int .i64 x33.1))) (nobs := []) (oa' := _) (nx' := 5) hS17_14 [1] rfl (by decide) (h_c rfl h_n) rfl (g_1 rfl rfl rfl (g_1 rfl rfl rfl g_n)) ent76 rfl rfl rfl rfl ?_ rfl)) .nil))
                    · refine t_E 7 [8, 18, 19] rfl (by decide +kernel) rfl rfl rfl (x_ix0 rfl E24 rfl rfl rfl h32 ?_)
                      refine t_E 8 [18, 19] rfl (by decide +kernel) rfl rfl rfl (x_ldn rfl T2 rfl rfl h32 rfl rfl ?_)
                      refine o_ 14 rfl (by decide +kernel) (x_cgS (H := [1]) (X := [110]) (v := .u (.one (.int .i64 x33.1))) (nobs := []) (oa' := _) (nx' := 6) hS17_14 [1] rfl (by decide) (h_c rfl h_n) rfl (g_1 rfl rfl rfl (g_1 rfl rfl rfl g_n)) ent76 rfl rfl rfl rfl ?_ rfl)
                      refine t_D 15 1 [16, 18, 19] rfl (by decide +kernel) (x_ix0 rfl E24 rfl rfl rfl h35 ?_)
                      refine t_D 16 1 [18, 19] rfl (by decide +kernel) (x_ldn rfl T2 rfl rfl h35 rfl rfl ?_)
                      refine t_ 18 0 rfl (by decide +kernel) (x_bu (cells := [.int .i64 (at_ ([18, 19]) x30.1), .int .i64 (at_ ([16, 32]) x33.1), .int .i64 x27.1, .int .i64 0, .int .i64 0, .int .i64 0, .nl]) T53 rfl rfl rfl ?_)
                      refine o_ 19 rfl (by decide +kernel) (x_cgS (H := [1]) (X := [110]) (v := .u (.one (.int .i64 x36.1))) (nobs := []) (oa' := _) (nx' := 6) hS17_19 [0, 1, 2, 3] rfl (by decide) (h_c rfl (h_c rfl (h_c (hrow rfl) (h_c (hrow rfl) h_n)))) (by simp only [hl2G, List.all_cons, List.all_nil, knows_map, Bool.and_true, Bool.true_and] <;> rfl) (g_1 rfl rfl rfl (g_an rfl (.cons (.same rfl) (.cons (.same rfl) (.cons (.same rfl) (.cons (.same rfl) (.cons (.same rfl) (.cons (.same rfl) (.cons .nl .nil))))))) rfl g_n)) ent129 rfl rfl (by simp only [hl2G, oaG, List.drop_succ_cons, List.drop_zero, List.drop_nil, List.take_succ_cons, List.take_zero, List.take_nil, List.length_cons, List.length_nil, List.map_cons, List.map_nil, List.zipIdx_nil, List.zip_cons_cons, List.zip_nil_right, updO, pushO, ren_map] <;> rfl) rfl ?_ rfl)
                      refine a_nil (by decide +kernel) ?_
                      cases hm
                      exact w_ [0, 1, 2, 3] (.cons rfl rfl (.cons rfl rfl (.cons rfl rfl .nil))) (.lit rfl rfl (.lit rfl rfl (.map rfl (.map rfl .nil)))) (by decide) (hB_n 4 hB0 rfl)
                    · refine t_D 15 1 [16, 18, 19] rfl (by decide +kernel) (x_ix0 rfl E24 rfl rfl rfl h35 ?_)
                      refine t_D 16 1 [18, 19] rfl (by decide +kernel) (x_ldn rfl T2 rfl rfl h35 rfl rfl ?_)
                      refine o_ 1 rfl (by decide +kernel) (x_bsm (enc := iL) ([18, 19]) A24 rfl rfl rfl rfl ?_)
                      refine t_D 7 1 [8, 18, 19] rfl (by decide +kernel) (x_ix0 rfl E24 rfl rfl rfl h32 ?_)
                      refine t_D 8 1 [18, 19] rfl (by decide +kernel) (x_ldn rfl T2 rfl rfl h32 rfl rfl ?_)
                      refine t_ 18 0 rfl (by decide +kernel) (x_bu (cells := [.int .i64 (at_ ([18, 19]) x30.1), .int .i64 (at_ ([16, 32]) x33.1), .int .i64 x27.1, .int .i64 0, .int .i64 0, .int .i64 0, .nl]) T53 rfl rfl rfl ?_)
                      refine o_ 19 rfl (by decide +kernel) (x_cgS (H := [1]) (X := [110]) (v := .u (.one (.int .i64 x36.1))) (nobs := []) (oa' := _) (nx' := 6) hS17_19 [0, 1, 2, 3] rfl (by decide) (h_c rfl (h_c rfl (h_c (hrow rfl) (h_c (hrow rfl) h_n)))) (by simp only [hl2G, List.all_cons, List.all_nil, knows_map, Bool.and_true, Bool.true_and] <;> rfl) (g_1 rfl rfl rfl (g_an rfl (.cons (.same rfl) (.cons (.same rfl) (.cons (.same rfl) (.cons (.same rfl) (.cons (.same rfl) (.cons (.same rfl) (.cons .nl .nil))))))) rfl g_n)) ent129 rfl rfl (by simp only [hl2G, oaG, List.drop_succ_cons, List.drop_zero, List.drop_nil, List.take_succ_cons, List.take_zero, List.take_nil, List.length_cons, List.length_nil, List.map_cons, List.map_nil, List.zipIdx_nil, List.zip_cons_cons, List.zip_nil_right, updO, pushO, ren_map] <;> rfl) rfl ?_ rfl)
                      refine a_nil (by decide +kernel) ?_
                      cases hm
                      exact w_ [0, 1, 2, 3] (.cons rfl rfl (.cons rfl rfl (.cons rfl rfl .nil))) (.lit rfl rfl (.lit rfl rfl (.map rfl (.map rfl .nil)))) (by decide) (hB_n 4 hB0 rfl)
                  · refine t_n 1 [9] (by decide +kernel) (.cons (wy rfl (x_bsm (enc := iL) ([18, 19]) A24 rfl rfl rfl rfl ?_)) (.cons (wy rfl (x_bsm (enc := iL) ([16, 32]) A24 rfl rfl rfl rfl ?_)) .nil))
                    · refine t_D 7 1 [8, 18, 19] rfl (by decide +kernel) (x_ix0 rfl E24 rfl rfl rfl h32 ?_)
                      refine t_D 8 1 [18, 19] rfl (by decide +kernel) (x_ldn rfl T2 rfl rfl h32 rfl rfl ?_)
                      refine o_ 9 rfl (by decide +kernel) (x_bsm (enc := iL) ([16, 32]) A24 rfl rfl rfl rfl ?_)
                      refine t_D 15 1 [16, 18, 19] rfl (by decide +kernel) (x_ix0 rfl E24 rfl rfl rfl h35 ?_)
                      refine t_D 16 1 [18, 19] rfl (by decide +kernel) (x_ldn rfl T2 rfl rfl h35 rfl rfl ?_)
                      refine t_ 18 0 rfl (by decide +kernel) (x_bu (cells := [.int .i64 (at_ ([18, 19]) x30.1), .int .i64 (at_ ([16, 32]) x33.1), .int .i64 x27.1, .int .i64 0, .int .i64 0, .int .i64 0, .nl]) T53 rfl rfl rfl ?_)
                      refine o_ 19 rfl (by decide +kernel) (x_cgS (H := [1]) (X := [110]) (v := .u (.one (.int .i64 x36.1))) (nobs := []) (oa' := _) (nx' := 6) hS17_19 [0, 1, 2, 3] rfl (by decide) (h_c rfl (h_c rfl (h_c (hrow rfl) (h_c (hrow rfl) h_n)))) (by simp only [hl2G, List.all_cons, List.all_nil, knows_map, Bool.and_true, Bool.true_and] <;> rfl) (g_1 rfl rfl rfl (g_an rfl (.cons (.same rfl) (.cons (.same rfl) (.cons (.same rfl) (.cons (.same rfl) (.cons (.same rfl) (.cons (.same rfl) (.cons .nl .nil))))))) rfl g_n)) ent129 rfl rfl (by simp only [hl2G, oaG, List.drop_succ_cons, List.drop_zero, List.drop_nil, List.take_succ_cons, List.take_zero, List.take_nil, List.length_cons, List.length_nil, List.map_cons, List.map_nil, List.zipIdx_nil, List.zip_cons_cons, List.zip_nil_right, updO, pushO, ren_map] <;> rfl) rfl ?_ rfl)
                      refine a_nil (by decide +kernel) ?_
                      cases hm
                      exact w_ [0, 1, 2, 3] (.cons rfl rfl (.cons rfl rfl (.cons rfl rfl .nil))) (.lit rfl rfl (.lit rfl rfl (.map rfl (.map rfl .nil)))) (by decide) (hB_n 4 hB0 rfl)
                    · refine t_D 15 1 [16, 18, 19] rfl (by decide +kernel) (x_ix0 rfl E24 rfl rfl rfl h35 ?_)
                      refine t_D 16 1 [18, 19] rfl (by decide +kernel) (x_ldn rfl T2 rfl rfl h35 rfl rfl ?_)
                      refine o_ 1 rfl (by decide +kernel) (x_bsm (enc := iL) ([18, 19]) A24 rfl rfl rfl rfl ?_)
                      refine t_D 7 1 [8, 18, 19] rfl (by decide +kernel) (x_ix0 rfl E24 rfl rfl rfl h32 ?_)
                      refine t_D 8 1 [18, 19] rfl (by decide +kernel) (x_ldn rfl T2 rfl rfl h32 rfl rfl ?_)
                      refine t_ 18 0 rfl (by decide +kernel) (x_bu (cells := [.int .i64 (at_ ([18, 19]) x30.1), .int .i64 (at_ ([16, 32]) x33.1), .int .i64 x27.1, .int .i64 0, .int .i64 0, .int .i64 0, .nl]) T53 rfl rfl rfl ?_)
                      refine o_ 19 rfl (by decide +kernel) (x_cgS (H := [1]) (X := [110]) (v := .u (.one (.int .i64 x36.1))) (nobs := []) (oa' := _) (nx' := 6) hS17_19 [0, 1, 2, 3] rfl (by decide) (h_c rfl (h_c rfl (h_c (hrow rfl) (h_c (hrow rfl) h_n)))) (by simp only [hl2G, List.all_cons, List.all_nil, knows_map, Bool.and_true, Bool.true_and] <;> rfl) (g_1 rfl rfl rfl (g_an rfl (.cons (.same rfl) (.cons (.same rfl) (.cons (.same rfl) (.cons (.same rfl) (.cons (.same rfl) (.cons (.same rfl) (.cons .nl .nil))))))) rfl g_n)) ent129 rfl rfl (by simp only [hl2G, oaG, List.drop_succ_cons, List.drop_zero, List.drop_nil, List.take_succ_cons, List.take_zero, List.take_nil, List.length_cons, List.length_nil, List.map_cons, List.map_nil, List.zipIdx_nil, List.zip_cons_cons, List.zip_nil_right, updO, pushO, ren_map] <;> rfl) rfl ?_ rfl)
                      refine a_nil (by decide +kernel) ?_
                      cases hm
                      exact w_ [0, 1, 2, 3] (.cons rfl rfl (.cons rfl rfl (.cons rfl rfl .nil))) (.lit rfl rfl (.lit rfl rfl (.map rfl (.map rfl .nil)))) (by decide) (hB_n 4 hB0 rfl)
                · refine t_n 1 [6] (by decide +kernel) (.cons (wy rfl (x_bsm (enc := iL) ([18, 19]) A24 rfl rfl rfl rfl ?_)) (.cons (wy rfl (x_cgS (H := [1]) (X := [110]) (v := .u (.one (.int .i64 x30.1))) (nobs := []) (oa' := _) (nx' := 5) hS17_6 [1] rfl (by decide) (h_c rfl h_n) rfl (g_1 rfl rfl rfl (g_1 rfl rfl rfl g_n)) ent76 rfl rfl rfl rfl ?_ rfl)) .nil))
                  · refine o_ 6 rfl (by decide +kernel) (x_cgS (H := [1]) (X := [110]) (v := .u (.one (.int .i64 x30.1))) (nobs := []) (oa' := _) (nx' := 6) hS17_6 [1] rfl (by decide) (h_c rfl h_n) rfl (g_1 rfl rfl rfl (g_1 rfl rfl rfl g_n)) ent76 rfl rfl rfl rfl ?_ rfl)
                    refine t_E 7 [8, 18, 19] rfl (by decide +kernel) rfl rfl rfl (x_ix0 rfl E24 rfl rfl rfl h32 ?_)
                    refine t_E 8 [18, 19] rfl (by decide +kernel) rfl rfl rfl (x_ldn rfl T2 rfl rfl h32 rfl rfl ?_)
                    refine o_ 14 rfl (by decide +kernel) (x_cgS (H := [1]) (X := [110]) (v := .u (.one (.int .i64 x33.1))) (nobs := []) (oa' := _) (nx' := 6) hS17_14 [1] rfl (by decide) (h_c rfl h_n) rfl (g_1 rfl rfl rfl (g_1 rfl rfl rfl g_n)) ent76 rfl rfl rfl rfl ?_ rfl)
                    refine t_D 15 1 [16, 18, 19] rfl (by decide +kernel) (x_ix0 rfl E24 rfl rfl rfl h35 ?_)
                    refine t_D 16 1 [18, 19] rfl (by decide +kernel) (x_ldn rfl T2 rfl rfl h35 rfl rfl ?_)
                    refine t_ 18 0 rfl (by decide +kernel) (x_bu (cells := [.int .i64 (at_ ([18, 19]) x30.1), .int .i64 (at_ ([16, 32]) x33.1), .int .i64 x27.1, .int .i64 0, .int .i64 0, .int .i64 0, .nl]) T53 rfl rfl rfl ?_)
                    refine o_ 19 rfl (by decide +kernel) (x_cgS (H := [1]) (X := [110]) (v := .u (.one (.int .i64 x36.1))) (nobs := []) (oa' := _) (nx' := 6) hS17_19 [0, 1, 2, 3] rfl (by decide) (h_c rfl (h_c rfl (h_c (hrow rfl) (h_c (hrow rfl) h_n)))) (by simp only [hl2G, List.all_cons, List.all_nil, knows_map, Bool.and_true, Bool.true_and] <;> rfl) (g_1 rfl rfl rfl (g_an rfl (.cons (.same rfl) (.cons (.same rfl) (.cons (.same rfl) (.cons (.same rfl) (.cons (.same rfl) (.cons (.same rfl) (.cons .nl .nil))))))) rfl g_n)) ent129 rfl rfl (by simp only [hl2G, oaG, List.drop_succ_cons, List.drop_zero, List.drop_nil, List.take_succ_cons, List.take_zero, List.take_nil, List.length_cons, List.length_nil, List.map_cons, List.map_nil, List.zipIdx_nil, List.zip_cons_cons, List.zip_nil_right, updO, pushO, ren_map] <;> rfl) rfl ?_ rfl)
                    refine a_nil (by decide +kernel) ?_
                    cases hm
                    exact w_ [0, 1, 2, 3] (.cons rfl rfl (.cons rfl rfl (.cons rfl rfl .nil))) (.lit rfl rfl (.lit rfl rfl (.map rfl (.map rfl .nil)))) (by decide) (hB_n 4 hB0 rfl)
                  · refine t_n 1 [14] (by decide +kernel) (.cons (wy rfl (x_bsm (enc := iL) ([18, 19]) A24 rfl rfl rfl rfl ?_)) (.cons (wy rfl (x_cgS (H := [1]) (X := [110]) (v := .u (.one (.int .i64 x33.1))) (nobs := []) (oa' := _) (nx' := 5) hS17_14 [1] rfl (by decide) (h_c rfl h_n) rfl (g_1 rfl rfl rfl (g_1 rfl rfl rfl g_n)) ent76 rfl rfl rfl rfl ?_ rfl)) .nil))
                    · refine t_E 7 [8, 18, 19] rfl (by decide +kernel) rfl rfl rfl (x_ix0 rfl E24 rfl rfl rfl h32 ?_)
                      refine t_E 8 [18, 19] rfl (by decide +kernel) rfl rfl rfl (x_ldn rfl T2 rfl rfl h32 rfl rfl ?_)
                      refine o_ 14 rfl (by decide +kernel) (x_cgS (H := [1]) (X := [110]) (v := .u (.one (.int .i64 x33.1))) (nobs := []) (oa' := _) (nx' := 6) hS17_14 [1] rfl (by decide) (h_c rfl h_n) rfl (g_1 rfl rfl rfl (g_1 rfl rfl rfl g_n)) ent76 rfl rfl rfl rfl ?_ rfl)
                      refine t_D 15 1 [16, 18, 19] rfl (by decide +kernel) (x_ix0 rfl E24 rfl rfl rfl h35 ?_)
                      refine t_D 16 1 [18, 19] rfl (by decide +kernel) (x_ldn rfl T2 rfl rfl h35 rfl rfl ?_)
                      refine t_ 18 0 rfl (by decide +kernel) (x_bu (cells := [.int .i64 (at_ ([18, 19]) x30.1), .int .i64 (at_ ([16, 32]) x33.1), .int .i64 x27.1, .int .i64 0, .int .i64 0, .int .i64 0, .nl]) T53 rfl rfl rfl ?_)
                      refine o_ 19 rfl (by decide +kernel) (x_cgS (H := [1]) (X := [110]) (v := .u (.one (.int .i64 x36.1))) (nobs := []) (oa' := _) (nx' := 6) hS17_19 [0, 1, 2, 3] rfl (by decide) (h_c rfl (h_c rfl (h_c (hrow rfl) (h_c (hrow rfl) h_n)))) (by simp only [hl2G, List.all_cons, List.all_nil, knows_map, Bool.and_true, Bool.true_and] <;> rfl) (g_1 rfl rfl rfl (g_an rfl (.cons (.same rfl) (.cons (.same rfl) (.cons (.same rfl) (.cons (.same rfl) (.cons (.same rfl) (.cons (.same rfl) (.cons .nl .nil))))))) rfl g_n)) ent129 rfl rfl (by simp only [hl2G, oaG, List.drop_succ_cons, List.drop_zero, List.drop_nil, List.take_succ_cons, List.take_zero, List.take_nil, List.length_cons, List.length_nil, List.map_cons, List.map_nil, List.zipIdx_nil, List.zip_cons_cons, List.zip_nil_right, updO, pushO, ren_map] <;> rfl) rfl ?_ rfl)
                      refine a_nil (by decide +kernel) ?_
                      cases hm
                      exact w_ [0, 1, 2, 3] (.cons rfl rfl (.cons rfl rfl (.cons rfl rfl .nil))) (.lit rfl rfl (.lit rfl rfl (.map rfl (.map rfl .nil)))) (by decide) (hB_n 4 hB0 rfl)
                    · refine t_D 15 1 [16, 18, 19] rfl (by decide +kernel) (x_ix0 rfl E24 rfl rfl rfl h35 ?_)
                      refine t_D 16 1 [18, 19] rfl (by decide +kernel) (x_ldn rfl T2 rfl rfl h35 rfl rfl ?_)
                      refine o_ 1 rfl (by decide +kernel) (x_bsm (enc := iL) ([18, 19]) A24 rfl rfl rfl rfl ?_)
                      refine t_D 7 1 [8, 18, 19] rfl (by decide +kernel) (x_ix0 rfl E24 rfl rfl rfl h32 ?_)
                      refine t_D 8 1 [18, 19] rfl (by decide +kernel) (x_ldn rfl T2 rfl rfl h32 rfl rfl ?_)
                      refine t_ 18 0 rfl (by decide +kernel) (x_bu (cells := [.int .i64 (at_ ([18, 19]) x30.1), .int .i64 (at_ ([16, 32]) x33.1), .int .i64 x27.1, .int .i64 0, .int .i64 0, .int .i64 0, .nl]) T53 rfl rfl rfl ?_)
                      refine o_ 19 rfl (by decide +kernel) (x_cgS (H := [1]) (X := [110]) (v := .u (.one (.int .i64 x36.1))) (nobs := []) (oa' := _) (nx' := 6) hS17_19 [0, 1, 2, 3] rfl (by decide) (h_c rfl (h_c rfl (h_c (hrow rfl) (h_c (hrow rfl) h_n)))) (by simp only [hl2G, List.all_cons, List.all_nil, knows_map, Bool.and_true, Bool.true_and] <;> rfl) (g_1 rfl rfl rfl (g_an rfl (.cons (.same rfl) (.cons (.same rfl) (.cons (.same rfl) (.cons (.same rfl) (.cons (.same rfl) (.cons (.same rfl) (.cons .nl .nil))))))) rfl g_n)) ent129 rfl rfl (by simp only [hl2G, oaG, List.drop_succ_cons, List.drop_zero, List.drop_nil, List.take_succ_cons, List.take_zero, List.take_nil, List.length_cons, List.length_nil, List.map_cons, List.map_nil, List.zipIdx_nil, List.zip_cons_cons, List.zip_nil_right, updO, pushO, ren_map] <;> rfl) rfl ?_ rfl)
                      refine a_nil (by decide +kernel) ?_
                      cases hm
                      exact w_ [0, 1, 2, 3] (.cons rfl rfl (.cons rfl rfl (.cons rfl rfl .nil))) (.lit rfl rfl (.lit rfl rfl (.map rfl (.map rfl .nil)))) (by decide) (hB_n 4 hB0 rfl)
              · refine c_reg (Y := sysA _) ?_
                refine n_ (x_mv rfl rfl ?_)
                obtain ⟨h39, hm⟩ := of_ite hm
                refine n_ (x_addc T3 rfl rfl h39 ?_)
                refine n_ (x_as rfl rfl ?_)
                refine z_ ?_
                cases hm
                exact ⟨rfl, w_ [0, 1, 2, 3] (.cons rfl rfl (.cons rfl rfl (.cons rfl rfl .nil))) (.lit rfl rfl (.lit rfl rfl (.map rfl (.map rfl .nil)))) (by decide) (hB_n 4 hB0 rfl)⟩
            · rw [if_neg (by rw [hb26]; decide)] at hm
              refine Wp.seq ?_
              refine c_reg (Y := sysA _) ?_
              refine n_ (x_bin T3 rfl rfl rfl ?_)
              refine n_ (x_as rfl rfl ?_)
              refine z_ ?_
              refine c_s rfl rfl (fun hb40 => ?_) (fun hb40 => ?_)
              · rw [if_pos (show _ = true from hb40)] at hm
                refine Wp.seq ?_
                refine c_reg (Y := sysA _) ?_
                refine n_ (x_mv rfl rfl ?_)
                obtain ⟨x41, h42, hm⟩ := of_bind hm
                refine n_ (x_cg (v := .u (.one (.int .i64 x41.1))) (nobs := []) (oa' := _) (nx' := 4) (cs := []) (obs := [⟨(), 15, [hl2G (.ptr () 1 0 0) (.ref () 2 0 (List.length grets)) (.ref () 3 0 (List.length gpars)) st1.1]⟩, ⟨(), 2, [el1Rd false x8.2]⟩, ⟨(), 1, List.map iL grets⟩, ⟨(), 1, List.map (lL false 1 iL) gpars⟩]) [0, 1, 2, 3] false rfl (by decide) (h_c rfl (h_c rfl (h_c (hrow rfl) (h_c (hrow rfl) h_n)))) (by simp only [hl2G, List.all_cons, List.all_nil, knows_map, Bool.and_true, Bool.true_and] <;> rfl) (g_1 (l := .ptr () 0 0 0) rfl rfl rfl (g_1 (l := .int .i64 32) rfl rfl rfl g_n)) rfl rfl ent131 (spec_l2G_pick_sim st1.1 x8.2 grets gpars 32 h42) (.inl rfl) rfl rfl (by simp only [hl2G, oaG, List.drop_succ_cons, List.drop_zero, List.drop_nil, List.take_succ_cons, List.take_zero, List.take_nil, List.length_cons, List.length_nil, List.map_cons, List.map_nil, List.zipIdx_nil, List.zip_cons_cons, List.zip_nil_right, updO, pushO, ren_map] <;> rfl) rfl ?_)
                refine n_ (x_as rfl rfl ?_)
                refine z_ ?_
                refine c_regS ?_
                refine o_run (Y := sysA _) 11 ?_
                refine n_ (x_mv rfl rfl ?_)
                refine n_ (x_bsm (enc := iL) ([1, 8, 16]) A24 rfl rfl rfl rfl ?_)
                refine n_ (x_mv rfl rfl ?_)
                refine n_ (x_ncp rfl rfl rfl ?_)
                refine n_ (x_fap rfl F135_0 rfl rfl ?_)
                refine n_ (x_ldp rfl T64 rfl rfl rfl rfl rfl ?_)
                obtain ⟨x43, h44, hm⟩ := of_bind hm
                refine n_ (x_cg (v := .u (.one (.int .i64 x43.1))) (nobs := []) (oa' := _) (nx' := 5) (cs := []) (obs := [⟨(), 2, [el1Rd false x41.2.2]⟩]) [1] false rfl (by decide) (h_c rfl h_n) rfl (g_1 (l := .ptr () 0 0 0) rfl rfl rfl (g_1 (l := .int .i64 3) rfl rfl rfl g_n)) rfl rfl ent76 (spec_l1Rd_below_sim x41.2.2 3 h44) (.inl rfl) rfl rfl rfl rfl ?_)
                obtain ⟨h45, hm⟩ := of_ite hm
                refine n_ (x_ix0 rfl E24 rfl rfl rfl h45 ?_)
                refine n_ (x_ldn rfl T2 rfl rfl h45 rfl rfl ?_)
                refine n_ (x_mv rfl rfl ?_)
                refine n_ (x_bu (cells := [.int .i64 20, .int .i64 (at_ ([1, 8, 16]) x43.1), .int .i64 x41.1, .int .i64 0, .int .i64 0, .int .i64 0, .nl]) T53 rfl rfl rfl ?_)
                refine z_ ?_
                refine WpO.ghb (f_nb (u' := .agg [.int .i64 20, .int .i64 (at_ ([1, 8, 16]) x43.1), .int .i64 x41.1, .int .i64 0, .int .i64 0, .int .i64 0, .bs () 1 (List.map iL (([] : List Int)))]) 125 6 1 rfl rfl rfl rfl) ?_
                refine o_run (Y := sysA _) 1 ?_
                obtain ⟨x46, h47, hm⟩ := of_bind hm
                refine n_ (x_cg (v := .u (.one (.int .i64 x46.1))) (nobs := []) (oa' := _) (nx' := 5) (cs := []) (obs := [⟨(), 15, [hl2G (.ptr () 1 0 0) (.ref () 2 0 (List.length grets)) (.ref () 3 0 (List.length gpars)) x41.2.1]⟩, ⟨(), 2, [el1Rd false x43.2]⟩, ⟨(), 1, List.map iL grets⟩, ⟨(), 1, List.map (lL false 1 iL) gpars⟩]) [0, 1, 2, 3] false rfl (by decide) (h_c rfl (h_c rfl (h_c (hrow rfl) (h_c (hrow rfl) h_n)))) (by simp only [hl2G, List.all_cons, List.all_nil, knows_map, Bool.and_true, Bool.true_and] <;> rfl) (g_1 (l := .ptr () 0 0 0) rfl rfl rfl (g_a (ls := eInst false (({ op_ := 20, w := at_ ([1, 8, 16]) x43.1, a := x41.1, b := 0, c := 0, imm := 0, args := ([] : List Int) } : GInst))) rfl rfl rfl g_n)) rfl rfl ent129 (spec_l2G_put_sim x41.2.1 x43.2 grets gpars (({ op_ := 20, w := at_ ([1, 8, 16]) x43.1, a := x41.1, b := 0, c := 0, imm := 0, args := ([] : List Int) } : GInst)) h47) (.inl rfl) rfl rfl (by simp only [hl2G, oaG, List.drop_succ_cons, List.drop_zero, List.drop_nil, List.take_succ_cons, List.take_zero, List.take_nil, List.length_cons, List.length_nil, List.map_cons, List.map_nil, List.zipIdx_nil, List.zip_cons_cons, List.zip_nil_right, updO, pushO, ren_map] <;> rfl) rfl ?_)
                refine z_ ?_
                refine o_end ?_
                refine c_reg (Y := sysA _) ?_
                refine n_ (x_mv rfl rfl ?_)
                obtain ⟨h48, hm⟩ := of_ite hm
                refine n_ (x_addc T3 rfl rfl h48 ?_)
                refine n_ (x_as rfl rfl ?_)
                refine z_ ?_
                cases hm
                exact ⟨rfl, w_ [0, 1, 2, 3] (.cons rfl rfl (.cons rfl rfl (.cons rfl rfl .nil))) (.lit rfl rfl (.lit rfl rfl (.map rfl (.map rfl .nil)))) (by decide) (hB_n 4 hB0 rfl)⟩
              · rw [if_neg (by rw [hb40]; decide)] at hm
                refine Wp.seq ?_
                refine c_reg (Y := sysA _) ?_
                refine n_ (x_bin T3 rfl rfl rfl ?_)
                refine n_ (x_as rfl rfl ?_)
                refine z_ ?_
                refine c_s rfl rfl (fun hb49 => ?_) (fun hb49 => ?_)
                · rw [if_pos (show _ = true from hb49)] at hm
                  refine Wp.seq ?_
                  refine c_regS ?_
                  refine o_run (Y := sysA _) 7 ?_
                  refine n_ (x_mv rfl rfl ?_)
                  refine n_ (x_mv rfl rfl ?_)
                  refine n_ (x_ncp rfl rfl rfl ?_)
                  refine n_ (x_fap rfl F135_0 rfl rfl ?_)
                  refine n_ (x_ldp rfl T64 rfl rfl rfl rfl rfl ?_)
                  obtain ⟨x50, h51, hm⟩ := of_bind hm
                  refine n_ (x_cg (v := .u (.one (.int .i64 x50.1))) (nobs := []) (oa' := _) (nx' := 4) (cs := []) (obs := [⟨(), 2, [el1Rd false x8.2]⟩]) [1] false rfl (by decide) (h_c rfl h_n) rfl (g_1 (l := .ptr () 0 0 0) rfl rfl rfl (g_1 (l := .int .i64 34) rfl rfl rfl g_n)) rfl rfl ent76 (spec_l1Rd_below_sim x8.2 34 h51) (.inl rfl) rfl rfl rfl rfl ?_)
                  refine n_ (x_bu (cells := [.int .i64 21, .int .i64 32, .int .i64 0, .int .i64 0, .int .i64 0, .int .i64 x50.1, .nl]) T53 rfl rfl rfl ?_)
                  refine z_ ?_
                  refine WpO.ghb (f_nb (u' := .agg [.int .i64 21, .int .i64 32, .int .i64 0, .int .i64 0, .int .i64 0, .int .i64 x50.1, .bs () 1 (List.map iL (([] : List Int)))]) 135 6 1 rfl rfl rfl rfl) ?_
                  refine o_run (Y := sysA _) 2 ?_
                  obtain ⟨x52, h53, hm⟩ := of_bind hm
                  refine n_ (x_cg (v := .u (.one (.int .i64 x52.1))) (nobs := []) (oa' := _) (nx' := 4) (cs := []) (obs := [⟨(), 15, [hl2G (.ptr () 1 0 0) (.ref () 2 0 (List.length grets)) (.ref () 3 0 (List.length gpars)) st1.1]⟩, ⟨(), 2, [el1Rd false x50.2]⟩, ⟨(), 1, List.map iL grets⟩, ⟨(), 1, List.map (lL false 1 iL) gpars⟩]) [0, 1, 2, 3] false rfl (by decide) (h_c rfl (h_c rfl (h_c (hrow rfl) (h_c (hrow rfl) h_n)))) (by simp only [hl2G, List.all_cons, List.all_nil, knows_map, Bool.and_true, Bool.true_and] <;> rfl) (g_1 (l := .ptr () 0 0 0) rfl rfl rfl (g_a (ls := eInst false (({ op_ := 21, w := 32, a := 0, b := 0, c := 0, imm := x50.1, args := ([] : List Int) } : GInst))) rfl rfl rfl g_n)) rfl rfl ent129 (spec_l2G_put_sim st1.1 x50.2 grets gpars (({ op_ := 21, w := 32, a := 0, b := 0, c := 0, imm := x50.1, args := ([] : List Int) } : GInst)) h53) (.inl rfl) rfl rfl (by simp only [hl2G, oaG, List.drop_succ_cons, List.drop_zero, List.drop_nil, List.take_succ_cons, List.take_zero, List.take_nil, List.length_cons, List.length_nil, List.map_cons, List.map_nil, List.zipIdx_nil, List.zip_cons_cons, List.zip_nil_right, updO, pushO, ren_map] <;> rfl) rfl ?_)
                  refine n_ (x_as rfl rfl ?_)
                  refine z_ ?_
                  refine o_end ?_
                  refine c_regS ?_
                  refine o_run (Y := sysA _) 3 ?_
                  refine n_ (x_mv rfl rfl ?_)
                  refine n_ (x_mv rfl rfl ?_)
                  refine n_ (x_bu (cells := [.int .i64 23, .int .i64 8, .int .i64 x52.1, .int .i64 0, .int .i64 0, .int .i64 0, .nl]) T53 rfl rfl rfl ?_)
                  refine z_ ?_
                  refine WpO.ghb (f_nb (u' := .agg [.int .i64 23, .int .i64 8, .int .i64 x52.1, .int .i64 0, .int .i64 0, .int .i64 0, .bs () 1 (List.map iL (([] : List Int)))]) 139 6 1 rfl rfl rfl rfl) ?_
                  refine o_run (Y := sysA _) 1 ?_
                  obtain ⟨x54, h55, hm⟩ := of_bind hm
                  refine n_ (x_cg (v := .u (.one (.int .i64 x54.1))) (nobs := []) (oa' := _) (nx' := 4) (cs := []) (obs := [⟨(), 15, [hl2G (.ptr () 1 0 0) (.ref () 2 0 (List.length grets)) (.ref () 3 0 (List.length gpars)) x52.2.1]⟩, ⟨(), 2, [el1Rd false x52.2.2]⟩, ⟨(), 1, List.map iL grets⟩, ⟨(), 1, List.map (lL false 1 iL) gpars⟩]) [0, 1, 2, 3] false rfl (by decide) (h_c rfl (h_c rfl (h_c (hrow rfl) (h_c (hrow rfl) h_n)))) (by simp only [hl2G, List.all_cons, List.all_nil, knows_map, Bool.and_true, Bool.true_and] <;> rfl) (g_1 (l := .ptr () 0 0 0) rfl rfl rfl (g_a (ls := eInst false (({ op_ := 23, w := 8, a := x52.1, b := 0, c := 0, imm := 0, args := ([] : List Int) } : GInst))) rfl rfl rfl g_n)) rfl rfl ent129 (spec_l2G_put_sim x52.2.1 x52.2.2 grets gpars (({ op_ := 23, w := 8, a := x52.1, b := 0, c := 0, imm := 0, args := ([] : List Int) } : GInst)) h55) (.inl rfl) rfl rfl (by simp only [hl2G, oaG, List.drop_succ_cons, List.drop_zero, List.drop_nil, List.take_succ_cons, List.take_zero, List.take_nil, List.length_cons, List.length_nil, List.map_cons, List.map_nil, List.zipIdx_nil, List.zip_cons_cons, List.zip_nil_right, updO, pushO, ren_map] <;> rfl) rfl ?_)
                  refine z_ ?_
                  refine o_end ?_
                  refine c_reg (Y := sysA _) ?_
                  refine n_ (x_mv rfl rfl ?_)
                  obtain ⟨h56, hm⟩ := of_ite hm
                  refine n_ (x_addc T3 rfl rfl h56 ?_)
                  refine n_ (x_as rfl rfl ?_)
                  refine z_ ?_
                  cases hm
                  exact ⟨rfl, w_ [0, 1, 2, 3] (.cons rfl rfl (.cons rfl rfl (.cons rfl rfl .nil))) (.lit rfl rfl (.lit rfl rfl (.map rfl (.map rfl .nil)))) (by decide) (hB_n 4 hB0 rfl)⟩
                · rw [if_neg (by rw [hb49]; decide)] at hm
                  refine Wp.seq ?_
                  refine c_reg (Y := sysA _) ?_
                  refine n_ (x_bin T3 rfl rfl rfl ?_)
                  refine n_ (x_as rfl rfl ?_)
                  refine z_ ?_
                  refine c_s rfl rfl (fun hb57 => ?_) (fun hb57 => ?_)
                  · rw [if_pos (show _ = true from hb57)] at hm
                    refine Wp.seq ?_
                    refine c_regS ?_
                    refine o_run (Y := sysA _) 7 ?_
                    refine n_ (x_mv rfl rfl ?_)
                    refine n_ (x_mv rfl rfl ?_)
                    refine n_ (x_ncp rfl rfl rfl ?_)
                    refine n_ (x_fap rfl F135_0 rfl rfl ?_)
                    refine n_ (x_ldp rfl T64 rfl rfl rfl rfl rfl ?_)
                    obtain ⟨x58, h59, hm⟩ := of_bind hm
                    refine n_ (x_cg (v := .u (.one (.int .i64 x58.1))) (nobs := []) (oa' := _) (nx' := 4) (cs := []) (obs := [⟨(), 2, [el1Rd false x8.2]⟩]) [1] false rfl (by decide) (h_c rfl h_n) rfl (g_1 (l := .ptr () 0 0 0) rfl rfl rfl (g_1 (l := .int .i64 33) rfl rfl rfl g_n)) rfl rfl ent76 (spec_l1Rd_below_sim x8.2 33 h59) (.inl rfl) rfl rfl rfl rfl ?_)
                    refine n_ (x_bu (cells := [.int .i64 21, .int .i64 32, .int .i64 0, .int .i64 0, .int .i64 0, .int .i64 x58.1, .nl]) T53 rfl rfl rfl ?_)
                    refine z_ ?_
                    refine WpO.ghb (f_nb (u' := .agg [.int .i64 21, .int .i64 32, .int .i64 0, .int .i64 0, .int .i64 0, .int .i64 x58.1, .bs () 1 (List.map iL (([] : List Int)))]) 149 6 1 rfl rfl rfl rfl) ?_
                    refine o_run (Y := sysA _) 2 ?_
                    obtain ⟨x60, h61, hm⟩ := of_bind hm
                    refine n_ (x_cg (v := .u (.one (.int .i64 x60.1))) (nobs := []) (oa' := _) (nx' := 4) (cs := []) (obs := [⟨(), 15, [hl2G (.ptr () 1 0 0) (.ref () 2 0 (List.length grets)) (.ref () 3 0 (List.length gpars)) st1.1]⟩, ⟨(), 2, [el1Rd false x58.2]⟩, ⟨(), 1, List.map iL grets⟩, ⟨(), 1, List.map (lL false 1 iL) gpars⟩]) [0, 1, 2, 3] false rfl (by decide) (h_c rfl (h_c rfl (h_c (hrow rfl) (h_c (hrow rfl) h_n)))) (by simp only [hl2G, List.all_cons, List.all_nil, knows_map, Bool.and_true, Bool.true_and] <;> rfl) (g_1 (l := .ptr () 0 0 0) rfl rfl rfl (g_a (ls := eInst false (({ op_ := 21, w := 32, a := 0, b := 0, c := 0, imm := x58.1, args := ([] : List Int) } : GInst))) rfl rfl rfl g_n)) rfl rfl ent129 (spec_l2G_put_sim st1.1 x58.2 grets gpars (({ op_ := 21, w := 32, a := 0, b := 0, c := 0, imm := x58.1, args := ([] : List Int) } : GInst)) h61) (.inl rfl) rfl rfl (by simp only [hl2G, oaG, List.drop_succ_cons, List.drop_zero, List.drop_nil, List.take_succ_cons, List.take_zero, List.take_nil, List.length_cons, List.length_nil, List.map_cons, List.map_nil, List.zipIdx_nil, List.zip_cons_cons, List.zip_nil_right, updO, pushO, ren_map] <;> rfl) rfl ?_)
                    refine n_ (x_as rfl rfl ?_)
                    refine z_ ?_
                    refine o_end ?_
                    refine Wp.seq ?_
                    refine c_reg (Y := sysA _) ?_
                    refine n_ (x_mv rfl rfl ?_)
                    obtain ⟨x62, h63, hm⟩ := of_bind hm
                    refine n_ (x_cg (v := .u (.one (.int .i64 x62.1))) (nobs := []) (oa' := _) (nx' := 4) (cs := []) (obs := [⟨(), 15, [hl2G (.ptr () 1 0 0) (.ref () 2 0 (List.length grets)) (.ref () 3 0 (List.length gpars)) x60.2.1]⟩, ⟨(), 2, [el1Rd false x60.2.2]⟩, ⟨(), 1, List.map iL grets⟩, ⟨(), 1, List.map (lL false 1 iL) gpars⟩]) [0, 1, 2, 3] false rfl (by decide) (h_c rfl (h_c rfl (h_c (hrow rfl) (h_c (hrow rfl) h_n)))) (by simp only [hl2G, List.all_cons, List.all_nil, knows_map, Bool.and_true, Bool.true_and] <;> rfl) (g_1 (l := .ptr () 0 0 0) rfl rfl rfl (g_1 (l := .int .i64 8) rfl rfl rfl g_n)) rfl rfl ent131 (spec_l2G_pick_sim x60.2.1 x60.2.2 grets gpars 8 h63) (.inl rfl) rfl rfl (by simp only [hl2G, oaG, List.drop_succ_cons, List.drop_zero, List.drop_nil, List.take_succ_cons, List.take_zero, List.take_nil, List.length_cons, List.length_nil, List.map_cons, List.map_nil, List.zipIdx_nil, List.zip_cons_cons, List.zip_nil_right, updO, pushO, ren_map] <;> rfl) rfl ?_)
                    refine n_ (x_as rfl rfl ?_)
                    refine z_ ?_
                    refine c_regS ?_
                    refine o_run (Y := sysA _) 4 ?_
                    refine n_ (x_mv rfl rfl ?_)
                    refine n_ (x_mv rfl rfl ?_)
                    refine n_ (x_mv rfl rfl ?_)
                    refine n_ (x_bu (cells := [.int .i64 24, .int .i64 0, .int .i64 x60.1, .int .i64 x62.1, .int .i64 0, .int .i64 0, .nl]) T53 rfl rfl rfl ?_)
                    refine z_ ?_
                    refine WpO.ghb (f_nb (u' := .agg [.int .i64 24, .int .i64 0, .int .i64 x60.1, .int .i64 x62.1, .int .i64 0, .int .i64 0, .bs () 1 (List.map iL (([] : List Int)))]) 156 6 1 rfl rfl rfl rfl) ?_
                    refine o_run (Y := sysA _) 1 ?_
                    obtain ⟨x64, h65, hm⟩ := of_bind hm
                    refine n_ (x_cg (v := .u (.one (.int .i64 x64.1))) (nobs := []) (oa' := _) (nx' := 4) (cs := []) (obs := [⟨(), 15, [hl2G (.ptr () 1 0 0) (.ref () 2 0 (List.length grets)) (.ref () 3 0 (List.length gpars)) x62.2.1]⟩, ⟨(), 2, [el1Rd false x62.2.2]⟩, ⟨(), 1, List.map iL grets⟩, ⟨(), 1, List.map (lL false 1 iL) gpars⟩]) [0, 1, 2, 3] false rfl (by decide) (h_c rfl (h_c rfl (h_c (hrow rfl) (h_c (hrow rfl) h_n)))) (by simp only [hl2G, List.all_cons, List.all_nil, knows_map, Bool.and_true, Bool.true_and] <;> rfl) (g_1 (l := .ptr () 0 0 0) rfl rfl rfl (g_a (ls := eInst false (({ op_ := 24, w := 0, a := x60.1, b := x62.1, c := 0, imm := 0, args := ([] : List Int) } : GInst))) rfl rfl rfl g_n)) rfl rfl ent129 (spec_l2G_put_sim x62.2.1 x62.2.2 grets gpars (({ op_ := 24, w := 0, a := x60.1, b := x62.1, c := 0, imm := 0, args := ([] : List Int) } : GInst)) h65) (.inl rfl) rfl rfl (by simp only [hl2G, oaG, List.drop_succ_cons, List.drop_zero, List.drop_nil, List.take_succ_cons, List.take_zero, List.take_nil, List.length_cons, List.length_nil, List.map_cons, List.map_nil, List.zipIdx_nil, List.zip_cons_cons, List.zip_nil_right, updO, pushO, ren_map] <;> rfl) rfl ?_)
                    refine z_ ?_
                    refine o_end ?_
                    refine c_reg (Y := sysA _) ?_
                    refine n_ (x_mv rfl rfl ?_)
                    obtain ⟨h66, hm⟩ := of_ite hm
                    refine n_ (x_addc T3 rfl rfl h66 ?_)
                    refine n_ (x_as rfl rfl ?_)
                    refine z_ ?_
                    cases hm
                    exact ⟨rfl, w_ [0, 1, 2, 3] (.cons rfl rfl (.cons rfl rfl (.cons rfl rfl .nil))) (.lit rfl rfl (.lit rfl rfl (.map rfl (.map rfl .nil)))) (by decide) (hB_n 4 hB0 rfl)⟩
                  · rw [if_neg (by rw [hb57]; decide)] at hm
                    refine Wp.seq ?_
                    refine c_reg (Y := sysA _) ?_
                    refine n_ (x_bin T3 rfl rfl rfl ?_)
                    refine n_ (x_as rfl rfl ?_)
                    refine z_ ?_
                    refine c_s rfl rfl (fun hb67 => ?_) (fun hb67 => ?_)
                    · rw [if_pos (show _ = true from hb67)] at hm
                      refine Wp.seq ?_
                      refine c_reg (Y := sysA _) ?_
                      refine n_ (x_mv rfl rfl ?_)
                      refine n_ (x_mv rfl rfl ?_)
                      obtain ⟨x68, h69, hm⟩ := of_bind hm
                      refine n_ (x_cg (v := .u (.one (.int .i64 x68.1))) (nobs := []) (oa' := _) (nx' := 4) (cs := []) (obs := [⟨(), 15, [hl2G (.ptr () 1 0 0) (.ref () 2 0 (List.length grets)) (.ref () 3 0 (List.length gpars)) st1.1]⟩, ⟨(), 2, [el1Rd false x8.2]⟩, ⟨(), 1, List.map iL grets⟩, ⟨(), 1, List.map (lL false 1 iL) gpars⟩]) [0, 1, 2, 3] false rfl (by decide) (h_c rfl (h_c rfl (h_c (hrow rfl) (h_c (hrow rfl) h_n)))) (by simp only [hl2G, List.all_cons, List.all_nil, knows_map, Bool.and_true, Bool.true_and] <;> rfl) (g_1 (l := .ptr () 0 0 0) rfl rfl rfl (g_1 (l := .int .i64 x6.1) rfl rfl rfl g_n)) rfl rfl ent131 (spec_l2G_pick_sim st1.1 x8.2 grets gpars x6.1 h69) (.inl rfl) rfl rfl (by simp only [hl2G, oaG, List.drop_succ_cons, List.drop_zero, List.drop_nil, List.take_succ_cons, List.take_zero, List.take_nil, List.length_cons, List.length_nil, List.map_cons, List.map_nil, List.zipIdx_nil, List.zip_cons_cons, List.zip_nil_right, updO, pushO, ren_map] <;> rfl) rfl ?_)
                      refine n_ (x_as rfl rfl ?_)
                      refine z_ ?_
                      refine c_regS ?_
                      refine o_run (Y := sysA _) 3 ?_
                      refine n_ (x_mv rfl rfl ?_)
                      refine n_ (x_mv rfl rfl ?_)
                      refine n_ (x_bu (cells := [.int .i64 25, .int .i64 0, .int .i64 x68.1, .int .i64 0, .int .i64 0, .int .i64 0, .nl]) T53 rfl rfl rfl ?_)
                      refine z_ ?_
                      refine WpO.ghb (f_nb (u' := .agg [.int .i64 25, .int .i64 0, .int .i64 x68.1, .int .i64 0, .int .i64 0, .int .i64 0, .bs () 1 (List.map iL (([] : List Int)))]) 165 6 1 rfl rfl rfl rfl) ?_
                      refine o_run (Y := sysA _) 1 ?_
                      obtain ⟨x70, h71, hm⟩ := of_bind hm
                      refine n_ (x_cg (v := .u (.one (.int .i64 x70.1))) (nobs := []) (oa' := _) (nx' := 4) (cs := []) (obs := [⟨(), 15, [hl2G (.ptr () 1 0 0) (.ref () 2 0 (List.length grets)) (.ref () 3 0 (List.length gpars)) x68.2.1]⟩, ⟨(), 2, [el1Rd false x68.2.2]⟩, ⟨(), 1, List.map iL grets⟩, ⟨(), 1, List.map (lL false 1 iL) gpars⟩]) [0, 1, 2, 3] false rfl (by decide) (h_c rfl (h_c rfl (h_c (hrow rfl) (h_c (hrow rfl) h_n)))) (by simp only [hl2G, List.all_cons, List.all_nil, knows_map, Bool.and_true, Bool.true_and] <;> rfl) (g_1 (l := .ptr () 0 0 0) rfl rfl rfl (g_a (ls := eInst false (({ op_ := 25, w := 0, a := x68.1, b := 0, c := 0, imm := 0, args := ([] : List Int) } : GInst))) rfl rfl rfl g_n)) rfl rfl ent129 (spec_l2G_put_sim x68.2.1 x68.2.2 grets gpars (({ op_ := 25, w := 0, a := x68.1, b := 0, c := 0, imm := 0, args := ([] : List Int) } : GInst)) h71) (.inl rfl) rfl rfl (by simp only [hl2G, oaG, List.drop_succ_cons, List.drop_zero, List.drop_nil, List.take_succ_cons, List.take_zero, List.take_nil, List.length_cons, List.length_nil, List.map_cons, List.map_nil, List.zipIdx_nil, List.zip_cons_cons, List.zip_nil_right, updO, pushO, ren_map] <;> rfl) rfl ?_)
                      refine z_ ?_
                      refine o_end ?_
                      refine c_reg (Y := sysA _) ?_
                      refine n_ (x_mv rfl rfl ?_)
                      obtain ⟨h72, hm⟩ := of_ite hm
                      refine n_ (x_addc T3 rfl rfl h72 ?_)
                      refine n_ (x_as rfl rfl ?_)
                      refine z_ ?_
                      cases hm
                      exact ⟨rfl, w_ [0, 1, 2, 3] (.cons rfl rfl (.cons rfl rfl (.cons rfl rfl .nil))) (.lit rfl rfl (.lit rfl rfl (.map rfl (.map rfl .nil)))) (by decide) (hB_n 4 hB0 rfl)⟩
                    · rw [if_neg (by rw [hb67]; decide)] at hm
                      refine Wp.seq ?_
                      refine c_reg (Y := sysA _) ?_
                      refine n_ (x_bin T3 rfl rfl rfl ?_)
                      refine n_ (x_as rfl rfl ?_)
                      refine z_ ?_
                      refine c_s rfl rfl (fun hb73 => ?_) (fun hb73 => ?_)
                      · rw [if_pos (show _ = true from hb73)] at hm
                        refine Wp.seq ?_
                        refine c_reg (Y := sysA _) ?_
                        refine n_ (x_mv rfl rfl ?_)
                        refine n_ (x_mv rfl rfl ?_)
                        obtain ⟨x74, h75, hm⟩ := of_bind hm
                        refine n_ (x_cg (v := .u (.one (.int .i64 x74.1))) (nobs := []) (oa' := _) (nx' := 4) (cs := []) (obs := [⟨(), 15, [hl2G (.ptr () 1 0 0) (.ref () 2 0 (List.length grets)) (.ref () 3 0 (List.length gpars)) st1.1]⟩, ⟨(), 2, [el1Rd false x8.2]⟩, ⟨(), 1, List.map iL grets⟩, ⟨(), 1, List.map (lL false 1 iL) gpars⟩]) [0, 1, 2, 3] false rfl (by decide) (h_c rfl (h_c rfl (h_c (hrow rfl) (h_c (hrow rfl) h_n)))) (by simp only [hl2G, List.all_cons, List.all_nil, knows_map, Bool.and_true, Bool.true_and] <;> rfl) (g_1 (l := .ptr () 0 0 0) rfl rfl rfl (g_1 (l := .int .i64 x6.1) rfl rfl rfl g_n)) rfl rfl ent131 (spec_l2G_pick_sim st1.1 x8.2 grets gpars x6.1 h75) (.inl rfl) rfl rfl (by simp only [hl2G, oaG, List.drop_succ_cons, List.drop_zero, List.drop_nil, List.take_succ_cons, List.take_zero, List.take_nil, List.length_cons, List.length_nil, List.map_cons, List.map_nil, List.zipIdx_nil, List.zip_cons_cons, List.zip_nil_right, updO, pushO, ren_map] <;> rfl) rfl ?_)
                        refine n_ (x_as rfl rfl ?_)
                        refine z_ ?_
                        refine c_regS ?_
                        refine o_run (Y := sysA _) 4 ?_
                        refine n_ (x_mv rfl rfl ?_)
                        refine n_ (x_mv rfl rfl ?_)
                        refine n_ (x_mv rfl rfl ?_)
                        refine n_ (x_bu (cells := [.int .i64 27, .int .i64 x6.1, .int .i64 x74.1, .int .i64 0, .int .i64 0, .int .i64 0, .nl]) T53 rfl rfl rfl ?_)
                        refine z_ ?_
                        refine WpO.ghb (f_nb (u' := .agg [.int .i64 27, .int .i64 x6.1, .int .i64 x74.1, .int .i64 0, .int .i64 0, .int .i64 0, .bs () 1 (List.map iL (([] : List Int)))]) 175 6 1 rfl rfl rfl rfl) ?_
                        refine o_run (Y := sysA _) 1 ?_
                        obtain ⟨x76, h77, hm⟩ := of_bind hm
                        refine n_ (x_cg (v := .u (.one (.int .i64 x76.1))) (nobs := []) (oa' := _) (nx' := 4) (cs := []) (obs := [⟨(), 15, [hl2G (.ptr () 1 0 0) (.ref () 2 0 (List.length grets)) (.ref () 3 0 (List.length gpars)) x74.2.1]⟩, ⟨(), 2, [el1Rd false x74.2.2]⟩, ⟨(), 1, List.map iL grets⟩, ⟨(), 1, List.map (lL false 1 iL) gpars⟩]) [0, 1, 2, 3] false rfl (by decide) (h_c rfl (h_c rfl (h_c (hrow rfl) (h_c (hrow rfl) h_n)))) (by simp only [hl2G, List.all_cons, List.all_nil, knows_map, Bool.and_true, Bool.true_and] <;> rfl) (g_1 (l := .ptr () 0 0 0) rfl rfl rfl (g_a (ls := eInst false (({ op_ := 27, w := x6.1, a := x74.1, b := 0, c := 0, imm := 0, args := ([] : List Int) } : GInst))) rfl rfl rfl g_n)) rfl rfl ent129 (spec_l2G_put_sim x74.2.1 x74.2.2 grets gpars (({ op_ := 27, w := x6.1, a := x74.1, b := 0, c := 0, imm := 0, args := ([] : List Int) } : GInst)) h77) (.inl rfl) rfl rfl (by simp only [hl2G, oaG, List.drop_succ_cons, List.drop_zero, List.drop_nil, List.take_succ_cons, List.take_zero, List.take_nil, List.length_cons, List.length_nil, List.map_cons, List.map_nil, List.zipIdx_nil, List.zip_cons_cons, List.zip_nil_right, updO, pushO, ren_map] <;> rfl) rfl ?_)
                        refine z_ ?_
                        refine o_end ?_
                        refine c_reg (Y := sysA _) ?_
                        refine n_ (x_mv rfl rfl ?_)
                        obtain ⟨h78, hm⟩ := of_ite hm
                        refine n_ (x_addc T3 rfl rfl h78 ?_)
                        refine n_ (x_as rfl rfl ?_)
                        refine z_ ?_
                        cases hm
                        exact ⟨rfl, w_ [0, 1, 2, 3] (.cons rfl rfl (.cons rfl rfl (.cons rfl rfl .nil))) (.lit rfl rfl (.lit rfl rfl (.map rfl (.map rfl .nil)))) (by decide) (hB_n 4 hB0 rfl)⟩
                      · rw [if_neg (by rw [hb73]; decide)] at hm
                        refine Wp.seq ?_
                        refine c_reg (Y := sysA _) ?_
                        refine n_ (x_bin T3 rfl rfl rfl ?_)
                        refine n_ (x_as rfl rfl ?_)
                        refine z_ ?_
                        refine c_s rfl rfl (fun hb79 => ?_) (fun hb79 => ?_)
                        · rw [if_pos (show _ = true from hb79)] at hm
                          refine c_reg (Y := sysA _) ?_
                          refine n_ (x_mv rfl rfl ?_)
                          obtain ⟨x80, h81, hm⟩ := of_bind hm
                          refine n_ (x_cg (v := .tup []) (nobs := []) (oa' := _) (nx' := 4) (cs := []) (obs := [⟨(), 15, [hl2G (.ptr () 1 0 0) (.ref () 2 0 (List.length grets)) (.ref () 3 0 (List.length gpars)) st1.1]⟩, ⟨(), 2, [el1Rd false x8.2]⟩, ⟨(), 1, List.map iL grets⟩, ⟨(), 1, List.map (lL false 1 iL) gpars⟩]) [0, 1, 2, 3] false rfl (by decide) (h_c rfl (h_c rfl (h_c (hrow rfl) (h_c (hrow rfl) h_n)))) (by simp only [hl2G, List.all_cons, List.all_nil, knows_map, Bool.and_true, Bool.true_and] <;> rfl) (g_1 (l := .ptr () 0 0 0) rfl rfl rfl g_n) rfl rfl ent132 (spec_l2G_call_sim st1.1 x8.2 grets gpars h81) (.inl rfl) rfl rfl (by simp only [hl2G, oaG, List.drop_succ_cons, List.drop_zero, List.drop_nil, List.take_succ_cons, List.take_zero, List.take_nil, List.length_cons, List.length_nil, List.map_cons, List.map_nil, List.zipIdx_nil, List.zip_cons_cons, List.zip_nil_right, updO, pushO, ren_map] <;> rfl) rfl ?_)
                          refine z_ ?_
                          refine c_reg (Y := sysA _) ?_
                          refine n_ (x_mv rfl rfl ?_)
                          obtain ⟨h82, hm⟩ := of_ite hm
                          refine n_ (x_addc T3 rfl rfl h82 ?_)
                          refine n_ (x_as rfl rfl ?_)
                          refine z_ ?_
                          cases hm
                          exact ⟨rfl, w_ [0, 1, 2, 3] (.cons rfl rfl (.cons rfl rfl (.cons rfl rfl .nil))) (.lit rfl rfl (.lit rfl rfl (.map rfl (.map rfl .nil)))) (by decide) (hB_n 4 hB0 rfl)⟩
                        · rw [if_neg (by rw [hb79]; decide)] at hm
                          refine Wp.seq ?_
                          refine c_reg (Y := sysA _) ?_
                          refine n_ (x_mv rfl rfl ?_)
                          refine n_ (x_mv rfl rfl ?_)
                          obtain ⟨x83, h84, hm⟩ := of_bind hm
                          refine n_ (x_cg (v := .u (.one (.int .i64 x83.1))) (nobs := []) (oa' := _) (nx' := 4) (cs := []) (obs := [⟨(), 15, [hl2G (.ptr () 1 0 0) (.ref () 2 0 (List.length grets)) (.ref () 3 0 (List.length gpars)) st1.1]⟩, ⟨(), 2, [el1Rd false x8.2]⟩, ⟨(), 1, List.map iL grets⟩, ⟨(), 1, List.map (lL false 1 iL) gpars⟩]) [0, 1, 2, 3] false rfl (by decide) (h_c rfl (h_c rfl (h_c (hrow rfl) (h_c (hrow rfl) h_n)))) (by simp only [hl2G, List.all_cons, List.all_nil, knows_map, Bool.and_true, Bool.true_and] <;> rfl) (g_1 (l := .ptr () 0 0 0) rfl rfl rfl (g_1 (l := .int .i64 x6.1) rfl rfl rfl g_n)) rfl rfl ent131 (spec_l2G_pick_sim st1.1 x8.2 grets gpars x6.1 h84) (.inl rfl) rfl rfl (by simp only [hl2G, oaG, List.drop_succ_cons, List.drop_zero, List.drop_nil, List.take_succ_cons, List.take_zero, List.take_nil, List.length_cons, List.length_nil, List.map_cons, List.map_nil, List.zipIdx_nil, List.zip_cons_cons, List.zip_nil_right, updO, pushO, ren_map] <;> rfl) rfl ?_)
                          refine n_ (x_as rfl rfl ?_)
                          refine z_ ?_
                          refine Wp.seq ?_
                          refine c_reg (Y := sysA _) ?_
                          refine n_ (x_mv rfl rfl ?_)
                          refine n_ (x_mv rfl rfl ?_)
                          obtain ⟨x85, h86, hm⟩ := of_bind hm
                          refine n_ (x_cg (v := .u (.one (.int .i64 x85.1))) (nobs := []) (oa' := _) (nx' := 4) (cs := []) (obs := [⟨(), 15, [hl2G (.ptr () 1 0 0) (.ref () 2 0 (List.length grets)) (.ref () 3 0 (List.length gpars)) x83.2.1]⟩, ⟨(), 2, [el1Rd false x83.2.2]⟩, ⟨(), 1, List.map iL grets⟩, ⟨(), 1, List.map (lL false 1 iL) gpars⟩]) [0, 1, 2, 3] false rfl (by decide) (h_c rfl (h_c rfl (h_c (hrow rfl) (h_c (hrow rfl) h_n)))) (by simp only [hl2G, List.all_cons, List.all_nil, knows_map, Bool.and_true, Bool.true_and] <;> rfl) (g_1 (l := .ptr () 0 0 0) rfl rfl rfl (g_1 (l := .int .i64 x6.1) rfl rfl rfl g_n)) rfl rfl ent131 (spec_l2G_pick_sim x83.2.1 x83.2.2 grets gpars x6.1 h86) (.inl rfl) rfl rfl (by simp only [hl2G, oaG, List.drop_succ_cons, List.drop_zero, List.drop_nil, List.take_succ_cons, List.take_zero, List.take_nil, List.length_cons, List.length_nil, List.map_cons, List.map_nil, List.zipIdx_nil, List.zip_cons_cons, List.zip_nil_right, updO, pushO, ren_map] <;> rfl) rfl ?_)
                          refine n_ (x_as rfl rfl ?_)
                          refine z_ ?_
                          refine c_regS ?_
                          refine o_run (Y := sysA _) 11 ?_
                          refine n_ (x_mv rfl rfl ?_)
                          refine n_ (x_mv rfl rfl ?_)
                          refine n_ (x_ncp rfl rfl rfl ?_)
                          refine n_ (x_fap rfl F135_0 rfl rfl ?_)
                          refine n_ (x_ldp rfl T64 rfl rfl rfl rfl rfl ?_)
                          obtain ⟨x87, h88, hm⟩ := of_bind hm
                          refine n_ (x_cg (v := .u (.one (.int .i64 x87.1))) (nobs := []) (oa' := _) (nx' := 4) (cs := []) (obs := [⟨(), 2, [el1Rd false x85.2.2]⟩]) [1] false rfl (by decide) (h_c rfl h_n) rfl (g_1 (l := .ptr () 0 0 0) rfl rfl rfl (g_1 (l := .int .i64 17) rfl rfl rfl g_n)) rfl rfl ent76 (spec_l1Rd_below_sim x85.2.2 17 h88) (.inl rfl) rfl rfl rfl rfl ?_)
                          obtain ⟨h89, hm⟩ := of_ite hm
                          refine n_ (x_addc T3 rfl rfl h89 ?_)
                          refine n_ (x_mv rfl rfl ?_)
                          refine n_ (x_mv rfl rfl ?_)
                          refine n_ (x_mv rfl rfl ?_)
                          refine n_ (x_bu (cells := [.int .i64 (1 + x87.1), .int .i64 x6.1, .int .i64 x83.1, .int .i64 x85.1, .int .i64 0, .int .i64 0, .nl]) T53 rfl rfl rfl ?_)
                          refine z_ ?_
                          refine WpO.ghb (f_nb (u' := .agg [.int .i64 (1 + x87.1), .int .i64 x6.1, .int .i64 x83.1, .int .i64 x85.1, .int .i64 0, .int .i64 0, .bs () 1 (List.map iL (([] : List Int)))]) 56 6 1 rfl rfl rfl rfl) ?_
                          refine o_run (Y := sysA _) 1 ?_
                          obtain ⟨x90, h91, hm⟩ := of_bind hm
                          refine n_ (x_cg (v := .u (.one (.int .i64 x90.1))) (nobs := []) (oa' := _) (nx' := 4) (cs := []) (obs := [⟨(), 15, [hl2G (.ptr () 1 0 0) (.ref () 2 0 (List.length grets)) (.ref () 3 0 (List.length gpars)) x85.2.1]⟩, ⟨(), 2, [el1Rd false x87.2]⟩, ⟨(), 1, List.map iL grets⟩, ⟨(), 1, List.map (lL false 1 iL) gpars⟩]) [0, 1, 2, 3] false rfl (by decide) (h_c rfl (h_c rfl (h_c (hrow rfl) (h_c (hrow rfl) h_n)))) (by simp only [hl2G, List.all_cons, List.all_nil, knows_map, Bool.and_true, Bool.true_and] <;> rfl) (g_1 (l := .ptr () 0 0 0) rfl rfl rfl (g_a (ls := eInst false (({ op_ := 1 + x87.1, w := x6.1, a := x83.1, b := x85.1, c := 0, imm := 0, args := ([] : List Int) } : GInst))) rfl rfl rfl g_n)) rfl rfl ent129 (spec_l2G_put_sim x85.2.1 x87.2 grets gpars (({ op_ := 1 + x87.1, w := x6.1, a := x83.1, b := x85.1, c := 0, imm := 0, args := ([] : List Int) } : GInst)) h91) (.inl rfl) rfl rfl (by simp only [hl2G, oaG, List.drop_succ_cons, List.drop_zero, List.drop_nil, List.take_succ_cons, List.take_zero, List.take_nil, List.length_cons, List.length_nil, List.map_cons, List.map_nil, List.zipIdx_nil, List.zip_cons_cons, List.zip_nil_right, updO, pushO, ren_map] <;> rfl) rfl ?_)
                          refine z_ ?_
                          refine o_end ?_
                          refine c_reg (Y := sysA _) ?_
                          refine n_ (x_mv rfl rfl ?_)
                          obtain ⟨h92, hm⟩ := of_ite hm
                          refine n_ (x_addc T3 rfl rfl h92 ?_)
                          refine n_ (x_as rfl rfl ?_)
                          refine z_ ?_
                          cases hm
                          exact ⟨rfl, w_ [0, 1, 2, 3] (.cons rfl rfl (.cons rfl rfl (.cons rfl rfl .nil))) (.lit rfl rfl (.lit rfl rfl (.map rfl (.map rfl .nil)))) (by decide) (hB_n 4 hB0 rfl)⟩
      · rw [if_neg (by rw [hb5]; decide)] at hm
        refine c_exit ?_
        cases hm
        exact ⟨rfl, w_ [0, 1, 2, 3] .nil (.lit rfl rfl (.lit rfl rfl (.map rfl (.map rfl .nil)))) (by decide) (hB_n 4 hB0 rfl)⟩
  · rw [← Option.some.inj hm]
    exact retG (us' := []) (obs' := [⟨(), 15, [hl2G (.ptr () 1 0 0) (.ref () 2 0 (List.length grets)) (.ref () 3 0 (List.length gpars)) j2.1]⟩, ⟨(), 2, [el1Rd false j2.2]⟩, ⟨(), 1, List.map iL grets⟩, ⟨(), 1, List.map (lL false 1 iL) gpars⟩]) rfl r_nil (f_end [0, 1, 2, 3] rfl (h_c rfl (h_c rfl (h_c (hrow rfl) (h_c (hrow rfl) h_n)))) (by decide) rfl (by simp only [hl2G, List.all_cons, List.all_nil, knows_map, Bool.and_true, Bool.true_and] <;> rfl) hB0 rfl rfl) rfl rfl rfl rfl (by simp only [hl2G, List.all_cons, List.all_nil, knows_map, Bool.and_true, Bool.true_and] <;> rfl)

/-- (*spec.l2G).close -/
noncomputable def spec_l2G_close_m (g : Gl2G) (gr : Gl1Rd) (grets : List Int) (gpars : List (List Int)) (t : GTerm) : Option (Gl2G × Gl1Rd) :=
  (if (List.length g.f.blocks + 1) * 80 ≤ 140737488355328 ∧ List.length g.f.blocks + 1 ≤ LIM then
    (some ((({ f := ({ params := g.f.params, ret := g.f.ret, blocks := g.f.blocks ++ [({ phis := g.b.phis, insts := g.b.insts, term := t } : GBlock)] } : GFunc), b := ({ phis := ([] : List GPhi), insts := ([] : List GInst), term := ({ kind := 0, a := 0, x := 0, y := 0 } : GTerm) } : GBlock), next := g.next, ids := g.ids, ws := g.ws } : Gl2G), gr)))
    else none)
set_option maxHeartbeats 8000000 in
set_option maxRecDepth 100000 in
theorem spec_l2G_close_sim (g : Gl2G) (gr : Gl1Rd) (grets : List Int) (gpars : List (List Int)) (t : GTerm) {r : Gl2G × Gl1Rd} (hm : spec_l2G_close_m g gr grets gpars t = some r) : Sim Try.prog 133 [.one (.ptr () 0 0 0), .agg (eTerm t)] [⟨(), 15, [hl2G (.ptr () 1 0 0) (.ref () 2 0 (List.length grets)) (.ref () 3 0 (List.length gpars)) g]⟩, ⟨(), 2, [el1Rd false gr]⟩, ⟨(), 1, List.map iL grets⟩, ⟨(), 1, List.map (lL false 1 iL) gpars⟩] (.tup []) [⟨(), 15, [hl2G (.ptr () 1 0 0) (.ref () 2 0 (List.length grets)) (.ref () 3 0 (List.length gpars)) r.1]⟩, ⟨(), 2, [el1Rd false r.2]⟩, ⟨(), 1, List.map iL grets⟩, ⟨(), 1, List.map (lL false 1 iL) gpars⟩] := by
  refine sim_st (N := 28) (k0 := 4) Try.func133 rfl rfl rfl rfl (rs := []) rfl rfl (by simp only [hl2G, List.all_cons, List.all_nil, knows_map, Bool.and_true, Bool.true_and] <;> rfl) fun B hB0 => ?_
  unfold spec_l2G_close_m at hm
  refine Wp.seq ?_
  refine c_reg (Y := sysA _) ?_
  refine n_ (x_bx rfl rfl rfl rfl ?_)
  refine z_ ?_
  refine Wp.seq ?_
  refine c_reg (Y := sysA _) ?_
  refine n_ (x_mv rfl rfl ?_)
  refine n_ (x_ldp rfl T59 rfl rfl rfl (pk_all rfl rfl) rfl ?_)
  refine n_ (x_ncp rfl rfl rfl ?_)
  refine n_ (x_fap rfl F135_2 rfl rfl ?_)
  refine n_ (x_fap rfl F61_2 rfl rfl ?_)
  refine n_ (x_st T59 (rows := [[.ptr () 1 0 0, .os () 1 (List.map iL g.f.params), .int .i64 g.f.ret, .os () 6 (List.map (eBlock true) g.f.blocks), .os () 2 (List.map (ePhi true) g.b.phis), .os () 7 (List.map (eInst false) g.b.insts), .int .i64 t.kind, .int .i64 t.a, .int .i64 t.x, .int .i64 t.y, .int .i64 g.next, .bs () 1 (List.map iL g.ids), .bs () 1 (List.map iL g.ws), .ref () 2 0 (List.length grets), .ref () 3 0 (List.length gpars)]]) rfl rfl rfl rfl rfl rfl rfl rfl ?_)
  refine z_ ?_
  refine Wp.seq ?_
  refine Wp.ghb _ (f_op (rows' := [[.ptr () 1 0 0, .os () 1 (List.map iL g.f.params), .int .i64 g.f.ret, .ref () 5 0 (List.length g.f.blocks), .os () 2 (List.map (ePhi true) g.b.phis), .os () 7 (List.map (eInst false) g.b.insts), .int .i64 t.kind, .int .i64 t.a, .int .i64 t.x, .int .i64 t.y, .int .i64 g.next, .bs () 1 (List.map iL g.ids), .bs () 1 (List.map iL g.ws), .ref () 2 0 (List.length grets), .ref () 3 0 (List.length gpars)]]) 0 0 3 rfl rfl rfl (by simp) rfl) ?_
  refine Wp.ghb _ (f_op (rows' := [[.ptr () 1 0 0, .os () 1 (List.map iL g.f.params), .int .i64 g.f.ret, .ref () 5 0 (List.length g.f.blocks), .ref () 6 0 (List.length g.b.phis), .os () 7 (List.map (eInst false) g.b.insts), .int .i64 t.kind, .int .i64 t.a, .int .i64 t.x, .int .i64 t.y, .int .i64 g.next, .bs () 1 (List.map iL g.ids), .bs () 1 (List.map iL g.ws), .ref () 2 0 (List.length grets), .ref () 3 0 (List.length gpars)]]) 0 0 4 rfl rfl rfl (by simp) rfl) ?_
  refine Wp.ghb _ (f_op (rows' := [[.ptr () 1 0 0, .os () 1 (List.map iL g.f.params), .int .i64 g.f.ret, .ref () 5 0 (List.length g.f.blocks), .ref () 6 0 (List.length g.b.phis), .ref () 7 0 (List.length g.b.insts), .int .i64 t.kind, .int .i64 t.a, .int .i64 t.x, .int .i64 t.y, .int .i64 g.next, .bs () 1 (List.map iL g.ids), .bs () 1 (List.map iL g.ws), .ref () 2 0 (List.length grets), .ref () 3 0 (List.length gpars)]]) 0 0 5 rfl rfl rfl (by simp) rfl) ?_
  refine c_drw (Y := sysC _) mixed ?_
  refine t_ 0 0 rfl (by decide +kernel) (x_mv rfl rfl ?_)
  refine t_ 1 0 rfl (by decide +kernel) (x_mv rfl rfl ?_)
  refine t_D 2 1 [3, 4, 5, 11, 12, 13, 14, 15] rfl (by decide +kernel) (x_ncp rfl rfl rfl ?_)
  refine t_D 3 1 [4, 5, 11, 12, 13, 14, 15] rfl (by decide +kernel) (x_fap rfl F135_1 rfl rfl ?_)
  refine t_D 4 1 [5, 11, 12, 13, 14, 15] rfl (by decide +kernel) (x_fap rfl F27_2 rfl rfl ?_)
  refine t_ 5 1 rfl (by decide +kernel) (x_ldp rfl T25 rfl rfl rfl rfl rfl ?_)
  refine t_ 6 0 rfl (by decide +kernel) (x_mv rfl rfl ?_)
  refine t_D 7 1 [8, 9, 10, 11, 12, 13, 14, 15] rfl (by decide +kernel) (x_ncp rfl rfl rfl ?_)
  refine t_D 8 1 [9, 10, 11, 12, 13, 14, 15] rfl (by decide +kernel) (x_fap rfl F135_2 rfl rfl ?_)
  refine t_D 9 1 [10, 11, 12, 13, 14, 15] rfl (by decide +kernel) (x_ldp rfl T61 rfl rfl rfl (u := .agg [.ref () 6 0 (List.length g.b.phis), .ref () 7 0 (List.length g.b.insts), .int .i64 t.kind, .int .i64 t.a, .int .i64 t.x, .int .i64 t.y]) rfl rfl ?_)
  refine o_ 10 rfl (by decide +kernel) (x_bs (rows := [[.ref () 6 0 (List.length g.b.phis), .ref () 7 0 (List.length g.b.insts), .int .i64 t.kind, .int .i64 t.a, .int .i64 t.x, .int .i64 t.y]]) A25 rfl rfl rfl ?_)
  obtain ⟨h1, hm⟩ := of_ite hm
  refine o_ 11 rfl (by decide +kernel) (x_apg (rows := List.map (eBlock true) g.f.blocks ++ [[.ref () 6 0 (List.length g.b.phis), .ref () 7 0 (List.length g.b.insts), .int .i64 t.kind, .int .i64 t.a, .int .i64 t.x, .int .i64 t.y]]) (len' := List.length g.f.blocks + 1) A25 N25 rfl rfl (by simp) rfl (argR_g rfl rfl) rfl (by simpa using h1) rfl (by simp) ?_)
  refine t_D 12 1 [13, 14, 15] rfl (by decide +kernel) (x_ncp rfl rfl rfl ?_)
  refine t_D 13 1 [14, 15] rfl (by decide +kernel) (x_fap rfl F135_1 rfl rfl ?_)
  refine t_ 14 1 rfl (by decide +kernel) (x_fap rfl F27_2 rfl rfl ?_)
  refine o_ 15 rfl (by decide +kernel) (x_st T25 (rows := [[.ptr () 1 0 0, .os () 1 (List.map iL g.f.params), .int .i64 g.f.ret, .ref () 9 0 (List.length g.f.blocks + 1), .ref () 6 0 (List.length g.b.phis), .ref () 7 0 (List.length g.b.insts), .int .i64 t.kind, .int .i64 t.a, .int .i64 t.x, .int .i64 t.y, .int .i64 g.next, .bs () 1 (List.map iL g.ids), .bs () 1 (List.map iL g.ws), .ref () 2 0 (List.length grets), .ref () 3 0 (List.length gpars)]]) rfl rfl rfl rfl rfl rfl rfl rfl ?_)
  refine a_nil (by decide +kernel) ?_
  refine Wp.ghb _ (f_cl (rows2 := List.map (ePhi true) g.b.phis) (rows' := List.map (eBlock true) g.f.blocks ++ [[.os () 2 (List.map (ePhi true) g.b.phis), .ref () 7 0 (List.length g.b.insts), .int .i64 t.kind, .int .i64 t.a, .int .i64 t.x, .int .i64 t.y]]) 9 6 (List.length g.f.blocks) 0 rfl rfl rfl (nest_map (enc := ePhi true) (g.b.phis)) cat_get rfl (by simp) cat_set) ?_
  refine Wp.ghb _ (f_cl (rows2 := List.map (eInst false) g.b.insts) (rows' := List.map (eBlock true) (g.f.blocks ++ [({ phis := g.b.phis, insts := g.b.insts, term := t } : GBlock)])) 9 7 (List.length g.f.blocks) 1 rfl rfl rfl (nest_map (enc := eInst false) (g.b.insts)) cat_get rfl (by simp) (cat_map rfl)) ?_
  refine Wp.ghb _ (f_cl (rows2 := List.map (eBlock true) (g.f.blocks ++ [({ phis := g.b.phis, insts := g.b.insts, term := t } : GBlock)])) (rows' := [[.ptr () 1 0 0, .os () 1 (List.map iL g.f.params), .int .i64 g.f.ret, .os () 6 (List.map (eBlock true) (g.f.blocks ++ [({ phis := g.b.phis, insts := g.b.insts, term := t } : GBlock)])), .ref () 6 0 (List.length g.b.phis), .ref () 7 0 (List.length g.b.insts), .int .i64 t.kind, .int .i64 t.a, .int .i64 t.x, .int .i64 t.y, .int .i64 g.next, .bs () 1 (List.map iL g.ids), .bs () 1 (List.map iL g.ws), .ref () 2 0 (List.length grets), .ref () 3 0 (List.length gpars)]]) 0 9 0 3 rfl rfl rfl (nest_map (enc := eBlock true) (g.f.blocks ++ [({ phis := g.b.phis, insts := g.b.insts, term := t } : GBlock)])) rfl rfl (by simp) rfl) ?_
  refine c_reg (Y := sysA _) ?_
  refine n_ (x_mv rfl rfl ?_)
  refine n_ (x_bu (cells := [.nl, .nl, .int .i64 0, .int .i64 0, .int .i64 0, .int .i64 0]) T61 rfl rfl rfl ?_)
  refine n_ (x_ncp rfl rfl rfl ?_)
  refine n_ (x_fap rfl F135_2 rfl rfl ?_)
  refine n_ (x_st T61 (rows := [[.ptr () 1 0 0, .os () 1 (List.map iL g.f.params), .int .i64 g.f.ret, .os () 6 (List.map (eBlock true) (g.f.blocks ++ [({ phis := g.b.phis, insts := g.b.insts, term := t } : GBlock)])), .nl, .nl, .int .i64 0, .int .i64 0, .int .i64 0, .int .i64 0, .int .i64 g.next, .bs () 1 (List.map iL g.ids), .bs () 1 (List.map iL g.ws), .ref () 2 0 (List.length grets), .ref () 3 0 (List.length gpars)]]) rfl rfl rfl rfl rfl rfl rfl rfl ?_)
  refine z_ ?_
  rw [← Option.some.inj hm]
  exact retG (us' := []) (obs' := [⟨(), 15, [hl2G (.ptr () 1 0 0) (.ref () 2 0 (List.length grets)) (.ref () 3 0 (List.length gpars)) (({ f := ({ params := g.f.params, ret := g.f.ret, blocks := g.f.blocks ++ [({ phis := g.b.phis, insts := g.b.insts, term := t } : GBlock)] } : GFunc), b := ({ phis := ([] : List GPhi), insts := ([] : List GInst), term := ({ kind := 0, a := 0, x := 0, y := 0 } : GTerm) } : GBlock), next := g.next, ids := g.ids, ws := g.ws } : Gl2G))]⟩, ⟨(), 2, [el1Rd false gr]⟩, ⟨(), 1, List.map iL grets⟩, ⟨(), 1, List.map (lL false 1 iL) gpars⟩]) rfl r_nil ((f_nlcR (rows' := [[.ptr () 1 0 0, .os () 1 (List.map iL g.f.params), .int .i64 g.f.ret, .os () 6 (List.map (eBlock true) (g.f.blocks ++ [({ phis := g.b.phis, insts := g.b.insts, term := t } : GBlock)])), .ref () 10 0 0, .nl, .int .i64 0, .int .i64 0, .int .i64 0, .int .i64 0, .int .i64 g.next, .bs () 1 (List.map iL g.ids), .bs () 1 (List.map iL g.ws), .ref () 2 0 (List.length grets), .ref () 3 0 (List.length gpars)]]) 0 0 4 2 rfl rfl rfl rfl).trans ((f_clR (rows2 := List.map (ePhi true) (([] : List GPhi))) (rows' := [[.ptr () 1 0 0, .os () 1 (List.map iL g.f.params), .int .i64 g.f.ret, .os () 6 (List.map (eBlock true) (g.f.blocks ++ [({ phis := g.b.phis, insts := g.b.insts, term := t } : GBlock)])), .os () 2 (List.map (ePhi true) (([] : List GPhi))), .nl, .int .i64 0, .int .i64 0, .int .i64 0, .int .i64 0, .int .i64 g.next, .bs () 1 (List.map iL g.ids), .bs () 1 (List.map iL g.ws), .ref () 2 0 (List.length grets), .ref () 3 0 (List.length gpars)]]) 0 10 0 4 rfl rfl rfl (nest_map (enc := ePhi true) (([] : List GPhi))) rfl rfl (by simp) rfl).trans ((f_nlcR (rows' := [[.ptr () 1 0 0, .os () 1 (List.map iL g.f.params), .int .i64 g.f.ret, .os () 6 (List.map (eBlock true) (g.f.blocks ++ [({ phis := g.b.phis, insts := g.b.insts, term := t } : GBlock)])), .os () 2 (List.map (ePhi true) (([] : List GPhi))), .ref () 11 0 0, .int .i64 0, .int .i64 0, .int .i64 0, .int .i64 0, .int .i64 g.next, .bs () 1 (List.map iL g.ids), .bs () 1 (List.map iL g.ws), .ref () 2 0 (List.length grets), .ref () 3 0 (List.length gpars)]]) 0 0 5 7 rfl rfl rfl rfl).trans ((f_clR (rows2 := List.map (eInst false) (([] : List GInst))) (rows' := [[.ptr () 1 0 0, .os () 1 (List.map iL g.f.params), .int .i64 g.f.ret, .os () 6 (List.map (eBlock true) (g.f.blocks ++ [({ phis := g.b.phis, insts := g.b.insts, term := t } : GBlock)])), .os () 2 (List.map (ePhi true) (([] : List GPhi))), .os () 7 (List.map (eInst false) (([] : List GInst))), .int .i64 0, .int .i64 0, .int .i64 0, .int .i64 0, .int .i64 g.next, .bs () 1 (List.map iL g.ids), .bs () 1 (List.map iL g.ws), .ref () 2 0 (List.length grets), .ref () 3 0 (List.length gpars)]]) 0 11 0 5 rfl rfl rfl (nest_map (enc := eInst false) (([] : List GInst))) rfl rfl (by simp) rfl).trans (f_end [0, 1, 2, 3] rfl (h_c rfl (h_c rfl (h_c (hrow rfl) (h_c (hrow rfl) h_n)))) (by decide) rfl (by simp only [hl2G, List.all_cons, List.all_nil, knows_map, Bool.and_true, Bool.true_and] <;> rfl) hB0 rfl rfl))))) rfl rfl rfl rfl (by simp only [hl2G, List.all_cons, List.all_nil, knows_map, Bool.and_true, Bool.true_and] <;> rfl)

/-- (*spec.l2G).phi -/
noncomputable def spec_l2G_phi_m (g : Gl2G) (gr : Gl1Rd) (grets : List Int) (gpars : List (List Int)) (w : Int) (ins : List Int) : Option (Int × Gl2G × Gl1Rd) :=
  (if (List.length g.b.phis + 1) * 32 ≤ 140737488355328 ∧ List.length g.b.phis + 1 ≤ LIM then
    (Option.bind (spec_l2G_add_m (({ f := g.f, b := ({ phis := g.b.phis ++ [({ w := w, ins := ins } : GPhi)], insts := g.b.insts, term := g.b.term } : GBlock), next := g.next, ids := g.ids, ws := g.ws } : Gl2G)) gr grets gpars w) fun x2 =>
      (some ((x2.1, x2.2.1, x2.2.2))))
    else none)
set_option maxHeartbeats 8000000 in
set_option maxRecDepth 100000 in
theorem spec_l2G_phi_sim (g : Gl2G) (gr : Gl1Rd) (grets : List Int) (gpars : List (List Int)) (w : Int) (ins : List Int) {r : Int × Gl2G × Gl1Rd} (hm : spec_l2G_phi_m g gr grets gpars w ins = some r) : Sim Try.prog 134 [.one (.ptr () 0 0 0), .one (.int .i64 w), .one (.os () 1 (List.map iL ins))] [⟨(), 15, [hl2G (.ptr () 1 0 0) (.ref () 2 0 (List.length grets)) (.ref () 3 0 (List.length gpars)) g]⟩, ⟨(), 2, [el1Rd false gr]⟩, ⟨(), 1, List.map iL grets⟩, ⟨(), 1, List.map (lL false 1 iL) gpars⟩] (.u (.one (.int .i64 r.1))) [⟨(), 15, [hl2G (.ptr () 1 0 0) (.ref () 2 0 (List.length grets)) (.ref () 3 0 (List.length gpars)) r.2.1]⟩, ⟨(), 2, [el1Rd false r.2.2]⟩, ⟨(), 1, List.map iL grets⟩, ⟨(), 1, List.map (lL false 1 iL) gpars⟩] := by
  refine sim_st (N := 24) (k0 := 4) Try.func134 rfl rfl rfl rfl (rs := [.tmp 6]) rfl rfl (by simp only [hl2G, List.all_cons, List.all_nil, knows_map, Bool.and_true, Bool.true_and] <;> rfl) fun B hB0 => ?_
  unfold spec_l2G_phi_m at hm
  refine Wp.ghb _ (f_ops (len := List.length ins) (u' := .one (.ref () 4 0 (List.length ins))) 2 0 1 rfl rfl rfl (by simp) rfl) ?_
  refine Wp.seq ?_
  refine c_reg (Y := sysA _) ?_
  refine n_ (x_as rfl rfl ?_)
  refine z_ ?_
  refine Wp.seq ?_
  refine c_regS ?_
  refine o_run (Y := sysA _) 5 ?_
  refine n_ (x_mv rfl rfl ?_)
  refine n_ (x_mv rfl rfl ?_)
  refine n_ (x_ncp rfl rfl rfl ?_)
  refine n_ (x_fap rfl F135_2 rfl rfl ?_)
  refine n_ (x_fap rfl F61_0 rfl rfl ?_)
  refine z_ ?_
  refine WpO.ghb (f_op (rows' := [[.ptr () 1 0 0, .os () 1 (List.map iL g.f.params), .int .i64 g.f.ret, .os () 6 (List.map (eBlock true) g.f.blocks), .ref () 5 0 (List.length g.b.phis), .os () 7 (List.map (eInst false) g.b.insts), .int .i64 g.b.term.kind, .int .i64 g.b.term.a, .int .i64 g.b.term.x, .int .i64 g.b.term.y, .int .i64 g.next, .bs () 1 (List.map iL g.ids), .bs () 1 (List.map iL g.ws), .ref () 2 0 (List.length grets), .ref () 3 0 (List.length gpars)]]) 0 0 4 rfl rfl rfl (by simp) rfl) ?_
  refine o_run (Y := sysA _) 10 ?_
  refine n_ (x_ldp rfl T56 rfl rfl rfl rfl rfl ?_)
  refine n_ (x_mv rfl rfl ?_)
  refine n_ (x_mv rfl rfl ?_)
  refine n_ (x_bu (cells := [.int .i64 w, .ref () 4 0 (List.length ins)]) T63 rfl rfl rfl ?_)
  refine n_ (x_bs (rows := [[.int .i64 w, .ref () 4 0 (List.length ins)]]) A56 rfl rfl rfl ?_)
  obtain ⟨h1, hm⟩ := of_ite hm
  refine n_ (x_apg (rows := List.map (ePhi true) g.b.phis ++ [[.int .i64 w, .ref () 4 0 (List.length ins)]]) (len' := List.length g.b.phis + 1) A56 N56 rfl rfl (by simp) rfl (argR_g rfl rfl) rfl (by simpa using h1) rfl (by simp) ?_)
  refine n_ (x_ncp rfl rfl rfl ?_)
  refine n_ (x_fap rfl F135_2 rfl rfl ?_)
  refine n_ (x_fap rfl F61_0 rfl rfl ?_)
  refine n_ (x_st T56 (rows := [[.ptr () 1 0 0, .os () 1 (List.map iL g.f.params), .int .i64 g.f.ret, .os () 6 (List.map (eBlock true) g.f.blocks), .ref () 7 0 (List.length g.b.phis + 1), .os () 7 (List.map (eInst false) g.b.insts), .int .i64 g.b.term.kind, .int .i64 g.b.term.a, .int .i64 g.b.term.x, .int .i64 g.b.term.y, .int .i64 g.next, .bs () 1 (List.map iL g.ids), .bs () 1 (List.map iL g.ws), .ref () 2 0 (List.length grets), .ref () 3 0 (List.length gpars)]]) rfl rfl rfl rfl rfl rfl rfl rfl ?_)
  refine z_ ?_
  refine o_end ?_
  refine Wp.seq ?_
  refine Wp.ghb _ (f_cl (rows2 := List.map iL ins) (rows' := List.map (ePhi true) (g.b.phis ++ [({ w := w, ins := ins } : GPhi)])) 7 4 (List.length g.b.phis) 1 rfl rfl rfl (nest_map (enc := iL) (ins)) cat_get rfl (by simp) (cat_map rfl)) ?_
  refine Wp.ghb _ (f_cl (rows2 := List.map (ePhi true) (g.b.phis ++ [({ w := w, ins := ins } : GPhi)])) (rows' := [[.ptr () 1 0 0, .os () 1 (List.map iL g.f.params), .int .i64 g.f.ret, .os () 6 (List.map (eBlock true) g.f.blocks), .os () 2 (List.map (ePhi true) (g.b.phis ++ [({ w := w, ins := ins } : GPhi)])), .os () 7 (List.map (eInst false) g.b.insts), .int .i64 g.b.term.kind, .int .i64 g.b.term.a, .int .i64 g.b.term.x, .int .i64 g.b.term.y, .int .i64 g.next, .bs () 1 (List.map iL g.ids), .bs () 1 (List.map iL g.ws), .ref () 2 0 (List.length grets), .ref () 3 0 (List.length gpars)]]) 0 7 0 4 rfl rfl rfl (nest_map (enc := ePhi true) (g.b.phis ++ [({ w := w, ins := ins } : GPhi)])) rfl rfl (by simp) rfl) ?_
  refine c_reg (Y := sysA _) ?_
  refine n_ (x_mv rfl rfl ?_)
  refine n_ (x_mv rfl rfl ?_)
  obtain ⟨x2, h3, hm⟩ := of_bind hm
  refine n_ (x_cg (v := .u (.one (.int .i64 x2.1))) (nobs := []) (oa' := _) (nx' := 8) (cs := []) (obs := [⟨(), 15, [hl2G (.ptr () 1 0 0) (.ref () 2 0 (List.length grets)) (.ref () 3 0 (List.length gpars)) (({ f := g.f, b := ({ phis := g.b.phis ++ [({ w := w, ins := ins } : GPhi)], insts := g.b.insts, term := g.b.term } : GBlock), next := g.next, ids := g.ids, ws := g.ws } : Gl2G))]⟩, ⟨(), 2, [el1Rd false gr]⟩, ⟨(), 1, List.map iL grets⟩, ⟨(), 1, List.map (lL false 1 iL) gpars⟩]) [0, 1, 2, 3] false rfl (by decide) (h_c rfl (h_c rfl (h_c (hrow rfl) (h_c (hrow rfl) h_n)))) (by simp only [hl2G, List.all_cons, List.all_nil, knows_map, Bool.and_true, Bool.true_and] <;> rfl) (g_1 (l := .ptr () 0 0 0) rfl rfl rfl (g_1 (l := .int .i64 w) rfl rfl rfl g_n)) rfl rfl ent120 (spec_l2G_add_sim (({ f := g.f, b := ({ phis := g.b.phis ++ [({ w := w, ins := ins } : GPhi)], insts := g.b.insts, term := g.b.term } : GBlock), next := g.next, ids := g.ids, ws := g.ws } : Gl2G)) gr grets gpars w h3) (.inl rfl) rfl rfl (by simp only [hl2G, oaG, List.drop_succ_cons, List.drop_zero, List.drop_nil, List.take_succ_cons, List.take_zero, List.take_nil, List.length_cons, List.length_nil, List.map_cons, List.map_nil, List.zipIdx_nil, List.zip_cons_cons, List.zip_nil_right, updO, pushO, ren_map] <;> rfl) rfl ?_)
  refine n_ (x_as rfl rfl ?_)
  refine z_ ?_
  refine c_ret ?_
  rw [← Option.some.inj hm]
  exact retG (us' := [.one (.int .i64 x2.1)]) (obs' := [⟨(), 15, [hl2G (.ptr () 1 0 0) (.ref () 2 0 (List.length grets)) (.ref () 3 0 (List.length gpars)) x2.2.1]⟩, ⟨(), 2, [el1Rd false x2.2.2]⟩, ⟨(), 1, List.map iL grets⟩, ⟨(), 1, List.map (lL false 1 iL) gpars⟩]) rfl (r_tmp rfl rfl rfl r_nil) (f_end [0, 1, 2, 3] rfl (h_c rfl (h_c rfl (h_c (hrow rfl) (h_c (hrow rfl) h_n)))) (by decide) rfl (by simp only [hl2G, List.all_cons, List.all_nil, knows_map, Bool.and_true, Bool.true_and] <;> rfl) hB0 rfl rfl) rfl rfl rfl rfl (by simp only [hl2G, List.all_cons, List.all_nil, knows_map, Bool.and_true, Bool.true_and] <;> rfl)

/-- (*spec.l2G).fork -/
noncomputable def spec_l2G_fork_m (g : Gl2G) (gr : Gl1Rd) (grets : List Int) (gpars : List (List Int)) : Option (Gl2G × Gl1Rd) :=
  (Option.bind (spec_l2G_pick_m g gr grets gpars 1) fun x2 =>
    (Option.bind (spec_l2G_close_m x2.2.1 x2.2.2 grets gpars (({ kind := 3, a := x2.1, x := ((List.length g.f.blocks : Int)) + 1, y := ((List.length g.f.blocks : Int)) + 2 } : GTerm))) fun x4 =>
      (Option.bind (spec_l1Rd_below_m x4.2 3) fun x6 =>
        (Option.bind (spec_l2G_some_m x4.1 x6.2 grets gpars x6.1) fun x8 =>
          (Option.bind (spec_l1Rd_width_m x8.2) fun x10 =>
            (Option.bind (spec_l2G_pick_m x8.1 x10.2 grets gpars x10.1) fun x12 =>
              (Option.bind (spec_l2G_pick_m x12.2.1 x12.2.2 grets gpars 8) fun x14 =>
                (Option.bind (spec_l2G_close_m x14.2.1 x14.2.2 grets gpars (({ kind := 2, a := 0, x := ((List.length g.f.blocks : Int)) + 3, y := 0 } : GTerm))) fun x16 =>
                  (Option.bind (spec_l1Rd_below_m x16.2 3) fun x18 =>
                    (Option.bind (spec_l2G_some_m (({ f := x16.1.f, b := x16.1.b, next := x16.1.next, ids := x4.1.ids, ws := x4.1.ws } : Gl2G)) x18.2 grets gpars x18.1) fun x20 =>
                      (Option.bind (spec_l2G_pick_m x20.1 x20.2 grets gpars x10.1) fun x22 =>
                        (Option.bind (spec_l2G_pick_m x22.2.1 x22.2.2 grets gpars 8) fun x24 =>
                        (Option.bind (spec_l2G_close_m x24.2.1 x24.2.2 grets gpars (({ kind := 2, a := 0, x := ((List.length g.f.blocks : Int)) + 3, y := 0 } : GTerm))) fun x26 =>
                        (Option.bind (spec_l2G_phi_m (({ f := x26.1.f, b := x26.1.b, next := x26.1.next, ids := x4.1.ids, ws := x4.1.ws } : Gl2G)) x26.2 grets gpars x10.1 ([x12.1, x22.1])) fun x28 =>
                        (Option.bind (spec_l2G_phi_m x28.2.1 x28.2.2 grets gpars 8 ([x14.1, x24.1])) fun x30 =>
                        (some ((x30.2.1, x30.2.2))))))))))))))))))
set_option maxHeartbeats 8000000 in
set_option maxRecDepth 100000 in
theorem spec_l2G_fork_sim (g : Gl2G) (gr : Gl1Rd) (grets : List Int) (gpars : List (List Int)) {r : Gl2G × Gl1Rd} (hm : spec_l2G_fork_m g gr grets gpars = some r) : Sim Try.prog 122 [.one (.ptr () 0 0 0)] [⟨(), 15, [hl2G (.ptr () 1 0 0) (.ref () 2 0 (List.length grets)) (.ref () 3 0 (List.length gpars)) g]⟩, ⟨(), 2, [el1Rd false gr]⟩, ⟨(), 1, List.map iL grets⟩, ⟨(), 1, List.map (lL false 1 iL) gpars⟩] (.tup []) [⟨(), 15, [hl2G (.ptr () 1 0 0) (.ref () 2 0 (List.length grets)) (.ref () 3 0 (List.length gpars)) r.1]⟩, ⟨(), 2, [el1Rd false r.2]⟩, ⟨(), 1, List.map iL grets⟩, ⟨(), 1, List.map (lL false 1 iL) gpars⟩] := by
  refine sim_st (N := 101) (k0 := 4) Try.func122 rfl rfl rfl rfl (rs := []) rfl rfl (by simp only [hl2G, List.all_cons, List.all_nil, knows_map, Bool.and_true, Bool.true_and] <;> rfl) fun B hB0 => ?_
  unfold spec_l2G_fork_m at hm
  refine Wp.seq ?_
  refine c_regS ?_
  refine o_run (Y := sysA _) 4 ?_
  refine n_ (x_mv rfl rfl ?_)
  refine n_ (x_ncp rfl rfl rfl ?_)
  refine n_ (x_fap rfl F135_1 rfl rfl ?_)
  refine n_ (x_fap rfl F27_2 rfl rfl ?_)
  refine z_ ?_
  refine WpO.ghb (f_op (rows' := [[.ptr () 1 0 0, .os () 1 (List.map iL g.f.params), .int .i64 g.f.ret, .ref () 4 0 (List.length g.f.blocks), .os () 2 (List.map (ePhi true) g.b.phis), .os () 7 (List.map (eInst false) g.b.insts), .int .i64 g.b.term.kind, .int .i64 g.b.term.a, .int .i64 g.b.term.x, .int .i64 g.b.term.y, .int .i64 g.next, .bs () 1 (List.map iL g.ids), .bs () 1 (List.map iL g.ws), .ref () 2 0 (List.length grets), .ref () 3 0 (List.length gpars)]]) 0 0 3 rfl rfl rfl (by simp) rfl) ?_
  refine o_run (Y := sysA _) 3 ?_
  refine n_ (x_ldp rfl T25 rfl rfl rfl rfl rfl ?_)
  refine n_ (x_lnr rfl N25 rfl rfl fun hL1 => ?_)
  refine n_ (x_as rfl rfl ?_)
  refine z_ ?_
  refine o_end ?_
  refine Wp.seq ?_
  refine Wp.ghb _ (f_cl (rows2 := List.map (eBlock true) g.f.blocks) (rows' := [[.ptr () 1 0 0, .os () 1 (List.map iL g.f.params), .int .i64 g.f.ret, .os () 6 (List.map (eBlock true) g.f.blocks), .os () 2 (List.map (ePhi true) g.b.phis), .os () 7 (List.map (eInst false) g.b.insts), .int .i64 g.b.term.kind, .int .i64 g.b.term.a, .int .i64 g.b.term.x, .int .i64 g.b.term.y, .int .i64 g.next, .bs () 1 (List.map iL g.ids), .bs () 1 (List.map iL g.ws), .ref () 2 0 (List.length grets), .ref () 3 0 (List.length gpars)]]) 0 4 0 3 rfl rfl rfl (nest_map (enc := eBlock true) (g.f.blocks)) rfl rfl (by simp) rfl) ?_
  refine c_reg (Y := sysA _) ?_
  refine n_ (x_mv rfl rfl ?_)
  obtain ⟨x2, h3, hm⟩ := of_bind hm
  refine n_ (x_cg (v := .u (.one (.int .i64 x2.1))) (nobs := []) (oa' := _) (nx' := 5) (cs := []) (obs := [⟨(), 15, [hl2G (.ptr () 1 0 0) (.ref () 2 0 (List.length grets)) (.ref () 3 0 (List.length gpars)) g]⟩, ⟨(), 2, [el1Rd false gr]⟩, ⟨(), 1, List.map iL grets⟩, ⟨(), 1, List.map (lL false 1 iL) gpars⟩]) [0, 1, 2, 3] false rfl (by decide) (h_c rfl (h_c rfl (h_c (hrow rfl) (h_c (hrow rfl) h_n)))) (by simp only [hl2G, List.all_cons, List.all_nil, knows_map, Bool.and_true, Bool.true_and] <;> rfl) (g_1 (l := .ptr () 0 0 0) rfl rfl rfl (g_1 (l := .int .i64 1) rfl rfl rfl g_n)) rfl rfl ent131 (spec_l2G_pick_sim g gr grets gpars 1 h3) (.inl rfl) rfl rfl (by simp only [hl2G, oaG, List.drop_succ_cons, List.drop_zero, List.drop_nil, List.take_succ_cons, List.take_zero, List.take_nil, List.length_cons, List.length_nil, List.map_cons, List.map_nil, List.zipIdx_nil, List.zip_cons_cons, List.zip_nil_right, updO, pushO, ren_map] <;> rfl) rfl ?_)
  refine n_ (x_as rfl rfl ?_)
  refine z_ ?_
  refine Wp.seq ?_
  refine c_reg (Y := sysA _) ?_
  refine n_ (x_mv rfl rfl ?_)
  refine n_ (x_mv rfl rfl ?_)
  refine n_ (x_mv rfl rfl ?_)
  refine n_ (x_addc T2 rfl rfl (by unfold inI; omega) ?_)
  refine n_ (x_mv rfl rfl ?_)
  refine n_ (x_addc T2 rfl rfl (by unfold inI; omega) ?_)
  refine n_ (x_bu (cells := (eTerm (({ kind := 3, a := x2.1, x := ((List.length g.f.blocks : Int)) + 1, y := ((List.length g.f.blocks : Int)) + 2 } : GTerm)))) T59 rfl rfl rfl ?_)
  obtain ⟨x4, h5, hm⟩ := of_bind hm
  refine n_ (x_cg (v := .tup []) (nobs := []) (oa' := _) (nx' := 5) (cs := []) (obs := [⟨(), 15, [hl2G (.ptr () 1 0 0) (.ref () 2 0 (List.length grets)) (.ref () 3 0 (List.length gpars)) x2.2.1]⟩, ⟨(), 2, [el1Rd false x2.2.2]⟩, ⟨(), 1, List.map iL grets⟩, ⟨(), 1, List.map (lL false 1 iL) gpars⟩]) [0, 1, 2, 3] false rfl (by decide) (h_c rfl (h_c rfl (h_c (hrow rfl) (h_c (hrow rfl) h_n)))) (by simp only [hl2G, List.all_cons, List.all_nil, knows_map, Bool.and_true, Bool.true_and] <;> rfl) (g_1 (l := .ptr () 0 0 0) rfl rfl rfl (g_a (ls := eTerm (({ kind := 3, a := x2.1, x := ((List.length g.f.blocks : Int)) + 1, y := ((List.length g.f.blocks : Int)) + 2 } : GTerm))) rfl rfl rfl g_n)) rfl rfl ent133 (spec_l2G_close_sim x2.2.1 x2.2.2 grets gpars (({ kind := 3, a := x2.1, x := ((List.length g.f.blocks : Int)) + 1, y := ((List.length g.f.blocks : Int)) + 2 } : GTerm)) h5) (.inl rfl) rfl rfl (by simp only [hl2G, oaG, List.drop_succ_cons, List.drop_zero, List.drop_nil, List.take_succ_cons, List.take_zero, List.take_nil, List.length_cons, List.length_nil, List.map_cons, List.map_nil, List.zipIdx_nil, List.zip_cons_cons, List.zip_nil_right, updO, pushO, ren_map] <;> rfl) rfl ?_)
  refine z_ ?_
  refine Wp.seq ?_
  refine c_reg (Y := sysA _) ?_
  refine n_ (x_mv rfl rfl ?_)
  refine n_ (x_ncp rfl rfl rfl ?_)
  refine n_ (x_fap rfl F135_4 rfl rfl ?_)
  refine n_ (x_ldp rfl T24 rfl rfl rfl rfl rfl ?_)
  refine n_ (x_as rfl rfl ?_)
  refine z_ ?_
  refine Wp.seq ?_
  refine c_reg (Y := sysA _) ?_
  refine n_ (x_mv rfl rfl ?_)
  refine n_ (x_ncp rfl rfl rfl ?_)
  refine n_ (x_fap rfl F135_5 rfl rfl ?_)
  refine n_ (x_ldp rfl T24 rfl rfl rfl rfl rfl ?_)
  refine n_ (x_as rfl rfl ?_)
  refine z_ ?_
  refine Wp.seq ?_
  refine c_reg (Y := sysA _) ?_
  refine n_ (x_mv rfl rfl ?_)
  refine n_ (x_mv rfl rfl ?_)
  refine n_ (x_ncp rfl rfl rfl ?_)
  refine n_ (x_fap rfl F135_0 rfl rfl ?_)
  refine n_ (x_ldp rfl T64 rfl rfl rfl rfl rfl ?_)
  obtain ⟨x6, h7, hm⟩ := of_bind hm
  refine n_ (x_cg (v := .u (.one (.int .i64 x6.1))) (nobs := []) (oa' := _) (nx' := 5) (cs := []) (obs := [⟨(), 2, [el1Rd false x4.2]⟩]) [1] false rfl (by decide) (h_c rfl h_n) rfl (g_1 (l := .ptr () 0 0 0) rfl rfl rfl (g_1 (l := .int .i64 3) rfl rfl rfl g_n)) rfl rfl ent76 (spec_l1Rd_below_sim x4.2 3 h7) (.inl rfl) rfl rfl rfl rfl ?_)
  obtain ⟨x8, h9, hm⟩ := of_bind hm
  refine n_ (x_cg (v := .tup []) (nobs := []) (oa' := _) (nx' := 5) (cs := []) (obs := [⟨(), 15, [hl2G (.ptr () 1 0 0) (.ref () 2 0 (List.length grets)) (.ref () 3 0 (List.length gpars)) x4.1]⟩, ⟨(), 2, [el1Rd false x6.2]⟩, ⟨(), 1, List.map iL grets⟩, ⟨(), 1, List.map (lL false 1 iL) gpars⟩]) [0, 1, 2, 3] false rfl (by decide) (h_c rfl (h_c rfl (h_c (hrow rfl) (h_c (hrow rfl) h_n)))) (by simp only [hl2G, List.all_cons, List.all_nil, knows_map, Bool.and_true, Bool.true_and] <;> rfl) (g_1 (l := .ptr () 0 0 0) rfl rfl rfl (g_1 (l := .int .i64 x6.1) rfl rfl rfl g_n)) rfl rfl ent121 (spec_l2G_some_sim x4.1 x6.2 grets gpars x6.1 h9) (.inl rfl) rfl rfl (by simp only [hl2G, oaG, List.drop_succ_cons, List.drop_zero, List.drop_nil, List.take_succ_cons, List.take_zero, List.take_nil, List.length_cons, List.length_nil, List.map_cons, List.map_nil, List.zipIdx_nil, List.zip_cons_cons, List.zip_nil_right, updO, pushO, ren_map] <;> rfl) rfl ?_)
  refine z_ ?_
  refine Wp.seq ?_
  refine c_reg (Y := sysA _) ?_
  refine n_ (x_mv rfl rfl ?_)
  refine n_ (x_ncp rfl rfl rfl ?_)
  refine n_ (x_fap rfl F135_0 rfl rfl ?_)
  refine n_ (x_ldp rfl T64 rfl rfl rfl rfl rfl ?_)
  obtain ⟨x10, h11, hm⟩ := of_bind hm
  refine n_ (x_cg (v := .u (.one (.int .i64 x10.1))) (nobs := []) (oa' := _) (nx' := 5) (cs := []) (obs := [⟨(), 2, [el1Rd false x8.2]⟩]) [1] false rfl (by decide) (h_c rfl h_n) rfl (g_1 (l := .ptr () 0 0 0) rfl rfl rfl g_n) rfl rfl ent119 (spec_l1Rd_width_sim x8.2 h11) (.inl rfl) rfl rfl rfl rfl ?_)
  refine n_ (x_as rfl rfl ?_)
  refine z_ ?_
  refine Wp.seq ?_
  refine c_reg (Y := sysA _) ?_
  refine n_ (x_mv rfl rfl ?_)
  refine n_ (x_mv rfl rfl ?_)
  obtain ⟨x12, h13, hm⟩ := of_bind hm
  refine n_ (x_cg (v := .u (.one (.int .i64 x12.1))) (nobs := []) (oa' := _) (nx' := 5) (cs := []) (obs := [⟨(), 15, [hl2G (.ptr () 1 0 0) (.ref () 2 0 (List.length grets)) (.ref () 3 0 (List.length gpars)) x8.1]⟩, ⟨(), 2, [el1Rd false x10.2]⟩, ⟨(), 1, List.map iL grets⟩, ⟨(), 1, List.map (lL false 1 iL) gpars⟩]) [0, 1, 2, 3] false rfl (by decide) (h_c rfl (h_c rfl (h_c (hrow rfl) (h_c (hrow rfl) h_n)))) (by simp only [hl2G, List.all_cons, List.all_nil, knows_map, Bool.and_true, Bool.true_and] <;> rfl) (g_1 (l := .ptr () 0 0 0) rfl rfl rfl (g_1 (l := .int .i64 x10.1) rfl rfl rfl g_n)) rfl rfl ent131 (spec_l2G_pick_sim x8.1 x10.2 grets gpars x10.1 h13) (.inl rfl) rfl rfl (by simp only [hl2G, oaG, List.drop_succ_cons, List.drop_zero, List.drop_nil, List.take_succ_cons, List.take_zero, List.take_nil, List.length_cons, List.length_nil, List.map_cons, List.map_nil, List.zipIdx_nil, List.zip_cons_cons, List.zip_nil_right, updO, pushO, ren_map] <;> rfl) rfl ?_)
  refine n_ (x_as rfl rfl ?_)
  refine z_ ?_
  refine Wp.seq ?_
  refine c_reg (Y := sysA _) ?_
  refine n_ (x_mv rfl rfl ?_)
  obtain ⟨x14, h15, hm⟩ := of_bind hm
  refine n_ (x_cg (v := .u (.one (.int .i64 x14.1))) (nobs := []) (oa' := _) (nx' := 5) (cs := []) (obs := [⟨(), 15, [hl2G (.ptr () 1 0 0) (.ref () 2 0 (List.length grets)) (.ref () 3 0 (List.length gpars)) x12.2.1]⟩, ⟨(), 2, [el1Rd false x12.2.2]⟩, ⟨(), 1, List.map iL grets⟩, ⟨(), 1, List.map (lL false 1 iL) gpars⟩]) [0, 1, 2, 3] false rfl (by decide) (h_c rfl (h_c rfl (h_c (hrow rfl) (h_c (hrow rfl) h_n)))) (by simp only [hl2G, List.all_cons, List.all_nil, knows_map, Bool.and_true, Bool.true_and] <;> rfl) (g_1 (l := .ptr () 0 0 0) rfl rfl rfl (g_1 (l := .int .i64 8) rfl rfl rfl g_n)) rfl rfl ent131 (spec_l2G_pick_sim x12.2.1 x12.2.2 grets gpars 8 h15) (.inl rfl) rfl rfl (by simp only [hl2G, oaG, List.drop_succ_cons, List.drop_zero, List.drop_nil, List.take_succ_cons, List.take_zero, List.take_nil, List.length_cons, List.length_nil, List.map_cons, List.map_nil, List.zipIdx_nil, List.zip_cons_cons, List.zip_nil_right, updO, pushO, ren_map] <;> rfl) rfl ?_)
  refine n_ (x_as rfl rfl ?_)
  refine z_ ?_
  refine Wp.seq ?_
  refine c_reg (Y := sysA _) ?_
  refine n_ (x_mv rfl rfl ?_)
  refine n_ (x_mv rfl rfl ?_)
  refine n_ (x_addc T2 rfl rfl (by unfold inI; omega) ?_)
  refine n_ (x_bu (cells := (eTerm (({ kind := 2, a := 0, x := ((List.length g.f.blocks : Int)) + 3, y := 0 } : GTerm)))) T59 rfl rfl rfl ?_)
  obtain ⟨x16, h17, hm⟩ := of_bind hm
  refine n_ (x_cg (v := .tup []) (nobs := []) (oa' := _) (nx' := 5) (cs := []) (obs := [⟨(), 15, [hl2G (.ptr () 1 0 0) (.ref () 2 0 (List.length grets)) (.ref () 3 0 (List.length gpars)) x14.2.1]⟩, ⟨(), 2, [el1Rd false x14.2.2]⟩, ⟨(), 1, List.map iL grets⟩, ⟨(), 1, List.map (lL false 1 iL) gpars⟩]) [0, 1, 2, 3] false rfl (by decide) (h_c rfl (h_c rfl (h_c (hrow rfl) (h_c (hrow rfl) h_n)))) (by simp only [hl2G, List.all_cons, List.all_nil, knows_map, Bool.and_true, Bool.true_and] <;> rfl) (g_1 (l := .ptr () 0 0 0) rfl rfl rfl (g_a (ls := eTerm (({ kind := 2, a := 0, x := ((List.length g.f.blocks : Int)) + 3, y := 0 } : GTerm))) rfl rfl rfl g_n)) rfl rfl ent133 (spec_l2G_close_sim x14.2.1 x14.2.2 grets gpars (({ kind := 2, a := 0, x := ((List.length g.f.blocks : Int)) + 3, y := 0 } : GTerm)) h17) (.inl rfl) rfl rfl (by simp only [hl2G, oaG, List.drop_succ_cons, List.drop_zero, List.drop_nil, List.take_succ_cons, List.take_zero, List.take_nil, List.length_cons, List.length_nil, List.map_cons, List.map_nil, List.zipIdx_nil, List.zip_cons_cons, List.zip_nil_right, updO, pushO, ren_map] <;> rfl) rfl ?_)
  refine z_ ?_
  refine Wp.seq ?_
  refine c_reg (Y := sysA _) ?_
  refine n_ (x_mv rfl rfl ?_)
  refine n_ (x_mv rfl rfl ?_)
  refine n_ (x_ncp rfl rfl rfl ?_)
  refine n_ (x_fap rfl F135_4 rfl rfl ?_)
  refine n_ (x_st T24 (rows := [[.ptr () 1 0 0, .os () 1 (List.map iL x16.1.f.params), .int .i64 x16.1.f.ret, .os () 6 (List.map (eBlock true) x16.1.f.blocks), .os () 2 (List.map (ePhi true) x16.1.b.phis), .os () 7 (List.map (eInst false) x16.1.b.insts), .int .i64 x16.1.b.term.kind, .int .i64 x16.1.b.term.a, .int .i64 x16.1.b.term.x, .int .i64 x16.1.b.term.y, .int .i64 x16.1.next, .bs () 1 (List.map iL x4.1.ids), .bs () 1 (List.map iL x16.1.ws), .ref () 2 0 (List.length grets), .ref () 3 0 (List.length gpars)]]) rfl rfl rfl rfl rfl rfl rfl rfl ?_)
  refine z_ ?_
  refine Wp.seq ?_
  refine c_reg (Y := sysA _) ?_
  refine n_ (x_mv rfl rfl ?_)
  refine n_ (x_mv rfl rfl ?_)
  refine n_ (x_ncp rfl rfl rfl ?_)
  refine n_ (x_fap rfl F135_5 rfl rfl ?_)
  refine n_ (x_st T24 (rows := [[.ptr () 1 0 0, .os () 1 (List.map iL x16.1.f.params), .int .i64 x16.1.f.ret, .os () 6 (List.map (eBlock true) x16.1.f.blocks), .os () 2 (List.map (ePhi true) x16.1.b.phis), .os () 7 (List.map (eInst false) x16.1.b.insts), .int .i64 x16.1.b.term.kind, .int .i64 x16.1.b.term.a, .int .i64 x16.1.b.term.x, .int .i64 x16.1.b.term.y, .int .i64 x16.1.next, .bs () 1 (List.map iL x4.1.ids), .bs () 1 (List.map iL x4.1.ws), .ref () 2 0 (List.length grets), .ref () 3 0 (List.length gpars)]]) rfl rfl rfl rfl rfl rfl rfl rfl ?_)
  refine z_ ?_
  refine Wp.seq ?_
  refine c_reg (Y := sysA _) ?_
  refine n_ (x_mv rfl rfl ?_)
  refine n_ (x_mv rfl rfl ?_)
  refine n_ (x_ncp rfl rfl rfl ?_)
  refine n_ (x_fap rfl F135_0 rfl rfl ?_)
  refine n_ (x_ldp rfl T64 rfl rfl rfl rfl rfl ?_)
  obtain ⟨x18, h19, hm⟩ := of_bind hm
  refine n_ (x_cg (v := .u (.one (.int .i64 x18.1))) (nobs := []) (oa' := _) (nx' := 5) (cs := []) (obs := [⟨(), 2, [el1Rd false x16.2]⟩]) [1] false rfl (by decide) (h_c rfl h_n) rfl (g_1 (l := .ptr () 0 0 0) rfl rfl rfl (g_1 (l := .int .i64 3) rfl rfl rfl g_n)) rfl rfl ent76 (spec_l1Rd_below_sim x16.2 3 h19) (.inl rfl) rfl rfl rfl rfl ?_)
  obtain ⟨x20, h21, hm⟩ := of_bind hm
  refine n_ (x_cg (v := .tup []) (nobs := []) (oa' := _) (nx' := 5) (cs := []) (obs := [⟨(), 15, [hl2G (.ptr () 1 0 0) (.ref () 2 0 (List.length grets)) (.ref () 3 0 (List.length gpars)) (({ f := x16.1.f, b := x16.1.b, next := x16.1.next, ids := x4.1.ids, ws := x4.1.ws } : Gl2G))]⟩, ⟨(), 2, [el1Rd false x18.2]⟩, ⟨(), 1, List.map iL grets⟩, ⟨(), 1, List.map (lL false 1 iL) gpars⟩]) [0, 1, 2, 3] false rfl (by decide) (h_c rfl (h_c rfl (h_c (hrow rfl) (h_c (hrow rfl) h_n)))) (by simp only [hl2G, List.all_cons, List.all_nil, knows_map, Bool.and_true, Bool.true_and] <;> rfl) (g_1 (l := .ptr () 0 0 0) rfl rfl rfl (g_1 (l := .int .i64 x18.1) rfl rfl rfl g_n)) rfl rfl ent121 (spec_l2G_some_sim (({ f := x16.1.f, b := x16.1.b, next := x16.1.next, ids := x4.1.ids, ws := x4.1.ws } : Gl2G)) x18.2 grets gpars x18.1 h21) (.inl rfl) rfl rfl (by simp only [hl2G, oaG, List.drop_succ_cons, List.drop_zero, List.drop_nil, List.take_succ_cons, List.take_zero, List.take_nil, List.length_cons, List.length_nil, List.map_cons, List.map_nil, List.zipIdx_nil, List.zip_cons_cons, List.zip_nil_right, updO, pushO, ren_map] <;> rfl) rfl ?_)
  refine z_ ?_
  refine Wp.seq ?_
  refine c_reg (Y := sysA _) ?_
  refine n_ (x_mv rfl rfl ?_)
  refine n_ (x_mv rfl rfl ?_)
  obtain ⟨x22, h23, hm⟩ := of_bind hm
  refine n_ (x_cg (v := .u (.one (.int .i64 x22.1))) (nobs := []) (oa' := _) (nx' := 5) (cs := []) (obs := [⟨(), 15, [hl2G (.ptr () 1 0 0) (.ref () 2 0 (List.length grets)) (.ref () 3 0 (List.length gpars)) x20.1]⟩, ⟨(), 2, [el1Rd false x20.2]⟩, ⟨(), 1, List.map iL grets⟩, ⟨(), 1, List.map (lL false 1 iL) gpars⟩]) [0, 1, 2, 3] false rfl (by decide) (h_c rfl (h_c rfl (h_c (hrow rfl) (h_c (hrow rfl) h_n)))) (by simp only [hl2G, List.all_cons, List.all_nil, knows_map, Bool.and_true, Bool.true_and] <;> rfl) (g_1 (l := .ptr () 0 0 0) rfl rfl rfl (g_1 (l := .int .i64 x10.1) rfl rfl rfl g_n)) rfl rfl ent131 (spec_l2G_pick_sim x20.1 x20.2 grets gpars x10.1 h23) (.inl rfl) rfl rfl (by simp only [hl2G, oaG, List.drop_succ_cons, List.drop_zero, List.drop_nil, List.take_succ_cons, List.take_zero, List.take_nil, List.length_cons, List.length_nil, List.map_cons, List.map_nil, List.zipIdx_nil, List.zip_cons_cons, List.zip_nil_right, updO, pushO, ren_map] <;> rfl) rfl ?_)
  refine n_ (x_as rfl rfl ?_)
  refine z_ ?_
  refine Wp.seq ?_
  refine c_reg (Y := sysA _) ?_
  refine n_ (x_mv rfl rfl ?_)
  obtain ⟨x24, h25, hm⟩ := of_bind hm
  refine n_ (x_cg (v := .u (.one (.int .i64 x24.1))) (nobs := []) (oa' := _) (nx' := 5) (cs := []) (obs := [⟨(), 15, [hl2G (.ptr () 1 0 0) (.ref () 2 0 (List.length grets)) (.ref () 3 0 (List.length gpars)) x22.2.1]⟩, ⟨(), 2, [el1Rd false x22.2.2]⟩, ⟨(), 1, List.map iL grets⟩, ⟨(), 1, List.map (lL false 1 iL) gpars⟩]) [0, 1, 2, 3] false rfl (by decide) (h_c rfl (h_c rfl (h_c (hrow rfl) (h_c (hrow rfl) h_n)))) (by simp only [hl2G, List.all_cons, List.all_nil, knows_map, Bool.and_true, Bool.true_and] <;> rfl) (g_1 (l := .ptr () 0 0 0) rfl rfl rfl (g_1 (l := .int .i64 8) rfl rfl rfl g_n)) rfl rfl ent131 (spec_l2G_pick_sim x22.2.1 x22.2.2 grets gpars 8 h25) (.inl rfl) rfl rfl (by simp only [hl2G, oaG, List.drop_succ_cons, List.drop_zero, List.drop_nil, List.take_succ_cons, List.take_zero, List.take_nil, List.length_cons, List.length_nil, List.map_cons, List.map_nil, List.zipIdx_nil, List.zip_cons_cons, List.zip_nil_right, updO, pushO, ren_map] <;> rfl) rfl ?_)
  refine n_ (x_as rfl rfl ?_)
  refine z_ ?_
  refine Wp.seq ?_
  refine c_reg (Y := sysA _) ?_
  refine n_ (x_mv rfl rfl ?_)
  refine n_ (x_mv rfl rfl ?_)
  refine n_ (x_addc T2 rfl rfl (by unfold inI; omega) ?_)
  refine n_ (x_bu (cells := (eTerm (({ kind := 2, a := 0, x := ((List.length g.f.blocks : Int)) + 3, y := 0 } : GTerm)))) T59 rfl rfl rfl ?_)
  obtain ⟨x26, h27, hm⟩ := of_bind hm
  refine n_ (x_cg (v := .tup []) (nobs := []) (oa' := _) (nx' := 5) (cs := []) (obs := [⟨(), 15, [hl2G (.ptr () 1 0 0) (.ref () 2 0 (List.length grets)) (.ref () 3 0 (List.length gpars)) x24.2.1]⟩, ⟨(), 2, [el1Rd false x24.2.2]⟩, ⟨(), 1, List.map iL grets⟩, ⟨(), 1, List.map (lL false 1 iL) gpars⟩]) [0, 1, 2, 3] false rfl (by decide) (h_c rfl (h_c rfl (h_c (hrow rfl) (h_c (hrow rfl) h_n)))) (by simp only [hl2G, List.all_cons, List.all_nil, knows_map, Bool.and_true, Bool.true_and] <;> rfl) (g_1 (l := .ptr () 0 0 0) rfl rfl rfl (g_a (ls := eTerm (({ kind := 2, a := 0, x := ((List.length g.f.blocks : Int)) + 3, y := 0 } : GTerm))) rfl rfl rfl g_n)) rfl rfl ent133 (spec_l2G_close_sim x24.2.1 x24.2.2 grets gpars (({ kind := 2, a := 0, x := ((List.length g.f.blocks : Int)) + 3, y := 0 } : GTerm)) h27) (.inl rfl) rfl rfl (by simp only [hl2G, oaG, List.drop_succ_cons, List.drop_zero, List.drop_nil, List.take_succ_cons, List.take_zero, List.take_nil, List.length_cons, List.length_nil, List.map_cons, List.map_nil, List.zipIdx_nil, List.zip_cons_cons, List.zip_nil_right, updO, pushO, ren_map] <;> rfl) rfl ?_)
  refine z_ ?_
  refine Wp.seq ?_
  refine c_reg (Y := sysA _) ?_
  refine n_ (x_mv rfl rfl ?_)
  refine n_ (x_mv rfl rfl ?_)
  refine n_ (x_ncp rfl rfl rfl ?_)
  refine n_ (x_fap rfl F135_4 rfl rfl ?_)
  refine n_ (x_st T24 (rows := [[.ptr () 1 0 0, .os () 1 (List.map iL x26.1.f.params), .int .i64 x26.1.f.ret, .os () 6 (List.map (eBlock true) x26.1.f.blocks), .os () 2 (List.map (ePhi true) x26.1.b.phis), .os () 7 (List.map (eInst false) x26.1.b.insts), .int .i64 x26.1.b.term.kind, .int .i64 x26.1.b.term.a, .int .i64 x26.1.b.term.x, .int .i64 x26.1.b.term.y, .int .i64 x26.1.next, .bs () 1 (List.map iL x4.1.ids), .bs () 1 (List.map iL x26.1.ws), .ref () 2 0 (List.length grets), .ref () 3 0 (List.length gpars)]]) rfl rfl rfl rfl rfl rfl rfl rfl ?_)
  refine z_ ?_
  refine Wp.seq ?_
  refine c_reg (Y := sysA _) ?_
  refine n_ (x_mv rfl rfl ?_)
  refine n_ (x_mv rfl rfl ?_)
  refine n_ (x_ncp rfl rfl rfl ?_)
  refine n_ (x_fap rfl F135_5 rfl rfl ?_)
  refine n_ (x_st T24 (rows := [[.ptr () 1 0 0, .os () 1 (List.map iL x26.1.f.params), .int .i64 x26.1.f.ret, .os () 6 (List.map (eBlock true) x26.1.f.blocks), .os () 2 (List.map (ePhi true) x26.1.b.phis), .os () 7 (List.map (eInst false) x26.1.b.insts), .int .i64 x26.1.b.term.kind, .int .i64 x26.1.b.term.a, .int .i64 x26.1.b.term.x, .int .i64 x26.1.b.term.y, .int .i64 x26.1.next, .bs () 1 (List.map iL x4.1.ids), .bs () 1 (List.map iL x4.1.ws), .ref () 2 0 (List.length grets), .ref () 3 0 (List.length gpars)]]) rfl rfl rfl rfl rfl rfl rfl rfl ?_)
  refine z_ ?_
  refine Wp.seq ?_
  refine c_reg (Y := sysA _) ?_
  refine n_ (x_mv rfl rfl ?_)
  refine n_ (x_mv rfl rfl ?_)
  refine n_ (x_mv rfl rfl ?_)
  refine n_ (x_mv rfl rfl ?_)
  refine n_ (x_bsm (enc := iL) ([x12.1, x22.1]) A24 rfl rfl rfl rfl ?_)
  obtain ⟨x28, h29, hm⟩ := of_bind hm
  refine n_ (x_co (v := .u (.one (.int .i64 x28.1))) (nobs := []) (oa' := _) (nx' := 6) (cs := []) (obs := [⟨(), 15, [hl2G (.ptr () 1 0 0) (.ref () 2 0 (List.length grets)) (.ref () 3 0 (List.length gpars)) (({ f := x26.1.f, b := x26.1.b, next := x26.1.next, ids := x4.1.ids, ws := x4.1.ws } : Gl2G))]⟩, ⟨(), 2, [el1Rd false x26.2]⟩, ⟨(), 1, List.map iL grets⟩, ⟨(), 1, List.map (lL false 1 iL) gpars⟩]) [0, 1, 2, 3] [5] rfl (by decide) (h_c rfl (h_c rfl (h_c (hrow rfl) (h_c (hrow rfl) h_n)))) (by simp only [hl2G, List.all_cons, List.all_nil, knows_map, Bool.and_true, Bool.true_and] <;> rfl) (q_1 (l := .ptr () 0 0 0) rfl rfl rfl (q_1 (l := .int .i64 x10.1) rfl rfl rfl (q_o (enc := iL) (ys := [x12.1, x22.1]) rfl rfl (by simp) q_n))) rfl rfl ent134 (spec_l2G_phi_sim (({ f := x26.1.f, b := x26.1.b, next := x26.1.next, ids := x4.1.ids, ws := x4.1.ws } : Gl2G)) x26.2 grets gpars x10.1 ([x12.1, x22.1]) h29) rfl rfl (by simp only [hl2G, oaG, List.drop_succ_cons, List.drop_zero, List.drop_nil, List.take_succ_cons, List.take_zero, List.take_nil, List.length_cons, List.length_nil, List.map_cons, List.map_nil, List.zipIdx_nil, List.zip_cons_cons, List.zip_nil_right, updO, pushO, ren_map] <;> rfl) rfl ?_)
  refine z_ ?_
  refine c_reg (Y := sysA _) ?_
  refine n_ (x_mv rfl rfl ?_)
  refine n_ (x_mv rfl rfl ?_)
  refine n_ (x_mv rfl rfl ?_)
  refine n_ (x_bsm (enc := iL) ([x14.1, x24.1]) A24 rfl rfl rfl rfl ?_)
  obtain ⟨x30, h31, hm⟩ := of_bind hm
  refine n_ (x_co (v := .u (.one (.int .i64 x30.1))) (nobs := []) (oa' := _) (nx' := 7) (cs := []) (obs := [⟨(), 15, [hl2G (.ptr () 1 0 0) (.ref () 2 0 (List.length grets)) (.ref () 3 0 (List.length gpars)) x28.2.1]⟩, ⟨(), 2, [el1Rd false x28.2.2]⟩, ⟨(), 1, List.map iL grets⟩, ⟨(), 1, List.map (lL false 1 iL) gpars⟩]) [0, 1, 2, 3] [6] rfl (by decide) (h_c rfl (h_c rfl (h_c (hrow rfl) (h_c (hrow rfl) h_n)))) (by simp only [hl2G, List.all_cons, List.all_nil, knows_map, Bool.and_true, Bool.true_and] <;> rfl) (q_1 (l := .ptr () 0 0 0) rfl rfl rfl (q_1 (l := .int .i64 8) rfl rfl rfl (q_o (enc := iL) (ys := [x14.1, x24.1]) rfl rfl (by simp) q_n))) rfl rfl ent134 (spec_l2G_phi_sim x28.2.1 x28.2.2 grets gpars 8 ([x14.1, x24.1]) h31) rfl rfl (by simp only [hl2G, oaG, List.drop_succ_cons, List.drop_zero, List.drop_nil, List.take_succ_cons, List.take_zero, List.take_nil, List.length_cons, List.length_nil, List.map_cons, List.map_nil, List.zipIdx_nil, List.zip_cons_cons, List.zip_nil_right, updO, pushO, ren_map] <;> rfl) rfl ?_)
  refine z_ ?_
  rw [← Option.some.inj hm]
  exact retG (us' := []) (obs' := [⟨(), 15, [hl2G (.ptr () 1 0 0) (.ref () 2 0 (List.length grets)) (.ref () 3 0 (List.length gpars)) x30.2.1]⟩, ⟨(), 2, [el1Rd false x30.2.2]⟩, ⟨(), 1, List.map iL grets⟩, ⟨(), 1, List.map (lL false 1 iL) gpars⟩]) rfl r_nil (f_end [0, 1, 2, 3] rfl (h_c rfl (h_c rfl (h_c (hrow rfl) (h_c (hrow rfl) h_n)))) (by decide) rfl (by simp only [hl2G, List.all_cons, List.all_nil, knows_map, Bool.and_true, Bool.true_and] <;> rfl) hB0 rfl rfl) rfl rfl rfl rfl (by simp only [hl2G, List.all_cons, List.all_nil, knows_map, Bool.and_true, Bool.true_and] <;> rfl)

end Go.Proofs.Ytmckcjoacfekcaa.AM
