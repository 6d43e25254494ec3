import Derived.Test.YtmckcjoacfekcaaMr3
import Derived.SizedLaws
import Derived.WideShapes
import Derived.ChangeSlices
import Derived.OpenShut
import Derived.Below
set_option linter.unusedVariables false
set_option linter.unusedSimpArgs false
/-! Printed by a program of this repo (wip/gen): functions and that the code comes to them. -/
namespace Go.Proofs.Ytmckcjoacfekcaa.AM
open Go
set_option linter.unusedSimpArgs false
set_option linter.unusedVariables false
/-- laws.big -/
noncomputable def laws_big_m (code : List Int) : Bool :=
  (decide (((List.length code : Int)) > 1048576))
set_option maxHeartbeats 8000000 in
set_option maxRecDepth 100000 in
theorem laws_big_sim (code : List Int) : Sim Try.prog 8 [.one (.bs () 1 (List.map (iK .u8) code))] [] (.u (.one (.bool ((laws_big_m code))))) [] := by
  obtain ⟨r, hm⟩ : ∃ r, laws_big_m code = r := ⟨_, rfl⟩
  rw [hm]
  refine sim_st (N := 6) (k0 := 0) Try.func8 rfl rfl rfl rfl (rs := [.tmp 2]) rfl rfl rfl fun B hB0 => ?_
  unfold laws_big_m at hm
  refine Wp.seq ?_
  refine c_reg (Y := sysA _) ?_
  refine n_ (x_as rfl rfl ?_)
  refine z_ ?_
  refine Wp.seq ?_
  refine c_reg (Y := sysA _) ?_
  refine n_ (x_mv rfl rfl ?_)
  refine n_ (x_lnb N22 rfl fun hL1 => ?_)
  refine n_ (x_bin T3 rfl rfl rfl ?_)
  refine n_ (x_as rfl rfl ?_)
  refine z_ ?_
  refine c_ret ?_
  rw [← hm]
  exact ret0 (us' := [.one (.bool (decide (((List.length code : Int)) > 1048576)))]) rfl (r_tmp rfl rfl rfl r_nil) f_done rfl rfl

/-- spec.l1Open -/
noncomputable def spec_l1Open_m (code : List Int) : Gl1Rd :=
  (({ b := code, p := 0 } : Gl1Rd))
set_option maxHeartbeats 8000000 in
set_option maxRecDepth 100000 in
theorem spec_l1Open_sim (code : List Int) : Sim Try.prog 38 [.one (.bs () 1 (List.map (iK .u8) code))] [] (.u (.one (.ptr () 0 0 0))) [⟨(), 2, [el1Rd false ((spec_l1Open_m code))]⟩] := by
  obtain ⟨r, hm⟩ : ∃ r, spec_l1Open_m code = r := ⟨_, rfl⟩
  rw [hm]
  refine sim_st (N := 6) (k0 := 0) Try.func38 rfl rfl rfl rfl (rs := [.tmp 2]) rfl rfl rfl fun B hB0 => ?_
  unfold spec_l1Open_m at hm
  refine Wp.seq ?_
  refine c_reg (Y := sysA _) ?_
  refine n_ (x_as rfl rfl ?_)
  refine z_ ?_
  refine Wp.seq ?_
  refine c_reg (Y := sysA _) ?_
  refine n_ (x_mv rfl rfl ?_)
  refine n_ (x_bu (cells := (el1Rd false (({ b := code, p := 0 } : Gl1Rd)))) T102 rfl rfl rfl ?_)
  refine n_ (x_bx rfl rfl rfl rfl ?_)
  refine n_ (x_as rfl rfl ?_)
  refine z_ ?_
  refine c_ret ?_
  rw [← hm]
  exact retG (us' := [.one (.ptr () 0 0 0)]) (obs' := [⟨(), 2, [el1Rd false (({ b := code, p := 0 } : Gl1Rd))]⟩]) rfl (r_tmp rfl rfl rfl r_nil) (f_end [0] rfl (h_c rfl h_n) (by decide) rfl rfl hB0 rfl rfl) rfl rfl rfl rfl rfl

/-- (*spec.l1Rd).next -/
noncomputable def spec_l1Rd_next_m (vr : Gl1Rd) : Option (Int × Gl1Rd) :=
  (if decide (vr.p ≥ ((List.length vr.b : Int))) = true then
    (some ((0, vr)))
    else
    (if inI (vr.p + 1) then
      (if inI (((({ b := vr.b, p := vr.p + 1 } : Gl1Rd)).p) - 1) then
        (if 0 ≤ (((({ b := vr.b, p := vr.p + 1 } : Gl1Rd)).p) - 1) ∧ (((({ b := vr.b, p := vr.p + 1 } : Gl1Rd)).p) - 1) < (List.length ((({ b := vr.b, p := vr.p + 1 } : Gl1Rd)).b) : Int) then
          (some ((IntKind.i64.wrap (at_ ((({ b := vr.b, p := vr.p + 1 } : Gl1Rd)).b) (((({ b := vr.b, p := vr.p + 1 } : Gl1Rd)).p) - 1)), ({ b := vr.b, p := vr.p + 1 } : Gl1Rd))))
          else none)
        else none)
      else none))
set_option maxHeartbeats 8000000 in
set_option maxRecDepth 100000 in
theorem spec_l1Rd_next_sim (vr : Gl1Rd) {r : Int × Gl1Rd} (hm : spec_l1Rd_next_m vr = some r) : Sim Try.prog 108 [.one (.ptr () 0 0 0)] [⟨(), 2, [el1Rd false vr]⟩] (.u (.one (.int .i64 r.1))) [⟨(), 2, [el1Rd false r.2]⟩] := by
  refine sim_st (N := 32) (k0 := 1) Try.func108 rfl rfl rfl rfl (rs := [.tmp 2]) rfl rfl rfl fun B hB0 => ?_
  unfold spec_l1Rd_next_m at hm
  refine Wp.seq ?_
  refine c_reg (Y := sysA _) ?_
  refine n_ (x_as rfl rfl ?_)
  refine z_ ?_
  refine Wp.seq ?_
  refine Wp.seq ?_
  refine c_drw (Y := sysC _) mixed ?_
  refine t_ 0 0 rfl (by decide +kernel) (x_mv rfl rfl ?_)
  refine t_ 1 1 rfl (by decide +kernel) (x_ncp rfl rfl rfl ?_)
  refine t_ 2 1 rfl (by decide +kernel) (x_fap rfl F102_1 rfl rfl ?_)
  refine t_ 3 1 rfl (by decide +kernel) (x_ldp rfl T3 rfl rfl rfl rfl rfl ?_)
  refine t_ 4 0 rfl (by decide +kernel) (x_mv rfl rfl ?_)
  refine t_ 5 1 rfl (by decide +kernel) (x_ncp rfl rfl rfl ?_)
  refine t_ 6 1 rfl (by decide +kernel) (x_fap rfl F102_0 rfl rfl ?_)
  refine t_ 7 1 rfl (by decide +kernel) (x_ldp rfl T22 rfl rfl rfl rfl rfl ?_)
  refine t_ 8 0 rfl (by decide +kernel) (x_lnb N22 rfl fun hL1 => ?_)
  refine t_ 9 0 rfl (by decide +kernel) (x_bin T3 rfl rfl rfl ?_)
  refine a_nil (by decide +kernel) ?_
  refine c_s rfl rfl (fun hb2 => ?_) (fun hb2 => ?_)
  · rw [if_pos (show _ = true from hb2)] at hm
    refine Wp.seq ?_
    refine c_reg (Y := sysA _) ?_
    refine n_ (x_as rfl rfl ?_)
    refine z_ ?_
    refine c_ret ?_
    rw [← Option.some.inj hm]
    exact retG (us' := [.one (.int .i64 0)]) (obs' := [⟨(), 2, [el1Rd false vr]⟩]) rfl (r_tmp rfl rfl rfl r_nil) (f_end [0] rfl (h_c rfl h_n) (by decide) rfl rfl hB0 rfl rfl) rfl rfl rfl rfl rfl
  · rw [if_neg (by rw [hb2]; decide)] at hm
    refine c_skip ?_
    refine Wp.seq ?_
    refine c_reg (Y := sysA _) ?_
    refine n_ (x_mv rfl rfl ?_)
    refine n_ (x_ncp rfl rfl rfl ?_)
    refine n_ (x_fap rfl F102_1 rfl rfl ?_)
    refine n_ (x_ldp rfl T3 rfl rfl rfl rfl rfl ?_)
    obtain ⟨h3, hm⟩ := of_ite hm
    refine n_ (x_addc T3 rfl rfl h3 ?_)
    refine n_ (x_ncp rfl rfl rfl ?_)
    refine n_ (x_fap rfl F102_1 rfl rfl ?_)
    refine n_ (x_st T3 (rows := [(el1Rd false (({ b := vr.b, p := vr.p + 1 } : Gl1Rd)))]) rfl rfl rfl rfl rfl rfl rfl rfl ?_)
    refine z_ ?_
    refine Wp.seq ?_
    refine c_drw (Y := sysC _) mixed ?_
    refine t_ 0 0 rfl (by decide +kernel) (x_mv rfl rfl ?_)
    refine t_ 1 1 rfl (by decide +kernel) (x_ncp rfl rfl rfl ?_)
    refine t_ 2 1 rfl (by decide +kernel) (x_fap rfl F102_0 rfl rfl ?_)
    refine t_ 3 1 rfl (by decide +kernel) (x_ldp rfl T22 rfl rfl rfl rfl rfl ?_)
    refine t_ 4 0 rfl (by decide +kernel) (x_mv rfl rfl ?_)
    refine t_ 5 1 rfl (by decide +kernel) (x_ncp rfl rfl rfl ?_)
    refine t_ 6 1 rfl (by decide +kernel) (x_fap rfl F102_1 rfl rfl ?_)
    refine t_ 7 1 rfl (by decide +kernel) (x_ldp rfl T3 rfl rfl rfl rfl rfl ?_)
    obtain ⟨h4, hm⟩ := of_ite hm
    refine t_ 8 0 rfl (by decide +kernel) (x_subc T3 rfl rfl h4 ?_)
    obtain ⟨h5, hm⟩ := of_ite hm
    refine t_ 9 0 rfl (by decide +kernel) (x_ixb E22 rfl rfl h5 ?_)
    refine t_ 10 0 rfl (by decide +kernel) (x_ldi T5 rfl rfl rfl ?_)
    refine t_ 11 0 rfl (by decide +kernel) (x_cvi T5 T3 rfl rfl ?_)
    refine t_ 12 0 rfl (by decide +kernel) (x_as rfl rfl ?_)
    refine a_nil (by decide +kernel) ?_
    refine c_ret ?_
    rw [← Option.some.inj hm]
    exact retG (us' := [.one (.int .i64 (IntKind.i64.wrap (at_ ((({ b := vr.b, p := vr.p + 1 } : Gl1Rd)).b) (((({ b := vr.b, p := vr.p + 1 } : Gl1Rd)).p) - 1))))]) (obs' := [⟨(), 2, [el1Rd false (({ b := vr.b, p := vr.p + 1 } : Gl1Rd))]⟩]) rfl (r_tmp rfl rfl rfl r_nil) (f_end [0] rfl (h_c rfl h_n) (by decide) rfl rfl hB0 rfl rfl) rfl rfl rfl rfl rfl

/-- (*spec.l1Rd).below -/
noncomputable def spec_l1Rd_below_m (vr : Gl1Rd) (n : Int) : Option (Int × Gl1Rd) :=
  (if decide (n ≤ 1) = true then
    (some ((0, vr)))
    else
    (if decide (n ≤ 256) = true then
      (Option.bind (spec_l1Rd_next_m vr) fun x3 =>
        (if n ≠ 0 then
          (some ((Int.tmod x3.1 n, x3.2)))
          else none))
      else
      (Option.bind (spec_l1Rd_next_m vr) fun x6 =>
        (Option.bind (spec_l1Rd_next_m x6.2) fun x8 =>
          (if n ≠ 0 then
            (some ((Int.tmod (IntKind.i64.wrap ((IntKind.i64.wrap (x6.1 * 256)) + x8.1)) n, x8.2)))
            else none)))))
set_option maxHeartbeats 8000000 in
set_option maxRecDepth 100000 in
theorem spec_l1Rd_below_sim (vr : Gl1Rd) (n : Int) {r : Int × Gl1Rd} (hm : spec_l1Rd_below_m vr n = some r) : Sim Try.prog 76 [.one (.ptr () 0 0 0), .one (.int .i64 n)] [⟨(), 2, [el1Rd false vr]⟩] (.u (.one (.int .i64 r.1))) [⟨(), 2, [el1Rd false r.2]⟩] := by
  refine sim_st (N := 24) (k0 := 1) Try.func76 rfl rfl rfl rfl (rs := [.tmp 4]) rfl rfl rfl fun B hB0 => ?_
  unfold spec_l1Rd_below_m at hm
  refine Wp.seq ?_
  refine c_reg (Y := sysA _) ?_
  refine n_ (x_as rfl rfl ?_)
  refine z_ ?_
  refine Wp.seq ?_
  refine Wp.seq ?_
  refine c_reg (Y := sysA _) ?_
  refine n_ (x_mv rfl rfl ?_)
  refine n_ (x_bin T3 rfl rfl rfl ?_)
  refine z_ ?_
  refine c_s rfl rfl (fun hb1 => ?_) (fun hb1 => ?_)
  · rw [if_pos (show _ = true from hb1)] at hm
    refine Wp.seq ?_
    refine c_reg (Y := sysA _) ?_
    refine n_ (x_as rfl rfl ?_)
    refine z_ ?_
    refine c_ret ?_
    rw [← Option.some.inj hm]
    exact retG (us' := [.one (.int .i64 0)]) (obs' := [⟨(), 2, [el1Rd false vr]⟩]) rfl (r_tmp rfl rfl rfl r_nil) (f_end [0] rfl (h_c rfl h_n) (by decide) rfl rfl hB0 rfl rfl) rfl rfl rfl rfl rfl
  · rw [if_neg (by rw [hb1]; decide)] at hm
    refine c_skip ?_
    refine Wp.seq ?_
    refine Wp.seq ?_
    refine c_reg (Y := sysA _) ?_
    refine n_ (x_mv rfl rfl ?_)
    refine n_ (x_bin T3 rfl rfl rfl ?_)
    refine z_ ?_
    refine c_s rfl rfl (fun hb2 => ?_) (fun hb2 => ?_)
    · rw [if_pos (show _ = true from hb2)] at hm
      refine Wp.seq ?_
      refine c_reg (Y := sysA _) ?_
      refine n_ (x_mv rfl rfl ?_)
      obtain ⟨x3, h4, hm⟩ := of_bind hm
      refine n_ (x_cg (v := .u (.one (.int .i64 x3.1))) (nobs := []) (oa' := _) (nx' := 1) (cs := []) (obs := [⟨(), 2, [el1Rd false vr]⟩]) [0] false rfl (by decide) (h_c rfl h_n) rfl (g_1 (l := .ptr () 0 0 0) rfl rfl rfl g_n) rfl rfl ent108 (spec_l1Rd_next_sim vr h4) (.inl rfl) rfl rfl rfl rfl ?_)
      refine n_ (x_mv rfl rfl ?_)
      obtain ⟨h5, hm⟩ := of_ite hm
      refine n_ (x_rem T3 rfl rfl h5 ?_)
      refine n_ (x_as rfl rfl ?_)
      refine z_ ?_
      refine c_ret ?_
      rw [← Option.some.inj hm]
      exact retG (us' := [.one (.int .i64 (Int.tmod x3.1 n))]) (obs' := [⟨(), 2, [el1Rd false x3.2]⟩]) rfl (r_tmp rfl rfl rfl r_nil) (f_end [0] rfl (h_c rfl h_n) (by decide) rfl rfl hB0 rfl rfl) rfl rfl rfl rfl rfl
    · rw [if_neg (by rw [hb2]; decide)] at hm
      refine c_skip ?_
      refine Wp.seq ?_
      refine c_reg (Y := sysA _) ?_
      refine n_ (x_mv rfl rfl ?_)
      obtain ⟨x6, h7, hm⟩ := of_bind hm
      refine n_ (x_cg (v := .u (.one (.int .i64 x6.1))) (nobs := []) (oa' := _) (nx' := 1) (cs := []) (obs := [⟨(), 2, [el1Rd false vr]⟩]) [0] false rfl (by decide) (h_c rfl h_n) rfl (g_1 (l := .ptr () 0 0 0) rfl rfl rfl g_n) rfl rfl ent108 (spec_l1Rd_next_sim vr h7) (.inl rfl) rfl rfl rfl rfl ?_)
      refine n_ (x_bin T3 rfl rfl rfl ?_)
      refine n_ (x_as rfl rfl ?_)
      refine z_ ?_
      refine Wp.seq ?_
      refine c_reg (Y := sysA _) ?_
      refine n_ (x_mv rfl rfl ?_)
      refine n_ (x_mv rfl rfl ?_)
      obtain ⟨x8, h9, hm⟩ := of_bind hm
      refine n_ (x_cg (v := .u (.one (.int .i64 x8.1))) (nobs := []) (oa' := _) (nx' := 1) (cs := []) (obs := [⟨(), 2, [el1Rd false x6.2]⟩]) [0] false rfl (by decide) (h_c rfl h_n) rfl (g_1 (l := .ptr () 0 0 0) rfl rfl rfl g_n) rfl rfl ent108 (spec_l1Rd_next_sim x6.2 h9) (.inl rfl) rfl rfl rfl rfl ?_)
      refine n_ (x_bin T3 rfl rfl rfl ?_)
      refine n_ (x_as rfl rfl ?_)
      refine z_ ?_
      refine Wp.seq ?_
      refine c_reg (Y := sysA _) ?_
      refine n_ (x_mv rfl rfl ?_)
      refine n_ (x_mv rfl rfl ?_)
      obtain ⟨h10, hm⟩ := of_ite hm
      refine n_ (x_rem T3 rfl rfl h10 ?_)
      refine n_ (x_as rfl rfl ?_)
      refine z_ ?_
      refine c_ret ?_
      rw [← Option.some.inj hm]
      exact retG (us' := [.one (.int .i64 (Int.tmod (IntKind.i64.wrap ((IntKind.i64.wrap (x6.1 * 256)) + x8.1)) n))]) (obs' := [⟨(), 2, [el1Rd false x8.2]⟩]) rfl (r_tmp rfl rfl rfl r_nil) (f_end [0] rfl (h_c rfl h_n) (by decide) rfl rfl hB0 rfl rfl) rfl rfl rfl rfl rfl

/-- (*spec.l1Rd).once -/
noncomputable def spec_l1Rd_once_m (vr : Gl1Rd) (n : Int) : Option (Bool × Gl1Rd) :=
  (Option.bind (spec_l1Rd_below_m vr n) fun x1 =>
    (if inI (n - 1) then
      (some (((x1.1 == (n - 1)), x1.2)))
      else none))
set_option maxHeartbeats 8000000 in
set_option maxRecDepth 100000 in
theorem spec_l1Rd_once_sim (vr : Gl1Rd) (n : Int) {r : Bool × Gl1Rd} (hm : spec_l1Rd_once_m vr n = some r) : Sim Try.prog 77 [.one (.ptr () 0 0 0), .one (.int .i64 n)] [⟨(), 2, [el1Rd false vr]⟩] (.u (.one (.bool r.1))) [⟨(), 2, [el1Rd false r.2]⟩] := by
  refine sim_st (N := 11) (k0 := 1) Try.func77 rfl rfl rfl rfl (rs := [.tmp 4]) rfl rfl rfl fun B hB0 => ?_
  unfold spec_l1Rd_once_m at hm
  refine Wp.seq ?_
  refine c_reg (Y := sysA _) ?_
  refine n_ (x_as rfl rfl ?_)
  refine z_ ?_
  refine Wp.seq ?_
  refine c_reg (Y := sysA _) ?_
  refine n_ (x_mv rfl rfl ?_)
  refine n_ (x_mv rfl rfl ?_)
  obtain ⟨x1, h2, hm⟩ := of_bind hm
  refine n_ (x_cg (v := .u (.one (.int .i64 x1.1))) (nobs := []) (oa' := _) (nx' := 1) (cs := []) (obs := [⟨(), 2, [el1Rd false vr]⟩]) [0] false rfl (by decide) (h_c rfl h_n) rfl (g_1 (l := .ptr () 0 0 0) rfl rfl rfl (g_1 (l := .int .i64 n) rfl rfl rfl g_n)) rfl rfl ent76 (spec_l1Rd_below_sim vr n h2) (.inl rfl) rfl rfl rfl rfl ?_)
  refine n_ (x_mv rfl rfl ?_)
  obtain ⟨h3, hm⟩ := of_ite hm
  refine n_ (x_subc T3 rfl rfl h3 ?_)
  refine n_ (x_bin T3 rfl rfl rfl ?_)
  refine n_ (x_as rfl rfl ?_)
  refine z_ ?_
  refine c_ret ?_
  rw [← Option.some.inj hm]
  exact retG (us' := [.one (.bool ((x1.1 == (n - 1))))]) (obs' := [⟨(), 2, [el1Rd false x1.2]⟩]) rfl (r_tmp rfl rfl rfl r_nil) (f_end [0] rfl (h_c rfl h_n) (by decide) rfl rfl hB0 rfl rfl) rfl rfl rfl rfl rfl

/-- (*spec.l1Rd).word -/
noncomputable def spec_l1Rd_word_m (vr : Gl1Rd) : Option (Int × Gl1Rd) :=
  (Option.bind (loopO (fun (st1 : (List Int) × Int × Int × Int) =>
        ((if decide (st1.2.2.2 < 8) = true then
            (Option.bind (spec_l1Rd_next_m (({ b := st1.1, p := st1.2.1 } : Gl1Rd))) fun x4 =>
              (if inI (st1.2.2.2 + 1) then
                (some (Sum.inl ((x4.2.b, x4.2.p, bits .or .u64 (IntKind.u64.wrap (st1.2.2.1 * 2 ^ min (Int.toNat 8) (IntKind.bits .u64))) (IntKind.u64.wrap x4.1), st1.2.2.2 + 1))))
                else none))
            else
            (some (Sum.inr (((st1.1, st1.2.1, st1.2.2.1)))))) : Option (((List Int) × Int × Int × Int) ⊕ (((List Int) × Int × Int))))) (vr.b, vr.p, 0, 0)) fun (j2 : (List Int) × Int × Int) =>
    (some ((j2.2.2, ({ b := j2.1, p := j2.2.1 } : Gl1Rd)))))
set_option maxHeartbeats 8000000 in
set_option maxRecDepth 100000 in
theorem spec_l1Rd_word_sim (vr : Gl1Rd) {r : Int × Gl1Rd} (hm : spec_l1Rd_word_m vr = some r) : Sim Try.prog 125 [.one (.ptr () 0 0 0)] [⟨(), 2, [el1Rd false vr]⟩] (.u (.one (.int .u64 r.1))) [⟨(), 2, [el1Rd false r.2]⟩] := by
  refine sim_st (N := 16) (k0 := 1) Try.func125 rfl rfl rfl rfl (rs := [.tmp 2]) rfl rfl rfl fun B hB0 => ?_
  unfold spec_l1Rd_word_m at hm
  refine Wp.seq ?_
  refine c_reg (Y := sysA _) ?_
  refine n_ (x_as rfl rfl ?_)
  refine z_ ?_
  refine Wp.seq ?_
  refine c_reg (Y := sysA _) ?_
  refine n_ (x_as rfl rfl ?_)
  refine z_ ?_
  refine Wp.seq ?_
  refine Wp.seq ?_
  refine c_reg (Y := sysA _) ?_
  refine n_ (x_as rfl rfl ?_)
  refine z_ ?_
  refine Wp.block ?_
  obtain ⟨j2, hl8, hm⟩ := of_bind hm
  refine c_loop hl8 (fun (st1 : (List Int) × Int × Int × Int) => St 16 [(0, .u (.one (.ptr () 0 0 0))), (3, .u (.one (.int .u64 st1.2.2.1))), (4, .u (.one (.int .i64 st1.2.2.2)))] [(0, some ⟨(), 2, [[.bs () 1 (List.map (iK .u8) st1.1), .int .i64 st1.2.1]]⟩)] 1) (fun (j2 : (List Int) × Int × Int) => (.exit 0, St 16 [(3, .u (.one (.int .u64 j2.2.2)))] [(0, some ⟨(), 2, [[.bs () 1 (List.map (iK .u8) j2.1), .int .i64 j2.2.1]]⟩)] 1)) (w_ [0] (.cons rfl rfl (.cons rfl rfl (.cons rfl rfl .nil))) (.lit rfl rfl .nil) (by decide) (hB_n 1 hB0 rfl)) ?_ (by intro y; simp) ?_
  · intro st1 x hm
    refine Wp.seq ?_
    refine Wp.seq ?_
    refine c_reg (Y := sysA _) ?_
    refine n_ (x_mv rfl rfl ?_)
    refine n_ (x_bin T3 rfl rfl rfl ?_)
    refine z_ ?_
    refine c_s rfl rfl (fun hb3 => ?_) (fun hb3 => ?_)
    · rw [if_pos (show _ = true from hb3)] at hm
      refine c_skip ?_
      refine Wp.seq ?_
      refine Wp.block ?_
      refine c_reg (Y := sysA _) ?_
      refine n_ (x_mv rfl rfl ?_)
      refine n_ (x_shl T138 rfl rfl (by decide) ?_)
      refine n_ (x_mv rfl rfl ?_)
      obtain ⟨x4, h5, hm⟩ := of_bind hm
      refine n_ (x_cg (v := .u (.one (.int .i64 x4.1))) (nobs := []) (oa' := _) (nx' := 1) (cs := []) (obs := [⟨(), 2, [el1Rd false (({ b := st1.1, p := st1.2.1 } : Gl1Rd))]⟩]) [0] false rfl (by decide) (h_c rfl h_n) rfl (g_1 (l := .ptr () 0 0 0) rfl rfl rfl g_n) rfl rfl ent108 (spec_l1Rd_next_sim (({ b := st1.1, p := st1.2.1 } : Gl1Rd)) h5) (.inl rfl) rfl rfl rfl rfl ?_)
      refine n_ (x_cvi T3 T138 rfl rfl ?_)
      refine n_ (x_bin T138 rfl rfl rfl ?_)
      refine n_ (x_as rfl rfl ?_)
      refine z_ ?_
      refine c_reg (Y := sysA _) ?_
      refine n_ (x_mv rfl rfl ?_)
      obtain ⟨h6, hm⟩ := of_ite hm
      refine n_ (x_addc T3 rfl rfl h6 ?_)
      refine n_ (x_as rfl rfl ?_)
      refine z_ ?_
      cases hm
      exact ⟨rfl, w_ [0] (.cons rfl rfl (.cons rfl rfl (.cons rfl rfl .nil))) (.lit rfl rfl .nil) (by decide) (hB_n 1 hB0 rfl)⟩
    · rw [if_neg (by rw [hb3]; decide)] at hm
      refine c_exit ?_
      cases hm
      exact ⟨rfl, w_ [0] (.cons rfl rfl .nil) (.lit rfl rfl .nil) (by decide) (hB_n 1 hB0 rfl)⟩
  · refine Wp.seq ?_
    refine c_reg (Y := sysA _) ?_
    refine n_ (x_mv rfl rfl ?_)
    refine n_ (x_as rfl rfl ?_)
    refine z_ ?_
    refine c_ret ?_
    rw [← Option.some.inj hm]
    exact retG (us' := [.one (.int .u64 j2.2.2)]) (obs' := [⟨(), 2, [el1Rd false (({ b := j2.1, p := j2.2.1 } : Gl1Rd))]⟩]) rfl (r_tmp rfl rfl rfl r_nil) (f_end [0] rfl (h_c rfl h_n) (by decide) rfl rfl hB0 rfl rfl) rfl rfl rfl rfl rfl

/-- (*spec.l1Rd).near -/
noncomputable def spec_l1Rd_near_m (vr : Gl1Rd) (low : Int) (high : Int) : Option (Int × Gl1Rd) :=
  (Option.bind (spec_l1Rd_below_m vr 8) fun x1 =>
    (if (x1.1 == 0) = true then
      (some ((low, x1.2)))
      else
      (if (x1.1 == 1) = true then
        (some ((high, x1.2)))
        else
        (if decide (high < low) = true then
          (some ((low, x1.2)))
          else
          (Option.bind (spec_l1Rd_word_m x1.2) fun x6 =>
            (if inI ((IntKind.i64.wrap (high - low)) + 1) then
              (if (IntKind.u64.wrap ((IntKind.i64.wrap (high - low)) + 1)) ≠ 0 then
                (some ((IntKind.i64.wrap (low + (IntKind.i64.wrap (Int.tmod (x6.1 / 2 ^ min (Int.toNat 1) (IntKind.bits .u64)) (IntKind.u64.wrap ((IntKind.i64.wrap (high - low)) + 1))))), x6.2)))
                else none)
              else none))))))
set_option maxHeartbeats 8000000 in
set_option maxRecDepth 100000 in
theorem spec_l1Rd_near_sim (vr : Gl1Rd) (low : Int) (high : Int) {r : Int × Gl1Rd} (hm : spec_l1Rd_near_m vr low high = some r) : Sim Try.prog 109 [.one (.ptr () 0 0 0), .one (.int .i64 low), .one (.int .i64 high)] [⟨(), 2, [el1Rd false vr]⟩] (.u (.one (.int .i64 r.1))) [⟨(), 2, [el1Rd false r.2]⟩] := by
  refine sim_st (N := 31) (k0 := 1) Try.func109 rfl rfl rfl rfl (rs := [.tmp 6]) rfl rfl rfl fun B hB0 => ?_
  unfold spec_l1Rd_near_m at hm
  refine Wp.seq ?_
  refine c_reg (Y := sysA _) ?_
  refine n_ (x_as rfl rfl ?_)
  refine z_ ?_
  refine Wp.seq ?_
  refine Wp.seq ?_
  refine c_reg (Y := sysA _) ?_
  refine n_ (x_mv rfl rfl ?_)
  obtain ⟨x1, h2, hm⟩ := of_bind hm
  refine n_ (x_cg (v := .u (.one (.int .i64 x1.1))) (nobs := []) (oa' := _) (nx' := 1) (cs := []) (obs := [⟨(), 2, [el1Rd false vr]⟩]) [0] false rfl (by decide) (h_c rfl h_n) rfl (g_1 (l := .ptr () 0 0 0) rfl rfl rfl (g_1 (l := .int .i64 8) rfl rfl rfl g_n)) rfl rfl ent76 (spec_l1Rd_below_sim vr 8 h2) (.inl rfl) rfl rfl rfl rfl ?_)
  refine z_ ?_
  refine Wp.block ?_
  refine Wp.seq ?_
  refine c_reg (Y := sysA _) ?_
  refine n_ (x_bin T3 rfl rfl rfl ?_)
  refine n_ (x_as rfl rfl ?_)
  refine z_ ?_
  refine c_s rfl rfl (fun hb3 => ?_) (fun hb3 => ?_)
  · rw [if_pos (show _ = true from hb3)] at hm
    refine Wp.seq ?_
    refine c_reg (Y := sysA _) ?_
    refine n_ (x_mv rfl rfl ?_)
    refine n_ (x_as rfl rfl ?_)
    refine z_ ?_
    refine c_ret ?_
    rw [← Option.some.inj hm]
    exact retG (us' := [.one (.int .i64 low)]) (obs' := [⟨(), 2, [el1Rd false x1.2]⟩]) rfl (r_tmp rfl rfl rfl r_nil) (f_end [0] rfl (h_c rfl h_n) (by decide) rfl rfl hB0 rfl rfl) rfl rfl rfl rfl rfl
  · rw [if_neg (by rw [hb3]; decide)] at hm
    refine Wp.seq ?_
    refine c_reg (Y := sysA _) ?_
    refine n_ (x_bin T3 rfl rfl rfl ?_)
    refine n_ (x_as rfl rfl ?_)
    refine z_ ?_
    refine c_s rfl rfl (fun hb4 => ?_) (fun hb4 => ?_)
    · rw [if_pos (show _ = true from hb4)] at hm
      refine Wp.seq ?_
      refine c_reg (Y := sysA _) ?_
      refine n_ (x_mv rfl rfl ?_)
      refine n_ (x_as rfl rfl ?_)
      refine z_ ?_
      refine c_ret ?_
      rw [← Option.some.inj hm]
      exact retG (us' := [.one (.int .i64 high)]) (obs' := [⟨(), 2, [el1Rd false x1.2]⟩]) rfl (r_tmp rfl rfl rfl r_nil) (f_end [0] rfl (h_c rfl h_n) (by decide) rfl rfl hB0 rfl rfl) rfl rfl rfl rfl rfl
    · rw [if_neg (by rw [hb4]; decide)] at hm
      refine c_skip ?_
      refine Wp.seq ?_
      refine Wp.seq ?_
      refine c_reg (Y := sysA _) ?_
      refine n_ (x_mv rfl rfl ?_)
      refine n_ (x_mv rfl rfl ?_)
      refine n_ (x_bin T2 rfl rfl rfl ?_)
      refine z_ ?_
      refine c_s rfl rfl (fun hb5 => ?_) (fun hb5 => ?_)
      · rw [if_pos (show _ = true from hb5)] at hm
        refine Wp.seq ?_
        refine c_reg (Y := sysA _) ?_
        refine n_ (x_mv rfl rfl ?_)
        refine n_ (x_as rfl rfl ?_)
        refine z_ ?_
        refine c_ret ?_
        rw [← Option.some.inj hm]
        exact retG (us' := [.one (.int .i64 low)]) (obs' := [⟨(), 2, [el1Rd false x1.2]⟩]) rfl (r_tmp rfl rfl rfl r_nil) (f_end [0] rfl (h_c rfl h_n) (by decide) rfl rfl hB0 rfl rfl) rfl rfl rfl rfl rfl
      · rw [if_neg (by rw [hb5]; decide)] at hm
        refine c_skip ?_
        refine Wp.seq ?_
        refine c_reg (Y := sysA _) ?_
        refine n_ (x_mv rfl rfl ?_)
        refine n_ (x_mv rfl rfl ?_)
        obtain ⟨x6, h7, hm⟩ := of_bind hm
        refine n_ (x_cg (v := .u (.one (.int .u64 x6.1))) (nobs := []) (oa' := _) (nx' := 1) (cs := []) (obs := [⟨(), 2, [el1Rd false x1.2]⟩]) [0] false rfl (by decide) (h_c rfl h_n) rfl (g_1 (l := .ptr () 0 0 0) rfl rfl rfl g_n) rfl rfl ent125 (spec_l1Rd_word_sim x1.2 h7) (.inl rfl) rfl rfl rfl rfl ?_)
        refine n_ (x_shr T138 rfl rfl (by decide) ?_)
        refine n_ (x_mv rfl rfl ?_)
        refine n_ (x_mv rfl rfl ?_)
        refine n_ (x_bin T2 rfl rfl rfl ?_)
        obtain ⟨h8, hm⟩ := of_ite hm
        refine n_ (x_addc T2 rfl rfl h8 ?_)
        refine n_ (x_cvi T2 T138 rfl rfl ?_)
        obtain ⟨h9, hm⟩ := of_ite hm
        refine n_ (x_rem T138 rfl rfl h9 ?_)
        refine n_ (x_cvi T138 T2 rfl rfl ?_)
        refine n_ (x_bin T2 rfl rfl rfl ?_)
        refine n_ (x_as rfl rfl ?_)
        refine z_ ?_
        refine c_ret ?_
        rw [← Option.some.inj hm]
        exact retG (us' := [.one (.int .i64 (IntKind.i64.wrap (low + (IntKind.i64.wrap (Int.tmod (x6.1 / 2 ^ min (Int.toNat 1) (IntKind.bits .u64)) (IntKind.u64.wrap ((IntKind.i64.wrap (high - low)) + 1)))))))]) (obs' := [⟨(), 2, [el1Rd false x6.2]⟩]) rfl (r_tmp rfl rfl rfl r_nil) (f_end [0] rfl (h_c rfl h_n) (by decide) rfl rfl hB0 rfl rfl) rfl rfl rfl rfl rfl

/-- (*spec.l1Rd).off -/
noncomputable def spec_l1Rd_off_m (vr : Gl1Rd) (low : Int) (high : Int) : Option (Int × Gl1Rd) :=
  (Option.bind (spec_l1Rd_once_m vr 24) fun x1 =>
    (if x1.1 = true then
      (if inI (low - 1) then
        (if inI (high + 1) then
          (Option.bind (spec_l1Rd_below_m x1.2 4) fun x6 =>
            (if 0 ≤ x6.1 ∧ x6.1 < (List.length ([low - 1, high + 1, (-9223372036854775808), 9223372036854775807]) : Int) then
              (some ((at_ ([low - 1, high + 1, (-9223372036854775808), 9223372036854775807]) x6.1, x6.2)))
              else none))
          else none)
        else none)
      else
      (Option.bind (spec_l1Rd_near_m x1.2 low high) fun x9 =>
        (some ((x9.1, x9.2))))))
set_option maxHeartbeats 8000000 in
set_option maxRecDepth 100000 in
theorem spec_l1Rd_off_sim (vr : Gl1Rd) (low : Int) (high : Int) {r : Int × Gl1Rd} (hm : spec_l1Rd_off_m vr low high = some r) : Sim Try.prog 78 [.one (.ptr () 0 0 0), .one (.int .i64 low), .one (.int .i64 high)] [⟨(), 2, [el1Rd false vr]⟩] (.u (.one (.int .i64 r.1))) [⟨(), 2, [el1Rd false r.2]⟩] := by
  refine sim_st (N := 22) (k0 := 1) Try.func78 rfl rfl rfl rfl (rs := [.tmp 6]) rfl rfl rfl fun B hB0 => ?_
  unfold spec_l1Rd_off_m at hm
  refine Wp.seq ?_
  refine c_reg (Y := sysA _) ?_
  refine n_ (x_as rfl rfl ?_)
  refine z_ ?_
  refine Wp.seq ?_
  refine Wp.seq ?_
  refine c_reg (Y := sysA _) ?_
  refine n_ (x_mv rfl rfl ?_)
  obtain ⟨x1, h2, hm⟩ := of_bind hm
  refine n_ (x_cg (v := .u (.one (.bool x1.1))) (nobs := []) (oa' := _) (nx' := 1) (cs := []) (obs := [⟨(), 2, [el1Rd false vr]⟩]) [0] false rfl (by decide) (h_c rfl h_n) rfl (g_1 (l := .ptr () 0 0 0) rfl rfl rfl (g_1 (l := .int .i64 24) rfl rfl rfl g_n)) rfl rfl ent77 (spec_l1Rd_once_sim vr 24 h2) (.inl rfl) rfl rfl rfl rfl ?_)
  refine z_ ?_
  refine c_s rfl rfl (fun hb3 => ?_) (fun hb3 => ?_)
  · rw [if_pos (show _ = true from hb3)] at hm
    refine Wp.seq ?_
    refine c_reg (Y := sysA _) ?_
    refine n_ (x_mv rfl rfl ?_)
    obtain ⟨h4, hm⟩ := of_ite hm
    refine n_ (x_subc T2 rfl rfl h4 ?_)
    refine n_ (x_mv rfl rfl ?_)
    obtain ⟨h5, hm⟩ := of_ite hm
    refine n_ (x_addc T2 rfl rfl h5 ?_)
    refine n_ (x_bsm (enc := iL) ([low - 1, high + 1, (-9223372036854775808), 9223372036854775807]) A24 rfl rfl rfl rfl ?_)
    refine n_ (x_mv rfl rfl ?_)
    obtain ⟨x6, h7, hm⟩ := of_bind hm
    refine n_ (x_cg (v := .u (.one (.int .i64 x6.1))) (nobs := []) (oa' := _) (nx' := 2) (cs := []) (obs := [⟨(), 2, [el1Rd false x1.2]⟩]) [0] false rfl (by decide) (h_c rfl h_n) rfl (g_1 (l := .ptr () 0 0 0) rfl rfl rfl (g_1 (l := .int .i64 4) rfl rfl rfl g_n)) rfl rfl ent76 (spec_l1Rd_below_sim x1.2 4 h7) (.inl rfl) rfl rfl rfl rfl ?_)
    obtain ⟨h8, hm⟩ := of_ite hm
    refine n_ (x_ix0 rfl E24 rfl rfl rfl h8 ?_)
    refine n_ (x_ldn rfl T2 rfl rfl h8 rfl rfl ?_)
    refine n_ (x_as rfl rfl ?_)
    refine z_ ?_
    refine c_ret ?_
    rw [← Option.some.inj hm]
    exact retG (us' := [.one (.int .i64 (at_ ([low - 1, high + 1, (-9223372036854775808), 9223372036854775807]) x6.1))]) (obs' := [⟨(), 2, [el1Rd false x6.2]⟩]) rfl (r_tmp rfl rfl rfl r_nil) (f_end [0] rfl (h_c rfl h_n) (by decide) rfl rfl hB0 rfl rfl) rfl rfl rfl rfl rfl
  · rw [if_neg (by rw [hb3]; decide)] at hm
    refine c_skip ?_
    refine Wp.seq ?_
    refine c_reg (Y := sysA _) ?_
    refine n_ (x_mv rfl rfl ?_)
    refine n_ (x_mv rfl rfl ?_)
    refine n_ (x_mv rfl rfl ?_)
    obtain ⟨x9, h10, hm⟩ := of_bind hm
    refine n_ (x_cg (v := .u (.one (.int .i64 x9.1))) (nobs := []) (oa' := _) (nx' := 1) (cs := []) (obs := [⟨(), 2, [el1Rd false x1.2]⟩]) [0] false rfl (by decide) (h_c rfl h_n) rfl (g_1 (l := .ptr () 0 0 0) rfl rfl rfl (g_1 (l := .int .i64 low) rfl rfl rfl (g_1 (l := .int .i64 high) rfl rfl rfl g_n))) rfl rfl ent109 (spec_l1Rd_near_sim x1.2 low high h10) (.inl rfl) rfl rfl rfl rfl ?_)
    refine n_ (x_as rfl rfl ?_)
    refine z_ ?_
    refine c_ret ?_
    rw [← Option.some.inj hm]
    exact retG (us' := [.one (.int .i64 x9.1)]) (obs' := [⟨(), 2, [el1Rd false x9.2]⟩]) rfl (r_tmp rfl rfl rfl r_nil) (f_end [0] rfl (h_c rfl h_n) (by decide) rfl rfl hB0 rfl rfl) rfl rfl rfl rfl rfl

/-- (*spec.l1Rd).graph -/
noncomputable def spec_l1Rd_graph_m (vr : Gl1Rd) : Option (GFunc × Gl1Rd) :=
  (Option.bind (spec_l1Rd_below_m vr 7) fun x1 =>
    (if inI (1 + x1.1) then
      (Option.bind (loopO (fun (st5 : (List Int) × Int × (List GBlock) × Int) =>
            ((if decide (st5.2.2.2 < (1 + x1.1)) = true then
                (Option.bind ((Option.bind (spec_l1Rd_below_m (({ b := st5.1, p := st5.2.1 } : Gl1Rd)) 4) fun x9 =>
                      (if ((x9.1 == 0) || (x9.1 == 1)) = true then
                        (Option.bind (spec_l1Rd_below_m x9.2 (1 + x1.1)) fun x14 =>
                        (Option.bind (spec_l1Rd_below_m x14.2 (1 + x1.1)) fun x16 =>
                        (some ((x16.2, ({ kind := 3, a := 0, x := x14.1, y := x16.1 } : GTerm))))))
                        else
                        (if (x9.1 == 2) = true then
                        (Option.bind (spec_l1Rd_below_m x9.2 (1 + x1.1)) fun x19 =>
                        (some ((x19.2, ({ kind := 2, a := 0, x := x19.1, y := 0 } : GTerm)))))
                        else
                        (some ((x9.2, ({ kind := 4, a := 0, x := 0, y := 0 } : GTerm)))))))) fun (j8 : Gl1Rd × GTerm) =>
                  (if (List.length st5.2.2.1 + List.length ([({ phis := ([] : List GPhi), insts := ([] : List GInst), term := j8.2 } : GBlock)])) * 80 ≤ 140737488355328 ∧ List.length st5.2.2.1 + List.length ([({ phis := ([] : List GPhi), insts := ([] : List GInst), term := j8.2 } : GBlock)]) ≤ LIM then
                    (if inI (st5.2.2.2 + 1) then
                      (some (Sum.inl ((j8.1.b, j8.1.p, st5.2.2.1 ++ ([({ phis := ([] : List GPhi), insts := ([] : List GInst), term := j8.2 } : GBlock)]), st5.2.2.2 + 1))))
                      else none)
                    else none))
                else
                (some (Sum.inr (((st5.1, st5.2.1, st5.2.2.1)))))) : Option (((List Int) × Int × (List GBlock) × Int) ⊕ (((List Int) × Int × (List GBlock)))))) (x1.2.b, x1.2.p, ([] : List GBlock), 0)) fun (j6 : (List Int) × Int × (List GBlock)) =>
        (Option.bind (spec_l1Rd_once_m (({ b := j6.1, p := j6.2.1 } : Gl1Rd)) 30) fun x26 =>
          (if x26.1 = true then
            (Option.bind (spec_l1Rd_off_m x26.2 0 7) fun x29 =>
              (if (0 : Int) ≤ 0 ∧ 0 < (List.length j6.2.2 : Int) then
                (some ((({ params := [], ret := 8, blocks := List.set j6.2.2 (Int.toNat 0) (({ phis := (at_ j6.2.2 0).phis, insts := (at_ j6.2.2 0).insts, term := ({ kind := ((at_ j6.2.2 0).term).kind, a := ((at_ j6.2.2 0).term).a, x := x29.1, y := ((at_ j6.2.2 0).term).y } : GTerm) } : GBlock)) } : GFunc), x29.2)))
                else none))
            else
            (some ((({ params := [], ret := 8, blocks := j6.2.2 } : GFunc), x26.2))))))
      else none))
set_option maxHeartbeats 8000000 in
set_option maxRecDepth 100000 in
theorem spec_l1Rd_graph_sim (vr : Gl1Rd) {r : GFunc × Gl1Rd} (hm : spec_l1Rd_graph_m vr = some r) : Sim Try.prog 39 [.one (.ptr () 0 0 0)] [⟨(), 2, [el1Rd false vr]⟩] (.u (.agg [.os () 1 (List.map iL r.1.params), .int .i64 r.1.ret, .os () 6 (List.map (eBlock false) r.1.blocks)])) [⟨(), 2, [el1Rd false r.2]⟩] := by
  refine sim_st (N := 52) (k0 := 1) Try.func39 rfl rfl rfl rfl (rs := [.cell 2 27]) rfl rfl rfl fun B hB0 => ?_
  unfold spec_l1Rd_graph_m at hm
  refine Wp.seq ?_
  refine c_reg (Y := sysA _) ?_
  refine n_ (x_al T27 (r := [.nl, .int .i64 0, .nl]) rfl rfl ?_)
  refine z_ ?_
  refine Wp.seq ?_
  refine c_reg (Y := sysA _) ?_
  refine n_ (x_bu (cells := [.nl, .int .i64 8, .nl]) T27 rfl rfl rfl ?_)
  refine n_ (x_al T27 (r := [.nl, .int .i64 0, .nl]) rfl rfl ?_)
  refine n_ (x_st T27 (rows := [[.nl, .int .i64 8, .nl]]) rfl rfl rfl rfl rfl rfl rfl rfl ?_)
  refine z_ ?_
  refine Wp.seq ?_
  refine c_reg (Y := sysA _) ?_
  refine n_ (x_mv rfl rfl ?_)
  obtain ⟨x1, h2, hm⟩ := of_bind hm
  refine n_ (x_cg (v := .u (.one (.int .i64 x1.1))) (nobs := []) (oa' := _) (nx' := 3) (cs := []) (obs := [⟨(), 2, [el1Rd false vr]⟩]) [0] false rfl (by decide) (h_c rfl h_n) rfl (g_1 (l := .ptr () 0 0 0) rfl rfl rfl (g_1 (l := .int .i64 7) rfl rfl rfl g_n)) rfl rfl ent76 (spec_l1Rd_below_sim vr 7 h2) (.inl rfl) rfl rfl rfl rfl ?_)
  obtain ⟨h3, hm⟩ := of_ite hm
  refine n_ (x_addc T3 rfl rfl h3 ?_)
  refine n_ (x_as rfl rfl ?_)
  refine z_ ?_
  refine Wp.seq ?_
  refine Wp.seq ?_
  refine c_reg (Y := sysA _) ?_
  refine n_ (x_as rfl rfl ?_)
  refine z_ ?_
  refine Wp.block ?_
  refine Wp.ghb _ (f_nlc (rows' := [[.nl, .int .i64 8, .ref () 3 0 (List.length ([] : List GBlock))]]) 2 0 2 6 rfl rfl rfl rfl) ?_
  obtain ⟨j6, hl25, hm⟩ := of_bind hm
  refine c_loop hl25 (fun (st5 : (List Int) × Int × (List GBlock) × Int) => St 52 [(0, .u (.one (.ptr () 0 0 0))), (2, .u (.one (.ptr () 1 0 0))), (3, .u (.one (.ptr () 2 0 0))), (4, .u (.one (.int .i64 (1 + x1.1)))), (5, .u (.one (.int .i64 st5.2.2.2)))] [(0, some ⟨(), 2, [[.bs () 1 (List.map (iK .u8) st5.1), .int .i64 st5.2.1]]⟩), (1, some ⟨(), 3, [[.nl, .int .i64 0, .nl]]⟩), (2, some ⟨(), 3, [[.nl, .int .i64 8, .ref () 3 0 (List.length st5.2.2.1)]]⟩), (3, some ⟨(), 6, List.map (eBlock false) st5.2.2.1⟩)] 4) (fun (j6 : (List Int) × Int × (List GBlock)) => (.exit 0, St 52 [(0, .u (.one (.ptr () 0 0 0))), (2, .u (.one (.ptr () 1 0 0))), (3, .u (.one (.ptr () 2 0 0)))] [(0, some ⟨(), 2, [[.bs () 1 (List.map (iK .u8) j6.1), .int .i64 j6.2.1]]⟩), (1, some ⟨(), 3, [[.nl, .int .i64 0, .nl]]⟩), (2, some ⟨(), 3, [[.nl, .int .i64 8, .ref () 3 0 (List.length j6.2.2)]]⟩), (3, some ⟨(), 6, List.map (eBlock false) j6.2.2⟩)] 4)) (w_ [0, 1, 2, 3] (.cons rfl rfl (.cons rfl rfl (.cons rfl rfl (.cons rfl rfl (.cons rfl rfl .nil))))) (.lit rfl rfl (.lit rfl rfl (.lit rfl rfl (.map rfl .nil)))) (by decide) (hB_n 1 hB0 rfl)) ?_ (by intro y; simp) ?_
  · intro st5 x hm
    refine Wp.seq ?_
    refine Wp.seq ?_
    refine c_reg (Y := sysA _) ?_
    refine n_ (x_mv rfl rfl ?_)
    refine n_ (x_mv rfl rfl ?_)
    refine n_ (x_bin T3 rfl rfl rfl ?_)
    refine z_ ?_
    refine c_s rfl rfl (fun hb7 => ?_) (fun hb7 => ?_)
    · rw [if_pos (show _ = true from hb7)] at hm
      refine c_skip ?_
      refine Wp.seq ?_
      refine Wp.block ?_
      refine Wp.seq ?_
      refine c_reg (Y := sysA _) ?_
      refine n_ (x_bu (cells := (eTerm (({ kind := 4, a := 0, x := 0, y := 0 } : GTerm)))) T59 rfl rfl rfl ?_)
      refine n_ (x_al T59 (r := [.int .i64 0, .int .i64 0, .int .i64 0, .int .i64 0]) rfl rfl ?_)
      refine n_ (x_st T59 (rows := [(eTerm (({ kind := 4, a := 0, x := 0, y := 0 } : GTerm)))]) rfl rfl rfl rfl rfl rfl rfl rfl ?_)
      refine z_ ?_
      refine Wp.seq ?_
      obtain ⟨j8, hj21, hm⟩ := of_bind hm
      refine c_cut (St 52 [(0, .u (.one (.ptr () 0 0 0))), (2, .u (.one (.ptr () 1 0 0))), (3, .u (.one (.ptr () 2 0 0))), (4, .u (.one (.int .i64 (1 + x1.1)))), (5, .u (.one (.int .i64 st5.2.2.2))), (6, .u (.one (.ptr () 4 0 0)))] [(0, some ⟨(), 2, [(el1Rd false j8.1)]⟩), (1, some ⟨(), 3, [[.nl, .int .i64 0, .nl]]⟩), (2, some ⟨(), 3, [[.nl, .int .i64 8, .ref () 3 0 (List.length st5.2.2.1)]]⟩), (3, some ⟨(), 6, List.map (eBlock false) st5.2.2.1⟩), (4, some ⟨(), 4, [(eTerm j8.2)]⟩)] 5) ?_ ?_
      · replace hm := hj21
        refine Wp.seq ?_
        refine c_reg (Y := sysA _) ?_
        refine n_ (x_mv rfl rfl ?_)
        obtain ⟨x9, h10, hm⟩ := of_bind hm
        refine n_ (x_cg (v := .u (.one (.int .i64 x9.1))) (nobs := []) (oa' := _) (nx' := 5) (cs := []) (obs := [⟨(), 2, [el1Rd false (({ b := st5.1, p := st5.2.1 } : Gl1Rd))]⟩]) [0] false rfl (by decide) (h_c rfl h_n) rfl (g_1 (l := .ptr () 0 0 0) rfl rfl rfl (g_1 (l := .int .i64 4) rfl rfl rfl g_n)) rfl rfl ent76 (spec_l1Rd_below_sim (({ b := st5.1, p := st5.2.1 } : Gl1Rd)) 4 h10) (.inl rfl) rfl rfl rfl rfl ?_)
        refine z_ ?_
        refine Wp.block ?_
        refine Wp.seq ?_
        refine c_cut (St 52 [(0, .u (.one (.ptr () 0 0 0))), (2, .u (.one (.ptr () 1 0 0))), (3, .u (.one (.ptr () 2 0 0))), (4, .u (.one (.int .i64 (1 + x1.1)))), (5, .u (.one (.int .i64 st5.2.2.2))), (6, .u (.one (.ptr () 4 0 0))), (18, .u (.one (.int .i64 x9.1))), (19, .u (.one (.bool (((x9.1 == 0) || (x9.1 == 1))))))] [(0, some ⟨(), 2, [(el1Rd false x9.2)]⟩), (1, some ⟨(), 3, [[.nl, .int .i64 0, .nl]]⟩), (2, some ⟨(), 3, [[.nl, .int .i64 8, .ref () 3 0 (List.length st5.2.2.1)]]⟩), (3, some ⟨(), 6, List.map (eBlock false) st5.2.2.1⟩), (4, some ⟨(), 4, [(eTerm (({ kind := 4, a := 0, x := 0, y := 0 } : GTerm)))]⟩)] 5) ?_ ?_
        · refine Wp.seq ?_
          refine c_reg (Y := sysA _) ?_
          refine n_ (x_bin T3 rfl rfl rfl ?_)
          refine n_ (x_as rfl rfl ?_)
          refine z_ ?_
          refine c_s rfl rfl (fun hb12 => ?_) (fun hb12 => ?_)
          · refine c_skip ?_
            exact w_ [0, 1, 2, 3, 4] (.cons rfl rfl (.cons rfl rfl (.cons rfl rfl (.cons rfl rfl (.cons rfl rfl (.cons rfl rfl (.cons rfl rfl (.cons (by simp only [hb12, eq_self, if_true, Bool.false_eq_true, if_false, Bool.true_or, Bool.false_or, Bool.true_and, Bool.false_and, Bool.not_true, Bool.not_false]; rfl) rfl .nil)))))))) (.lit rfl rfl (.lit rfl rfl (.lit rfl rfl (.map rfl (.lit rfl rfl .nil))))) (by decide) (hB_n 1 hB0 rfl)
          · refine c_reg (Y := sysA _) ?_
            refine n_ (x_bin T3 rfl rfl rfl ?_)
            refine n_ (x_as rfl rfl ?_)
            refine z_ ?_
            exact w_ [0, 1, 2, 3, 4] (.cons rfl rfl (.cons rfl rfl (.cons rfl rfl (.cons rfl rfl (.cons rfl rfl (.cons rfl rfl (.cons rfl rfl (.cons (by simp only [hb12, eq_self, if_true, Bool.false_eq_true, if_false, Bool.true_or, Bool.false_or, Bool.true_and, Bool.false_and, Bool.not_true, Bool.not_false]; rfl) rfl .nil)))))))) (.lit rfl rfl (.lit rfl rfl (.lit rfl rfl (.map rfl (.lit rfl rfl .nil))))) (by decide) (hB_n 1 hB0 rfl)
        · refine c_s rfl rfl (fun hb13 => ?_) (fun hb13 => ?_)
          · rw [if_pos (show _ = true from hb13)] at hm
            refine c_reg (Y := sysA _) ?_
            refine n_ (x_mv rfl rfl ?_)
            refine n_ (x_mv rfl rfl ?_)
            obtain ⟨x14, h15, hm⟩ := of_bind hm
            refine n_ (x_cg (v := .u (.one (.int .i64 x14.1))) (nobs := []) (oa' := _) (nx' := 5) (cs := []) (obs := [⟨(), 2, [el1Rd false x9.2]⟩]) [0] false rfl (by decide) (h_c rfl h_n) rfl (g_1 (l := .ptr () 0 0 0) rfl rfl rfl (g_1 (l := .int .i64 (1 + x1.1)) rfl rfl rfl g_n)) rfl rfl ent76 (spec_l1Rd_below_sim x9.2 (1 + x1.1) h15) (.inl rfl) rfl rfl rfl rfl ?_)
            refine n_ (x_mv rfl rfl ?_)
            refine n_ (x_mv rfl rfl ?_)
            obtain ⟨x16, h17, hm⟩ := of_bind hm
            refine n_ (x_cg (v := .u (.one (.int .i64 x16.1))) (nobs := []) (oa' := _) (nx' := 5) (cs := []) (obs := [⟨(), 2, [el1Rd false x14.2]⟩]) [0] false rfl (by decide) (h_c rfl h_n) rfl (g_1 (l := .ptr () 0 0 0) rfl rfl rfl (g_1 (l := .int .i64 (1 + x1.1)) rfl rfl rfl g_n)) rfl rfl ent76 (spec_l1Rd_below_sim x14.2 (1 + x1.1) h17) (.inl rfl) rfl rfl rfl rfl ?_)
            refine n_ (x_bu (cells := (eTerm (({ kind := 3, a := 0, x := x14.1, y := x16.1 } : GTerm)))) T59 rfl rfl rfl ?_)
            refine n_ (x_st T59 (rows := [(eTerm (({ kind := 3, a := 0, x := x14.1, y := x16.1 } : GTerm)))]) rfl rfl rfl rfl rfl rfl rfl rfl ?_)
            refine z_ ?_
            cases hm
            exact w_ [0, 1, 2, 3, 4] (.cons rfl rfl (.cons rfl rfl (.cons rfl rfl (.cons rfl rfl (.cons rfl rfl (.cons rfl rfl .nil)))))) (.lit rfl rfl (.lit rfl rfl (.lit rfl rfl (.map rfl (.lit rfl rfl .nil))))) (by decide) (hB_n 1 hB0 rfl)
          · rw [if_neg (by rw [hb13]; decide)] at hm
            refine Wp.seq ?_
            refine c_reg (Y := sysA _) ?_
            refine n_ (x_bin T3 rfl rfl rfl ?_)
            refine n_ (x_as rfl rfl ?_)
            refine z_ ?_
            refine c_s rfl rfl (fun hb18 => ?_) (fun hb18 => ?_)
            · rw [if_pos (show _ = true from hb18)] at hm
              refine c_reg (Y := sysA _) ?_
              refine n_ (x_mv rfl rfl ?_)
              refine n_ (x_mv rfl rfl ?_)
              obtain ⟨x19, h20, hm⟩ := of_bind hm
              refine n_ (x_cg (v := .u (.one (.int .i64 x19.1))) (nobs := []) (oa' := _) (nx' := 5) (cs := []) (obs := [⟨(), 2, [el1Rd false x9.2]⟩]) [0] false rfl (by decide) (h_c rfl h_n) rfl (g_1 (l := .ptr () 0 0 0) rfl rfl rfl (g_1 (l := .int .i64 (1 + x1.1)) rfl rfl rfl g_n)) rfl rfl ent76 (spec_l1Rd_below_sim x9.2 (1 + x1.1) h20) (.inl rfl) rfl rfl rfl rfl ?_)
              refine n_ (x_bu (cells := (eTerm (({ kind := 2, a := 0, x := x19.1, y := 0 } : GTerm)))) T59 rfl rfl rfl ?_)
              refine n_ (x_st T59 (rows := [(eTerm (({ kind := 2, a := 0, x := x19.1, y := 0 } : GTerm)))]) rfl rfl rfl rfl rfl rfl rfl rfl ?_)
              refine z_ ?_
              cases hm
              exact w_ [0, 1, 2, 3, 4] (.cons rfl rfl (.cons rfl rfl (.cons rfl rfl (.cons rfl rfl (.cons rfl rfl (.cons rfl rfl .nil)))))) (.lit rfl rfl (.lit rfl rfl (.lit rfl rfl (.map rfl (.lit rfl rfl .nil))))) (by decide) (hB_n 1 hB0 rfl)
            · rw [if_neg (by rw [hb18]; decide)] at hm
              refine c_skip ?_
              cases hm
              exact w_ [0, 1, 2, 3, 4] (.cons rfl rfl (.cons rfl rfl (.cons rfl rfl (.cons rfl rfl (.cons rfl rfl (.cons rfl rfl .nil)))))) (.lit rfl rfl (.lit rfl rfl (.lit rfl rfl (.map rfl (.lit rfl rfl .nil))))) (by decide) (hB_n 1 hB0 rfl)
      · refine c_regS ?_
        refine o_run (Y := sysA _) 4 ?_
        refine n_ (x_fap rfl F27_2 rfl rfl ?_)
        refine n_ (x_ldp rfl T25 rfl rfl rfl rfl rfl ?_)
        refine n_ (x_ldp rfl T59 rfl rfl rfl (pk_all rfl rfl) rfl ?_)
        refine n_ (x_bu (cells := [.nl, .nl, .int .i64 j8.2.kind, .int .i64 j8.2.a, .int .i64 j8.2.x, .int .i64 j8.2.y]) T61 rfl rfl rfl ?_)
        refine z_ ?_
        refine WpO.ghb (f_nb (u' := .agg [.bs () 2 (List.map (ePhi false) (([] : List GPhi))), .nl, .int .i64 j8.2.kind, .int .i64 j8.2.a, .int .i64 j8.2.x, .int .i64 j8.2.y]) 38 0 2 rfl rfl rfl rfl) ?_
        refine WpO.ghb (f_nb (u' := .agg [.bs () 2 (List.map (ePhi false) (([] : List GPhi))), .bs () 7 (List.map (eInst false) (([] : List GInst))), .int .i64 j8.2.kind, .int .i64 j8.2.a, .int .i64 j8.2.x, .int .i64 j8.2.y]) 38 1 7 rfl rfl rfl rfl) ?_
        refine o_run (Y := sysA _) 4 ?_
        refine n_ (x_bsm (enc := eBlock false) ([({ phis := ([] : List GPhi), insts := ([] : List GInst), term := j8.2 } : GBlock)]) A25 rfl rfl rfl rfl ?_)
        obtain ⟨h22, hm⟩ := of_ite hm
        refine n_ (x_apr (enc := eBlock false) (xs := st5.2.2.1) (ys := [({ phis := ([] : List GPhi), insts := ([] : List GInst), term := j8.2 } : GBlock)]) A25 N25 (encB_N _) rfl rfl rfl (argR_r rfl) h22 ?_)
        refine n_ (x_fap rfl F27_2 rfl rfl ?_)
        refine n_ (x_st T25 (rows := [[.nl, .int .i64 8, .ref () 6 0 (List.length (st5.2.2.1 ++ ([({ phis := ([] : List GPhi), insts := ([] : List GInst), term := j8.2 } : GBlock)])))]]) rfl rfl rfl rfl rfl rfl rfl rfl ?_)
        refine z_ ?_
        refine o_end ?_
        refine c_reg (Y := sysA _) ?_
        refine n_ (x_mv rfl rfl ?_)
        obtain ⟨h23, hm⟩ := of_ite hm
        refine n_ (x_addc T3 rfl rfl h23 ?_)
        refine n_ (x_as rfl rfl ?_)
        refine z_ ?_
        cases hm
        exact ⟨rfl, w_ [0, 1, 2, 6] (.cons rfl rfl (.cons rfl rfl (.cons rfl rfl (.cons rfl rfl (.cons rfl rfl .nil))))) (.lit rfl rfl (.lit rfl rfl (.lit rfl rfl (.map rfl .nil)))) (by decide) (hB_n 1 hB0 rfl)⟩
    · rw [if_neg (by rw [hb7]; decide)] at hm
      refine c_exit ?_
      cases hm
      exact ⟨rfl, w_ [0, 1, 2, 3] (.cons rfl rfl (.cons rfl rfl (.cons rfl rfl .nil))) (.lit rfl rfl (.lit rfl rfl (.lit rfl rfl (.map rfl .nil)))) (by decide) (hB_n 1 hB0 rfl)⟩
  · refine Wp.seq ?_
    refine Wp.seq ?_
    refine c_reg (Y := sysA _) ?_
    refine n_ (x_mv rfl rfl ?_)
    obtain ⟨x26, h27, hm⟩ := of_bind hm
    refine n_ (x_cg (v := .u (.one (.bool x26.1))) (nobs := []) (oa' := _) (nx' := 4) (cs := []) (obs := [⟨(), 2, [el1Rd false (({ b := j6.1, p := j6.2.1 } : Gl1Rd))]⟩]) [0] false rfl (by decide) (h_c rfl h_n) rfl (g_1 (l := .ptr () 0 0 0) rfl rfl rfl (g_1 (l := .int .i64 30) rfl rfl rfl g_n)) rfl rfl ent77 (spec_l1Rd_once_sim (({ b := j6.1, p := j6.2.1 } : Gl1Rd)) 30 h27) (.inl rfl) rfl rfl rfl rfl ?_)
    refine z_ ?_
    refine c_s rfl rfl (fun hb28 => ?_) (fun hb28 => ?_)
    · rw [if_pos (show _ = true from hb28)] at hm
      refine c_drw (Y := sysG _) mixed ?_
      refine t_ 2 0 rfl (by decide +kernel) (x_mv rfl rfl ?_)
      refine t_2 0 3 rfl rfl (by decide +kernel) ?_ ?_
      · refine (x_fap rfl F27_2 rfl rfl ?_)
        refine t_2 1 3 rfl rfl (by decide +kernel) ?_ ?_
        · refine (x_ldp rfl T25 rfl rfl rfl rfl rfl ?_)
          obtain ⟨x29, h30, hm⟩ := of_bind hm
          refine o_ 3 rfl (by decide +kernel) (x_cgG (v := .u (.one (.int .i64 x29.1))) (nobs := []) (oa' := _) (nx' := 4) (cs := []) (obs := [⟨(), 2, [el1Rd false x26.2]⟩]) [0] false rfl (by decide) (h_c rfl h_n) rfl (g_1 (l := .ptr () 0 0 0) rfl rfl rfl (g_1 (l := .int .i64 0) rfl rfl rfl (g_1 (l := .int .i64 7) rfl rfl rfl g_n))) rfl rfl ent78 (spec_l1Rd_off_sim x26.2 0 7 h30) (.inl rfl) rfl rfl rfl rfl ?_)
          obtain ⟨h31, hm⟩ := of_ite hm
          refine o_ 4 rfl (by decide +kernel) (x_ix0 rfl E25 rfl rfl rfl h31 ?_)
          refine o_ 5 rfl (by decide +kernel) (x_fap rfl F61_2 rfl rfl ?_)
          refine t_ 6 1 rfl (by decide +kernel) (x_fap rfl F59_2 rfl rfl ?_)
          refine o_ 7 rfl (by decide +kernel) (x_stn (({ phis := (at_ j6.2.2 0).phis, insts := (at_ j6.2.2 0).insts, term := ({ kind := ((at_ j6.2.2 0).term).kind, a := ((at_ j6.2.2 0).term).a, x := x29.1, y := ((at_ j6.2.2 0).term).y } : GTerm) } : GBlock)) T2 rfl rfl rfl h31 rfl rfl rfl rfl ?_)
          refine a_nil (by decide +kernel) ?_
          refine Wp.seq ?_
          refine c_reg (Y := sysA _) ?_
          refine n_ (x_ldp rfl T27 rfl rfl rfl (pk_all rfl rfl) rfl ?_)
          refine n_ (x_st T27 (rows := [[.nl, .int .i64 8, .ref () 3 0 (List.length j6.2.2)]]) rfl rfl rfl rfl rfl rfl rfl rfl ?_)
          refine z_ ?_
          refine c_ret ?_
          rw [← Option.some.inj hm]
          exact retG (us' := [.agg [.os () 1 (List.map iL ((({ params := [], ret := 8, blocks := List.set j6.2.2 (Int.toNat 0) (({ phis := (at_ j6.2.2 0).phis, insts := (at_ j6.2.2 0).insts, term := ({ kind := ((at_ j6.2.2 0).term).kind, a := ((at_ j6.2.2 0).term).a, x := x29.1, y := ((at_ j6.2.2 0).term).y } : GTerm) } : GBlock)) } : GFunc)).params)), .int .i64 ((({ params := [], ret := 8, blocks := List.set j6.2.2 (Int.toNat 0) (({ phis := (at_ j6.2.2 0).phis, insts := (at_ j6.2.2 0).insts, term := ({ kind := ((at_ j6.2.2 0).term).kind, a := ((at_ j6.2.2 0).term).a, x := x29.1, y := ((at_ j6.2.2 0).term).y } : GTerm) } : GBlock)) } : GFunc)).ret), .os () 6 (List.map (eBlock false) ((({ params := [], ret := 8, blocks := List.set j6.2.2 (Int.toNat 0) (({ phis := (at_ j6.2.2 0).phis, insts := (at_ j6.2.2 0).insts, term := ({ kind := ((at_ j6.2.2 0).term).kind, a := ((at_ j6.2.2 0).term).a, x := x29.1, y := ((at_ j6.2.2 0).term).y } : GTerm) } : GBlock)) } : GFunc)).blocks))]]) (obs' := [⟨(), 2, [el1Rd false x29.2]⟩]) rfl (r_cell rfl T27 rfl rfl rfl (pk_all rfl rfl) rfl r_nil) ((f_nl 0 0 1 true rfl rfl rfl).trans ((f_foldl 0 2 rfl rfl rfl (by simp) rfl).trans (f_end [0] rfl (h_c rfl h_n) (by decide) rfl rfl hB0 rfl rfl))) rfl rfl rfl rfl rfl
        · obtain ⟨x29, h30, hm⟩ := of_bind hm
          refine (x_cgG (v := .u (.one (.int .i64 x29.1))) (nobs := []) (oa' := _) (nx' := 4) (cs := []) (obs := [⟨(), 2, [el1Rd false x26.2]⟩]) [0] false rfl (by decide) (h_c rfl h_n) rfl (g_1 (l := .ptr () 0 0 0) rfl rfl rfl (g_1 (l := .int .i64 0) rfl rfl rfl (g_1 (l := .int .i64 7) rfl rfl rfl g_n))) rfl rfl ent78 (spec_l1Rd_off_sim x26.2 0 7 h30) (.inl rfl) rfl rfl rfl rfl ?_)
          refine t_ 1 1 rfl (by decide +kernel) (x_ldp rfl T25 rfl rfl rfl rfl rfl ?_)
          obtain ⟨h31, hm⟩ := of_ite hm
          refine o_ 4 rfl (by decide +kernel) (x_ix0 rfl E25 rfl rfl rfl h31 ?_)
          refine o_ 5 rfl (by decide +kernel) (x_fap rfl F61_2 rfl rfl ?_)
          refine t_ 6 1 rfl (by decide +kernel) (x_fap rfl F59_2 rfl rfl ?_)
          refine o_ 7 rfl (by decide +kernel) (x_stn (({ phis := (at_ j6.2.2 0).phis, insts := (at_ j6.2.2 0).insts, term := ({ kind := ((at_ j6.2.2 0).term).kind, a := ((at_ j6.2.2 0).term).a, x := x29.1, y := ((at_ j6.2.2 0).term).y } : GTerm) } : GBlock)) T2 rfl rfl rfl h31 rfl rfl rfl rfl ?_)
          refine a_nil (by decide +kernel) ?_
          refine Wp.seq ?_
          refine c_reg (Y := sysA _) ?_
          refine n_ (x_ldp rfl T27 rfl rfl rfl (pk_all rfl rfl) rfl ?_)
          refine n_ (x_st T27 (rows := [[.nl, .int .i64 8, .ref () 3 0 (List.length j6.2.2)]]) rfl rfl rfl rfl rfl rfl rfl rfl ?_)
          refine z_ ?_
          refine c_ret ?_
          rw [← Option.some.inj hm]
          exact retG (us' := [.agg [.os () 1 (List.map iL ((({ params := [], ret := 8, blocks := List.set j6.2.2 (Int.toNat 0) (({ phis := (at_ j6.2.2 0).phis, insts := (at_ j6.2.2 0).insts, term := ({ kind := ((at_ j6.2.2 0).term).kind, a := ((at_ j6.2.2 0).term).a, x := x29.1, y := ((at_ j6.2.2 0).term).y } : GTerm) } : GBlock)) } : GFunc)).params)), .int .i64 ((({ params := [], ret := 8, blocks := List.set j6.2.2 (Int.toNat 0) (({ phis := (at_ j6.2.2 0).phis, insts := (at_ j6.2.2 0).insts, term := ({ kind := ((at_ j6.2.2 0).term).kind, a := ((at_ j6.2.2 0).term).a, x := x29.1, y := ((at_ j6.2.2 0).term).y } : GTerm) } : GBlock)) } : GFunc)).ret), .os () 6 (List.map (eBlock false) ((({ params := [], ret := 8, blocks := List.set j6.2.2 (Int.toNat 0) (({ phis := (at_ j6.2.2 0).phis, insts := (at_ j6.2.2 0).insts, term := ({ kind := ((at_ j6.2.2 0).term).kind, a := ((at_ j6.2.2 0).term).a, x := x29.1, y := ((at_ j6.2.2 0).term).y } : GTerm) } : GBlock)) } : GFunc)).blocks))]]) (obs' := [⟨(), 2, [el1Rd false x29.2]⟩]) rfl (r_cell rfl T27 rfl rfl rfl (pk_all rfl rfl) rfl r_nil) ((f_nl 0 0 1 true rfl rfl rfl).trans ((f_foldl 0 2 rfl rfl rfl (by simp) rfl).trans (f_end [0] rfl (h_c rfl h_n) (by decide) rfl rfl hB0 rfl rfl))) rfl rfl rfl rfl rfl
      · obtain ⟨x29, h30, hm⟩ := of_bind hm
        refine (x_cgG (v := .u (.one (.int .i64 x29.1))) (nobs := []) (oa' := _) (nx' := 4) (cs := []) (obs := [⟨(), 2, [el1Rd false x26.2]⟩]) [0] false rfl (by decide) (h_c rfl h_n) rfl (g_1 (l := .ptr () 0 0 0) rfl rfl rfl (g_1 (l := .int .i64 0) rfl rfl rfl (g_1 (l := .int .i64 7) rfl rfl rfl g_n))) rfl rfl ent78 (spec_l1Rd_off_sim x26.2 0 7 h30) (.inl rfl) rfl rfl rfl rfl ?_)
        refine t_ 0 1 rfl (by decide +kernel) (x_fap rfl F27_2 rfl rfl ?_)
        refine t_ 1 1 rfl (by decide +kernel) (x_ldp rfl T25 rfl rfl rfl rfl rfl ?_)
        obtain ⟨h31, hm⟩ := of_ite hm
        refine o_ 4 rfl (by decide +kernel) (x_ix0 rfl E25 rfl rfl rfl h31 ?_)
        refine o_ 5 rfl (by decide +kernel) (x_fap rfl F61_2 rfl rfl ?_)
        refine t_ 6 1 rfl (by decide +kernel) (x_fap rfl F59_2 rfl rfl ?_)
        refine o_ 7 rfl (by decide +kernel) (x_stn (({ phis := (at_ j6.2.2 0).phis, insts := (at_ j6.2.2 0).insts, term := ({ kind := ((at_ j6.2.2 0).term).kind, a := ((at_ j6.2.2 0).term).a, x := x29.1, y := ((at_ j6.2.2 0).term).y } : GTerm) } : GBlock)) T2 rfl rfl rfl h31 rfl rfl rfl rfl ?_)
        refine a_nil (by decide +kernel) ?_
        refine Wp.seq ?_
        refine c_reg (Y := sysA _) ?_
        refine n_ (x_ldp rfl T27 rfl rfl rfl (pk_all rfl rfl) rfl ?_)
        refine n_ (x_st T27 (rows := [[.nl, .int .i64 8, .ref () 3 0 (List.length j6.2.2)]]) rfl rfl rfl rfl rfl rfl rfl rfl ?_)
        refine z_ ?_
        refine c_ret ?_
        rw [← Option.some.inj hm]
        exact retG (us' := [.agg [.os () 1 (List.map iL ((({ params := [], ret := 8, blocks := List.set j6.2.2 (Int.toNat 0) (({ phis := (at_ j6.2.2 0).phis, insts := (at_ j6.2.2 0).insts, term := ({ kind := ((at_ j6.2.2 0).term).kind, a := ((at_ j6.2.2 0).term).a, x := x29.1, y := ((at_ j6.2.2 0).term).y } : GTerm) } : GBlock)) } : GFunc)).params)), .int .i64 ((({ params := [], ret := 8, blocks := List.set j6.2.2 (Int.toNat 0) (({ phis := (at_ j6.2.2 0).phis, insts := (at_ j6.2.2 0).insts, term := ({ kind := ((at_ j6.2.2 0).term).kind, a := ((at_ j6.2.2 0).term).a, x := x29.1, y := ((at_ j6.2.2 0).term).y } : GTerm) } : GBlock)) } : GFunc)).ret), .os () 6 (List.map (eBlock false) ((({ params := [], ret := 8, blocks := List.set j6.2.2 (Int.toNat 0) (({ phis := (at_ j6.2.2 0).phis, insts := (at_ j6.2.2 0).insts, term := ({ kind := ((at_ j6.2.2 0).term).kind, a := ((at_ j6.2.2 0).term).a, x := x29.1, y := ((at_ j6.2.2 0).term).y } : GTerm) } : GBlock)) } : GFunc)).blocks))]]) (obs' := [⟨(), 2, [el1Rd false x29.2]⟩]) rfl (r_cell rfl T27 rfl rfl rfl (pk_all rfl rfl) rfl r_nil) ((f_nl 0 0 1 true rfl rfl rfl).trans ((f_foldl 0 2 rfl rfl rfl (by simp) rfl).trans (f_end [0] rfl (h_c rfl h_n) (by decide) rfl rfl hB0 rfl rfl))) rfl rfl rfl rfl rfl
    · rw [if_neg (by rw [hb28]; decide)] at hm
      refine c_skip ?_
      refine Wp.seq ?_
      refine c_reg (Y := sysA _) ?_
      refine n_ (x_ldp rfl T27 rfl rfl rfl (pk_all rfl rfl) rfl ?_)
      refine n_ (x_st T27 (rows := [[.nl, .int .i64 8, .ref () 3 0 (List.length j6.2.2)]]) rfl rfl rfl rfl rfl rfl rfl rfl ?_)
      refine z_ ?_
      refine c_ret ?_
      rw [← Option.some.inj hm]
      exact retG (us' := [.agg [.os () 1 (List.map iL ((({ params := [], ret := 8, blocks := j6.2.2 } : GFunc)).params)), .int .i64 ((({ params := [], ret := 8, blocks := j6.2.2 } : GFunc)).ret), .os () 6 (List.map (eBlock false) ((({ params := [], ret := 8, blocks := j6.2.2 } : GFunc)).blocks))]]) (obs' := [⟨(), 2, [el1Rd false x26.2]⟩]) rfl (r_cell rfl T27 rfl rfl rfl (pk_all rfl rfl) rfl r_nil) ((f_nl 0 0 1 true rfl rfl rfl).trans ((f_fold 0 2 rfl rfl rfl rfl).trans (f_end [0] rfl (h_c rfl h_n) (by decide) rfl rfl hB0 rfl rfl))) rfl rfl rfl rfl rfl

/-- spec.DrawReached -/
noncomputable def spec_DrawReached_m (code : List Int) : Option GFunc :=
  (Option.bind (spec_l1Rd_graph_m ((spec_l1Open_m code))) fun x1 =>
    (some (({ params := x1.1.params, ret := x1.1.ret, blocks := x1.1.blocks } : GFunc))))
set_option maxHeartbeats 8000000 in
set_option maxRecDepth 100000 in
theorem spec_DrawReached_sim (code : List Int) {r : GFunc} (hm : spec_DrawReached_m code = some r) : Sim Try.prog 9 [.one (.bs () 1 (List.map (iK .u8) code))] [] (.u (.agg [.os () 1 (List.map iL r.params), .int .i64 r.ret, .os () 6 (List.map (eBlock false) r.blocks)])) [] := by
  refine sim_st (N := 8) (k0 := 0) Try.func9 rfl rfl rfl rfl (rs := [.cell 2 27]) rfl rfl rfl fun B hB0 => ?_
  unfold spec_DrawReached_m at hm
  refine Wp.seq ?_
  refine c_reg (Y := sysA _) ?_
  refine n_ (x_al T27 (r := [.nl, .int .i64 0, .nl]) rfl rfl ?_)
  refine z_ ?_
  refine Wp.seq ?_
  refine c_reg (Y := sysA _) ?_
  refine n_ (x_mv rfl rfl ?_)
  refine n_ (x_cg (v := .u (.one (.ptr () 1 0 0))) (nobs := []) (oa' := _) (nx' := 2) (cs := []) (obs := []) [] false rfl (by decide) h_n rfl (g_1 (l := .bs () 1 (List.map (iK .u8) code)) rfl rfl rfl g_n) rfl rfl ent38 (spec_l1Open_sim code) (.inl rfl) rfl rfl rfl rfl ?_)
  refine n_ (x_as rfl rfl ?_)
  refine z_ ?_
  refine Wp.seq ?_
  refine c_reg (Y := sysA _) ?_
  refine n_ (x_mv rfl rfl ?_)
  obtain ⟨x1, h2, hm⟩ := of_bind hm
  refine n_ (x_cg (v := .u (.agg [.ref () 2 0 (List.length x1.1.params), .int .i64 x1.1.ret, .ref () 3 0 (List.length x1.1.blocks)])) (nobs := [(2, ⟨(), 1, List.map iL x1.1.params⟩), (3, ⟨(), 6, List.map (eBlock false) x1.1.blocks⟩)]) (oa' := _) (nx' := 4) (cs := []) (obs := [⟨(), 2, [el1Rd false ((spec_l1Open_m code))]⟩]) [1] false rfl (by decide) (h_c rfl h_n) rfl (g_1 (l := .ptr () 0 0 0) rfl rfl rfl g_n) rfl rfl ent39 (spec_l1Rd_graph_sim ((spec_l1Open_m code)) h2) (.inl rfl) rfl (by simp only [renV, renU, renL, List.map_cons, List.map_nil, rootV, rootU, rootLs, rootUs, eBlock, eFunc, eInst, ePhi, eTerm, sl, List.length_map] <;> rfl) rfl rfl ?_)
  refine n_ (x_st T27 (rows := [[.ref () 2 0 (List.length x1.1.params), .int .i64 x1.1.ret, .ref () 3 0 (List.length x1.1.blocks)]]) rfl rfl rfl rfl rfl rfl rfl rfl ?_)
  refine z_ ?_
  refine c_ret ?_
  rw [← Option.some.inj hm]
  exact ret0 (us' := [.agg [.os () 1 (List.map iL ((({ params := x1.1.params, ret := x1.1.ret, blocks := x1.1.blocks } : GFunc)).params)), .int .i64 ((({ params := x1.1.params, ret := x1.1.ret, blocks := x1.1.blocks } : GFunc)).ret), .os () 6 (List.map (eBlock false) ((({ params := x1.1.params, ret := x1.1.ret, blocks := x1.1.blocks } : GFunc)).blocks))]]) rfl (r_cell rfl T27 rfl rfl rfl (pk_all rfl rfl) rfl r_nil) ((f_fold 0 0 rfl rfl rfl rfl).trans ((f_fold 0 2 rfl rfl rfl rfl).trans f_done)) rfl rfl

/-- impl.within -/
noncomputable def impl_within_m (n : Int) (low : Int) (high : Int) : Bool :=
  ((decide (n ≥ low) && decide (n ≤ high)))
set_option maxHeartbeats 8000000 in
set_option maxRecDepth 100000 in
theorem impl_within_sim (n : Int) (low : Int) (high : Int) : Sim Try.prog 54 [.one (.int .i64 n), .one (.int .i64 low), .one (.int .i64 high)] [] (.u (.one (.bool ((impl_within_m n low high))))) [] := by
  obtain ⟨r, hm⟩ : ∃ r, impl_within_m n low high = r := ⟨_, rfl⟩
  rw [hm]
  refine sim_st (N := 15) (k0 := 0) Try.func54 rfl rfl rfl rfl (rs := [.tmp 6]) rfl rfl rfl fun B hB0 => ?_
  unfold impl_within_m at hm
  refine Wp.seq ?_
  refine c_reg (Y := sysA _) ?_
  refine n_ (x_as rfl rfl ?_)
  refine z_ ?_
  refine Wp.seq ?_
  refine c_cut (St 15 [(6, .u (.one (.bool ((decide (n ≥ low) && decide (n ≤ high))))))] [] 0) ?_ ?_
  · refine c_reg (Y := sysA _) ?_
    refine n_ (x_mv rfl rfl ?_)
    refine n_ (x_mv rfl rfl ?_)
    refine n_ (x_bin T2 rfl rfl rfl ?_)
    refine n_ (x_mv rfl rfl ?_)
    refine g_s rfl rfl rfl (fun hb2 => ?_) (fun hb2 => ?_)
    · refine g_t rfl rfl rfl ?_
      refine n_ (x_mv rfl rfl ?_)
      refine g_t rfl rfl rfl ?_
      refine n_ (x_mv rfl rfl ?_)
      refine g_t rfl rfl rfl ?_
      refine n_ (x_bin T2 rfl rfl rfl ?_)
      refine n_ (x_pk rfl rfl rfl ?_)
      refine n_ (x_as rfl rfl ?_)
      refine z_ ?_
      exact w_ [] (.cons (by simp only [hb2, eq_self, if_true, Bool.false_eq_true, if_false, Bool.true_or, Bool.false_or, Bool.true_and, Bool.false_and, Bool.not_true, Bool.not_false]; rfl) rfl .nil) .nil (by decide) (hB_0 hB0)
    · refine g_f rfl rfl rfl ?_
      refine g_f rfl rfl rfl ?_
      refine g_f rfl rfl rfl ?_
      refine n_ (x_pk rfl rfl rfl ?_)
      refine n_ (x_as rfl rfl ?_)
      refine z_ ?_
      exact w_ [] (.cons (by simp only [hb2, eq_self, if_true, Bool.false_eq_true, if_false, Bool.true_or, Bool.false_or, Bool.true_and, Bool.false_and, Bool.not_true, Bool.not_false]; rfl) rfl .nil) .nil (by decide) (hB_0 hB0)
  · refine c_ret ?_
    rw [← hm]
    exact ret0 (us' := [.one (.bool ((decide (n ≥ low) && decide (n ≤ high))))]) rfl (r_tmp rfl rfl rfl r_nil) f_done rfl rfl

/-- impl.leadsTo -/
noncomputable def impl_leadsTo_m (t : GTerm) : List Int :=
  (if (t.kind == 2) = true then
    ([t.x])
    else
    (if (t.kind == 3) = true then
      ([t.x, t.y])
      else
      ([])))
set_option maxHeartbeats 8000000 in
set_option maxRecDepth 100000 in
theorem impl_leadsTo_sim (t : GTerm) : Sim Try.prog 45 [.agg (eTerm t)] [] (.u (.one (.os () 1 (List.map iL ((impl_leadsTo_m t)))))) [] := by
  obtain ⟨r, hm⟩ : ∃ r, impl_leadsTo_m t = r := ⟨_, rfl⟩
  rw [hm]
  refine sim_st (N := 17) (k0 := 0) Try.func45 rfl rfl rfl rfl (rs := [.tmp 2]) rfl rfl rfl fun B hB0 => ?_
  unfold impl_leadsTo_m at hm
  refine Wp.seq ?_
  refine c_reg (Y := sysA _) ?_
  refine n_ (x_bx rfl rfl rfl rfl ?_)
  refine n_ (x_as rfl rfl ?_)
  refine z_ ?_
  refine Wp.seq ?_
  refine Wp.seq ?_
  refine c_reg (Y := sysA _) ?_
  refine n_ (x_fap rfl F59_0 rfl rfl ?_)
  refine n_ (x_ldp rfl T2 rfl rfl rfl rfl rfl ?_)
  refine z_ ?_
  refine Wp.block ?_
  refine Wp.seq ?_
  refine c_reg (Y := sysA _) ?_
  refine n_ (x_bin T2 rfl rfl rfl ?_)
  refine n_ (x_as rfl rfl ?_)
  refine z_ ?_
  refine c_s rfl rfl (fun hb1 => ?_) (fun hb1 => ?_)
  · rw [if_pos (show _ = true from hb1)] at hm
    refine Wp.seq ?_
    refine c_reg (Y := sysA _) ?_
    refine n_ (x_fap rfl F59_2 rfl rfl ?_)
    refine n_ (x_ldp rfl T2 rfl rfl rfl rfl rfl ?_)
    refine n_ (x_bsm (enc := iL) ([t.x]) A24 rfl rfl rfl rfl ?_)
    refine n_ (x_as rfl rfl ?_)
    refine z_ ?_
    refine c_ret ?_
    rw [← hm]
    exact ret0 (us' := [.one (.os () 1 (List.map iL ([t.x])))]) rfl (r_tmp rfl rfl rfl r_nil) ((f_fold 0 0 rfl rfl rfl rfl).trans f_done) rfl rfl
  · rw [if_neg (by rw [hb1]; decide)] at hm
    refine Wp.seq ?_
    refine c_reg (Y := sysA _) ?_
    refine n_ (x_bin T2 rfl rfl rfl ?_)
    refine n_ (x_as rfl rfl ?_)
    refine z_ ?_
    refine c_s rfl rfl (fun hb2 => ?_) (fun hb2 => ?_)
    · rw [if_pos (show _ = true from hb2)] at hm
      refine Wp.seq ?_
      refine c_reg (Y := sysA _) ?_
      refine n_ (x_fap rfl F59_2 rfl rfl ?_)
      refine n_ (x_ldp rfl T2 rfl rfl rfl rfl rfl ?_)
      refine n_ (x_fap rfl F59_3 rfl rfl ?_)
      refine n_ (x_ldp rfl T2 rfl rfl rfl rfl rfl ?_)
      refine n_ (x_bsm (enc := iL) ([t.x, t.y]) A24 rfl rfl rfl rfl ?_)
      refine n_ (x_as rfl rfl ?_)
      refine z_ ?_
      refine c_ret ?_
      rw [← hm]
      exact ret0 (us' := [.one (.os () 1 (List.map iL ([t.x, t.y])))]) rfl (r_tmp rfl rfl rfl r_nil) ((f_fold 0 0 rfl rfl rfl rfl).trans f_done) rfl rfl
    · rw [if_neg (by rw [hb2]; decide)] at hm
      refine c_skip ?_
      refine Wp.seq ?_
      refine c_reg (Y := sysA _) ?_
      refine n_ (x_as rfl rfl ?_)
      refine z_ ?_
      refine c_ret ?_
      rw [← hm]
      exact ret0 (us' := [.one (.os () 1 (List.map iL ([])))]) rfl (r_tmp rfl rfl rfl r_nil) ((f_nl 0 0 1 true rfl rfl rfl).trans f_done) rfl rfl

/-- impl.isGraph$1$1 -/
noncomputable def impl_isGraph_1_1_m (to : Int) (a : Int) : Option Bool :=
  (if inI (a - 1) then
    (some ((!((impl_within_m to 0 (a - 1))))))
    else none)
set_option maxHeartbeats 8000000 in
set_option maxRecDepth 100000 in
theorem impl_isGraph_1_1_sim (to : Int) (a : Int) {r : Bool} (hm : impl_isGraph_1_1_m to a = some r) : Sim Try.prog 88 [.one (.int .i64 to), .one (.ip () (iL a))] [] (.u (.one (.bool r))) [] := by
  refine sim_st (N := 9) (k0 := 0) Try.func88 rfl rfl rfl rfl (rs := [.tmp 3]) rfl rfl rfl fun B hB0 => ?_
  unfold impl_isGraph_1_1_m at hm
  refine Wp.seq ?_
  refine c_reg (Y := sysA _) ?_
  refine n_ (x_as rfl rfl ?_)
  refine z_ ?_
  refine Wp.seq ?_
  refine c_reg (Y := sysA _) ?_
  refine n_ (x_mv rfl rfl ?_)
  refine n_ (x_ldi T2 rfl rfl rfl ?_)
  obtain ⟨h1, hm⟩ := of_ite hm
  refine n_ (x_subc T2 rfl rfl h1 ?_)
  refine n_ (aopK_A (x_call (v := .u (.one (.bool ((impl_within_m to 0 (a - 1)))))) (nobs := []) (oa' := _) (nx' := 0) rfl (a_1 rfl (b_s rfl) (a_1 rfl (b_s rfl) (a_1 rfl (b_s rfl) a_n))) c_n ent54 (impl_within_sim to 0 (a - 1)) rfl rfl rfl rfl ?_))
  refine n_ (x_un rfl rfl ?_)
  refine n_ (x_as rfl rfl ?_)
  refine z_ ?_
  refine c_ret ?_
  rw [← Option.some.inj hm]
  exact ret0 (us' := [.one (.bool ((!((impl_within_m to 0 (a - 1))))))]) rfl (r_tmp rfl rfl rfl r_nil) f_done rfl rfl

/-- slices.IndexFunc[[]int64,int64] -/
noncomputable def slices_IndexFunc_int64_int64_m (s : List Int) (f : Int → Option Bool) : Option Int :=
  (Option.bind (loopO (fun (st2 : Int) =>
        ((if decide (st2 < ((List.length s : Int))) = true then
            (if 0 ≤ st2 ∧ st2 < (List.length s : Int) then
              (Option.bind (f (at_ s st2)) fun x7 =>
                (if x7 = true then
                  (some (Sum.inr ((Sum.inl st2))))
                  else
                  (if inI (st2 + 1) then
                    (some (Sum.inl (st2 + 1)))
                    else none)))
              else none)
            else
            (some (Sum.inr ((Sum.inr (())))))) : Option ((Int) ⊕ (Int ⊕ Unit)))) 0) fun (y11 : Int ⊕ Unit) => match y11 with
    | (Sum.inl j3) =>
    (some j3)
    | (Sum.inr j4) =>
    (some ((-1))))
set_option maxHeartbeats 8000000 in
set_option maxRecDepth 100000 in
theorem slices_IndexFunc_int64_int64_sim (s : List Int) (fi : FuncId) (fc : List (L Unit)) (f : Int → Option Bool) (hef : Ent Try.prog fi) (hcf : CapOk fc) (hsf : ∀ z0 y, f z0 = some y → Sim Try.prog fi ([.one (.int .i64 z0)] ++ List.map .one fc) [] (.u (.one (.bool y))) []) {r : Int} (hm : slices_IndexFunc_int64_int64_m s f = some r) : Sim Try.prog 97 [.one (.bs () 1 (List.map iL s)), .one (.fn () fi fc)] [] (.u (.one (.int .i64 r))) [] := by
  refine sim_st (N := 19) (k0 := 0) Try.func97 rfl rfl rfl rfl (rs := [.tmp 4]) rfl (by simp [leavesU, idsL, List.all_cons, hcf.ids]) rfl fun B hB0 => ?_
  unfold slices_IndexFunc_int64_int64_m at hm
  refine Wp.seq ?_
  refine c_reg (Y := sysA _) ?_
  refine n_ (x_as rfl rfl ?_)
  refine z_ ?_
  refine Wp.seq ?_
  refine Wp.seq ?_
  refine c_reg (Y := sysA _) ?_
  refine n_ (x_mv rfl rfl ?_)
  refine n_ (x_lnb N24 rfl fun hL1 => ?_)
  refine n_ (x_mv rfl rfl ?_)
  refine z_ ?_
  refine Wp.block ?_
  obtain ⟨y11, hl12, hm⟩ := of_bind hm
  refine c_loop hl12 (fun (st2 : Int) => St 19 [(0, .u (.one (.bs () 1 (List.map iL s)))), (1, .u (.one (.fn () fi fc))), (7, .u (.one (.int .i64 ((List.length s : Int))))), (8, .u (.one (.int .i64 st2)))] [] 0) (fun (y : Int ⊕ Unit) => match y with | (Sum.inl j3) => (.ret, St 19 [(4, .u (.one (.int .i64 j3)))] [] 0) | (Sum.inr j4) => (.exit 0, St 19 [] [] 0)) (w_ [] (.cons rfl rfl (.cons (by rw [fnv_ren hcf]; rfl) (fnv_knows hcf _ _) (.cons rfl rfl (.cons rfl rfl .nil)))) .nil (by decide) (hB_0 hB0)) ?_ (by rintro (_ | _) <;> simp) ?_
  · intro st2 x hm
    refine Wp.seq ?_
    refine c_reg (Y := sysA _) ?_
    refine n_ (x_bin T3 rfl rfl rfl ?_)
    refine z_ ?_
    refine Wp.seq ?_
    refine c_s rfl rfl (fun hb5 => ?_) (fun hb5 => ?_)
    · rw [if_pos (show _ = true from hb5)] at hm
      refine c_skip ?_
      refine Wp.seq ?_
      refine Wp.block ?_
      refine Wp.seq ?_
      refine c_reg (Y := sysA _) ?_
      refine n_ (x_mv rfl rfl ?_)
      refine n_ (x_as rfl rfl ?_)
      refine z_ ?_
      refine Wp.seq ?_
      refine c_reg (Y := sysA _) ?_
      refine n_ (x_mv rfl rfl ?_)
      refine n_ (x_mv rfl rfl ?_)
      refine n_ (x_mv rfl rfl ?_)
      obtain ⟨h6, hm⟩ := of_ite hm
      refine n_ (x_ixb E24 rfl rfl h6 ?_)
      refine n_ (x_ldi T2 rfl rfl rfl ?_)
      obtain ⟨x7, h8, hm⟩ := of_bind hm
      refine n_ (aopK_A (x_call (v := .u (.one (.bool x7))) (nobs := []) (oa' := _) (nx' := 0) rfl (a_1 rfl (b_s rfl) a_n) hcf.bor hef (hsf (at_ s st2) x7 h8) rfl rfl rfl rfl ?_))
      refine z_ ?_
      refine c_s rfl rfl (fun hb9 => ?_) (fun hb9 => ?_)
      · rw [if_pos (show _ = true from hb9)] at hm
        refine Wp.seq ?_
        refine c_reg (Y := sysA _) ?_
        refine n_ (x_mv rfl rfl ?_)
        refine n_ (x_as rfl rfl ?_)
        refine z_ ?_
        refine c_ret ?_
        cases hm
        exact ⟨rfl, w_ [] (.cons rfl rfl .nil) .nil (by decide) (hB_0 hB0)⟩
      · rw [if_neg (by rw [hb9]; decide)] at hm
        refine c_skip ?_
        refine c_reg (Y := sysA _) ?_
        obtain ⟨h10, hm⟩ := of_ite hm
        refine n_ (x_addc T3 rfl rfl h10 ?_)
        refine n_ (x_mv rfl rfl ?_)
        refine z_ ?_
        cases hm
        exact ⟨rfl, w_ [] (.cons rfl rfl (.cons (by rw [fnv_ren hcf]; rfl) (fnv_knows hcf _ _) (.cons rfl rfl (.cons rfl rfl .nil)))) .nil (by decide) (hB_0 hB0)⟩
    · rw [if_neg (by rw [hb5]; decide)] at hm
      refine c_exit ?_
      cases hm
      exact ⟨rfl, w_ [] .nil .nil (by decide) (hB_0 hB0)⟩
  · rcases y11 with j3 | j4
    all_goals simp only at hm
    · rw [← Option.some.inj hm]
      exact ret0 (us' := [.one (.int .i64 j3)]) rfl (r_tmp rfl rfl rfl r_nil) f_done rfl rfl
    · refine Wp.seq ?_
      refine c_reg (Y := sysA _) ?_
      refine n_ (x_as rfl rfl ?_)
      refine z_ ?_
      refine c_ret ?_
      rw [← Option.some.inj hm]
      exact ret0 (us' := [.one (.int .i64 ((-1)))]) rfl (r_tmp rfl rfl rfl r_nil) f_done rfl rfl

/-- slices.ContainsFunc[[]int64,int64] -/
noncomputable def slices_ContainsFunc_int64_int64_m (s : List Int) (f : Int → Option Bool) : Option Bool :=
  (Option.bind (slices_IndexFunc_int64_int64_m s f) fun x1 =>
    (some (decide (x1 ≥ 0))))
set_option maxHeartbeats 8000000 in
set_option maxRecDepth 100000 in
theorem slices_ContainsFunc_int64_int64_sim (s : List Int) (fi : FuncId) (fc : List (L Unit)) (f : Int → Option Bool) (hef : Ent Try.prog fi) (hcf : CapOk fc) (hsf : ∀ z0 y, f z0 = some y → Sim Try.prog fi ([.one (.int .i64 z0)] ++ List.map .one fc) [] (.u (.one (.bool y))) []) {r : Bool} (hm : slices_ContainsFunc_int64_int64_m s f = some r) : Sim Try.prog 55 [.one (.bs () 1 (List.map iL s)), .one (.fn () fi fc)] [] (.u (.one (.bool r))) [] := by
  refine sim_st (N := 9) (k0 := 0) Try.func55 rfl rfl rfl rfl (rs := [.tmp 4]) rfl (by simp [leavesU, idsL, List.all_cons, hcf.ids]) rfl fun B hB0 => ?_
  unfold slices_ContainsFunc_int64_int64_m at hm
  refine Wp.seq ?_
  refine c_reg (Y := sysA _) ?_
  refine n_ (x_as rfl rfl ?_)
  refine z_ ?_
  refine Wp.seq ?_
  refine c_reg (Y := sysA _) ?_
  refine n_ (x_mv rfl rfl ?_)
  refine n_ (x_mv rfl rfl ?_)
  obtain ⟨x1, h2, hm⟩ := of_bind hm
  refine n_ (aopK_A (x_call (v := .u (.one (.int .i64 x1))) (nobs := []) (oa' := _) (nx' := 0) rfl (a_1 rfl (b_s rfl) (a_1 rfl (b_f hcf.bor) a_n)) c_n ent97 (slices_IndexFunc_int64_int64_sim s fi fc f hef hcf hsf h2) rfl rfl rfl rfl ?_))
  refine n_ (x_bin T3 rfl rfl rfl ?_)
  refine n_ (x_as rfl rfl ?_)
  refine z_ ?_
  refine c_ret ?_
  rw [← Option.some.inj hm]
  exact ret0 (us' := [.one (.bool (decide (x1 ≥ 0)))]) rfl (r_tmp rfl rfl rfl r_nil) f_done rfl rfl

/-- impl.isGraph$1 -/
noncomputable def impl_isGraph_1_m (b : GBlock) (a : Int) : Option Bool :=
  (Option.bind (slices_ContainsFunc_int64_int64_m ((impl_leadsTo_m b.term)) ((fun z0 => impl_isGraph_1_1_m z0 a))) fun x1 =>
    (some x1))
set_option maxHeartbeats 8000000 in
set_option maxRecDepth 100000 in
theorem impl_isGraph_1_sim (b : GBlock) (a : Int) {r : Bool} (hm : impl_isGraph_1_m b a = some r) : Sim Try.prog 87 [.agg (eBlock false b), .one (.ip () (iL a))] [] (.u (.one (.bool r))) [] := by
  refine sim_st (N := 9) (k0 := 0) Try.func87 rfl rfl rfl rfl (rs := [.tmp 3]) rfl rfl rfl fun B hB0 => ?_
  unfold impl_isGraph_1_m at hm
  refine Wp.seq ?_
  refine c_reg (Y := sysA _) ?_
  refine n_ (x_bx rfl rfl rfl rfl ?_)
  refine n_ (x_as rfl rfl ?_)
  refine z_ ?_
  refine Wp.seq ?_
  refine c_reg (Y := sysA _) ?_
  refine n_ (x_fap rfl F61_2 rfl rfl ?_)
  refine n_ (x_ldp rfl T59 rfl rfl rfl (u := .agg (eTerm b.term)) rfl rfl ?_)
  refine n_ (aopK_A (x_call (v := .u (.one (.ref () 1 0 (List.length ((impl_leadsTo_m b.term)))))) (nobs := [(1, ⟨(), 1, List.map iL ((impl_leadsTo_m b.term))⟩)]) (oa' := _) (nx' := 2) rfl (a_a rfl (c_all rfl) a_n) c_n ent45 (impl_leadsTo_sim b.term) (by simp only [immFreeV, leavesV, leavesU, List.flatMap_cons, List.flatMap_nil, List.append_nil, List.cons_append, List.nil_append, List.all_cons, List.all_nil, immFreeL, immF_map, Bool.and_true, Bool.and_self]) (by simp only [rootV, rootU, rootLs, rootUs, List.length_map, List.map_cons, List.map_nil]) rfl rfl ?_))
  refine n_ (x_mf (ls := [.ip () (iL a)]) rfl ?_)
  obtain ⟨x1, h2, hm⟩ := of_bind hm
  refine n_ (aopK_A (x_call (v := .u (.one (.bool x1))) (nobs := []) (oa' := _) (nx' := 2) rfl (a_1 rfl (b_r rfl) (a_1 rfl (b_f (c_c b_ip c_n)) a_n)) c_n ent55 (slices_ContainsFunc_int64_int64_sim ((impl_leadsTo_m b.term)) 88 [.ip () (iL a)] (fun z0 => impl_isGraph_1_1_m z0 a) ent88 rfl (fun z0 y hy => impl_isGraph_1_1_sim z0 a hy) h2) rfl rfl rfl rfl ?_))
  refine n_ (x_as rfl rfl ?_)
  refine z_ ?_
  refine c_ret ?_
  rw [← Option.some.inj hm]
  exact ret0 (us' := [.one (.bool x1)]) rfl (r_tmp rfl rfl rfl r_nil) f_done rfl rfl

/-- slices.IndexFunc[[]impl.Block,impl.Block] -/
noncomputable def slices_IndexFunc_impl_Block_impl_Block_m (s : List GBlock) (f : GBlock → Option Bool) : Option Int :=
  (Option.bind (loopO (fun (st2 : Int) =>
        ((if decide (st2 < ((List.length s : Int))) = true then
            (if 0 ≤ st2 ∧ st2 < (List.length s : Int) then
              (Option.bind (f (at_ s st2)) fun x7 =>
                (if x7 = true then
                  (some (Sum.inr ((Sum.inl st2))))
                  else
                  (if inI (st2 + 1) then
                    (some (Sum.inl (st2 + 1)))
                    else none)))
              else none)
            else
            (some (Sum.inr ((Sum.inr (())))))) : Option ((Int) ⊕ (Int ⊕ Unit)))) 0) fun (y11 : Int ⊕ Unit) => match y11 with
    | (Sum.inl j3) =>
    (some j3)
    | (Sum.inr j4) =>
    (some ((-1))))
set_option maxHeartbeats 8000000 in
set_option maxRecDepth 100000 in
theorem slices_IndexFunc_impl_Block_impl_Block_sim (s : List GBlock) (fi : FuncId) (fc : List (L Unit)) (f : GBlock → Option Bool) (hef : Ent Try.prog fi) (hcf : CapOk fc) (hsf : ∀ z0 y, f z0 = some y → Sim Try.prog fi ([.agg (eBlock false z0)] ++ List.map .one fc) [] (.u (.one (.bool y))) []) {r : Int} (hm : slices_IndexFunc_impl_Block_impl_Block_m s f = some r) : Sim Try.prog 111 [.one (.bs () 6 (List.map (eBlock false) s)), .one (.fn () fi fc)] [] (.u (.one (.int .i64 r))) [] := by
  refine sim_st (N := 19) (k0 := 0) Try.func111 rfl rfl rfl rfl (rs := [.tmp 4]) rfl (by simp [leavesU, idsL, List.all_cons, hcf.ids]) rfl fun B hB0 => ?_
  unfold slices_IndexFunc_impl_Block_impl_Block_m at hm
  refine Wp.seq ?_
  refine c_reg (Y := sysA _) ?_
  refine n_ (x_as rfl rfl ?_)
  refine z_ ?_
  refine Wp.seq ?_
  refine Wp.seq ?_
  refine c_reg (Y := sysA _) ?_
  refine n_ (x_mv rfl rfl ?_)
  refine n_ (x_lnb N25 rfl fun hL1 => ?_)
  refine n_ (x_mv rfl rfl ?_)
  refine z_ ?_
  refine Wp.block ?_
  obtain ⟨y11, hl12, hm⟩ := of_bind hm
  refine c_loop hl12 (fun (st2 : Int) => St 19 [(0, .u (.one (.bs () 6 (List.map (eBlock false) s)))), (1, .u (.one (.fn () fi fc))), (7, .u (.one (.int .i64 ((List.length s : Int))))), (8, .u (.one (.int .i64 st2)))] [] 0) (fun (y : Int ⊕ Unit) => match y with | (Sum.inl j3) => (.ret, St 19 [(4, .u (.one (.int .i64 j3)))] [] 0) | (Sum.inr j4) => (.exit 0, St 19 [] [] 0)) (w_ [] (.cons rfl rfl (.cons (by rw [fnv_ren hcf]; rfl) (fnv_knows hcf _ _) (.cons rfl rfl (.cons rfl rfl .nil)))) .nil (by decide) (hB_0 hB0)) ?_ (by rintro (_ | _) <;> simp) ?_
  · intro st2 x hm
    refine Wp.seq ?_
    refine c_reg (Y := sysA _) ?_
    refine n_ (x_bin T3 rfl rfl rfl ?_)
    refine z_ ?_
    refine Wp.seq ?_
    refine c_s rfl rfl (fun hb5 => ?_) (fun hb5 => ?_)
    · rw [if_pos (show _ = true from hb5)] at hm
      refine c_skip ?_
      refine Wp.seq ?_
      refine Wp.block ?_
      refine Wp.seq ?_
      refine c_reg (Y := sysA _) ?_
      refine n_ (x_mv rfl rfl ?_)
      refine n_ (x_as rfl rfl ?_)
      refine z_ ?_
      refine Wp.seq ?_
      refine c_reg (Y := sysA _) ?_
      refine n_ (x_mv rfl rfl ?_)
      refine n_ (x_mv rfl rfl ?_)
      refine n_ (x_mv rfl rfl ?_)
      obtain ⟨h6, hm⟩ := of_ite hm
      refine n_ (x_ixb E25 rfl rfl h6 ?_)
      refine n_ (x_ldi T61 rfl (pk_all rfl rfl) rfl ?_)
      obtain ⟨x7, h8, hm⟩ := of_bind hm
      refine n_ (aopK_A (x_call (v := .u (.one (.bool x7))) (nobs := []) (oa' := _) (nx' := 0) rfl (a_a rfl (c_all rfl) a_n) hcf.bor hef (hsf (at_ s st2) x7 h8) rfl rfl rfl rfl ?_))
      refine z_ ?_
      refine c_s rfl rfl (fun hb9 => ?_) (fun hb9 => ?_)
      · rw [if_pos (show _ = true from hb9)] at hm
        refine Wp.seq ?_
        refine c_reg (Y := sysA _) ?_
        refine n_ (x_mv rfl rfl ?_)
        refine n_ (x_as rfl rfl ?_)
        refine z_ ?_
        refine c_ret ?_
        cases hm
        exact ⟨rfl, w_ [] (.cons rfl rfl .nil) .nil (by decide) (hB_0 hB0)⟩
      · rw [if_neg (by rw [hb9]; decide)] at hm
        refine c_skip ?_
        refine c_reg (Y := sysA _) ?_
        obtain ⟨h10, hm⟩ := of_ite hm
        refine n_ (x_addc T3 rfl rfl h10 ?_)
        refine n_ (x_mv rfl rfl ?_)
        refine z_ ?_
        cases hm
        exact ⟨rfl, w_ [] (.cons rfl rfl (.cons (by rw [fnv_ren hcf]; rfl) (fnv_knows hcf _ _) (.cons rfl rfl (.cons rfl rfl .nil)))) .nil (by decide) (hB_0 hB0)⟩
    · rw [if_neg (by rw [hb5]; decide)] at hm
      refine c_exit ?_
      cases hm
      exact ⟨rfl, w_ [] .nil .nil (by decide) (hB_0 hB0)⟩
  · rcases y11 with j3 | j4
    all_goals simp only at hm
    · rw [← Option.some.inj hm]
      exact ret0 (us' := [.one (.int .i64 j3)]) rfl (r_tmp rfl rfl rfl r_nil) f_done rfl rfl
    · refine Wp.seq ?_
      refine c_reg (Y := sysA _) ?_
      refine n_ (x_as rfl rfl ?_)
      refine z_ ?_
      refine c_ret ?_
      rw [← Option.some.inj hm]
      exact ret0 (us' := [.one (.int .i64 ((-1)))]) rfl (r_tmp rfl rfl rfl r_nil) f_done rfl rfl

/-- slices.ContainsFunc[[]impl.Block,impl.Block] -/
noncomputable def slices_ContainsFunc_impl_Block_impl_Block_m (s : List GBlock) (f : GBlock → Option Bool) : Option Bool :=
  (Option.bind (slices_IndexFunc_impl_Block_impl_Block_m s f) fun x1 =>
    (some (decide (x1 ≥ 0))))
set_option maxHeartbeats 8000000 in
set_option maxRecDepth 100000 in
theorem slices_ContainsFunc_impl_Block_impl_Block_sim (s : List GBlock) (fi : FuncId) (fc : List (L Unit)) (f : GBlock → Option Bool) (hef : Ent Try.prog fi) (hcf : CapOk fc) (hsf : ∀ z0 y, f z0 = some y → Sim Try.prog fi ([.agg (eBlock false z0)] ++ List.map .one fc) [] (.u (.one (.bool y))) []) {r : Bool} (hm : slices_ContainsFunc_impl_Block_impl_Block_m s f = some r) : Sim Try.prog 86 [.one (.bs () 6 (List.map (eBlock false) s)), .one (.fn () fi fc)] [] (.u (.one (.bool r))) [] := by
  refine sim_st (N := 9) (k0 := 0) Try.func86 rfl rfl rfl rfl (rs := [.tmp 4]) rfl (by simp [leavesU, idsL, List.all_cons, hcf.ids]) rfl fun B hB0 => ?_
  unfold slices_ContainsFunc_impl_Block_impl_Block_m at hm
  refine Wp.seq ?_
  refine c_reg (Y := sysA _) ?_
  refine n_ (x_as rfl rfl ?_)
  refine z_ ?_
  refine Wp.seq ?_
  refine c_reg (Y := sysA _) ?_
  refine n_ (x_mv rfl rfl ?_)
  refine n_ (x_mv rfl rfl ?_)
  obtain ⟨x1, h2, hm⟩ := of_bind hm
  refine n_ (aopK_A (x_call (v := .u (.one (.int .i64 x1))) (nobs := []) (oa' := _) (nx' := 0) rfl (a_1 rfl (b_s rfl) (a_1 rfl (b_f hcf.bor) a_n)) c_n ent111 (slices_IndexFunc_impl_Block_impl_Block_sim s fi fc f hef hcf hsf h2) rfl rfl rfl rfl ?_))
  refine n_ (x_bin T3 rfl rfl rfl ?_)
  refine n_ (x_as rfl rfl ?_)
  refine z_ ?_
  refine c_ret ?_
  rw [← Option.some.inj hm]
  exact ret0 (us' := [.one (.bool (decide (x1 ≥ 0)))]) rfl (r_tmp rfl rfl rfl r_nil) f_done rfl rfl

/-- impl.isGraph -/
noncomputable def impl_isGraph_m (f : GFunc) : Option Bool :=
  (Option.bind ((if (impl_within_m ((List.length f.blocks : Int)) 1 10) = true then
        (Option.bind (slices_ContainsFunc_impl_Block_impl_Block_m f.blocks ((fun z0 => impl_isGraph_1_m z0 ((List.length f.blocks : Int))))) fun x4 =>
          (some ((!x4))))
        else
        (some false))) fun (j2 : Bool) =>
    (some j2))
set_option maxHeartbeats 8000000 in
set_option maxRecDepth 100000 in
theorem impl_isGraph_sim (f : GFunc) {r : Bool} (hm : impl_isGraph_m f = some r) : Sim Try.prog 40 [.agg (eFunc false f)] [] (.u (.one (.bool r))) [] := by
  refine sim_st (N := 16) (k0 := 0) Try.func40 rfl rfl rfl rfl (rs := [.tmp 2]) rfl rfl rfl fun B hB0 => ?_
  unfold impl_isGraph_m at hm
  refine Wp.seq ?_
  refine c_reg (Y := sysA _) ?_
  refine n_ (x_bx rfl rfl rfl rfl ?_)
  refine n_ (x_as rfl rfl ?_)
  refine z_ ?_
  refine Wp.seq ?_
  refine c_reg (Y := sysA _) ?_
  refine n_ (x_fap rfl F27_2 rfl rfl ?_)
  refine n_ (x_ldp rfl T25 rfl rfl rfl rfl rfl ?_)
  refine n_ (x_lnb N25 rfl fun hL1 => ?_)
  refine n_ (x_al T2 (r := [.int .i64 0]) rfl rfl ?_)
  refine n_ (x_st T2 (rows := [[.int .i64 ((List.length f.blocks : Int))]]) rfl rfl rfl rfl rfl rfl rfl rfl ?_)
  refine z_ ?_
  refine Wp.seq ?_
  obtain ⟨j2, hj6, hm⟩ := of_bind hm
  refine c_cut (St 16 [(2, .u (.one (.bool j2)))] [] 0) ?_ ?_
  · replace hm := hj6
    refine c_reg (Y := sysA _) ?_
    refine n_ (x_ldp rfl T2 rfl rfl rfl rfl rfl ?_)
    refine n_ (aopK_A (x_call (v := .u (.one (.bool ((impl_within_m ((List.length f.blocks : Int)) 1 10))))) (nobs := []) (oa' := _) (nx' := 2) rfl (a_1 rfl (b_s rfl) (a_1 rfl (b_s rfl) (a_1 rfl (b_s rfl) a_n))) c_n ent54 (impl_within_sim ((List.length f.blocks : Int)) 1 10) rfl rfl rfl rfl ?_))
    refine n_ (x_mv rfl rfl ?_)
    refine g_s rfl rfl rfl (fun hb3 => ?_) (fun hb3 => ?_)
    · rw [if_pos (show _ = true from hb3)] at hm
      refine g_t rfl rfl rfl ?_
      refine n_ (x_fap rfl F27_2 rfl rfl ?_)
      refine g_t rfl rfl rfl ?_
      refine n_ (x_ldp rfl T25 rfl rfl rfl rfl rfl ?_)
      refine g_t rfl rfl rfl ?_
      refine n_ (x_mf (ls := [.ptr () 1 0 0]) rfl ?_)
      refine g_t rfl rfl rfl ?_
      obtain ⟨x4, h5, hm⟩ := of_bind hm
      refine n_ (aopK_A (x_call (v := .u (.one (.bool x4))) (nobs := []) (oa' := _) (nx' := 2) rfl (a_1 rfl (b_s rfl) (a_1 rfl (b_f (c_c (b_p (cs := [.int .i64 ((List.length f.blocks : Int))]) rfl (c_c (b_s rfl) c_n) rfl) c_n)) a_n)) c_n ent86 (slices_ContainsFunc_impl_Block_impl_Block_sim f.blocks 87 [.ip () [.int .i64 ((List.length f.blocks : Int))]] (fun z0 => impl_isGraph_1_m z0 ((List.length f.blocks : Int))) ent87 rfl (fun z0 y hy => impl_isGraph_1_sim z0 ((List.length f.blocks : Int)) hy) h5) rfl rfl rfl rfl ?_))
      refine g_t rfl rfl rfl ?_
      refine n_ (x_un rfl rfl ?_)
      refine n_ (x_pk rfl rfl rfl ?_)
      refine n_ (x_as rfl rfl ?_)
      refine z_ ?_
      cases hm
      exact w_ [] (.cons rfl rfl .nil) .nil (by decide) (hB_0 hB0)
    · rw [if_neg (by rw [hb3]; decide)] at hm
      refine g_f rfl rfl rfl ?_
      refine g_f rfl rfl rfl ?_
      refine g_f rfl rfl rfl ?_
      refine g_f rfl rfl rfl ?_
      refine g_f rfl rfl rfl ?_
      refine n_ (x_pk rfl rfl rfl ?_)
      refine n_ (x_as rfl rfl ?_)
      refine z_ ?_
      cases hm
      exact w_ [] (.cons rfl rfl .nil) .nil (by decide) (hB_0 hB0)
  · refine c_ret ?_
    rw [← Option.some.inj hm]
    exact ret0 (us' := [.one (.bool j2)]) rfl (r_tmp rfl rfl rfl r_nil) f_done rfl rfl

/-- impl.reach -/
noncomputable def impl_reach_m (f : GFunc) (without : Int) : Option (List Bool) :=
  (if 0 ≤ ((List.length f.blocks : Int)) ∧ ((List.length f.blocks : Int)) ≤ ((List.length f.blocks : Int)) ∧ ((List.length f.blocks : Int)) * (1 : Nat) ≤ 140737488355328 ∧ ((List.length f.blocks : Int)) ≤ 140737488355328 then
    (Option.bind (loopO (fun (st3 : (List Bool) × (List Int)) =>
          ((if decide (((List.length st3.2 : Int)) > 0) = true then
              (if (0 : Int) ≤ 0 ∧ 0 < (List.length st3.2 : Int) then
                (if 1 ≤ (List.length st3.2) ∧ (List.length st3.2) ≤ List.length st3.2 then
                  (Option.bind ((if ((at_ st3.2 0) == without) = true then
                        (some true)
                        else
                        (if 0 ≤ (at_ st3.2 0) ∧ (at_ st3.2 0) < (List.length st3.1 : Int) then
                        (some (at_ st3.1 (at_ st3.2 0)))
                        else none))) fun (j9 : Bool) =>
                    (if j9 = true then
                      (some (Sum.inl ((st3.1, List.drop 1 st3.2))))
                      else
                      (if 0 ≤ (at_ st3.2 0) ∧ (at_ st3.2 0) < (List.length st3.1 : Int) then
                        (if 0 ≤ (at_ st3.2 0) ∧ (at_ st3.2 0) < (List.length f.blocks : Int) then
                        (if (List.length (List.drop 1 st3.2) + List.length ((impl_leadsTo_m (((at_ f.blocks (at_ st3.2 0)).term))))) * 8 ≤ 140737488355328 ∧ List.length (List.drop 1 st3.2) + List.length ((impl_leadsTo_m (((at_ f.blocks (at_ st3.2 0)).term)))) ≤ LIM then
                        (some (Sum.inl ((List.set st3.1 (Int.toNat (at_ st3.2 0)) true, (List.drop 1 st3.2) ++ ((impl_leadsTo_m (((at_ f.blocks (at_ st3.2 0)).term))))))))
                        else none)
                        else none)
                        else none)))
                  else none)
                else none)
              else
              (some (Sum.inr st3.1))) : Option (((List Bool) × (List Int)) ⊕ (((List Bool)))))) (List.replicate (Int.toNat ((List.length f.blocks : Int))) false, [0])) fun (j4 : (List Bool)) =>
      (some j4))
    else none)
set_option maxHeartbeats 8000000 in
set_option maxRecDepth 100000 in
theorem impl_reach_sim (f : GFunc) (without : Int) {r : List Bool} (hm : impl_reach_m f without = some r) : Sim Try.prog 41 [.agg (eFunc false f), .one (.int .i64 without)] [] (.u (.one (.os () 1 (List.map bL r)))) [] := by
  refine sim_st (N := 43) (k0 := 0) Try.func41 rfl rfl rfl rfl (rs := [.tmp 4]) rfl rfl rfl fun B hB0 => ?_
  unfold impl_reach_m at hm
  refine Wp.seq ?_
  refine c_reg (Y := sysA _) ?_
  refine n_ (x_bx rfl rfl rfl rfl ?_)
  refine n_ (x_as rfl rfl ?_)
  refine z_ ?_
  refine Wp.seq ?_
  refine c_reg (Y := sysA _) ?_
  refine n_ (x_fap rfl F27_2 rfl rfl ?_)
  refine n_ (x_ldp rfl T25 rfl rfl rfl rfl rfl ?_)
  refine n_ (x_lnb N25 rfl fun hL1 => ?_)
  obtain ⟨h2, hm⟩ := of_ite hm
  refine n_ (x_mk (enc := bL) (d := false) A68 rfl rfl rfl h2 ?_)
  refine n_ (x_as rfl rfl ?_)
  refine z_ ?_
  refine Wp.seq ?_
  refine c_reg (Y := sysA _) ?_
  refine n_ (x_bsm (enc := iL) ([0]) A24 rfl rfl rfl rfl ?_)
  refine n_ (x_as rfl rfl ?_)
  refine z_ ?_
  refine Wp.seq ?_
  refine Wp.block ?_
  obtain ⟨j4, hl18, hm⟩ := of_bind hm
  refine c_loop hl18 (fun (st3 : (List Bool) × (List Int)) => St 43 [(1, .u (.one (.int .i64 without))), (2, .u (.one (.ptr () 0 0 0))), (5, .u (.one (.ref () 1 0 (List.length st3.1)))), (6, .u (.one (.ref () 2 0 (List.length st3.2))))] [(0, some ⟨(), 3, [(eFunc false f)]⟩), (1, some ⟨(), 1, List.map bL st3.1⟩), (2, some ⟨(), 1, List.map iL st3.2⟩)] 3) (fun (j4 : (List Bool)) => (.exit 0, St 43 [(5, .u (.one (.ref () 0 0 (List.length j4))))] [(0, some ⟨(), 1, List.map bL j4⟩)] 1)) (w_ [0, 1, 2] (.cons rfl rfl (.cons rfl rfl (.cons (by first | rfl | (simp only [List.length_set]; rfl)) rfl (.cons (by first | rfl | (simp only [List.length_set]; rfl)) rfl .nil)))) (.lit rfl rfl (.map rfl (.map rfl .nil))) (by decide) (hB_0 hB0)) ?_ (by intro y; simp) ?_
  · intro st3 x hm
    refine Wp.seq ?_
    refine Wp.seq ?_
    refine c_reg (Y := sysA _) ?_
    refine n_ (x_mv rfl rfl ?_)
    refine n_ (x_lnr rfl N24 rfl rfl fun hL5 => ?_)
    refine n_ (x_bin T3 rfl rfl rfl ?_)
    refine z_ ?_
    refine c_s rfl rfl (fun hb6 => ?_) (fun hb6 => ?_)
    · rw [if_pos (show _ = true from hb6)] at hm
      refine c_skip ?_
      refine Wp.block ?_
      refine Wp.seq ?_
      refine c_reg (Y := sysA _) ?_
      refine n_ (x_mv rfl rfl ?_)
      obtain ⟨h7, hm⟩ := of_ite hm
      refine n_ (x_ix0 rfl E24 rfl rfl rfl h7 ?_)
      refine n_ (x_ldn rfl T2 rfl rfl h7 rfl rfl ?_)
      refine n_ (x_as rfl rfl ?_)
      refine z_ ?_
      refine Wp.seq ?_
      refine c_regS ?_
      refine o_run (Y := sysA _) 2 ?_
      refine n_ (x_mv rfl rfl ?_)
      obtain ⟨h8, hm⟩ := of_ite hm
      refine n_ (x_slr (l := 1) (h := (List.length st3.2)) rfl E24 rfl rfl (bd_s (m := 1) rfl (by decide)) bd_n h8 ?_)
      refine z_ ?_
      refine WpO.ghb (f_cutd 20 st3.2 (List.drop 1 st3.2) rfl rfl rfl (by simp only [List.length_take, List.length_drop] <;> omega) (by first | rfl | exact List.take_of_length_le (by simp only [List.length_drop, Nat.zero_add] <;> omega))) ?_
      refine o_run (Y := sysA _) 1 ?_
      refine n_ (x_as rfl rfl ?_)
      refine z_ ?_
      refine o_end ?_
      refine Wp.seq ?_
      refine Wp.seq ?_
      obtain ⟨j9, hj12, hm⟩ := of_bind hm
      refine c_cut (St 43 [(1, .u (.one (.int .i64 without))), (2, .u (.one (.ptr () 0 0 0))), (5, .u (.one (.ref () 1 0 (List.length st3.1)))), (6, .u (.one (.ref () 2 0 (List.length (List.drop 1 st3.2))))), (7, .u (.one (.int .i64 (at_ st3.2 0)))), (29, .u (.one (.bool j9)))] [(0, some ⟨(), 3, [(eFunc false f)]⟩), (1, some ⟨(), 1, List.map bL st3.1⟩), (2, some ⟨(), 1, List.map iL (List.drop 1 st3.2)⟩)] 3) ?_ ?_
      · replace hm := hj12
        refine c_reg (Y := sysA _) ?_
        refine n_ (x_mv rfl rfl ?_)
        refine n_ (x_mv rfl rfl ?_)
        refine n_ (x_bin T2 rfl rfl rfl ?_)
        refine n_ (x_mv rfl rfl ?_)
        refine g_s rfl rfl rfl (fun hb10 => ?_) (fun hb10 => ?_)
        · rw [if_neg (by rw [hb10]; decide)] at hm
          refine g_t rfl rfl rfl ?_
          refine n_ (x_mv rfl rfl ?_)
          refine g_t rfl rfl rfl ?_
          refine n_ (x_mv rfl rfl ?_)
          refine g_t rfl rfl rfl ?_
          obtain ⟨h11, hm⟩ := of_ite hm
          refine n_ (x_ix0 rfl E68 rfl rfl rfl h11 ?_)
          refine g_t rfl rfl rfl ?_
          refine n_ (x_ldn rfl T4 rfl rfl h11 rfl rfl ?_)
          refine n_ (x_pk rfl rfl rfl ?_)
          refine z_ ?_
          cases hm
          exact w_ [0, 1, 3] (.cons rfl rfl (.cons rfl rfl (.cons (by first | rfl | (simp only [List.length_set]; rfl)) rfl (.cons (by first | rfl | (simp only [List.length_set]; rfl)) rfl (.cons rfl rfl (.cons rfl rfl .nil)))))) (.lit rfl rfl (.map rfl (.map rfl .nil))) (by decide) (hB_0 hB0)
        · rw [if_pos (show _ = true from hb10)] at hm
          refine g_f rfl rfl rfl ?_
          refine g_f rfl rfl rfl ?_
          refine g_f rfl rfl rfl ?_
          refine g_f rfl rfl rfl ?_
          refine n_ (x_pk rfl rfl rfl ?_)
          refine z_ ?_
          cases hm
          exact w_ [0, 1, 3] (.cons rfl rfl (.cons rfl rfl (.cons (by first | rfl | (simp only [List.length_set]; rfl)) rfl (.cons (by first | rfl | (simp only [List.length_set]; rfl)) rfl (.cons rfl rfl (.cons rfl rfl .nil)))))) (.lit rfl rfl (.map rfl (.map rfl .nil))) (by decide) (hB_0 hB0)
      · refine c_s rfl rfl (fun hb13 => ?_) (fun hb13 => ?_)
        · rw [if_pos (show _ = true from hb13)] at hm
          refine c_exit ?_
          cases hm
          exact ⟨rfl, w_ [0, 1, 2] (.cons rfl rfl (.cons rfl rfl (.cons (by first | rfl | (simp only [List.length_set]; rfl)) rfl (.cons (by first | rfl | (simp only [List.length_set]; rfl)) rfl .nil)))) (.lit rfl rfl (.map rfl (.map rfl .nil))) (by decide) (hB_0 hB0)⟩
        · rw [if_neg (by rw [hb13]; decide)] at hm
          refine c_skip ?_
          refine Wp.seq ?_
          refine c_reg (Y := sysA _) ?_
          refine n_ (x_mv rfl rfl ?_)
          refine n_ (x_mv rfl rfl ?_)
          obtain ⟨h14, hm⟩ := of_ite hm
          refine n_ (x_ix0 rfl E68 rfl rfl rfl h14 ?_)
          refine n_ (x_stn true T4 rfl rfl rfl h14 rfl rfl rfl rfl ?_)
          refine z_ ?_
          refine c_reg (Y := sysA _) ?_
          refine n_ (x_mv rfl rfl ?_)
          refine n_ (x_fap rfl F27_2 rfl rfl ?_)
          refine n_ (x_ldp rfl T25 rfl rfl rfl rfl rfl ?_)
          refine n_ (x_mv rfl rfl ?_)
          obtain ⟨h15, hm⟩ := of_ite hm
          refine n_ (x_ixb E25 rfl rfl h15 ?_)
          refine n_ (x_fai F61_2 rfl ?_)
          refine n_ (x_ldi T59 rfl (u := .agg (eTerm (((at_ f.blocks (at_ st3.2 0)).term)))) rfl rfl ?_)
          refine n_ (aopK_A (x_call (v := .u (.one (.ref () 3 0 (List.length ((impl_leadsTo_m (((at_ f.blocks (at_ st3.2 0)).term)))))))) (nobs := [(3, ⟨(), 1, List.map iL ((impl_leadsTo_m (((at_ f.blocks (at_ st3.2 0)).term))))⟩)]) (oa' := _) (nx' := 4) rfl (a_a rfl (c_all rfl) a_n) c_n ent45 (impl_leadsTo_sim (((at_ f.blocks (at_ st3.2 0)).term))) (by simp only [immFreeV, leavesV, leavesU, List.flatMap_cons, List.flatMap_nil, List.append_nil, List.cons_append, List.nil_append, List.all_cons, List.all_nil, immFreeL, immF_map, Bool.and_true, Bool.and_self]) (by simp only [rootV, rootU, rootLs, rootUs, List.length_map, List.map_cons, List.map_nil]) rfl rfl ?_))
          obtain ⟨h16, hm⟩ := of_ite hm
          refine n_ (x_apr (enc := iL) (xs := List.drop 1 st3.2) (ys := (impl_leadsTo_m (((at_ f.blocks (at_ st3.2 0)).term)))) A24 N24 (encB_N _) rfl rfl rfl (argR_r rfl) h16 ?_)
          refine n_ (x_as rfl rfl ?_)
          refine z_ ?_
          cases hm
          exact ⟨rfl, w_ [0, 1, 4] (.cons rfl rfl (.cons rfl rfl (.cons (by first | rfl | (simp only [List.length_set]; rfl)) rfl (.cons (by first | rfl | (simp only [List.length_set]; rfl)) rfl .nil)))) (.lit rfl rfl (.map rfl (.map rfl .nil))) (by decide) (hB_0 hB0)⟩
    · rw [if_neg (by rw [hb6]; decide)] at hm
      refine c_exit ?_
      cases hm
      exact ⟨rfl, w_ [1] (.cons (by first | rfl | (simp only [List.length_set]; rfl)) rfl .nil) (.map rfl .nil) (by decide) (hB_0 hB0)⟩
  · refine Wp.seq ?_
    refine c_reg (Y := sysA _) ?_
    refine n_ (x_mv rfl rfl ?_)
    refine n_ (x_as rfl rfl ?_)
    refine z_ ?_
    refine c_ret ?_
    rw [← Option.some.inj hm]
    exact ret0 (us' := [.one (.os () 1 (List.map bL j4))]) rfl (r_tmp rfl rfl rfl r_nil) ((f_fold 0 0 rfl rfl rfl rfl).trans f_done) rfl rfl

/-- impl.Reached -/
noncomputable def impl_Reached_m (f : GFunc) : Option (List Int) :=
  (Option.bind (impl_isGraph_m f) fun x1 =>
    (if (!x1) = true then
      (some ([]))
      else
      (Option.bind (impl_reach_m f ((-1))) fun x4 =>
        (Option.bind (loopO (fun (st7 : (List Int) × Int) =>
              ((if decide (st7.2 < ((List.length x4 : Int))) = true then
                  (if 0 ≤ st7.2 ∧ st7.2 < (List.length x4 : Int) then
                    (if at_ x4 st7.2 = true then
                      (if (List.length st7.1 + List.length ([st7.2])) * 8 ≤ 140737488355328 ∧ List.length st7.1 + List.length ([st7.2]) ≤ LIM then
                        (if inI (st7.2 + 1) then
                        (some (Sum.inl ((st7.1 ++ ([st7.2]), st7.2 + 1))))
                        else none)
                        else none)
                      else
                      (if inI (st7.2 + 1) then
                        (some (Sum.inl ((st7.1, st7.2 + 1))))
                        else none))
                    else none)
                  else
                  (some (Sum.inr st7.1))) : Option (((List Int) × Int) ⊕ (((List Int)))))) (([] : List Int), 0)) fun (j8 : (List Int)) =>
          (some j8)))))
set_option maxHeartbeats 8000000 in
set_option maxRecDepth 100000 in
theorem impl_Reached_sim (f : GFunc) {r : List Int} (hm : impl_Reached_m f = some r) : Sim Try.prog 10 [.agg (eFunc false f)] [] (.u (.one (.os () 1 (List.map iL r)))) [] := by
  refine sim_st (N := 25) (k0 := 0) Try.func10 rfl rfl rfl rfl (rs := [.tmp 2]) rfl rfl rfl fun B hB0 => ?_
  unfold impl_Reached_m at hm
  refine Wp.seq ?_
  refine c_reg (Y := sysA _) ?_
  refine n_ (x_bx rfl rfl rfl rfl ?_)
  refine n_ (x_as rfl rfl ?_)
  refine z_ ?_
  refine Wp.seq ?_
  refine Wp.seq ?_
  refine c_reg (Y := sysA _) ?_
  refine n_ (x_ldp rfl T27 rfl rfl rfl (pk_all rfl rfl) rfl ?_)
  obtain ⟨x1, h2, hm⟩ := of_bind hm
  refine n_ (aopK_A (x_call (v := .u (.one (.bool x1))) (nobs := []) (oa' := _) (nx' := 1) rfl (a_a rfl (c_all rfl) a_n) c_n ent40 (impl_isGraph_sim f h2) rfl rfl rfl rfl ?_))
  refine n_ (x_un rfl rfl ?_)
  refine z_ ?_
  refine c_s rfl rfl (fun hb3 => ?_) (fun hb3 => ?_)
  · rw [if_pos (show _ = true from hb3)] at hm
    refine Wp.seq ?_
    refine c_reg (Y := sysA _) ?_
    refine n_ (x_as rfl rfl ?_)
    refine z_ ?_
    refine c_ret ?_
    rw [← Option.some.inj hm]
    exact ret0 (us' := [.one (.os () 1 (List.map iL ([])))]) rfl (r_tmp rfl rfl rfl r_nil) ((f_nl 0 0 1 true rfl rfl rfl).trans f_done) rfl rfl
  · rw [if_neg (by rw [hb3]; decide)] at hm
    refine c_skip ?_
    refine Wp.seq ?_
    refine c_reg (Y := sysA _) ?_
    refine n_ (x_bsm (enc := iL) (([] : List Int)) A24 rfl rfl rfl rfl ?_)
    refine n_ (x_as rfl rfl ?_)
    refine z_ ?_
    refine Wp.seq ?_
    refine Wp.seq ?_
    refine c_reg (Y := sysA _) ?_
    refine n_ (x_ldp rfl T27 rfl rfl rfl (pk_all rfl rfl) rfl ?_)
    obtain ⟨x4, h5, hm⟩ := of_bind hm
    refine n_ (aopK_A (x_call (v := .u (.one (.ref () 2 0 (List.length x4)))) (nobs := [(2, ⟨(), 1, List.map bL x4⟩)]) (oa' := _) (nx' := 3) rfl (a_a rfl (c_all rfl) (a_1 rfl (b_s rfl) a_n)) c_n ent41 (impl_reach_sim f ((-1)) h5) (by simp only [immFreeV, leavesV, leavesU, List.flatMap_cons, List.flatMap_nil, List.append_nil, List.cons_append, List.nil_append, List.all_cons, List.all_nil, immFreeL, immF_map, Bool.and_true, Bool.and_self]) (by simp only [rootV, rootU, rootLs, rootUs, List.length_map, List.map_cons, List.map_nil]) rfl rfl ?_))
    refine n_ (x_lnr rfl N68 rfl rfl fun hL6 => ?_)
    refine n_ (x_mv rfl rfl ?_)
    refine z_ ?_
    refine Wp.block ?_
    obtain ⟨j8, hl16, hm⟩ := of_bind hm
    refine c_loop hl16 (fun (st7 : (List Int) × Int) => St 25 [(3, .u (.one (.ref () 0 0 (List.length st7.1)))), (11, .u (.one (.ref () 1 0 (List.length x4)))), (12, .u (.one (.int .i64 ((List.length x4 : Int))))), (13, .u (.one (.int .i64 st7.2)))] [(0, some ⟨(), 1, List.map iL st7.1⟩), (1, some ⟨(), 1, List.map bL x4⟩)] 2) (fun (j8 : (List Int)) => (.exit 0, St 25 [(3, .u (.one (.ref () 0 0 (List.length j8))))] [(0, some ⟨(), 1, List.map iL j8⟩)] 1)) (w_ [1, 2] (.cons (by first | rfl | (simp only [List.length_set]; rfl)) rfl (.cons (by first | rfl | (simp only [List.length_set]; rfl)) rfl (.cons rfl rfl (.cons rfl rfl .nil)))) (.map rfl (.map rfl .nil)) (by decide) (hB_0 hB0)) ?_ (by intro y; simp) ?_
    · intro st7 x hm
      refine Wp.seq ?_
      refine c_reg (Y := sysA _) ?_
      refine n_ (x_bin T3 rfl rfl rfl ?_)
      refine z_ ?_
      refine Wp.seq ?_
      refine c_s rfl rfl (fun hb9 => ?_) (fun hb9 => ?_)
      · rw [if_pos (show _ = true from hb9)] at hm
        refine c_skip ?_
        refine Wp.seq ?_
        refine Wp.block ?_
        refine Wp.seq ?_
        refine c_reg (Y := sysA _) ?_
        refine n_ (x_mv rfl rfl ?_)
        obtain ⟨h10, hm⟩ := of_ite hm
        refine n_ (x_ix0 rfl E68 rfl rfl rfl h10 ?_)
        refine n_ (x_ldn rfl T4 rfl rfl h10 rfl rfl ?_)
        refine n_ (x_as rfl rfl ?_)
        refine n_ (x_as rfl rfl ?_)
        refine z_ ?_
        refine Wp.seq ?_
        refine c_reg (Y := sysA _) ?_
        refine n_ (x_mv rfl rfl ?_)
        refine z_ ?_
        refine c_s rfl rfl (fun hb11 => ?_) (fun hb11 => ?_)
        · rw [if_pos (show _ = true from hb11)] at hm
          refine c_reg (Y := sysA _) ?_
          refine n_ (x_mv rfl rfl ?_)
          refine n_ (x_mv rfl rfl ?_)
          refine n_ (x_bsm (enc := iL) ([st7.2]) A24 rfl rfl rfl rfl ?_)
          obtain ⟨h12, hm⟩ := of_ite hm
          refine n_ (x_apr (enc := iL) (xs := st7.1) (ys := [st7.2]) A24 N24 (encB_N _) rfl rfl rfl (argR_r rfl) h12 ?_)
          refine n_ (x_as rfl rfl ?_)
          refine z_ ?_
          refine c_reg (Y := sysA _) ?_
          obtain ⟨h13, hm⟩ := of_ite hm
          refine n_ (x_addc T3 rfl rfl h13 ?_)
          refine n_ (x_mv rfl rfl ?_)
          refine z_ ?_
          cases hm
          exact ⟨rfl, w_ [3, 1] (.cons (by first | rfl | (simp only [List.length_set]; rfl)) rfl (.cons (by first | rfl | (simp only [List.length_set]; rfl)) rfl (.cons rfl rfl (.cons rfl rfl .nil)))) (.map rfl (.map rfl .nil)) (by decide) (hB_0 hB0)⟩
        · rw [if_neg (by rw [hb11]; decide)] at hm
          refine c_skip ?_
          refine c_reg (Y := sysA _) ?_
          obtain ⟨h14, hm⟩ := of_ite hm
          refine n_ (x_addc T3 rfl rfl h14 ?_)
          refine n_ (x_mv rfl rfl ?_)
          refine z_ ?_
          cases hm
          exact ⟨rfl, w_ [0, 1] (.cons (by first | rfl | (simp only [List.length_set]; rfl)) rfl (.cons (by first | rfl | (simp only [List.length_set]; rfl)) rfl (.cons rfl rfl (.cons rfl rfl .nil)))) (.map rfl (.map rfl .nil)) (by decide) (hB_0 hB0)⟩
      · rw [if_neg (by rw [hb9]; decide)] at hm
        refine c_exit ?_
        cases hm
        exact ⟨rfl, w_ [0] (.cons (by first | rfl | (simp only [List.length_set]; rfl)) rfl .nil) (.map rfl .nil) (by decide) (hB_0 hB0)⟩
    · refine Wp.seq ?_
      refine c_reg (Y := sysA _) ?_
      refine n_ (x_mv rfl rfl ?_)
      refine n_ (x_as rfl rfl ?_)
      refine z_ ?_
      refine c_ret ?_
      rw [← Option.some.inj hm]
      exact ret0 (us' := [.one (.os () 1 (List.map iL j8))]) rfl (r_tmp rfl rfl rfl r_nil) ((f_fold 0 0 rfl rfl rfl rfl).trans f_done) rfl rfl

/-- spec.l3Succs -/
noncomputable def spec_l3Succs_m (f : GFunc) (b : Int) : Option (List Int) :=
  (if 0 ≤ b ∧ b < (List.length f.blocks : Int) then
    (if (((((at_ f.blocks b).term)).kind) == 2) = true then
      (some ([(((at_ f.blocks b).term)).x]))
      else
      (if (((((at_ f.blocks b).term)).kind) == 3) = true then
        (some ([(((at_ f.blocks b).term)).x, (((at_ f.blocks b).term)).y]))
        else
        (some (([] : List Int)))))
    else none)
set_option maxHeartbeats 8000000 in
set_option maxRecDepth 100000 in
theorem spec_l3Succs_sim (f : GFunc) (b : Int) {r : List Int} (hm : spec_l3Succs_m f b = some r) : Sim Try.prog 89 [.agg (eFunc false f), .one (.int .i64 b)] [] (.u (.one (.os () 1 (List.map iL r)))) [] := by
  refine sim_st (N := 27) (k0 := 0) Try.func89 rfl rfl rfl rfl (rs := [.tmp 4]) rfl rfl rfl fun B hB0 => ?_
  unfold spec_l3Succs_m at hm
  refine Wp.seq ?_
  refine c_reg (Y := sysA _) ?_
  refine n_ (x_bx rfl rfl rfl rfl ?_)
  refine n_ (x_as rfl rfl ?_)
  refine z_ ?_
  refine Wp.seq ?_
  refine c_reg (Y := sysA _) ?_
  refine n_ (x_fap rfl F27_2 rfl rfl ?_)
  refine n_ (x_ldp rfl T25 rfl rfl rfl rfl rfl ?_)
  refine n_ (x_mv rfl rfl ?_)
  obtain ⟨h1, hm⟩ := of_ite hm
  refine n_ (x_ixb E25 rfl rfl h1 ?_)
  refine n_ (x_fai F61_2 rfl ?_)
  refine n_ (x_ldi T59 rfl (u := .agg (eTerm (((at_ f.blocks b).term)))) rfl rfl ?_)
  refine n_ (x_al T59 (r := [.int .i64 0, .int .i64 0, .int .i64 0, .int .i64 0]) rfl rfl ?_)
  refine n_ (x_st T59 (rows := [(eTerm (((at_ f.blocks b).term)))]) rfl rfl rfl rfl rfl rfl rfl rfl ?_)
  refine z_ ?_
  refine Wp.seq ?_
  refine Wp.seq ?_
  refine c_reg (Y := sysA _) ?_
  refine n_ (x_fap rfl F59_0 rfl rfl ?_)
  refine n_ (x_ldp rfl T2 rfl rfl rfl rfl rfl ?_)
  refine z_ ?_
  refine Wp.block ?_
  refine Wp.seq ?_
  refine c_reg (Y := sysA _) ?_
  refine n_ (x_bin T2 rfl rfl rfl ?_)
  refine n_ (x_as rfl rfl ?_)
  refine z_ ?_
  refine c_s rfl rfl (fun hb2 => ?_) (fun hb2 => ?_)
  · rw [if_pos (show _ = true from hb2)] at hm
    refine Wp.seq ?_
    refine c_reg (Y := sysA _) ?_
    refine n_ (x_fap rfl F59_2 rfl rfl ?_)
    refine n_ (x_ldp rfl T2 rfl rfl rfl rfl rfl ?_)
    refine n_ (x_bsm (enc := iL) ([(((at_ f.blocks b).term)).x]) A24 rfl rfl rfl rfl ?_)
    refine n_ (x_as rfl rfl ?_)
    refine z_ ?_
    refine c_ret ?_
    rw [← Option.some.inj hm]
    exact ret0 (us' := [.one (.os () 1 (List.map iL ([(((at_ f.blocks b).term)).x])))]) rfl (r_tmp rfl rfl rfl r_nil) ((f_fold 0 0 rfl rfl rfl rfl).trans f_done) rfl rfl
  · rw [if_neg (by rw [hb2]; decide)] at hm
    refine Wp.seq ?_
    refine c_reg (Y := sysA _) ?_
    refine n_ (x_bin T2 rfl rfl rfl ?_)
    refine n_ (x_as rfl rfl ?_)
    refine z_ ?_
    refine c_s rfl rfl (fun hb3 => ?_) (fun hb3 => ?_)
    · rw [if_pos (show _ = true from hb3)] at hm
      refine Wp.seq ?_
      refine c_reg (Y := sysA _) ?_
      refine n_ (x_fap rfl F59_2 rfl rfl ?_)
      refine n_ (x_ldp rfl T2 rfl rfl rfl rfl rfl ?_)
      refine n_ (x_fap rfl F59_3 rfl rfl ?_)
      refine n_ (x_ldp rfl T2 rfl rfl rfl rfl rfl ?_)
      refine n_ (x_bsm (enc := iL) ([(((at_ f.blocks b).term)).x, (((at_ f.blocks b).term)).y]) A24 rfl rfl rfl rfl ?_)
      refine n_ (x_as rfl rfl ?_)
      refine z_ ?_
      refine c_ret ?_
      rw [← Option.some.inj hm]
      exact ret0 (us' := [.one (.os () 1 (List.map iL ([(((at_ f.blocks b).term)).x, (((at_ f.blocks b).term)).y])))]) rfl (r_tmp rfl rfl rfl r_nil) ((f_fold 0 0 rfl rfl rfl rfl).trans f_done) rfl rfl
    · rw [if_neg (by rw [hb3]; decide)] at hm
      refine c_skip ?_
      refine Wp.seq ?_
      refine c_reg (Y := sysA _) ?_
      refine n_ (x_bsm (enc := iL) (([] : List Int)) A24 rfl rfl rfl rfl ?_)
      refine n_ (x_as rfl rfl ?_)
      refine z_ ?_
      refine c_ret ?_
      rw [← Option.some.inj hm]
      exact ret0 (us' := [.one (.os () 1 (List.map iL (([] : List Int))))]) rfl (r_tmp rfl rfl rfl r_nil) ((f_fold 0 0 rfl rfl rfl rfl).trans f_done) rfl rfl

/-- spec.l1In -/
noncomputable def spec_l1In_m (n : Int) (low : Int) (high : Int) : Bool :=
  ((decide (n ≥ low) && decide (n ≤ high)))
set_option maxHeartbeats 8000000 in
set_option maxRecDepth 100000 in
theorem spec_l1In_sim (n : Int) (low : Int) (high : Int) : Sim Try.prog 49 [.one (.int .i64 n), .one (.int .i64 low), .one (.int .i64 high)] [] (.u (.one (.bool ((spec_l1In_m n low high))))) [] := by
  obtain ⟨r, hm⟩ : ∃ r, spec_l1In_m n low high = r := ⟨_, rfl⟩
  rw [hm]
  refine sim_st (N := 15) (k0 := 0) Try.func49 rfl rfl rfl rfl (rs := [.tmp 6]) rfl rfl rfl fun B hB0 => ?_
  unfold spec_l1In_m at hm
  refine Wp.seq ?_
  refine c_reg (Y := sysA _) ?_
  refine n_ (x_as rfl rfl ?_)
  refine z_ ?_
  refine Wp.seq ?_
  refine c_cut (St 15 [(6, .u (.one (.bool ((decide (n ≥ low) && decide (n ≤ high))))))] [] 0) ?_ ?_
  · refine c_reg (Y := sysA _) ?_
    refine n_ (x_mv rfl rfl ?_)
    refine n_ (x_mv rfl rfl ?_)
    refine n_ (x_bin T2 rfl rfl rfl ?_)
    refine n_ (x_mv rfl rfl ?_)
    refine g_s rfl rfl rfl (fun hb2 => ?_) (fun hb2 => ?_)
    · refine g_t rfl rfl rfl ?_
      refine n_ (x_mv rfl rfl ?_)
      refine g_t rfl rfl rfl ?_
      refine n_ (x_mv rfl rfl ?_)
      refine g_t rfl rfl rfl ?_
      refine n_ (x_bin T2 rfl rfl rfl ?_)
      refine n_ (x_pk rfl rfl rfl ?_)
      refine n_ (x_as rfl rfl ?_)
      refine z_ ?_
      exact w_ [] (.cons (by simp only [hb2, eq_self, if_true, Bool.false_eq_true, if_false, Bool.true_or, Bool.false_or, Bool.true_and, Bool.false_and, Bool.not_true, Bool.not_false]; rfl) rfl .nil) .nil (by decide) (hB_0 hB0)
    · refine g_f rfl rfl rfl ?_
      refine g_f rfl rfl rfl ?_
      refine g_f rfl rfl rfl ?_
      refine n_ (x_pk rfl rfl rfl ?_)
      refine n_ (x_as rfl rfl ?_)
      refine z_ ?_
      exact w_ [] (.cons (by simp only [hb2, eq_self, if_true, Bool.false_eq_true, if_false, Bool.true_or, Bool.false_or, Bool.true_and, Bool.false_and, Bool.not_true, Bool.not_false]; rfl) rfl .nil) .nil (by decide) (hB_0 hB0)
  · refine c_ret ?_
    rw [← hm]
    exact ret0 (us' := [.one (.bool ((decide (n ≥ low) && decide (n ≤ high))))]) rfl (r_tmp rfl rfl rfl r_nil) f_done rfl rfl

/-- spec.l3There -/
noncomputable def spec_l3There_m (f : GFunc) (b : Int) : Option Bool :=
  (Option.bind (loopO (fun (st2 : Int) =>
        ((if decide (st2 < ((List.length f.blocks : Int))) = true then
            (Option.bind (spec_l3Succs_m f st2) fun x6 =>
              (Option.bind (loopO (fun (st8 : Int) =>
                    ((if decide (st8 < ((List.length x6 : Int))) = true then
                        (if 0 ≤ st8 ∧ st8 < (List.length x6 : Int) then
                        (if (!((spec_l1In_m (at_ x6 st8) 0 (((List.length f.blocks : Int)) - 1)))) = true then
                        (some (Sum.inr ((Sum.inl (())))))
                        else
                        (if inI (st8 + 1) then
                        (some (Sum.inl (st8 + 1)))
                        else none))
                        else none)
                        else
                        (some (Sum.inr ((Sum.inr (())))))) : Option ((Int) ⊕ (Unit ⊕ Unit)))) 0) fun (y16 : Unit ⊕ Unit) => match y16 with
                | (Sum.inl j9) =>
                (some (Sum.inr ((Sum.inl (())))))
                | (Sum.inr j10) =>
                (if inI (st2 + 1) then
                  (some (Sum.inl (st2 + 1)))
                  else none)))
            else
            (some (Sum.inr ((Sum.inr (())))))) : Option ((Int) ⊕ (Unit ⊕ Unit)))) 0) fun (y19 : Unit ⊕ Unit) => match y19 with
    | (Sum.inl j3) =>
    (some false)
    | (Sum.inr j4) =>
    (some ((if (spec_l1In_m b 0 (((List.length f.blocks : Int)) - 1)) = true then decide (((List.length f.blocks : Int)) ≤ 10) else false))))
set_option maxHeartbeats 8000000 in
set_option maxRecDepth 100000 in
theorem spec_l3There_sim (f : GFunc) (b : Int) {r : Bool} (hm : spec_l3There_m f b = some r) : Sim Try.prog 42 [.agg (eFunc false f), .one (.int .i64 b)] [] (.u (.one (.bool r))) [] := by
  refine sim_st (N := 42) (k0 := 0) Try.func42 rfl rfl rfl rfl (rs := [.tmp 4]) rfl rfl rfl fun B hB0 => ?_
  unfold spec_l3There_m at hm
  refine Wp.seq ?_
  refine c_reg (Y := sysA _) ?_
  refine n_ (x_bx rfl rfl rfl rfl ?_)
  refine n_ (x_as rfl rfl ?_)
  refine z_ ?_
  refine Wp.seq ?_
  refine c_reg (Y := sysA _) ?_
  refine n_ (x_fap rfl F27_2 rfl rfl ?_)
  refine n_ (x_ldp rfl T25 rfl rfl rfl rfl rfl ?_)
  refine n_ (x_lnb N25 rfl fun hL1 => ?_)
  refine n_ (x_as rfl rfl ?_)
  refine z_ ?_
  refine Wp.seq ?_
  refine Wp.seq ?_
  refine c_reg (Y := sysA _) ?_
  refine n_ (x_as rfl rfl ?_)
  refine z_ ?_
  refine Wp.block ?_
  obtain ⟨y19, hl20, hm⟩ := of_bind hm
  refine c_loop hl20 (fun (st2 : Int) => St 42 [(1, .u (.one (.int .i64 b))), (2, .u (.one (.ptr () 0 0 0))), (5, .u (.one (.int .i64 ((List.length f.blocks : Int))))), (6, .u (.one (.int .i64 st2)))] [(0, some ⟨(), 3, [(eFunc false f)]⟩)] 1) (fun (y : Unit ⊕ Unit) => match y with | (Sum.inl j3) => (.ret, St 42 [(4, .u (.one (.bool false)))] [] 0) | (Sum.inr j4) => (.exit 0, St 42 [(1, .u (.one (.int .i64 b))), (5, .u (.one (.int .i64 ((List.length f.blocks : Int)))))] [] 0)) (w_ [0] (.cons rfl rfl (.cons rfl rfl (.cons rfl rfl (.cons rfl rfl .nil)))) (.lit rfl rfl .nil) (by decide) (hB_0 hB0)) ?_ (by rintro (_ | _) <;> simp) ?_
  · intro st2 x hm
    refine Wp.seq ?_
    refine Wp.seq ?_
    refine c_reg (Y := sysA _) ?_
    refine n_ (x_mv rfl rfl ?_)
    refine n_ (x_mv rfl rfl ?_)
    refine n_ (x_bin T2 rfl rfl rfl ?_)
    refine z_ ?_
    refine c_s rfl rfl (fun hb5 => ?_) (fun hb5 => ?_)
    · rw [if_pos (show _ = true from hb5)] at hm
      refine c_skip ?_
      refine Wp.seq ?_
      refine Wp.block ?_
      refine Wp.seq ?_
      refine c_reg (Y := sysA _) ?_
      refine n_ (x_ldp rfl T27 rfl rfl rfl (pk_all rfl rfl) rfl ?_)
      refine n_ (x_mv rfl rfl ?_)
      obtain ⟨x6, h7, hm⟩ := of_bind hm
      refine n_ (aopK_A (x_call (v := .u (.one (.ref () 1 0 (List.length x6)))) (nobs := [(1, ⟨(), 1, List.map iL x6⟩)]) (oa' := _) (nx' := 2) rfl (a_a rfl (c_all rfl) (a_1 rfl (b_s rfl) a_n)) c_n ent89 (spec_l3Succs_sim f st2 h7) (by simp only [immFreeV, leavesV, leavesU, List.flatMap_cons, List.flatMap_nil, List.append_nil, List.cons_append, List.nil_append, List.all_cons, List.all_nil, immFreeL, immF_map, Bool.and_true, Bool.and_self]) (by simp only [rootV, rootU, rootLs, rootUs, List.length_map, List.map_cons, List.map_nil]) rfl rfl ?_))
      refine n_ (x_as rfl rfl ?_)
      refine z_ ?_
      refine Wp.seq ?_
      refine c_reg (Y := sysA _) ?_
      refine n_ (x_as rfl rfl ?_)
      refine z_ ?_
      refine Wp.block ?_
      obtain ⟨y16, hl17, hm⟩ := of_bind hm
      refine c_loop hl17 (fun (st8 : Int) => St 42 [(1, .u (.one (.int .i64 b))), (2, .u (.one (.ptr () 0 0 0))), (5, .u (.one (.int .i64 ((List.length f.blocks : Int))))), (6, .u (.one (.int .i64 st2))), (7, .u (.one (.ref () 1 0 (List.length x6)))), (8, .u (.one (.int .i64 st8)))] [(0, some ⟨(), 3, [(eFunc false f)]⟩), (1, some ⟨(), 1, List.map iL x6⟩)] 2) (fun (y : Unit ⊕ Unit) => match y with | (Sum.inl j9) => (.ret, St 42 [(4, .u (.one (.bool false)))] [] 0) | (Sum.inr j10) => (.exit 2, St 42 [(1, .u (.one (.int .i64 b))), (2, .u (.one (.ptr () 0 0 0))), (5, .u (.one (.int .i64 ((List.length f.blocks : Int))))), (6, .u (.one (.int .i64 st2)))] [(0, some ⟨(), 3, [(eFunc false f)]⟩)] 1)) (w_ [0, 1] (.cons rfl rfl (.cons rfl rfl (.cons rfl rfl (.cons rfl rfl (.cons (by first | rfl | (simp only [List.length_set]; rfl)) rfl (.cons rfl rfl .nil)))))) (.lit rfl rfl (.map rfl .nil)) (by decide) (hB_0 hB0)) ?_ (by rintro (_ | _) <;> simp) ?_
      · intro st8 x hm
        refine Wp.seq ?_
        refine Wp.seq ?_
        refine c_reg (Y := sysA _) ?_
        refine n_ (x_mv rfl rfl ?_)
        refine n_ (x_mv rfl rfl ?_)
        refine n_ (x_lnr rfl N24 rfl rfl fun hL11 => ?_)
        refine n_ (x_bin T3 rfl rfl rfl ?_)
        refine z_ ?_
        refine c_s rfl rfl (fun hb12 => ?_) (fun hb12 => ?_)
        · rw [if_pos (show _ = true from hb12)] at hm
          refine c_skip ?_
          refine Wp.seq ?_
          refine Wp.block ?_
          refine Wp.seq ?_
          refine c_reg (Y := sysA _) ?_
          refine n_ (x_mv rfl rfl ?_)
          refine n_ (x_mv rfl rfl ?_)
          obtain ⟨h13, hm⟩ := of_ite hm
          refine n_ (x_ix0 rfl E24 rfl rfl rfl h13 ?_)
          refine n_ (x_ldn rfl T2 rfl rfl h13 rfl rfl ?_)
          refine n_ (x_mv rfl rfl ?_)
          refine n_ (x_subc T2 rfl rfl (by unfold inI; omega) ?_)
          refine n_ (aopK_A (x_call (v := .u (.one (.bool ((spec_l1In_m (at_ x6 st8) 0 (((List.length f.blocks : Int)) - 1)))))) (nobs := []) (oa' := _) (nx' := 2) rfl (a_1 rfl (b_s rfl) (a_1 rfl (b_s rfl) (a_1 rfl (b_s rfl) a_n))) c_n ent49 (spec_l1In_sim (at_ x6 st8) 0 (((List.length f.blocks : Int)) - 1)) rfl rfl rfl rfl ?_))
          refine n_ (x_un rfl rfl ?_)
          refine z_ ?_
          refine c_s rfl rfl (fun hb14 => ?_) (fun hb14 => ?_)
          · rw [if_pos (show _ = true from hb14)] at hm
            refine Wp.seq ?_
            refine c_reg (Y := sysA _) ?_
            refine n_ (x_as rfl rfl ?_)
            refine z_ ?_
            refine c_ret ?_
            cases hm
            exact ⟨rfl, w_ [] (.cons rfl rfl .nil) .nil (by decide) (hB_0 hB0)⟩
          · rw [if_neg (by rw [hb14]; decide)] at hm
            refine c_skip ?_
            refine c_reg (Y := sysA _) ?_
            refine n_ (x_mv rfl rfl ?_)
            obtain ⟨h15, hm⟩ := of_ite hm
            refine n_ (x_addc T3 rfl rfl h15 ?_)
            refine n_ (x_as rfl rfl ?_)
            refine z_ ?_
            cases hm
            exact ⟨rfl, w_ [0, 1] (.cons rfl rfl (.cons rfl rfl (.cons rfl rfl (.cons rfl rfl (.cons (by first | rfl | (simp only [List.length_set]; rfl)) rfl (.cons rfl rfl .nil)))))) (.lit rfl rfl (.map rfl .nil)) (by decide) (hB_0 hB0)⟩
        · rw [if_neg (by rw [hb12]; decide)] at hm
          refine c_exit ?_
          cases hm
          exact ⟨rfl, w_ [0] (.cons rfl rfl (.cons rfl rfl (.cons rfl rfl (.cons rfl rfl .nil)))) (.lit rfl rfl .nil) (by decide) (hB_0 hB0)⟩
      · rcases y16 with j9 | j10
        all_goals simp only at hm
        · cases hm
          exact ⟨rfl, w_ [] (.cons rfl rfl .nil) .nil (by decide) (hB_0 hB0)⟩
        · refine c_reg (Y := sysA _) ?_
          refine n_ (x_mv rfl rfl ?_)
          obtain ⟨h18, hm⟩ := of_ite hm
          refine n_ (x_addc T2 rfl rfl h18 ?_)
          refine n_ (x_as rfl rfl ?_)
          refine z_ ?_
          cases hm
          exact ⟨rfl, w_ [0] (.cons rfl rfl (.cons rfl rfl (.cons rfl rfl (.cons rfl rfl .nil)))) (.lit rfl rfl .nil) (by decide) (hB_0 hB0)⟩
    · rw [if_neg (by rw [hb5]; decide)] at hm
      refine c_exit ?_
      cases hm
      exact ⟨rfl, w_ [] (.cons rfl rfl (.cons rfl rfl .nil)) .nil (by decide) (hB_0 hB0)⟩
  · rcases y19 with j3 | j4
    all_goals simp only at hm
    · rw [← Option.some.inj hm]
      exact ret0 (us' := [.one (.bool false)]) rfl (r_tmp rfl rfl rfl r_nil) f_done rfl rfl
    · refine Wp.seq ?_
      refine c_cut (St 42 [(4, .u (.one (.bool ((if (spec_l1In_m b 0 (((List.length f.blocks : Int)) - 1)) = true then decide (((List.length f.blocks : Int)) ≤ 10) else false)))))] [] 0) ?_ ?_
      · refine c_reg (Y := sysA _) ?_
        refine n_ (x_mv rfl rfl ?_)
        refine n_ (x_mv rfl rfl ?_)
        refine n_ (x_subc T2 rfl rfl (by unfold inI; omega) ?_)
        refine n_ (aopK_A (x_call (v := .u (.one (.bool ((spec_l1In_m b 0 (((List.length f.blocks : Int)) - 1)))))) (nobs := []) (oa' := _) (nx' := 0) rfl (a_1 rfl (b_s rfl) (a_1 rfl (b_s rfl) (a_1 rfl (b_s rfl) a_n))) c_n ent49 (spec_l1In_sim b 0 (((List.length f.blocks : Int)) - 1)) rfl rfl rfl rfl ?_))
        refine n_ (x_mv rfl rfl ?_)
        refine g_s rfl rfl rfl (fun hb22 => ?_) (fun hb22 => ?_)
        · refine g_t rfl rfl rfl ?_
          refine n_ (x_mv rfl rfl ?_)
          refine g_t rfl rfl rfl ?_
          refine n_ (x_bin T2 rfl rfl rfl ?_)
          refine n_ (x_pk rfl rfl rfl ?_)
          refine n_ (x_as rfl rfl ?_)
          refine z_ ?_
          exact w_ [] (.cons (by simp only [hb22, eq_self, if_true, Bool.false_eq_true, if_false, Bool.true_or, Bool.false_or, Bool.true_and, Bool.false_and, Bool.not_true, Bool.not_false]; rfl) rfl .nil) .nil (by decide) (hB_0 hB0)
        · refine g_f rfl rfl rfl ?_
          refine g_f rfl rfl rfl ?_
          refine n_ (x_pk rfl rfl rfl ?_)
          refine n_ (x_as rfl rfl ?_)
          refine z_ ?_
          exact w_ [] (.cons (by simp only [hb22, eq_self, if_true, Bool.false_eq_true, if_false, Bool.true_or, Bool.false_or, Bool.true_and, Bool.false_and, Bool.not_true, Bool.not_false]; rfl) rfl .nil) .nil (by decide) (hB_0 hB0)
      · refine c_ret ?_
        rw [← Option.some.inj hm]
        exact ret0 (us' := [.one (.bool ((if (spec_l1In_m b 0 (((List.length f.blocks : Int)) - 1)) = true then decide (((List.length f.blocks : Int)) ≤ 10) else false)))]) rfl (r_tmp rfl rfl rfl r_nil) f_done rfl rfl

/-- spec.l1Copy -/
noncomputable def spec_l1Copy_m (l : List Int) : Option (List Int) :=
  (if (List.length (([] : List Int)) + List.length l) * 8 ≤ 140737488355328 ∧ List.length (([] : List Int)) + List.length l ≤ LIM then
    (some ((([] : List Int)) ++ l))
    else none)
set_option maxHeartbeats 8000000 in
set_option maxRecDepth 100000 in
theorem spec_l1Copy_sim (l : List Int) {r : List Int} (hm : spec_l1Copy_m l = some r) : Sim Try.prog 90 [.one (.bs () 1 (List.map iL l))] [] (.u (.one (.os () 1 (List.map iL r)))) [] := by
  refine sim_st (N := 6) (k0 := 0) Try.func90 rfl rfl rfl rfl (rs := [.tmp 2]) rfl rfl rfl fun B hB0 => ?_
  unfold spec_l1Copy_m at hm
  refine Wp.seq ?_
  refine c_reg (Y := sysA _) ?_
  refine n_ (x_as rfl rfl ?_)
  refine z_ ?_
  refine Wp.seq ?_
  refine c_reg (Y := sysA _) ?_
  refine n_ (x_bsm (enc := iL) (([] : List Int)) A24 rfl rfl rfl rfl ?_)
  refine n_ (x_mv rfl rfl ?_)
  obtain ⟨h1, hm⟩ := of_ite hm
  refine n_ (x_apr (enc := iL) (xs := ([] : List Int)) (ys := l) A24 N24 (encB_N _) rfl rfl rfl (argR_b _) h1 ?_)
  refine n_ (x_as rfl rfl ?_)
  refine z_ ?_
  refine c_ret ?_
  rw [← Option.some.inj hm]
  exact ret0 (us' := [.one (.os () 1 (List.map iL ((([] : List Int)) ++ l)))]) rfl (r_tmp rfl rfl rfl r_nil) ((f_fold 0 0 rfl rfl rfl rfl).trans f_done) rfl rfl

/-- spec.l1Has -/
noncomputable def spec_l1Has_m (l : List Int) (n : Int) : Option Bool :=
  (Option.bind (loopO (fun (st1 : Int) =>
        ((if decide (st1 < ((List.length l : Int))) = true then
            (if 0 ≤ st1 ∧ st1 < (List.length l : Int) then
              (if ((at_ l st1) == n) = true then
                (some (Sum.inr ((Sum.inl (())))))
                else
                (if inI (st1 + 1) then
                  (some (Sum.inl (st1 + 1)))
                  else none))
              else none)
            else
            (some (Sum.inr ((Sum.inr (())))))) : Option ((Int) ⊕ (Unit ⊕ Unit)))) 0) fun (y9 : Unit ⊕ Unit) => match y9 with
    | (Sum.inl j2) =>
    (some true)
    | (Sum.inr j3) =>
    (some false))
set_option maxHeartbeats 8000000 in
set_option maxRecDepth 100000 in
theorem spec_l1Has_sim (l : List Int) (n : Int) {r : Bool} (hm : spec_l1Has_m l n = some r) : Sim Try.prog 91 [.one (.bs () 1 (List.map iL l)), .one (.int .i64 n)] [] (.u (.one (.bool r))) [] := by
  refine sim_st (N := 18) (k0 := 0) Try.func91 rfl rfl rfl rfl (rs := [.tmp 4]) rfl rfl rfl fun B hB0 => ?_
  unfold spec_l1Has_m at hm
  refine Wp.seq ?_
  refine c_reg (Y := sysA _) ?_
  refine n_ (x_as rfl rfl ?_)
  refine z_ ?_
  refine Wp.seq ?_
  refine Wp.seq ?_
  refine c_reg (Y := sysA _) ?_
  refine n_ (x_as rfl rfl ?_)
  refine z_ ?_
  refine Wp.block ?_
  obtain ⟨y9, hl10, hm⟩ := of_bind hm
  refine c_loop hl10 (fun (st1 : Int) => St 18 [(0, .u (.one (.bs () 1 (List.map iL l)))), (1, .u (.one (.int .i64 n))), (5, .u (.one (.int .i64 st1)))] [] 0) (fun (y : Unit ⊕ Unit) => match y with | (Sum.inl j2) => (.ret, St 18 [(4, .u (.one (.bool true)))] [] 0) | (Sum.inr j3) => (.exit 0, St 18 [] [] 0)) (w_ [] (.cons rfl rfl (.cons rfl rfl (.cons rfl rfl .nil))) .nil (by decide) (hB_0 hB0)) ?_ (by rintro (_ | _) <;> simp) ?_
  · intro st1 x hm
    refine Wp.seq ?_
    refine Wp.seq ?_
    refine c_reg (Y := sysA _) ?_
    refine n_ (x_mv rfl rfl ?_)
    refine n_ (x_mv rfl rfl ?_)
    refine n_ (x_lnb N24 rfl fun hL4 => ?_)
    refine n_ (x_bin T3 rfl rfl rfl ?_)
    refine z_ ?_
    refine c_s rfl rfl (fun hb5 => ?_) (fun hb5 => ?_)
    · rw [if_pos (show _ = true from hb5)] at hm
      refine c_skip ?_
      refine Wp.seq ?_
      refine Wp.block ?_
      refine Wp.seq ?_
      refine c_reg (Y := sysA _) ?_
      refine n_ (x_mv rfl rfl ?_)
      refine n_ (x_mv rfl rfl ?_)
      obtain ⟨h6, hm⟩ := of_ite hm
      refine n_ (x_ixb E24 rfl rfl h6 ?_)
      refine n_ (x_ldi T2 rfl rfl rfl ?_)
      refine n_ (x_mv rfl rfl ?_)
      refine n_ (x_bin T2 rfl rfl rfl ?_)
      refine z_ ?_
      refine c_s rfl rfl (fun hb7 => ?_) (fun hb7 => ?_)
      · rw [if_pos (show _ = true from hb7)] at hm
        refine Wp.seq ?_
        refine c_reg (Y := sysA _) ?_
        refine n_ (x_as rfl rfl ?_)
        refine z_ ?_
        refine c_ret ?_
        cases hm
        exact ⟨rfl, w_ [] (.cons rfl rfl .nil) .nil (by decide) (hB_0 hB0)⟩
      · rw [if_neg (by rw [hb7]; decide)] at hm
        refine c_skip ?_
        refine c_reg (Y := sysA _) ?_
        refine n_ (x_mv rfl rfl ?_)
        obtain ⟨h8, hm⟩ := of_ite hm
        refine n_ (x_addc T3 rfl rfl h8 ?_)
        refine n_ (x_as rfl rfl ?_)
        refine z_ ?_
        cases hm
        exact ⟨rfl, w_ [] (.cons rfl rfl (.cons rfl rfl (.cons rfl rfl .nil))) .nil (by decide) (hB_0 hB0)⟩
    · rw [if_neg (by rw [hb5]; decide)] at hm
      refine c_exit ?_
      cases hm
      exact ⟨rfl, w_ [] .nil .nil (by decide) (hB_0 hB0)⟩
  · rcases y9 with j2 | j3
    all_goals simp only at hm
    · rw [← Option.some.inj hm]
      exact ret0 (us' := [.one (.bool true)]) rfl (r_tmp rfl rfl rfl r_nil) f_done rfl rfl
    · refine Wp.seq ?_
      refine c_reg (Y := sysA _) ?_
      refine n_ (x_as rfl rfl ?_)
      refine z_ ?_
      refine c_ret ?_
      rw [← Option.some.inj hm]
      exact ret0 (us' := [.one (.bool false)]) rfl (r_tmp rfl rfl rfl r_nil) f_done rfl rfl

/-- spec.l1Put -/
noncomputable def spec_l1Put_m (l : List Int) (n : Int) : Option (List Int) :=
  (Option.bind (loopO (fun (st1 : Int) =>
        ((Option.bind ((if decide (st1 < ((List.length l : Int))) = true then
                (if 0 ≤ st1 ∧ st1 < (List.length l : Int) then
                  (some (decide ((at_ l st1) < n)))
                  else none)
                else
                (some false))) fun (j3 : Bool) =>
            (if j3 = true then
              (if inI (st1 + 1) then
                (some (Sum.inl (st1 + 1)))
                else none)
              else
              (some (Sum.inr st1)))) : Option ((Int) ⊕ (Int)))) 0) fun (j2 : Int) =>
    (Option.bind ((if decide (j2 < ((List.length l : Int))) = true then
          (if 0 ≤ j2 ∧ j2 < (List.length l : Int) then
            (some (((at_ l j2) == n)))
            else none)
          else
          (some false))) fun (j12 : Bool) =>
      (if j12 = true then
        (some l)
        else
        (if 0 ≤ j2 ∧ 0 ≤ (Int.toNat j2) ∧ (Int.toNat j2) ≤ List.length l then
          (if (List.length (([] : List Int)) + List.length (List.take ((Int.toNat j2) - 0) (List.drop 0 l))) * 8 ≤ 140737488355328 ∧ List.length (([] : List Int)) + List.length (List.take ((Int.toNat j2) - 0) (List.drop 0 l)) ≤ LIM then
            (if (List.length ((([] : List Int)) ++ (List.take ((Int.toNat j2) - 0) (List.drop 0 l))) + List.length ([n])) * 8 ≤ 140737488355328 ∧ List.length ((([] : List Int)) ++ (List.take ((Int.toNat j2) - 0) (List.drop 0 l))) + List.length ([n]) ≤ LIM then
              (if 0 ≤ j2 ∧ (Int.toNat j2) ≤ (List.length l) ∧ (List.length l) ≤ List.length l then
                (if (List.length (((([] : List Int)) ++ (List.take ((Int.toNat j2) - 0) (List.drop 0 l))) ++ ([n])) + List.length (List.take ((List.length l) - (Int.toNat j2)) (List.drop (Int.toNat j2) l))) * 8 ≤ 140737488355328 ∧ List.length (((([] : List Int)) ++ (List.take ((Int.toNat j2) - 0) (List.drop 0 l))) ++ ([n])) + List.length (List.take ((List.length l) - (Int.toNat j2)) (List.drop (Int.toNat j2) l)) ≤ LIM then
                  (some ((((([] : List Int)) ++ (List.take ((Int.toNat j2) - 0) (List.drop 0 l))) ++ ([n])) ++ (List.take ((List.length l) - (Int.toNat j2)) (List.drop (Int.toNat j2) l))))
                  else none)
                else none)
              else none)
            else none)
          else none))))
set_option maxHeartbeats 8000000 in
set_option maxRecDepth 100000 in
theorem spec_l1Put_sim (l : List Int) (n : Int) {r : List Int} (hm : spec_l1Put_m l n = some r) : Sim Try.prog 92 [.one (.bs () 1 (List.map iL l)), .one (.int .i64 n)] [] (.u (.one (.bs () 1 (List.map iL r)))) [] := by
  refine sim_st (N := 48) (k0 := 0) Try.func92 rfl rfl rfl rfl (rs := [.tmp 4]) rfl rfl rfl fun B hB0 => ?_
  unfold spec_l1Put_m at hm
  refine Wp.seq ?_
  refine c_reg (Y := sysA _) ?_
  refine n_ (x_as rfl rfl ?_)
  refine z_ ?_
  refine Wp.seq ?_
  refine c_reg (Y := sysA _) ?_
  refine n_ (x_as rfl rfl ?_)
  refine z_ ?_
  refine Wp.seq ?_
  refine Wp.block ?_
  obtain ⟨j2, hl11, hm⟩ := of_bind hm
  refine c_loop hl11 (fun (st1 : Int) => St 48 [(0, .u (.one (.bs () 1 (List.map iL l)))), (1, .u (.one (.int .i64 n))), (5, .u (.one (.int .i64 st1)))] [] 0) (fun (j2 : Int) => (.exit 0, St 48 [(0, .u (.one (.bs () 1 (List.map iL l)))), (1, .u (.one (.int .i64 n))), (5, .u (.one (.int .i64 j2)))] [] 0)) (w_ [] (.cons rfl rfl (.cons rfl rfl (.cons rfl rfl .nil))) .nil (by decide) (hB_0 hB0)) ?_ (by intro y; simp) ?_
  · intro st1 x hm
    refine Wp.seq ?_
    refine Wp.seq ?_
    obtain ⟨j3, hj7, hm⟩ := of_bind hm
    refine c_cut (St 48 [(0, .u (.one (.bs () 1 (List.map iL l)))), (1, .u (.one (.int .i64 n))), (5, .u (.one (.int .i64 st1))), (18, .u (.one (.bool j3)))] [] 0) ?_ ?_
    · replace hm := hj7
      refine c_reg (Y := sysA _) ?_
      refine n_ (x_mv rfl rfl ?_)
      refine n_ (x_mv rfl rfl ?_)
      refine n_ (x_lnb N24 rfl fun hL4 => ?_)
      refine n_ (x_bin T3 rfl rfl rfl ?_)
      refine n_ (x_mv rfl rfl ?_)
      refine g_s rfl rfl rfl (fun hb5 => ?_) (fun hb5 => ?_)
      · rw [if_pos (show _ = true from hb5)] at hm
        refine g_t rfl rfl rfl ?_
        refine n_ (x_mv rfl rfl ?_)
        refine g_t rfl rfl rfl ?_
        refine n_ (x_mv rfl rfl ?_)
        refine g_t rfl rfl rfl ?_
        obtain ⟨h6, hm⟩ := of_ite hm
        refine n_ (x_ixb E24 rfl rfl h6 ?_)
        refine g_t rfl rfl rfl ?_
        refine n_ (x_ldi T2 rfl rfl rfl ?_)
        refine g_t rfl rfl rfl ?_
        refine n_ (x_mv rfl rfl ?_)
        refine g_t rfl rfl rfl ?_
        refine n_ (x_bin T2 rfl rfl rfl ?_)
        refine n_ (x_pk rfl rfl rfl ?_)
        refine z_ ?_
        cases hm
        exact w_ [] (.cons rfl rfl (.cons rfl rfl (.cons rfl rfl (.cons rfl rfl .nil)))) .nil (by decide) (hB_0 hB0)
      · rw [if_neg (by rw [hb5]; decide)] at hm
        refine g_f rfl rfl rfl ?_
        refine g_f rfl rfl rfl ?_
        refine g_f rfl rfl rfl ?_
        refine g_f rfl rfl rfl ?_
        refine g_f rfl rfl rfl ?_
        refine g_f rfl rfl rfl ?_
        refine n_ (x_pk rfl rfl rfl ?_)
        refine z_ ?_
        cases hm
        exact w_ [] (.cons rfl rfl (.cons rfl rfl (.cons rfl rfl (.cons rfl rfl .nil)))) .nil (by decide) (hB_0 hB0)
    · refine c_s rfl rfl (fun hb8 => ?_) (fun hb8 => ?_)
      · rw [if_pos (show _ = true from hb8)] at hm
        refine c_skip ?_
        refine Wp.block ?_
        refine c_reg (Y := sysA _) ?_
        refine n_ (x_mv rfl rfl ?_)
        obtain ⟨h9, hm⟩ := of_ite hm
        refine n_ (x_addc T3 rfl rfl h9 ?_)
        refine n_ (x_as rfl rfl ?_)
        refine z_ ?_
        cases hm
        exact ⟨rfl, w_ [] (.cons rfl rfl (.cons rfl rfl (.cons rfl rfl .nil))) .nil (by decide) (hB_0 hB0)⟩
      · rw [if_neg (by rw [hb8]; decide)] at hm
        refine c_exit ?_
        cases hm
        exact ⟨rfl, w_ [] (.cons rfl rfl (.cons rfl rfl (.cons rfl rfl .nil))) .nil (by decide) (hB_0 hB0)⟩
  · refine Wp.seq ?_
    refine Wp.seq ?_
    obtain ⟨j12, hj16, hm⟩ := of_bind hm
    refine c_cut (St 48 [(0, .u (.one (.bs () 1 (List.map iL l)))), (1, .u (.one (.int .i64 n))), (5, .u (.one (.int .i64 j2))), (32, .u (.one (.bool j12)))] [] 0) ?_ ?_
    · replace hm := hj16
      refine c_reg (Y := sysA _) ?_
      refine n_ (x_mv rfl rfl ?_)
      refine n_ (x_mv rfl rfl ?_)
      refine n_ (x_lnb N24 rfl fun hL13 => ?_)
      refine n_ (x_bin T3 rfl rfl rfl ?_)
      refine n_ (x_mv rfl rfl ?_)
      refine g_s rfl rfl rfl (fun hb14 => ?_) (fun hb14 => ?_)
      · rw [if_pos (show _ = true from hb14)] at hm
        refine g_t rfl rfl rfl ?_
        refine n_ (x_mv rfl rfl ?_)
        refine g_t rfl rfl rfl ?_
        refine n_ (x_mv rfl rfl ?_)
        refine g_t rfl rfl rfl ?_
        obtain ⟨h15, hm⟩ := of_ite hm
        refine n_ (x_ixb E24 rfl rfl h15 ?_)
        refine g_t rfl rfl rfl ?_
        refine n_ (x_ldi T2 rfl rfl rfl ?_)
        refine g_t rfl rfl rfl ?_
        refine n_ (x_mv rfl rfl ?_)
        refine g_t rfl rfl rfl ?_
        refine n_ (x_bin T2 rfl rfl rfl ?_)
        refine n_ (x_pk rfl rfl rfl ?_)
        refine z_ ?_
        cases hm
        exact w_ [] (.cons rfl rfl (.cons rfl rfl (.cons rfl rfl (.cons rfl rfl .nil)))) .nil (by decide) (hB_0 hB0)
      · rw [if_neg (by rw [hb14]; decide)] at hm
        refine g_f rfl rfl rfl ?_
        refine g_f rfl rfl rfl ?_
        refine g_f rfl rfl rfl ?_
        refine g_f rfl rfl rfl ?_
        refine g_f rfl rfl rfl ?_
        refine g_f rfl rfl rfl ?_
        refine n_ (x_pk rfl rfl rfl ?_)
        refine z_ ?_
        cases hm
        exact w_ [] (.cons rfl rfl (.cons rfl rfl (.cons rfl rfl (.cons rfl rfl .nil)))) .nil (by decide) (hB_0 hB0)
    · refine c_s rfl rfl (fun hb17 => ?_) (fun hb17 => ?_)
      · rw [if_pos (show _ = true from hb17)] at hm
        refine Wp.seq ?_
        refine c_reg (Y := sysA _) ?_
        refine n_ (x_mv rfl rfl ?_)
        refine n_ (x_as rfl rfl ?_)
        refine z_ ?_
        refine c_ret ?_
        rw [← Option.some.inj hm]
        exact ret0 (us' := [.one (.bs () 1 (List.map iL l))]) rfl (r_tmp rfl rfl rfl r_nil) f_done rfl rfl
      · rw [if_neg (by rw [hb17]; decide)] at hm
        refine c_skip ?_
        refine Wp.seq ?_
        refine c_reg (Y := sysA _) ?_
        refine n_ (x_bsm (enc := iL) (([] : List Int)) A24 rfl rfl rfl rfl ?_)
        refine n_ (x_mv rfl rfl ?_)
        refine n_ (x_mv rfl rfl ?_)
        obtain ⟨h18, hm⟩ := of_ite hm
        refine n_ (x_slb (enc := iL) (xs := l) (l := 0) (h := (Int.toNat j2)) E24 rfl bd_n (bd_s rfl h18.1) h18.2 ?_)
        obtain ⟨h19, hm⟩ := of_ite hm
        refine n_ (x_apr (enc := iL) (xs := ([] : List Int)) (ys := List.take ((Int.toNat j2) - 0) (List.drop 0 l)) A24 N24 (encB_N _) rfl rfl rfl (argR_b _) h19 ?_)
        refine n_ (x_as rfl rfl ?_)
        refine z_ ?_
        refine Wp.seq ?_
        refine c_reg (Y := sysA _) ?_
        refine n_ (x_mv rfl rfl ?_)
        refine n_ (x_mv rfl rfl ?_)
        refine n_ (x_bsm (enc := iL) ([n]) A24 rfl rfl rfl rfl ?_)
        obtain ⟨h20, hm⟩ := of_ite hm
        refine n_ (x_apr (enc := iL) (xs := (([] : List Int)) ++ (List.take ((Int.toNat j2) - 0) (List.drop 0 l))) (ys := [n]) A24 N24 (encB_N _) rfl rfl rfl (argR_r rfl) h20 ?_)
        refine n_ (x_as rfl rfl ?_)
        refine z_ ?_
        refine Wp.seq ?_
        refine c_reg (Y := sysA _) ?_
        refine n_ (x_mv rfl rfl ?_)
        refine n_ (x_mv rfl rfl ?_)
        refine n_ (x_mv rfl rfl ?_)
        obtain ⟨h21, hm⟩ := of_ite hm
        refine n_ (x_slb (enc := iL) (xs := l) (l := (Int.toNat j2)) (h := (List.length l)) E24 rfl (bd_s rfl h21.1) bd_n h21.2 ?_)
        obtain ⟨h22, hm⟩ := of_ite hm
        refine n_ (x_apr (enc := iL) (xs := ((([] : List Int)) ++ (List.take ((Int.toNat j2) - 0) (List.drop 0 l))) ++ ([n])) (ys := List.take ((List.length l) - (Int.toNat j2)) (List.drop (Int.toNat j2) l)) A24 N24 (encB_N _) rfl rfl rfl (argR_b _) h22 ?_)
        refine n_ (x_as rfl rfl ?_)
        refine z_ ?_
        refine c_ret ?_
        rw [← Option.some.inj hm]
        exact ret0 (us' := [.one (.bs () 1 (List.map iL ((((([] : List Int)) ++ (List.take ((Int.toNat j2) - 0) (List.drop 0 l))) ++ ([n])) ++ (List.take ((List.length l) - (Int.toNat j2)) (List.drop (Int.toNat j2) l)))))]) rfl (r_tmp rfl rfl rfl r_nil) ((f_frR 0 0 rfl rfl rfl (by first | rfl | simp) rfl rfl).trans f_done) rfl rfl

/-- spec.l3Reach -/
noncomputable def spec_l3Reach_m (f : GFunc) (without : Int) : Option (List Int) :=
  (if (without == 0) = true then
    (some (([] : List Int)))
    else
    (Option.bind (loopO (fun (st3 : (List Int) × (List Int)) =>
          ((if decide (((List.length st3.1 : Int)) > 0) = true then
              (if (0 : Int) ≤ 0 ∧ 0 < (List.length st3.1 : Int) then
                (if 1 ≤ (List.length st3.1) ∧ (List.length st3.1) ≤ List.length st3.1 then
                  (Option.bind (spec_l1Copy_m (List.drop 1 st3.1)) fun x9 =>
                    (Option.bind ((if ((at_ st3.1 0) == without) = true then
                        (some true)
                        else
                        (Option.bind (spec_l1Has_m st3.2 (at_ st3.1 0)) fun x13 =>
                        (some x13)))) fun (j11 : Bool) =>
                      (if j11 = true then
                        (some (Sum.inl ((x9, st3.2))))
                        else
                        (Option.bind (spec_l1Put_m st3.2 (at_ st3.1 0)) fun x17 =>
                        (Option.bind (spec_l3Succs_m f (at_ st3.1 0)) fun x19 =>
                        (if (List.length x9 + List.length x19) * 8 ≤ 140737488355328 ∧ List.length x9 + List.length x19 ≤ LIM then
                        (some (Sum.inl ((x9 ++ x19, x17))))
                        else none))))))
                  else none)
                else none)
              else
              (some (Sum.inr st3.2))) : Option (((List Int) × (List Int)) ⊕ (((List Int)))))) ([0], ([] : List Int))) fun (j4 : (List Int)) =>
      (some j4)))
set_option maxHeartbeats 8000000 in
set_option maxRecDepth 100000 in
theorem spec_l3Reach_sim (f : GFunc) (without : Int) {r : List Int} (hm : spec_l3Reach_m f without = some r) : Sim Try.prog 43 [.agg (eFunc false f), .one (.int .i64 without)] [] (.u (.one (.bs () 1 (List.map iL r)))) [] := by
  refine sim_st (N := 39) (k0 := 0) Try.func43 rfl rfl rfl rfl (rs := [.tmp 4]) rfl rfl rfl fun B hB0 => ?_
  unfold spec_l3Reach_m at hm
  refine Wp.seq ?_
  refine c_reg (Y := sysA _) ?_
  refine n_ (x_bx rfl rfl rfl rfl ?_)
  refine n_ (x_as rfl rfl ?_)
  refine z_ ?_
  refine Wp.seq ?_
  refine c_reg (Y := sysA _) ?_
  refine n_ (x_bsm (enc := iL) (([] : List Int)) A24 rfl rfl rfl rfl ?_)
  refine n_ (x_as rfl rfl ?_)
  refine z_ ?_
  refine Wp.seq ?_
  refine Wp.seq ?_
  refine c_reg (Y := sysA _) ?_
  refine n_ (x_mv rfl rfl ?_)
  refine n_ (x_bin T2 rfl rfl rfl ?_)
  refine z_ ?_
  refine c_s rfl rfl (fun hb1 => ?_) (fun hb1 => ?_)
  · rw [if_pos (show _ = true from hb1)] at hm
    refine Wp.seq ?_
    refine c_reg (Y := sysA _) ?_
    refine n_ (x_mv rfl rfl ?_)
    refine n_ (x_as rfl rfl ?_)
    refine z_ ?_
    refine c_ret ?_
    rw [← Option.some.inj hm]
    exact ret0 (us' := [.one (.bs () 1 (List.map iL (([] : List Int))))]) rfl (r_tmp rfl rfl rfl r_nil) ((f_frR 0 0 rfl rfl rfl (by first | rfl | simp) rfl rfl).trans f_done) rfl rfl
  · rw [if_neg (by rw [hb1]; decide)] at hm
    refine c_skip ?_
    refine Wp.seq ?_
    refine c_reg (Y := sysA _) ?_
    refine n_ (x_bsm (enc := iL) ([0]) A24 rfl rfl rfl rfl ?_)
    refine n_ (x_as rfl rfl ?_)
    refine z_ ?_
    refine Wp.seq ?_
    refine Wp.block ?_
    refine Wp.ghb _ (f_frz 1 [8, 5] rfl (all_plain_map _) (.cons rfl (by simp) (.cons rfl (by simp) .nil)) rfl) ?_
    obtain ⟨j4, hl23, hm⟩ := of_bind hm
    refine c_loop hl23 (fun (st3 : (List Int) × (List Int)) => St 39 [(1, .u (.one (.int .i64 without))), (2, .u (.one (.ptr () 0 0 0))), (5, .u (.one (.bs () 1 (List.map iL st3.2)))), (6, .u (.one (.ref () 1 0 (List.length st3.1))))] [(0, some ⟨(), 3, [(eFunc false f)]⟩), (1, some ⟨(), 1, List.map iL st3.1⟩)] 2) (fun (j4 : (List Int)) => (.exit 0, St 39 [(5, .u (.one (.bs () 1 (List.map iL j4))))] [] 0)) (w_ [0, 2] (.cons rfl rfl (.cons rfl rfl (.cons rfl rfl (.cons (by first | rfl | (simp only [List.length_set]; rfl)) rfl .nil)))) (.lit rfl rfl (.map rfl .nil)) (by decide) (hB_0 hB0)) ?_ (by intro y; simp) ?_
    · intro st3 x hm
      refine Wp.seq ?_
      refine Wp.seq ?_
      refine c_reg (Y := sysA _) ?_
      refine n_ (x_mv rfl rfl ?_)
      refine n_ (x_lnr rfl N24 rfl rfl fun hL5 => ?_)
      refine n_ (x_bin T3 rfl rfl rfl ?_)
      refine z_ ?_
      refine c_s rfl rfl (fun hb6 => ?_) (fun hb6 => ?_)
      · rw [if_pos (show _ = true from hb6)] at hm
        refine c_skip ?_
        refine Wp.block ?_
        refine Wp.seq ?_
        refine c_reg (Y := sysA _) ?_
        refine n_ (x_mv rfl rfl ?_)
        obtain ⟨h7, hm⟩ := of_ite hm
        refine n_ (x_ix0 rfl E24 rfl rfl rfl h7 ?_)
        refine n_ (x_ldn rfl T2 rfl rfl h7 rfl rfl ?_)
        refine n_ (x_as rfl rfl ?_)
        refine z_ ?_
        refine Wp.seq ?_
        refine c_regS ?_
        refine o_run (Y := sysA _) 2 ?_
        refine n_ (x_mv rfl rfl ?_)
        obtain ⟨h8, hm⟩ := of_ite hm
        refine n_ (x_slr (l := 1) (h := (List.length st3.1)) rfl E24 rfl rfl (bd_s (m := 1) rfl (by decide)) bd_n h8 ?_)
        refine z_ ?_
        refine WpO.ghb (f_cutd 20 st3.1 (List.drop 1 st3.1) rfl rfl rfl (by simp only [List.length_take, List.length_drop] <;> omega) (by first | rfl | exact List.take_of_length_le (by simp only [List.length_drop, Nat.zero_add] <;> omega))) ?_
        refine o_run (Y := sysA _) 2 ?_
        obtain ⟨x9, h10, hm⟩ := of_bind hm
        refine n_ (aopK_A (x_call (v := .u (.one (.ref () 3 0 (List.length x9)))) (nobs := [(3, ⟨(), 1, List.map iL x9⟩)]) (oa' := _) (nx' := 4) rfl (a_1 rfl (b_r rfl) a_n) c_n ent90 (spec_l1Copy_sim (List.drop 1 st3.1) h10) (by simp only [immFreeV, leavesV, leavesU, List.flatMap_cons, List.flatMap_nil, List.append_nil, List.cons_append, List.nil_append, List.all_cons, List.all_nil, immFreeL, immF_map, Bool.and_true, Bool.and_self]) (by simp only [rootV, rootU, rootLs, rootUs, List.length_map, List.map_cons, List.map_nil]) rfl rfl ?_))
        refine n_ (x_as rfl rfl ?_)
        refine z_ ?_
        refine o_end ?_
        refine Wp.seq ?_
        refine Wp.seq ?_
        obtain ⟨j11, hj15, hm⟩ := of_bind hm
        refine c_cut (St 39 [(1, .u (.one (.int .i64 without))), (2, .u (.one (.ptr () 0 0 0))), (5, .u (.one (.bs () 1 (List.map iL st3.2)))), (6, .u (.one (.ref () 1 0 (List.length x9)))), (7, .u (.one (.int .i64 (at_ st3.1 0)))), (29, .u (.one (.bool j11)))] [(0, some ⟨(), 3, [(eFunc false f)]⟩), (1, some ⟨(), 1, List.map iL x9⟩)] 2) ?_ ?_
        · replace hm := hj15
          refine c_reg (Y := sysA _) ?_
          refine n_ (x_mv rfl rfl ?_)
          refine n_ (x_mv rfl rfl ?_)
          refine n_ (x_bin T2 rfl rfl rfl ?_)
          refine n_ (x_mv rfl rfl ?_)
          refine g_s rfl rfl rfl (fun hb12 => ?_) (fun hb12 => ?_)
          · rw [if_neg (by rw [hb12]; decide)] at hm
            refine g_t rfl rfl rfl ?_
            refine n_ (x_mv rfl rfl ?_)
            refine g_t rfl rfl rfl ?_
            refine n_ (x_mv rfl rfl ?_)
            refine g_t rfl rfl rfl ?_
            obtain ⟨x13, h14, hm⟩ := of_bind hm
            refine n_ (aopK_A (x_call (v := .u (.one (.bool x13))) (nobs := []) (oa' := _) (nx' := 4) rfl (a_1 rfl (b_s rfl) (a_1 rfl (b_s rfl) a_n)) c_n ent91 (spec_l1Has_sim st3.2 (at_ st3.1 0) h14) rfl rfl rfl rfl ?_))
            refine n_ (x_pk rfl rfl rfl ?_)
            refine z_ ?_
            cases hm
            exact w_ [0, 3] (.cons rfl rfl (.cons rfl rfl (.cons rfl rfl (.cons (by first | rfl | (simp only [List.length_set]; rfl)) rfl (.cons rfl rfl (.cons rfl rfl .nil)))))) (.lit rfl rfl (.map rfl .nil)) (by decide) (hB_0 hB0)
          · rw [if_pos (show _ = true from hb12)] at hm
            refine g_f rfl rfl rfl ?_
            refine g_f rfl rfl rfl ?_
            refine g_f rfl rfl rfl ?_
            refine n_ (x_pk rfl rfl rfl ?_)
            refine z_ ?_
            cases hm
            exact w_ [0, 3] (.cons rfl rfl (.cons rfl rfl (.cons rfl rfl (.cons (by first | rfl | (simp only [List.length_set]; rfl)) rfl (.cons rfl rfl (.cons rfl rfl .nil)))))) (.lit rfl rfl (.map rfl .nil)) (by decide) (hB_0 hB0)
        · refine c_s rfl rfl (fun hb16 => ?_) (fun hb16 => ?_)
          · rw [if_pos (show _ = true from hb16)] at hm
            refine c_exit ?_
            cases hm
            exact ⟨rfl, w_ [0, 1] (.cons rfl rfl (.cons rfl rfl (.cons rfl rfl (.cons (by first | rfl | (simp only [List.length_set]; rfl)) rfl .nil)))) (.lit rfl rfl (.map rfl .nil)) (by decide) (hB_0 hB0)⟩
          · rw [if_neg (by rw [hb16]; decide)] at hm
            refine c_skip ?_
            refine Wp.seq ?_
            refine c_reg (Y := sysA _) ?_
            refine n_ (x_mv rfl rfl ?_)
            refine n_ (x_mv rfl rfl ?_)
            obtain ⟨x17, h18, hm⟩ := of_bind hm
            refine n_ (x_cg (v := .u (.one (.bs () 1 (List.map iL x17)))) (nobs := []) (oa' := _) (nx' := 2) (cs := []) (obs := []) [] false rfl (by decide) h_n rfl (g_1 (l := .bs () 1 (List.map iL st3.2)) rfl rfl rfl (g_1 (l := .int .i64 (at_ st3.1 0)) rfl rfl rfl g_n)) rfl rfl ent92 (spec_l1Put_sim st3.2 (at_ st3.1 0) h18) (.inl rfl) rfl rfl rfl rfl ?_)
            refine n_ (x_as rfl rfl ?_)
            refine z_ ?_
            refine c_reg (Y := sysA _) ?_
            refine n_ (x_mv rfl rfl ?_)
            refine n_ (x_ldp rfl T27 rfl rfl rfl (pk_all rfl rfl) rfl ?_)
            refine n_ (x_mv rfl rfl ?_)
            obtain ⟨x19, h20, hm⟩ := of_bind hm
            refine n_ (aopK_A (x_call (v := .u (.one (.ref () 2 0 (List.length x19)))) (nobs := [(2, ⟨(), 1, List.map iL x19⟩)]) (oa' := _) (nx' := 3) rfl (a_a rfl (c_all rfl) (a_1 rfl (b_s rfl) a_n)) c_n ent89 (spec_l3Succs_sim f (at_ st3.1 0) h20) (by simp only [immFreeV, leavesV, leavesU, List.flatMap_cons, List.flatMap_nil, List.append_nil, List.cons_append, List.nil_append, List.all_cons, List.all_nil, immFreeL, immF_map, Bool.and_true, Bool.and_self]) (by simp only [rootV, rootU, rootLs, rootUs, List.length_map, List.map_cons, List.map_nil]) rfl rfl ?_))
            obtain ⟨h21, hm⟩ := of_ite hm
            refine n_ (x_apr (enc := iL) (xs := x9) (ys := x19) A24 N24 (encB_N _) rfl rfl rfl (argR_r rfl) h21 ?_)
            refine n_ (x_as rfl rfl ?_)
            refine z_ ?_
            cases hm
            exact ⟨rfl, w_ [0, 3] (.cons rfl rfl (.cons rfl rfl (.cons rfl rfl (.cons (by first | rfl | (simp only [List.length_set]; rfl)) rfl .nil)))) (.lit rfl rfl (.map rfl .nil)) (by decide) (hB_0 hB0)⟩
      · rw [if_neg (by rw [hb6]; decide)] at hm
        refine c_exit ?_
        cases hm
        exact ⟨rfl, w_ [] (.cons rfl rfl .nil) .nil (by decide) (hB_0 hB0)⟩
    · refine Wp.seq ?_
      refine c_reg (Y := sysA _) ?_
      refine n_ (x_mv rfl rfl ?_)
      refine n_ (x_as rfl rfl ?_)
      refine z_ ?_
      refine c_ret ?_
      rw [← Option.some.inj hm]
      exact ret0 (us' := [.one (.bs () 1 (List.map iL j4))]) rfl (r_tmp rfl rfl rfl r_nil) f_done rfl rfl

/-- spec.Reached -/
noncomputable def spec_Reached_m (f : GFunc) : Option (List Int) :=
  (Option.bind (spec_l3There_m f 0) fun x1 =>
    (if (!x1) = true then
      (some (([] : List Int)))
      else
      (Option.bind (spec_l3Reach_m f ((-1))) fun x4 =>
        (some x4))))
set_option maxHeartbeats 8000000 in
set_option maxRecDepth 100000 in
theorem spec_Reached_sim (f : GFunc) {r : List Int} (hm : spec_Reached_m f = some r) : Sim Try.prog 12 [.agg (eFunc false f)] [] (.u (.one (.bs () 1 (List.map iL r)))) [] := by
  refine sim_st (N := 9) (k0 := 0) Try.func12 rfl rfl rfl rfl (rs := [.tmp 2]) rfl rfl rfl fun B hB0 => ?_
  unfold spec_Reached_m at hm
  refine Wp.seq ?_
  refine c_reg (Y := sysA _) ?_
  refine n_ (x_bx rfl rfl rfl rfl ?_)
  refine n_ (x_as rfl rfl ?_)
  refine z_ ?_
  refine Wp.seq ?_
  refine Wp.seq ?_
  refine c_reg (Y := sysA _) ?_
  refine n_ (x_ldp rfl T27 rfl rfl rfl (pk_all rfl rfl) rfl ?_)
  obtain ⟨x1, h2, hm⟩ := of_bind hm
  refine n_ (aopK_A (x_call (v := .u (.one (.bool x1))) (nobs := []) (oa' := _) (nx' := 1) rfl (a_a rfl (c_all rfl) (a_1 rfl (b_s rfl) a_n)) c_n ent42 (spec_l3There_sim f 0 h2) rfl rfl rfl rfl ?_))
  refine n_ (x_un rfl rfl ?_)
  refine z_ ?_
  refine c_s rfl rfl (fun hb3 => ?_) (fun hb3 => ?_)
  · rw [if_pos (show _ = true from hb3)] at hm
    refine Wp.seq ?_
    refine c_reg (Y := sysA _) ?_
    refine n_ (x_bsm (enc := iL) (([] : List Int)) A24 rfl rfl rfl rfl ?_)
    refine n_ (x_as rfl rfl ?_)
    refine z_ ?_
    refine c_ret ?_
    rw [← Option.some.inj hm]
    exact ret0 (us' := [.one (.bs () 1 (List.map iL (([] : List Int))))]) rfl (r_tmp rfl rfl rfl r_nil) ((f_frR 0 0 rfl rfl rfl (by first | rfl | simp) rfl rfl).trans f_done) rfl rfl
  · rw [if_neg (by rw [hb3]; decide)] at hm
    refine c_skip ?_
    refine Wp.seq ?_
    refine c_reg (Y := sysA _) ?_
    refine n_ (x_ldp rfl T27 rfl rfl rfl (pk_all rfl rfl) rfl ?_)
    obtain ⟨x4, h5, hm⟩ := of_bind hm
    refine n_ (x_cg (v := .u (.one (.bs () 1 (List.map iL x4)))) (nobs := []) (oa' := _) (nx' := 1) (cs := []) (obs := []) [] false rfl (by decide) h_n rfl (g_a (ls := eFunc false f) rfl rfl rfl (g_1 (l := .int .i64 ((-1))) rfl rfl rfl g_n)) rfl rfl ent43 (spec_l3Reach_sim f ((-1)) h5) (.inl rfl) rfl rfl rfl rfl ?_)
    refine n_ (x_as rfl rfl ?_)
    refine z_ ?_
    refine c_ret ?_
    rw [← Option.some.inj hm]
    exact ret0 (us' := [.one (.bs () 1 (List.map iL x4))]) rfl (r_tmp rfl rfl rfl r_nil) f_done rfl rfl

/-- laws.sameInts -/
noncomputable def laws_sameInts_m (a : List Int) (b : List Int) : Option Bool :=
  (if (((List.length a : Int)) != ((List.length b : Int))) = true then
    (some false)
    else
    (Option.bind (loopO (fun (st4 : Int) =>
          ((if decide (st4 < ((List.length a : Int))) = true then
              (if 0 ≤ st4 ∧ st4 < (List.length a : Int) then
                (if 0 ≤ st4 ∧ st4 < (List.length b : Int) then
                  (if ((at_ a st4) != (at_ b st4)) = true then
                    (some (Sum.inr ((Sum.inl (())))))
                    else
                    (if inI (st4 + 1) then
                      (some (Sum.inl (st4 + 1)))
                      else none))
                  else none)
                else none)
              else
              (some (Sum.inr ((Sum.inr (())))))) : Option ((Int) ⊕ (Unit ⊕ Unit)))) 0) fun (y13 : Unit ⊕ Unit) => match y13 with
      | (Sum.inl j5) =>
      (some false)
      | (Sum.inr j6) =>
      (some true)))
set_option maxHeartbeats 8000000 in
set_option maxRecDepth 100000 in
theorem laws_sameInts_sim (a : List Int) (b : List Int) {r : Bool} (hm : laws_sameInts_m a b = some r) : Sim Try.prog 11 [.one (.bs () 1 (List.map iL a)), .one (.bs () 1 (List.map iL b))] [] (.u (.one (.bool r))) [] := by
  refine sim_st (N := 26) (k0 := 0) Try.func11 rfl rfl rfl rfl (rs := [.tmp 4]) rfl rfl rfl fun B hB0 => ?_
  unfold laws_sameInts_m at hm
  refine Wp.seq ?_
  refine c_reg (Y := sysA _) ?_
  refine n_ (x_as rfl rfl ?_)
  refine z_ ?_
  refine Wp.seq ?_
  refine Wp.seq ?_
  refine c_reg (Y := sysA _) ?_
  refine n_ (x_mv rfl rfl ?_)
  refine n_ (x_lnb N24 rfl fun hL1 => ?_)
  refine n_ (x_mv rfl rfl ?_)
  refine n_ (x_lnb N24 rfl fun hL2 => ?_)
  refine n_ (x_bin T3 rfl rfl rfl ?_)
  refine z_ ?_
  refine c_s rfl rfl (fun hb3 => ?_) (fun hb3 => ?_)
  · rw [if_pos (show _ = true from hb3)] at hm
    refine Wp.seq ?_
    refine c_reg (Y := sysA _) ?_
    refine n_ (x_as rfl rfl ?_)
    refine z_ ?_
    refine c_ret ?_
    rw [← Option.some.inj hm]
    exact ret0 (us' := [.one (.bool false)]) rfl (r_tmp rfl rfl rfl r_nil) f_done rfl rfl
  · rw [if_neg (by rw [hb3]; decide)] at hm
    refine c_skip ?_
    refine Wp.seq ?_
    refine Wp.seq ?_
    refine c_reg (Y := sysA _) ?_
    refine n_ (x_as rfl rfl ?_)
    refine z_ ?_
    refine Wp.block ?_
    obtain ⟨y13, hl14, hm⟩ := of_bind hm
    refine c_loop hl14 (fun (st4 : Int) => St 26 [(0, .u (.one (.bs () 1 (List.map iL a)))), (1, .u (.one (.bs () 1 (List.map iL b)))), (5, .u (.one (.int .i64 st4)))] [] 0) (fun (y : Unit ⊕ Unit) => match y with | (Sum.inl j5) => (.ret, St 26 [(4, .u (.one (.bool false)))] [] 0) | (Sum.inr j6) => (.exit 0, St 26 [] [] 0)) (w_ [] (.cons rfl rfl (.cons rfl rfl (.cons rfl rfl .nil))) .nil (by decide) (hB_0 hB0)) ?_ (by rintro (_ | _) <;> simp) ?_
    · intro st4 x hm
      refine Wp.seq ?_
      refine Wp.seq ?_
      refine c_reg (Y := sysA _) ?_
      refine n_ (x_mv rfl rfl ?_)
      refine n_ (x_mv rfl rfl ?_)
      refine n_ (x_lnb N24 rfl fun hL7 => ?_)
      refine n_ (x_bin T3 rfl rfl rfl ?_)
      refine z_ ?_
      refine c_s rfl rfl (fun hb8 => ?_) (fun hb8 => ?_)
      · rw [if_pos (show _ = true from hb8)] at hm
        refine c_skip ?_
        refine Wp.seq ?_
        refine Wp.block ?_
        refine Wp.seq ?_
        refine c_drw (Y := sysC _) mixed ?_
        refine t_ 0 0 rfl (by decide +kernel) (x_mv rfl rfl ?_)
        refine t_ 1 0 rfl (by decide +kernel) (x_mv rfl rfl ?_)
        obtain ⟨h9, hm⟩ := of_ite hm
        refine t_ 2 0 rfl (by decide +kernel) (x_ixb E24 rfl rfl h9 ?_)
        refine t_ 3 0 rfl (by decide +kernel) (x_ldi T2 rfl rfl rfl ?_)
        refine t_ 4 0 rfl (by decide +kernel) (x_mv rfl rfl ?_)
        refine t_ 5 0 rfl (by decide +kernel) (x_mv rfl rfl ?_)
        obtain ⟨h10, hm⟩ := of_ite hm
        refine t_ 6 0 rfl (by decide +kernel) (x_ixb E24 rfl rfl h10 ?_)
        refine t_ 7 0 rfl (by decide +kernel) (x_ldi T2 rfl rfl rfl ?_)
        refine t_ 8 0 rfl (by decide +kernel) (x_bin T2 rfl rfl rfl ?_)
        refine a_nil (by decide +kernel) ?_
        refine c_s rfl rfl (fun hb11 => ?_) (fun hb11 => ?_)
        · rw [if_pos (show _ = true from hb11)] at hm
          refine Wp.seq ?_
          refine c_reg (Y := sysA _) ?_
          refine n_ (x_as rfl rfl ?_)
          refine z_ ?_
          refine c_ret ?_
          cases hm
          exact ⟨rfl, w_ [] (.cons rfl rfl .nil) .nil (by decide) (hB_0 hB0)⟩
        · rw [if_neg (by rw [hb11]; decide)] at hm
          refine c_skip ?_
          refine c_reg (Y := sysA _) ?_
          refine n_ (x_mv rfl rfl ?_)
          obtain ⟨h12, hm⟩ := of_ite hm
          refine n_ (x_addc T3 rfl rfl h12 ?_)
          refine n_ (x_as rfl rfl ?_)
          refine z_ ?_
          cases hm
          exact ⟨rfl, w_ [] (.cons rfl rfl (.cons rfl rfl (.cons rfl rfl .nil))) .nil (by decide) (hB_0 hB0)⟩
      · rw [if_neg (by rw [hb8]; decide)] at hm
        refine c_exit ?_
        cases hm
        exact ⟨rfl, w_ [] .nil .nil (by decide) (hB_0 hB0)⟩
    · rcases y13 with j5 | j6
      all_goals simp only at hm
      · rw [← Option.some.inj hm]
        exact ret0 (us' := [.one (.bool false)]) rfl (r_tmp rfl rfl rfl r_nil) f_done rfl rfl
      · refine Wp.seq ?_
        refine c_reg (Y := sysA _) ?_
        refine n_ (x_as rfl rfl ?_)
        refine z_ ?_
        refine c_ret ?_
        rw [← Option.some.inj hm]
        exact ret0 (us' := [.one (.bool true)]) rfl (r_tmp rfl rfl rfl r_nil) f_done rfl rfl

/-- impl.isBlockOf -/
noncomputable def impl_isBlockOf_m (f : GFunc) (b : Int) : Option Bool :=
  (Option.bind ((Option.bind (impl_isGraph_m f) fun x2 =>
        (if x2 = true then
          (some ((impl_within_m b 0 (((List.length f.blocks : Int)) - 1))))
          else
          (some false)))) fun (j1 : Bool) =>
    (some j1))
set_option maxHeartbeats 8000000 in
set_option maxRecDepth 100000 in
theorem impl_isBlockOf_sim (f : GFunc) (b : Int) {r : Bool} (hm : impl_isBlockOf_m f b = some r) : Sim Try.prog 44 [.agg (eFunc false f), .one (.int .i64 b)] [] (.u (.one (.bool r))) [] := by
  refine sim_st (N := 15) (k0 := 0) Try.func44 rfl rfl rfl rfl (rs := [.tmp 4]) rfl rfl rfl fun B hB0 => ?_
  unfold impl_isBlockOf_m at hm
  refine Wp.seq ?_
  refine c_reg (Y := sysA _) ?_
  refine n_ (x_bx rfl rfl rfl rfl ?_)
  refine n_ (x_as rfl rfl ?_)
  refine z_ ?_
  refine Wp.seq ?_
  obtain ⟨j1, hj6, hm⟩ := of_bind hm
  refine c_cut (St 15 [(4, .u (.one (.bool j1)))] [] 0) ?_ ?_
  · replace hm := hj6
    refine c_reg (Y := sysA _) ?_
    refine n_ (x_ldp rfl T27 rfl rfl rfl (pk_all rfl rfl) rfl ?_)
    obtain ⟨x2, h3, hm⟩ := of_bind hm
    refine n_ (aopK_A (x_call (v := .u (.one (.bool x2))) (nobs := []) (oa' := _) (nx' := 1) rfl (a_a rfl (c_all rfl) a_n) c_n ent40 (impl_isGraph_sim f h3) rfl rfl rfl rfl ?_))
    refine n_ (x_mv rfl rfl ?_)
    refine g_s rfl rfl rfl (fun hb4 => ?_) (fun hb4 => ?_)
    · rw [if_pos (show _ = true from hb4)] at hm
      refine g_t rfl rfl rfl ?_
      refine n_ (x_mv rfl rfl ?_)
      refine g_t rfl rfl rfl ?_
      refine n_ (x_fap rfl F27_2 rfl rfl ?_)
      refine g_t rfl rfl rfl ?_
      refine n_ (x_ldp rfl T25 rfl rfl rfl rfl rfl ?_)
      refine g_t rfl rfl rfl ?_
      refine n_ (x_lnb N25 rfl fun hL5 => ?_)
      refine g_t rfl rfl rfl ?_
      refine n_ (x_subc T2 rfl rfl (by unfold inI; omega) ?_)
      refine g_t rfl rfl rfl ?_
      refine n_ (aopK_A (x_call (v := .u (.one (.bool ((impl_within_m b 0 (((List.length f.blocks : Int)) - 1)))))) (nobs := []) (oa' := _) (nx' := 1) rfl (a_1 rfl (b_s rfl) (a_1 rfl (b_s rfl) (a_1 rfl (b_s rfl) a_n))) c_n ent54 (impl_within_sim b 0 (((List.length f.blocks : Int)) - 1)) rfl rfl rfl rfl ?_))
      refine n_ (x_pk rfl rfl rfl ?_)
      refine n_ (x_as rfl rfl ?_)
      refine z_ ?_
      cases hm
      exact w_ [] (.cons rfl rfl .nil) .nil (by decide) (hB_0 hB0)
    · rw [if_neg (by rw [hb4]; decide)] at hm
      refine g_f rfl rfl rfl ?_
      refine g_f rfl rfl rfl ?_
      refine g_f rfl rfl rfl ?_
      refine g_f rfl rfl rfl ?_
      refine g_f rfl rfl rfl ?_
      refine g_f rfl rfl rfl ?_
      refine n_ (x_pk rfl rfl rfl ?_)
      refine n_ (x_as rfl rfl ?_)
      refine z_ ?_
      cases hm
      exact w_ [] (.cons rfl rfl .nil) .nil (by decide) (hB_0 hB0)
  · refine c_ret ?_
    rw [← Option.some.inj hm]
    exact ret0 (us' := [.one (.bool j1)]) rfl (r_tmp rfl rfl rfl r_nil) f_done rfl rfl

/-- impl.SuccsOf -/
noncomputable def impl_SuccsOf_m (f : GFunc) (b : Int) : Option (List Int) :=
  (Option.bind (impl_isBlockOf_m f b) fun x1 =>
    (if (!x1) = true then
      (some ([]))
      else
      (if 0 ≤ b ∧ b < (List.length f.blocks : Int) then
        (some ((impl_leadsTo_m (((at_ f.blocks b).term)))))
        else none)))
set_option maxHeartbeats 8000000 in
set_option maxRecDepth 100000 in
theorem impl_SuccsOf_sim (f : GFunc) (b : Int) {r : List Int} (hm : impl_SuccsOf_m f b = some r) : Sim Try.prog 14 [.agg (eFunc false f), .one (.int .i64 b)] [] (.u (.one (.os () 1 (List.map iL r)))) [] := by
  refine sim_st (N := 16) (k0 := 0) Try.func14 rfl rfl rfl rfl (rs := [.tmp 4]) rfl rfl rfl fun B hB0 => ?_
  unfold impl_SuccsOf_m at hm
  refine Wp.seq ?_
  refine c_reg (Y := sysA _) ?_
  refine n_ (x_bx rfl rfl rfl rfl ?_)
  refine n_ (x_as rfl rfl ?_)
  refine z_ ?_
  refine Wp.seq ?_
  refine Wp.seq ?_
  refine c_reg (Y := sysA _) ?_
  refine n_ (x_ldp rfl T27 rfl rfl rfl (pk_all rfl rfl) rfl ?_)
  refine n_ (x_mv rfl rfl ?_)
  obtain ⟨x1, h2, hm⟩ := of_bind hm
  refine n_ (aopK_A (x_call (v := .u (.one (.bool x1))) (nobs := []) (oa' := _) (nx' := 1) rfl (a_a rfl (c_all rfl) (a_1 rfl (b_s rfl) a_n)) c_n ent44 (impl_isBlockOf_sim f b h2) rfl rfl rfl rfl ?_))
  refine n_ (x_un rfl rfl ?_)
  refine z_ ?_
  refine c_s rfl rfl (fun hb3 => ?_) (fun hb3 => ?_)
  · rw [if_pos (show _ = true from hb3)] at hm
    refine Wp.seq ?_
    refine c_reg (Y := sysA _) ?_
    refine n_ (x_as rfl rfl ?_)
    refine z_ ?_
    refine c_ret ?_
    rw [← Option.some.inj hm]
    exact ret0 (us' := [.one (.os () 1 (List.map iL ([])))]) rfl (r_tmp rfl rfl rfl r_nil) ((f_nl 0 0 1 true rfl rfl rfl).trans f_done) rfl rfl
  · rw [if_neg (by rw [hb3]; decide)] at hm
    refine c_skip ?_
    refine Wp.seq ?_
    refine c_reg (Y := sysA _) ?_
    refine n_ (x_fap rfl F27_2 rfl rfl ?_)
    refine n_ (x_ldp rfl T25 rfl rfl rfl rfl rfl ?_)
    refine n_ (x_mv rfl rfl ?_)
    obtain ⟨h4, hm⟩ := of_ite hm
    refine n_ (x_ixb E25 rfl rfl h4 ?_)
    refine n_ (x_fai F61_2 rfl ?_)
    refine n_ (x_ldi T59 rfl (u := .agg (eTerm (((at_ f.blocks b).term)))) rfl rfl ?_)
    refine n_ (aopK_A (x_call (v := .u (.one (.ref () 1 0 (List.length ((impl_leadsTo_m (((at_ f.blocks b).term)))))))) (nobs := [(1, ⟨(), 1, List.map iL ((impl_leadsTo_m (((at_ f.blocks b).term))))⟩)]) (oa' := _) (nx' := 2) rfl (a_a rfl (c_all rfl) a_n) c_n ent45 (impl_leadsTo_sim (((at_ f.blocks b).term))) (by simp only [immFreeV, leavesV, leavesU, List.flatMap_cons, List.flatMap_nil, List.append_nil, List.cons_append, List.nil_append, List.all_cons, List.all_nil, immFreeL, immF_map, Bool.and_true, Bool.and_self]) (by simp only [rootV, rootU, rootLs, rootUs, List.length_map, List.map_cons, List.map_nil]) rfl rfl ?_))
    refine n_ (x_as rfl rfl ?_)
    refine z_ ?_
    refine c_ret ?_
    rw [← Option.some.inj hm]
    exact ret0 (us' := [.one (.os () 1 (List.map iL ((impl_leadsTo_m (((at_ f.blocks b).term))))))]) rfl (r_tmp rfl rfl rfl r_nil) ((f_fold 0 0 rfl rfl rfl rfl).trans f_done) rfl rfl

/-- laws.has -/
noncomputable def laws_has_m (l : List Int) (n : Int) : Option Bool :=
  (Option.bind (loopO (fun (st1 : Int) =>
        ((if decide (st1 < ((List.length l : Int))) = true then
            (if 0 ≤ st1 ∧ st1 < (List.length l : Int) then
              (if ((at_ l st1) == n) = true then
                (some (Sum.inr ((Sum.inl (())))))
                else
                (if inI (st1 + 1) then
                  (some (Sum.inl (st1 + 1)))
                  else none))
              else none)
            else
            (some (Sum.inr ((Sum.inr (())))))) : Option ((Int) ⊕ (Unit ⊕ Unit)))) 0) fun (y9 : Unit ⊕ Unit) => match y9 with
    | (Sum.inl j2) =>
    (some true)
    | (Sum.inr j3) =>
    (some false))
set_option maxHeartbeats 8000000 in
set_option maxRecDepth 100000 in
theorem laws_has_sim (l : List Int) (n : Int) {r : Bool} (hm : laws_has_m l n = some r) : Sim Try.prog 16 [.one (.bs () 1 (List.map iL l)), .one (.int .i64 n)] [] (.u (.one (.bool r))) [] := by
  refine sim_st (N := 18) (k0 := 0) Try.func16 rfl rfl rfl rfl (rs := [.tmp 4]) rfl rfl rfl fun B hB0 => ?_
  unfold laws_has_m at hm
  refine Wp.seq ?_
  refine c_reg (Y := sysA _) ?_
  refine n_ (x_as rfl rfl ?_)
  refine z_ ?_
  refine Wp.seq ?_
  refine Wp.seq ?_
  refine c_reg (Y := sysA _) ?_
  refine n_ (x_as rfl rfl ?_)
  refine z_ ?_
  refine Wp.block ?_
  obtain ⟨y9, hl10, hm⟩ := of_bind hm
  refine c_loop hl10 (fun (st1 : Int) => St 18 [(0, .u (.one (.bs () 1 (List.map iL l)))), (1, .u (.one (.int .i64 n))), (5, .u (.one (.int .i64 st1)))] [] 0) (fun (y : Unit ⊕ Unit) => match y with | (Sum.inl j2) => (.ret, St 18 [(4, .u (.one (.bool true)))] [] 0) | (Sum.inr j3) => (.exit 0, St 18 [] [] 0)) (w_ [] (.cons rfl rfl (.cons rfl rfl (.cons rfl rfl .nil))) .nil (by decide) (hB_0 hB0)) ?_ (by rintro (_ | _) <;> simp) ?_
  · intro st1 x hm
    refine Wp.seq ?_
    refine Wp.seq ?_
    refine c_reg (Y := sysA _) ?_
    refine n_ (x_mv rfl rfl ?_)
    refine n_ (x_mv rfl rfl ?_)
    refine n_ (x_lnb N24 rfl fun hL4 => ?_)
    refine n_ (x_bin T3 rfl rfl rfl ?_)
    refine z_ ?_
    refine c_s rfl rfl (fun hb5 => ?_) (fun hb5 => ?_)
    · rw [if_pos (show _ = true from hb5)] at hm
      refine c_skip ?_
      refine Wp.seq ?_
      refine Wp.block ?_
      refine Wp.seq ?_
      refine c_reg (Y := sysA _) ?_
      refine n_ (x_mv rfl rfl ?_)
      refine n_ (x_mv rfl rfl ?_)
      obtain ⟨h6, hm⟩ := of_ite hm
      refine n_ (x_ixb E24 rfl rfl h6 ?_)
      refine n_ (x_ldi T2 rfl rfl rfl ?_)
      refine n_ (x_mv rfl rfl ?_)
      refine n_ (x_bin T2 rfl rfl rfl ?_)
      refine z_ ?_
      refine c_s rfl rfl (fun hb7 => ?_) (fun hb7 => ?_)
      · rw [if_pos (show _ = true from hb7)] at hm
        refine Wp.seq ?_
        refine c_reg (Y := sysA _) ?_
        refine n_ (x_as rfl rfl ?_)
        refine z_ ?_
        refine c_ret ?_
        cases hm
        exact ⟨rfl, w_ [] (.cons rfl rfl .nil) .nil (by decide) (hB_0 hB0)⟩
      · rw [if_neg (by rw [hb7]; decide)] at hm
        refine c_skip ?_
        refine c_reg (Y := sysA _) ?_
        refine n_ (x_mv rfl rfl ?_)
        obtain ⟨h8, hm⟩ := of_ite hm
        refine n_ (x_addc T3 rfl rfl h8 ?_)
        refine n_ (x_as rfl rfl ?_)
        refine z_ ?_
        cases hm
        exact ⟨rfl, w_ [] (.cons rfl rfl (.cons rfl rfl (.cons rfl rfl .nil))) .nil (by decide) (hB_0 hB0)⟩
    · rw [if_neg (by rw [hb5]; decide)] at hm
      refine c_exit ?_
      cases hm
      exact ⟨rfl, w_ [] .nil .nil (by decide) (hB_0 hB0)⟩
  · rcases y9 with j2 | j3
    all_goals simp only at hm
    · rw [← Option.some.inj hm]
      exact ret0 (us' := [.one (.bool true)]) rfl (r_tmp rfl rfl rfl r_nil) f_done rfl rfl
    · refine Wp.seq ?_
      refine c_reg (Y := sysA _) ?_
      refine n_ (x_as rfl rfl ?_)
      refine z_ ?_
      refine c_ret ?_
      rw [← Option.some.inj hm]
      exact ret0 (us' := [.one (.bool false)]) rfl (r_tmp rfl rfl rfl r_nil) f_done rfl rfl

/-- laws.within -/
noncomputable def laws_within_m (a : List Int) (b : List Int) : Option Bool :=
  (Option.bind (loopO (fun (st1 : Int) =>
        ((if decide (st1 < ((List.length a : Int))) = true then
            (if 0 ≤ st1 ∧ st1 < (List.length a : Int) then
              (Option.bind (laws_has_m b (at_ a st1)) fun x7 =>
                (if (!x7) = true then
                  (some (Sum.inr ((Sum.inl (())))))
                  else
                  (if inI (st1 + 1) then
                    (some (Sum.inl (st1 + 1)))
                    else none)))
              else none)
            else
            (some (Sum.inr ((Sum.inr (())))))) : Option ((Int) ⊕ (Unit ⊕ Unit)))) 0) fun (y11 : Unit ⊕ Unit) => match y11 with
    | (Sum.inl j2) =>
    (some false)
    | (Sum.inr j3) =>
    (some true))
set_option maxHeartbeats 8000000 in
set_option maxRecDepth 100000 in
theorem laws_within_sim (a : List Int) (b : List Int) {r : Bool} (hm : laws_within_m a b = some r) : Sim Try.prog 13 [.one (.bs () 1 (List.map iL a)), .one (.bs () 1 (List.map iL b))] [] (.u (.one (.bool r))) [] := by
  refine sim_st (N := 19) (k0 := 0) Try.func13 rfl rfl rfl rfl (rs := [.tmp 4]) rfl rfl rfl fun B hB0 => ?_
  unfold laws_within_m at hm
  refine Wp.seq ?_
  refine c_reg (Y := sysA _) ?_
  refine n_ (x_as rfl rfl ?_)
  refine z_ ?_
  refine Wp.seq ?_
  refine Wp.seq ?_
  refine c_reg (Y := sysA _) ?_
  refine n_ (x_as rfl rfl ?_)
  refine z_ ?_
  refine Wp.block ?_
  obtain ⟨y11, hl12, hm⟩ := of_bind hm
  refine c_loop hl12 (fun (st1 : Int) => St 19 [(0, .u (.one (.bs () 1 (List.map iL a)))), (1, .u (.one (.bs () 1 (List.map iL b)))), (5, .u (.one (.int .i64 st1)))] [] 0) (fun (y : Unit ⊕ Unit) => match y with | (Sum.inl j2) => (.ret, St 19 [(4, .u (.one (.bool false)))] [] 0) | (Sum.inr j3) => (.exit 0, St 19 [] [] 0)) (w_ [] (.cons rfl rfl (.cons rfl rfl (.cons rfl rfl .nil))) .nil (by decide) (hB_0 hB0)) ?_ (by rintro (_ | _) <;> simp) ?_
  · intro st1 x hm
    refine Wp.seq ?_
    refine Wp.seq ?_
    refine c_reg (Y := sysA _) ?_
    refine n_ (x_mv rfl rfl ?_)
    refine n_ (x_mv rfl rfl ?_)
    refine n_ (x_lnb N24 rfl fun hL4 => ?_)
    refine n_ (x_bin T3 rfl rfl rfl ?_)
    refine z_ ?_
    refine c_s rfl rfl (fun hb5 => ?_) (fun hb5 => ?_)
    · rw [if_pos (show _ = true from hb5)] at hm
      refine c_skip ?_
      refine Wp.seq ?_
      refine Wp.block ?_
      refine Wp.seq ?_
      refine c_reg (Y := sysA _) ?_
      refine n_ (x_mv rfl rfl ?_)
      refine n_ (x_mv rfl rfl ?_)
      refine n_ (x_mv rfl rfl ?_)
      obtain ⟨h6, hm⟩ := of_ite hm
      refine n_ (x_ixb E24 rfl rfl h6 ?_)
      refine n_ (x_ldi T2 rfl rfl rfl ?_)
      obtain ⟨x7, h8, hm⟩ := of_bind hm
      refine n_ (aopK_A (x_call (v := .u (.one (.bool x7))) (nobs := []) (oa' := _) (nx' := 0) rfl (a_1 rfl (b_s rfl) (a_1 rfl (b_s rfl) a_n)) c_n ent16 (laws_has_sim b (at_ a st1) h8) rfl rfl rfl rfl ?_))
      refine n_ (x_un rfl rfl ?_)
      refine z_ ?_
      refine c_s rfl rfl (fun hb9 => ?_) (fun hb9 => ?_)
      · rw [if_pos (show _ = true from hb9)] at hm
        refine Wp.seq ?_
        refine c_reg (Y := sysA _) ?_
        refine n_ (x_as rfl rfl ?_)
        refine z_ ?_
        refine c_ret ?_
        cases hm
        exact ⟨rfl, w_ [] (.cons rfl rfl .nil) .nil (by decide) (hB_0 hB0)⟩
      · rw [if_neg (by rw [hb9]; decide)] at hm
        refine c_skip ?_
        refine c_reg (Y := sysA _) ?_
        refine n_ (x_mv rfl rfl ?_)
        obtain ⟨h10, hm⟩ := of_ite hm
        refine n_ (x_addc T3 rfl rfl h10 ?_)
        refine n_ (x_as rfl rfl ?_)
        refine z_ ?_
        cases hm
        exact ⟨rfl, w_ [] (.cons rfl rfl (.cons rfl rfl (.cons rfl rfl .nil))) .nil (by decide) (hB_0 hB0)⟩
    · rw [if_neg (by rw [hb5]; decide)] at hm
      refine c_exit ?_
      cases hm
      exact ⟨rfl, w_ [] .nil .nil (by decide) (hB_0 hB0)⟩
  · rcases y11 with j2 | j3
    all_goals simp only at hm
    · rw [← Option.some.inj hm]
      exact ret0 (us' := [.one (.bool false)]) rfl (r_tmp rfl rfl rfl r_nil) f_done rfl rfl
    · refine Wp.seq ?_
      refine c_reg (Y := sysA _) ?_
      refine n_ (x_as rfl rfl ?_)
      refine z_ ?_
      refine c_ret ?_
      rw [← Option.some.inj hm]
      exact ret0 (us' := [.one (.bool true)]) rfl (r_tmp rfl rfl rfl r_nil) f_done rfl rfl

/-- slices.Index[[]int64,int64] -/
noncomputable def slices_Index_int64_int64_m (s : List Int) (v : Int) : Option Int :=
  (Option.bind (loopO (fun (st2 : Int) =>
        ((if decide (st2 < ((List.length s : Int))) = true then
            (if 0 ≤ st2 ∧ st2 < (List.length s : Int) then
              (if (v == (at_ s st2)) = true then
                (some (Sum.inr ((Sum.inl st2))))
                else
                (if inI (st2 + 1) then
                  (some (Sum.inl (st2 + 1)))
                  else none))
              else none)
            else
            (some (Sum.inr ((Sum.inr (())))))) : Option ((Int) ⊕ (Int ⊕ Unit)))) 0) fun (y9 : Int ⊕ Unit) => match y9 with
    | (Sum.inl j3) =>
    (some j3)
    | (Sum.inr j4) =>
    (some ((-1))))
set_option maxHeartbeats 8000000 in
set_option maxRecDepth 100000 in
theorem slices_Index_int64_int64_sim (s : List Int) (v : Int) {r : Int} (hm : slices_Index_int64_int64_m s v = some r) : Sim Try.prog 112 [.one (.bs () 1 (List.map iL s)), .one (.int .i64 v)] [] (.u (.one (.int .i64 r))) [] := by
  refine sim_st (N := 19) (k0 := 0) Try.func112 rfl rfl rfl rfl (rs := [.tmp 4]) rfl rfl rfl fun B hB0 => ?_
  unfold slices_Index_int64_int64_m at hm
  refine Wp.seq ?_
  refine c_reg (Y := sysA _) ?_
  refine n_ (x_as rfl rfl ?_)
  refine z_ ?_
  refine Wp.seq ?_
  refine Wp.seq ?_
  refine c_reg (Y := sysA _) ?_
  refine n_ (x_mv rfl rfl ?_)
  refine n_ (x_lnb N24 rfl fun hL1 => ?_)
  refine n_ (x_mv rfl rfl ?_)
  refine z_ ?_
  refine Wp.block ?_
  obtain ⟨y9, hl10, hm⟩ := of_bind hm
  refine c_loop hl10 (fun (st2 : Int) => St 19 [(0, .u (.one (.bs () 1 (List.map iL s)))), (1, .u (.one (.int .i64 v))), (7, .u (.one (.int .i64 ((List.length s : Int))))), (8, .u (.one (.int .i64 st2)))] [] 0) (fun (y : Int ⊕ Unit) => match y with | (Sum.inl j3) => (.ret, St 19 [(4, .u (.one (.int .i64 j3)))] [] 0) | (Sum.inr j4) => (.exit 0, St 19 [] [] 0)) (w_ [] (.cons rfl rfl (.cons rfl rfl (.cons rfl rfl (.cons rfl rfl .nil)))) .nil (by decide) (hB_0 hB0)) ?_ (by rintro (_ | _) <;> simp) ?_
  · intro st2 x hm
    refine Wp.seq ?_
    refine c_reg (Y := sysA _) ?_
    refine n_ (x_bin T3 rfl rfl rfl ?_)
    refine z_ ?_
    refine Wp.seq ?_
    refine c_s rfl rfl (fun hb5 => ?_) (fun hb5 => ?_)
    · rw [if_pos (show _ = true from hb5)] at hm
      refine c_skip ?_
      refine Wp.seq ?_
      refine Wp.block ?_
      refine Wp.seq ?_
      refine c_reg (Y := sysA _) ?_
      refine n_ (x_mv rfl rfl ?_)
      refine n_ (x_as rfl rfl ?_)
      refine z_ ?_
      refine Wp.seq ?_
      refine c_reg (Y := sysA _) ?_
      refine n_ (x_mv rfl rfl ?_)
      refine n_ (x_mv rfl rfl ?_)
      refine n_ (x_mv rfl rfl ?_)
      obtain ⟨h6, hm⟩ := of_ite hm
      refine n_ (x_ixb E24 rfl rfl h6 ?_)
      refine n_ (x_ldi T2 rfl rfl rfl ?_)
      refine n_ (x_bin T2 rfl rfl rfl ?_)
      refine z_ ?_
      refine c_s rfl rfl (fun hb7 => ?_) (fun hb7 => ?_)
      · rw [if_pos (show _ = true from hb7)] at hm
        refine Wp.seq ?_
        refine c_reg (Y := sysA _) ?_
        refine n_ (x_mv rfl rfl ?_)
        refine n_ (x_as rfl rfl ?_)
        refine z_ ?_
        refine c_ret ?_
        cases hm
        exact ⟨rfl, w_ [] (.cons rfl rfl .nil) .nil (by decide) (hB_0 hB0)⟩
      · rw [if_neg (by rw [hb7]; decide)] at hm
        refine c_skip ?_
        refine c_reg (Y := sysA _) ?_
        obtain ⟨h8, hm⟩ := of_ite hm
        refine n_ (x_addc T3 rfl rfl h8 ?_)
        refine n_ (x_mv rfl rfl ?_)
        refine z_ ?_
        cases hm
        exact ⟨rfl, w_ [] (.cons rfl rfl (.cons rfl rfl (.cons rfl rfl (.cons rfl rfl .nil)))) .nil (by decide) (hB_0 hB0)⟩
    · rw [if_neg (by rw [hb5]; decide)] at hm
      refine c_exit ?_
      cases hm
      exact ⟨rfl, w_ [] .nil .nil (by decide) (hB_0 hB0)⟩
  · rcases y9 with j3 | j4
    all_goals simp only at hm
    · rw [← Option.some.inj hm]
      exact ret0 (us' := [.one (.int .i64 j3)]) rfl (r_tmp rfl rfl rfl r_nil) f_done rfl rfl
    · refine Wp.seq ?_
      refine c_reg (Y := sysA _) ?_
      refine n_ (x_as rfl rfl ?_)
      refine z_ ?_
      refine c_ret ?_
      rw [← Option.some.inj hm]
      exact ret0 (us' := [.one (.int .i64 ((-1)))]) rfl (r_tmp rfl rfl rfl r_nil) f_done rfl rfl

/-- slices.Contains[[]int64,int64] -/
noncomputable def slices_Contains_int64_int64_m (s : List Int) (v : Int) : Option Bool :=
  (Option.bind (slices_Index_int64_int64_m s v) fun x1 =>
    (some (decide (x1 ≥ 0))))
set_option maxHeartbeats 8000000 in
set_option maxRecDepth 100000 in
theorem slices_Contains_int64_int64_sim (s : List Int) (v : Int) {r : Bool} (hm : slices_Contains_int64_int64_m s v = some r) : Sim Try.prog 93 [.one (.bs () 1 (List.map iL s)), .one (.int .i64 v)] [] (.u (.one (.bool r))) [] := by
  refine sim_st (N := 9) (k0 := 0) Try.func93 rfl rfl rfl rfl (rs := [.tmp 4]) rfl rfl rfl fun B hB0 => ?_
  unfold slices_Contains_int64_int64_m at hm
  refine Wp.seq ?_
  refine c_reg (Y := sysA _) ?_
  refine n_ (x_as rfl rfl ?_)
  refine z_ ?_
  refine Wp.seq ?_
  refine c_reg (Y := sysA _) ?_
  refine n_ (x_mv rfl rfl ?_)
  refine n_ (x_mv rfl rfl ?_)
  obtain ⟨x1, h2, hm⟩ := of_bind hm
  refine n_ (aopK_A (x_call (v := .u (.one (.int .i64 x1))) (nobs := []) (oa' := _) (nx' := 0) rfl (a_1 rfl (b_s rfl) (a_1 rfl (b_s rfl) a_n)) c_n ent112 (slices_Index_int64_int64_sim s v h2) rfl rfl rfl rfl ?_))
  refine n_ (x_bin T3 rfl rfl rfl ?_)
  refine n_ (x_as rfl rfl ?_)
  refine z_ ?_
  refine c_ret ?_
  rw [← Option.some.inj hm]
  exact ret0 (us' := [.one (.bool (decide (x1 ≥ 0)))]) rfl (r_tmp rfl rfl rfl r_nil) f_done rfl rfl

/-- impl.predsOf -/
noncomputable def impl_predsOf_m (f : GFunc) (b : Int) : Option (List Int) :=
  (Option.bind (loopO (fun (st2 : (List Int) × Int) =>
        ((if decide (st2.2 < ((List.length f.blocks : Int))) = true then
            (if 0 ≤ st2.2 ∧ st2.2 < (List.length f.blocks : Int) then
              (Option.bind (slices_Contains_int64_int64_m ((impl_leadsTo_m (((at_ f.blocks st2.2).term)))) b) fun x6 =>
                (if x6 = true then
                  (if (List.length st2.1 + List.length ([st2.2])) * 8 ≤ 140737488355328 ∧ List.length st2.1 + List.length ([st2.2]) ≤ LIM then
                    (if inI (st2.2 + 1) then
                      (some (Sum.inl ((st2.1 ++ ([st2.2]), st2.2 + 1))))
                      else none)
                    else none)
                  else
                  (if inI (st2.2 + 1) then
                    (some (Sum.inl ((st2.1, st2.2 + 1))))
                    else none)))
              else none)
            else
            (some (Sum.inr st2.1))) : Option (((List Int) × Int) ⊕ (((List Int)))))) (([] : List Int), 0)) fun (j3 : (List Int)) =>
    (some j3))
set_option maxHeartbeats 8000000 in
set_option maxRecDepth 100000 in
theorem impl_predsOf_sim (f : GFunc) (b : Int) {r : List Int} (hm : impl_predsOf_m f b = some r) : Sim Try.prog 46 [.agg (eFunc false f), .one (.int .i64 b)] [] (.u (.one (.os () 1 (List.map iL r)))) [] := by
  refine sim_st (N := 28) (k0 := 0) Try.func46 rfl rfl rfl rfl (rs := [.tmp 4]) rfl rfl rfl fun B hB0 => ?_
  unfold impl_predsOf_m at hm
  refine Wp.seq ?_
  refine c_reg (Y := sysA _) ?_
  refine n_ (x_bx rfl rfl rfl rfl ?_)
  refine n_ (x_as rfl rfl ?_)
  refine z_ ?_
  refine Wp.seq ?_
  refine c_reg (Y := sysA _) ?_
  refine n_ (x_bsm (enc := iL) (([] : List Int)) A24 rfl rfl rfl rfl ?_)
  refine n_ (x_as rfl rfl ?_)
  refine z_ ?_
  refine Wp.seq ?_
  refine Wp.seq ?_
  refine c_reg (Y := sysA _) ?_
  refine n_ (x_fap rfl F27_2 rfl rfl ?_)
  refine n_ (x_ldp rfl T25 rfl rfl rfl rfl rfl ?_)
  refine n_ (x_lnb N25 rfl fun hL1 => ?_)
  refine n_ (x_mv rfl rfl ?_)
  refine z_ ?_
  refine Wp.block ?_
  obtain ⟨j3, hl13, hm⟩ := of_bind hm
  refine c_loop hl13 (fun (st2 : (List Int) × Int) => St 28 [(1, .u (.one (.int .i64 b))), (5, .u (.one (.ref () 0 0 (List.length st2.1)))), (10, .u (.one (.bs () 6 (List.map (eBlock false) f.blocks)))), (11, .u (.one (.int .i64 ((List.length f.blocks : Int))))), (12, .u (.one (.int .i64 st2.2)))] [(0, some ⟨(), 1, List.map iL st2.1⟩)] 1) (fun (j3 : (List Int)) => (.exit 0, St 28 [(5, .u (.one (.ref () 0 0 (List.length j3))))] [(0, some ⟨(), 1, List.map iL j3⟩)] 1)) (w_ [1] (.cons rfl rfl (.cons (by first | rfl | (simp only [List.length_set]; rfl)) rfl (.cons rfl rfl (.cons rfl rfl (.cons rfl rfl .nil))))) (.map rfl .nil) (by decide) (hB_0 hB0)) ?_ (by intro y; simp) ?_
  · intro st2 x hm
    refine Wp.seq ?_
    refine c_reg (Y := sysA _) ?_
    refine n_ (x_bin T3 rfl rfl rfl ?_)
    refine z_ ?_
    refine Wp.seq ?_
    refine c_s rfl rfl (fun hb4 => ?_) (fun hb4 => ?_)
    · rw [if_pos (show _ = true from hb4)] at hm
      refine c_skip ?_
      refine Wp.seq ?_
      refine Wp.block ?_
      refine Wp.seq ?_
      refine c_reg (Y := sysA _) ?_
      refine n_ (x_mv rfl rfl ?_)
      obtain ⟨h5, hm⟩ := of_ite hm
      refine n_ (x_ixb E25 rfl rfl h5 ?_)
      refine n_ (x_ldi T61 rfl (pk_all rfl rfl) rfl ?_)
      refine n_ (x_al T61 (r := [.nl, .nl, .int .i64 0, .int .i64 0, .int .i64 0, .int .i64 0]) rfl rfl ?_)
      refine n_ (x_as rfl rfl ?_)
      refine n_ (x_st T61 (rows := [(eBlock false (at_ f.blocks st2.2))]) rfl rfl rfl rfl rfl rfl rfl rfl ?_)
      refine z_ ?_
      refine Wp.seq ?_
      refine c_reg (Y := sysA _) ?_
      refine n_ (x_fap rfl F61_2 rfl rfl ?_)
      refine n_ (x_ldp rfl T59 rfl rfl rfl (u := .agg (eTerm (((at_ f.blocks st2.2).term)))) rfl rfl ?_)
      refine n_ (aopK_A (x_call (v := .u (.one (.ref () 2 0 (List.length ((impl_leadsTo_m (((at_ f.blocks st2.2).term)))))))) (nobs := [(2, ⟨(), 1, List.map iL ((impl_leadsTo_m (((at_ f.blocks st2.2).term))))⟩)]) (oa' := _) (nx' := 3) rfl (a_a rfl (c_all rfl) a_n) c_n ent45 (impl_leadsTo_sim (((at_ f.blocks st2.2).term))) (by simp only [immFreeV, leavesV, leavesU, List.flatMap_cons, List.flatMap_nil, List.append_nil, List.cons_append, List.nil_append, List.all_cons, List.all_nil, immFreeL, immF_map, Bool.and_true, Bool.and_self]) (by simp only [rootV, rootU, rootLs, rootUs, List.length_map, List.map_cons, List.map_nil]) rfl rfl ?_))
      refine n_ (x_mv rfl rfl ?_)
      obtain ⟨x6, h7, hm⟩ := of_bind hm
      refine n_ (aopK_A (x_call (v := .u (.one (.bool x6))) (nobs := []) (oa' := _) (nx' := 3) rfl (a_1 rfl (b_r rfl) (a_1 rfl (b_s rfl) a_n)) c_n ent93 (slices_Contains_int64_int64_sim ((impl_leadsTo_m (((at_ f.blocks st2.2).term)))) b h7) rfl rfl rfl rfl ?_))
      refine z_ ?_
      refine c_s rfl rfl (fun hb8 => ?_) (fun hb8 => ?_)
      · rw [if_pos (show _ = true from hb8)] at hm
        refine c_reg (Y := sysA _) ?_
        refine n_ (x_mv rfl rfl ?_)
        refine n_ (x_mv rfl rfl ?_)
        refine n_ (x_bsm (enc := iL) ([st2.2]) A24 rfl rfl rfl rfl ?_)
        obtain ⟨h9, hm⟩ := of_ite hm
        refine n_ (x_apr (enc := iL) (xs := st2.1) (ys := [st2.2]) A24 N24 (encB_N _) rfl rfl rfl (argR_r rfl) h9 ?_)
        refine n_ (x_as rfl rfl ?_)
        refine z_ ?_
        refine c_reg (Y := sysA _) ?_
        obtain ⟨h10, hm⟩ := of_ite hm
        refine n_ (x_addc T3 rfl rfl h10 ?_)
        refine n_ (x_mv rfl rfl ?_)
        refine z_ ?_
        cases hm
        exact ⟨rfl, w_ [4] (.cons rfl rfl (.cons (by first | rfl | (simp only [List.length_set]; rfl)) rfl (.cons rfl rfl (.cons rfl rfl (.cons rfl rfl .nil))))) (.map rfl .nil) (by decide) (hB_0 hB0)⟩
      · rw [if_neg (by rw [hb8]; decide)] at hm
        refine c_skip ?_
        refine c_reg (Y := sysA _) ?_
        obtain ⟨h11, hm⟩ := of_ite hm
        refine n_ (x_addc T3 rfl rfl h11 ?_)
        refine n_ (x_mv rfl rfl ?_)
        refine z_ ?_
        cases hm
        exact ⟨rfl, w_ [0] (.cons rfl rfl (.cons (by first | rfl | (simp only [List.length_set]; rfl)) rfl (.cons rfl rfl (.cons rfl rfl (.cons rfl rfl .nil))))) (.map rfl .nil) (by decide) (hB_0 hB0)⟩
    · rw [if_neg (by rw [hb4]; decide)] at hm
      refine c_exit ?_
      cases hm
      exact ⟨rfl, w_ [0] (.cons (by first | rfl | (simp only [List.length_set]; rfl)) rfl .nil) (.map rfl .nil) (by decide) (hB_0 hB0)⟩
  · refine Wp.seq ?_
    refine c_reg (Y := sysA _) ?_
    refine n_ (x_mv rfl rfl ?_)
    refine n_ (x_as rfl rfl ?_)
    refine z_ ?_
    refine c_ret ?_
    rw [← Option.some.inj hm]
    exact ret0 (us' := [.one (.os () 1 (List.map iL j3))]) rfl (r_tmp rfl rfl rfl r_nil) ((f_fold 0 0 rfl rfl rfl rfl).trans f_done) rfl rfl

/-- impl.PredsOf -/
noncomputable def impl_PredsOf_m (f : GFunc) (b : Int) : Option (List Int) :=
  (Option.bind (impl_isBlockOf_m f b) fun x1 =>
    (if (!x1) = true then
      (some ([]))
      else
      (Option.bind (impl_predsOf_m f b) fun x4 =>
        (some x4))))
set_option maxHeartbeats 8000000 in
set_option maxRecDepth 100000 in
theorem impl_PredsOf_sim (f : GFunc) (b : Int) {r : List Int} (hm : impl_PredsOf_m f b = some r) : Sim Try.prog 15 [.agg (eFunc false f), .one (.int .i64 b)] [] (.u (.one (.os () 1 (List.map iL r)))) [] := by
  refine sim_st (N := 12) (k0 := 0) Try.func15 rfl rfl rfl rfl (rs := [.tmp 4]) rfl rfl rfl fun B hB0 => ?_
  unfold impl_PredsOf_m at hm
  refine Wp.seq ?_
  refine c_reg (Y := sysA _) ?_
  refine n_ (x_bx rfl rfl rfl rfl ?_)
  refine n_ (x_as rfl rfl ?_)
  refine z_ ?_
  refine Wp.seq ?_
  refine Wp.seq ?_
  refine c_reg (Y := sysA _) ?_
  refine n_ (x_ldp rfl T27 rfl rfl rfl (pk_all rfl rfl) rfl ?_)
  refine n_ (x_mv rfl rfl ?_)
  obtain ⟨x1, h2, hm⟩ := of_bind hm
  refine n_ (aopK_A (x_call (v := .u (.one (.bool x1))) (nobs := []) (oa' := _) (nx' := 1) rfl (a_a rfl (c_all rfl) (a_1 rfl (b_s rfl) a_n)) c_n ent44 (impl_isBlockOf_sim f b h2) rfl rfl rfl rfl ?_))
  refine n_ (x_un rfl rfl ?_)
  refine z_ ?_
  refine c_s rfl rfl (fun hb3 => ?_) (fun hb3 => ?_)
  · rw [if_pos (show _ = true from hb3)] at hm
    refine Wp.seq ?_
    refine c_reg (Y := sysA _) ?_
    refine n_ (x_as rfl rfl ?_)
    refine z_ ?_
    refine c_ret ?_
    rw [← Option.some.inj hm]
    exact ret0 (us' := [.one (.os () 1 (List.map iL ([])))]) rfl (r_tmp rfl rfl rfl r_nil) ((f_nl 0 0 1 true rfl rfl rfl).trans f_done) rfl rfl
  · rw [if_neg (by rw [hb3]; decide)] at hm
    refine c_skip ?_
    refine Wp.seq ?_
    refine c_reg (Y := sysA _) ?_
    refine n_ (x_ldp rfl T27 rfl rfl rfl (pk_all rfl rfl) rfl ?_)
    refine n_ (x_mv rfl rfl ?_)
    obtain ⟨x4, h5, hm⟩ := of_bind hm
    refine n_ (aopK_A (x_call (v := .u (.one (.ref () 1 0 (List.length x4)))) (nobs := [(1, ⟨(), 1, List.map iL x4⟩)]) (oa' := _) (nx' := 2) rfl (a_a rfl (c_all rfl) (a_1 rfl (b_s rfl) a_n)) c_n ent46 (impl_predsOf_sim f b h5) (by simp only [immFreeV, leavesV, leavesU, List.flatMap_cons, List.flatMap_nil, List.append_nil, List.cons_append, List.nil_append, List.all_cons, List.all_nil, immFreeL, immF_map, Bool.and_true, Bool.and_self]) (by simp only [rootV, rootU, rootLs, rootUs, List.length_map, List.map_cons, List.map_nil]) rfl rfl ?_))
    refine n_ (x_as rfl rfl ?_)
    refine z_ ?_
    refine c_ret ?_
    rw [← Option.some.inj hm]
    exact ret0 (us' := [.one (.os () 1 (List.map iL x4))]) rfl (r_tmp rfl rfl rfl r_nil) ((f_fold 0 0 rfl rfl rfl rfl).trans f_done) rfl rfl

/-- laws.rising -/
noncomputable def laws_rising_m (l : List Int) : Option Bool :=
  (Option.bind (loopO (fun (st1 : Int) =>
        ((if decide (st1 < ((List.length l : Int))) = true then
            (if inI (st1 - 1) then
              (if 0 ≤ (st1 - 1) ∧ (st1 - 1) < (List.length l : Int) then
                (if 0 ≤ st1 ∧ st1 < (List.length l : Int) then
                  (if decide ((at_ l (st1 - 1)) ≥ (at_ l st1)) = true then
                    (some (Sum.inr ((Sum.inl (())))))
                    else
                    (if inI (st1 + 1) then
                      (some (Sum.inl (st1 + 1)))
                      else none))
                  else none)
                else none)
              else none)
            else
            (some (Sum.inr ((Sum.inr (())))))) : Option ((Int) ⊕ (Unit ⊕ Unit)))) 1) fun (y11 : Unit ⊕ Unit) => match y11 with
    | (Sum.inl j2) =>
    (some false)
    | (Sum.inr j3) =>
    (some true))
set_option maxHeartbeats 8000000 in
set_option maxRecDepth 100000 in
theorem laws_rising_sim (l : List Int) {r : Bool} (hm : laws_rising_m l = some r) : Sim Try.prog 17 [.one (.bs () 1 (List.map iL l))] [] (.u (.one (.bool r))) [] := by
  refine sim_st (N := 20) (k0 := 0) Try.func17 rfl rfl rfl rfl (rs := [.tmp 2]) rfl rfl rfl fun B hB0 => ?_
  unfold laws_rising_m at hm
  refine Wp.seq ?_
  refine c_reg (Y := sysA _) ?_
  refine n_ (x_as rfl rfl ?_)
  refine z_ ?_
  refine Wp.seq ?_
  refine Wp.seq ?_
  refine c_reg (Y := sysA _) ?_
  refine n_ (x_as rfl rfl ?_)
  refine z_ ?_
  refine Wp.block ?_
  obtain ⟨y11, hl12, hm⟩ := of_bind hm
  refine c_loop hl12 (fun (st1 : Int) => St 20 [(0, .u (.one (.bs () 1 (List.map iL l)))), (3, .u (.one (.int .i64 st1)))] [] 0) (fun (y : Unit ⊕ Unit) => match y with | (Sum.inl j2) => (.ret, St 20 [(2, .u (.one (.bool false)))] [] 0) | (Sum.inr j3) => (.exit 0, St 20 [] [] 0)) (w_ [] (.cons rfl rfl (.cons rfl rfl .nil)) .nil (by decide) (hB_0 hB0)) ?_ (by rintro (_ | _) <;> simp) ?_
  · intro st1 x hm
    refine Wp.seq ?_
    refine Wp.seq ?_
    refine c_reg (Y := sysA _) ?_
    refine n_ (x_mv rfl rfl ?_)
    refine n_ (x_mv rfl rfl ?_)
    refine n_ (x_lnb N24 rfl fun hL4 => ?_)
    refine n_ (x_bin T3 rfl rfl rfl ?_)
    refine z_ ?_
    refine c_s rfl rfl (fun hb5 => ?_) (fun hb5 => ?_)
    · rw [if_pos (show _ = true from hb5)] at hm
      refine c_skip ?_
      refine Wp.seq ?_
      refine Wp.block ?_
      refine Wp.seq ?_
      refine c_drw (Y := sysC _) mixed ?_
      refine t_ 0 0 rfl (by decide +kernel) (x_mv rfl rfl ?_)
      refine t_ 1 0 rfl (by decide +kernel) (x_mv rfl rfl ?_)
      obtain ⟨h6, hm⟩ := of_ite hm
      refine t_ 2 0 rfl (by decide +kernel) (x_subc T3 rfl rfl h6 ?_)
      obtain ⟨h7, hm⟩ := of_ite hm
      refine t_ 3 0 rfl (by decide +kernel) (x_ixb E24 rfl rfl h7 ?_)
      refine t_ 4 0 rfl (by decide +kernel) (x_ldi T2 rfl rfl rfl ?_)
      refine t_ 5 0 rfl (by decide +kernel) (x_mv rfl rfl ?_)
      refine t_ 6 0 rfl (by decide +kernel) (x_mv rfl rfl ?_)
      obtain ⟨h8, hm⟩ := of_ite hm
      refine t_ 7 0 rfl (by decide +kernel) (x_ixb E24 rfl rfl h8 ?_)
      refine t_ 8 0 rfl (by decide +kernel) (x_ldi T2 rfl rfl rfl ?_)
      refine t_ 9 0 rfl (by decide +kernel) (x_bin T2 rfl rfl rfl ?_)
      refine a_nil (by decide +kernel) ?_
      refine c_s rfl rfl (fun hb9 => ?_) (fun hb9 => ?_)
      · rw [if_pos (show _ = true from hb9)] at hm
        refine Wp.seq ?_
        refine c_reg (Y := sysA _) ?_
        refine n_ (x_as rfl rfl ?_)
        refine z_ ?_
        refine c_ret ?_
        cases hm
        exact ⟨rfl, w_ [] (.cons rfl rfl .nil) .nil (by decide) (hB_0 hB0)⟩
      · rw [if_neg (by rw [hb9]; decide)] at hm
        refine c_skip ?_
        refine c_reg (Y := sysA _) ?_
        refine n_ (x_mv rfl rfl ?_)
        obtain ⟨h10, hm⟩ := of_ite hm
        refine n_ (x_addc T3 rfl rfl h10 ?_)
        refine n_ (x_as rfl rfl ?_)
        refine z_ ?_
        cases hm
        exact ⟨rfl, w_ [] (.cons rfl rfl (.cons rfl rfl .nil)) .nil (by decide) (hB_0 hB0)⟩
    · rw [if_neg (by rw [hb5]; decide)] at hm
      refine c_exit ?_
      cases hm
      exact ⟨rfl, w_ [] .nil .nil (by decide) (hB_0 hB0)⟩
  · rcases y11 with j2 | j3
    all_goals simp only at hm
    · rw [← Option.some.inj hm]
      exact ret0 (us' := [.one (.bool false)]) rfl (r_tmp rfl rfl rfl r_nil) f_done rfl rfl
    · refine Wp.seq ?_
      refine c_reg (Y := sysA _) ?_
      refine n_ (x_as rfl rfl ?_)
      refine z_ ?_
      refine c_ret ?_
      rw [← Option.some.inj hm]
      exact ret0 (us' := [.one (.bool true)]) rfl (r_tmp rfl rfl rfl r_nil) f_done rfl rfl

/-- laws.FnReached -/
noncomputable def laws_FnReached_m (code : List Int) : Option Bool :=
  (if (laws_big_m code) = true then
    (some true)
    else
    (Option.bind (spec_DrawReached_m code) fun x2 =>
      (Option.bind (impl_Reached_m x2) fun x4 =>
        (Option.bind ((Option.bind (spec_Reached_m x2) fun x7 =>
              (Option.bind (laws_sameInts_m x4 x7) fun x9 =>
                (if (!x9) = true then
                  (some true)
                  else
                  (some ((((List.length x4 : Int)) == 0))))))) fun (j6 : Bool) =>
          (if j6 = true then
            (Option.bind (spec_Reached_m x2) fun x15 =>
              (Option.bind (laws_sameInts_m x4 x15) fun x17 =>
                (some x17)))
            else
            (Option.bind (loopO (fun (st19 : Int) =>
                  ((if decide (st19 < ((List.length x4 : Int))) = true then
                      (if 0 ≤ st19 ∧ st19 < (List.length x4 : Int) then
                        (Option.bind (impl_SuccsOf_m x2 (at_ x4 st19)) fun x25 =>
                        (Option.bind (laws_within_m x25 x4) fun x27 =>
                        (if (!x27) = true then
                        (some (Sum.inr ((Sum.inl (())))))
                        else
                        (if 0 ≤ st19 ∧ st19 < (List.length x4 : Int) then
                        (Option.bind (impl_PredsOf_m x2 (at_ x4 st19)) fun x31 =>
                        (if 0 ≤ st19 ∧ st19 < (List.length x4 : Int) then
                        (Option.bind (loopO (fun (st34 : Bool × Int) =>
                        ((if decide (st34.2 < ((List.length x31 : Int))) = true then
                        (Option.bind ((if st34.1 = true then
                        (some true)
                        else
                        (if 0 ≤ st34.2 ∧ st34.2 < (List.length x31 : Int) then
                        (Option.bind (laws_has_m x4 (at_ x31 st34.2)) fun x41 =>
                        (some x41))
                        else none))) fun (j38 : Bool) =>
                        (if inI (st34.2 + 1) then
                        (some (Sum.inl ((j38, st34.2 + 1))))
                        else none))
                        else
                        (some (Sum.inr st34.1))) : Option ((Bool × Int) ⊕ (Bool)))) (((at_ x4 st19) == 0), 0)) fun (j35 : Bool) =>
                        (if (!j35) = true then
                        (some (Sum.inr ((Sum.inl (())))))
                        else
                        (if inI (st19 + 1) then
                        (some (Sum.inl (st19 + 1)))
                        else none)))
                        else none))
                        else none))))
                        else none)
                      else
                      (some (Sum.inr ((Sum.inr (())))))) : Option ((Int) ⊕ (Unit ⊕ Unit)))) 0) fun (y49 : Unit ⊕ Unit) => match y49 with
              | (Sum.inl j20) =>
              (some false)
              | (Sum.inr j21) =>
              (Option.bind ((Option.bind (laws_has_m x4 0) fun x52 =>
                    (if x52 = true then
                      (Option.bind (laws_rising_m x4) fun x55 =>
                        (some x55))
                      else
                      (some false)))) fun (j51 : Bool) =>
                (some j51))))))))
set_option maxHeartbeats 8000000 in
set_option maxRecDepth 100000 in
theorem laws_FnReached_sim (code : List Int) {r : Bool} (hm : laws_FnReached_m code = some r) : Sim Try.prog 3 [.one (.bs () 1 (List.map (iK .u8) code))] [] (.u (.one (.bool r))) [] := by
  refine sim_st (N := 78) (k0 := 0) Try.func3 rfl rfl rfl rfl (rs := [.tmp 2]) rfl rfl rfl fun B hB0 => ?_
  unfold laws_FnReached_m at hm
  refine Wp.seq ?_
  refine c_reg (Y := sysA _) ?_
  refine n_ (x_as rfl rfl ?_)
  refine z_ ?_
  refine Wp.seq ?_
  refine Wp.seq ?_
  refine c_reg (Y := sysA _) ?_
  refine n_ (x_mv rfl rfl ?_)
  refine n_ (aopK_A (x_call (v := .u (.one (.bool ((laws_big_m code))))) (nobs := []) (oa' := _) (nx' := 0) rfl (a_1 rfl (b_s rfl) a_n) c_n ent8 (laws_big_sim code) rfl rfl rfl rfl ?_))
  refine z_ ?_
  refine c_s rfl rfl (fun hb1 => ?_) (fun hb1 => ?_)
  · rw [if_pos (show _ = true from hb1)] at hm
    refine Wp.seq ?_
    refine c_reg (Y := sysA _) ?_
    refine n_ (x_as rfl rfl ?_)
    refine z_ ?_
    refine c_ret ?_
    rw [← Option.some.inj hm]
    exact ret0 (us' := [.one (.bool true)]) rfl (r_tmp rfl rfl rfl r_nil) f_done rfl rfl
  · rw [if_neg (by rw [hb1]; decide)] at hm
    refine c_skip ?_
    refine Wp.seq ?_
    refine c_regS ?_
    refine o_run (Y := sysA _) 2 ?_
    refine n_ (x_mv rfl rfl ?_)
    obtain ⟨x2, h3, hm⟩ := of_bind hm
    refine n_ (x_cg (v := .u (.agg [.ref () 0 0 (List.length x2.params), .int .i64 x2.ret, .ref () 1 0 (List.length x2.blocks)])) (nobs := [(0, ⟨(), 1, List.map iL x2.params⟩), (1, ⟨(), 6, List.map (eBlock false) x2.blocks⟩)]) (oa' := _) (nx' := 2) (cs := []) (obs := []) [] false rfl (by decide) h_n rfl (g_1 (l := .bs () 1 (List.map (iK .u8) code)) rfl rfl rfl g_n) rfl rfl ent9 (spec_DrawReached_sim code h3) (.inl rfl) rfl (by simp only [renV, renU, renL, List.map_cons, List.map_nil, rootV, rootU, rootLs, rootUs, eBlock, eFunc, eInst, ePhi, eTerm, sl, List.length_map] <;> rfl) rfl rfl ?_)
    refine z_ ?_
    refine WpO.ghb (f_frj (u' := .agg [.bs () 1 (List.map iL x2.params), .int .i64 x2.ret, .ref () 1 0 (List.length x2.blocks)]) 12 0 rfl rfl rfl (by first | rfl | simp) rfl rfl rfl) ?_
    refine WpO.ghb (f_frj (u' := .agg [.bs () 1 (List.map iL x2.params), .int .i64 x2.ret, .bs () 6 (List.map (eBlock false) x2.blocks)]) 12 2 rfl rfl rfl (by first | rfl | simp) rfl rfl rfl) ?_
    refine o_run (Y := sysA _) 2 ?_
    refine n_ (x_al T27 (r := [.nl, .int .i64 0, .nl]) rfl rfl ?_)
    refine n_ (x_st T27 (rows := [[.bs () 1 (List.map iL x2.params), .int .i64 x2.ret, .bs () 6 (List.map (eBlock false) x2.blocks)]]) rfl rfl rfl rfl rfl rfl rfl rfl ?_)
    refine z_ ?_
    refine o_end ?_
    refine Wp.seq ?_
    refine c_reg (Y := sysA _) ?_
    refine n_ (x_ldp rfl T27 rfl rfl rfl (pk_all rfl rfl) rfl ?_)
    obtain ⟨x4, h5, hm⟩ := of_bind hm
    refine n_ (aopK_A (x_call (v := .u (.one (.ref () 3 0 (List.length x4)))) (nobs := [(3, ⟨(), 1, List.map iL x4⟩)]) (oa' := _) (nx' := 4) rfl (a_a (ls' := eFunc false x2) rfl (c_c (b_s rfl) (c_c (b_s rfl) (c_c (b_s rfl) c_n))) a_n) c_n ent10 (impl_Reached_sim x2 h5) (by simp only [immFreeV, leavesV, leavesU, List.flatMap_cons, List.flatMap_nil, List.append_nil, List.cons_append, List.nil_append, List.all_cons, List.all_nil, immFreeL, immF_map, Bool.and_true, Bool.and_self]) (by simp only [rootV, rootU, rootLs, rootUs, List.length_map, List.map_cons, List.map_nil]) rfl rfl ?_))
    refine n_ (x_as rfl rfl ?_)
    refine z_ ?_
    refine Wp.seq ?_
    refine Wp.seq ?_
    obtain ⟨j6, hj13, hm⟩ := of_bind hm
    refine c_cut (St 78 [(3, .u (.one (.ptr () 0 0 0))), (4, .u (.one (.ref () 1 0 (List.length x4)))), (24, .u (.one (.bool j6)))] [(0, some ⟨(), 3, [[.bs () 1 (List.map iL x2.params), .int .i64 x2.ret, .bs () 6 (List.map (eBlock false) x2.blocks)]]⟩), (1, some ⟨(), 1, List.map iL x4⟩)] 2) ?_ ?_
    · replace hm := hj13
      refine c_reg (Y := sysA _) ?_
      refine n_ (x_mv rfl rfl ?_)
      refine n_ (x_ldp rfl T27 rfl rfl rfl (pk_all rfl rfl) rfl ?_)
      obtain ⟨x7, h8, hm⟩ := of_bind hm
      refine n_ (x_cg (v := .u (.one (.bs () 1 (List.map iL x7)))) (nobs := []) (oa' := _) (nx' := 4) (cs := []) (obs := []) [] false rfl (by decide) h_n rfl (g_a (ls := eFunc false x2) rfl rfl rfl g_n) rfl rfl ent12 (spec_Reached_sim x2 h8) (.inl rfl) rfl rfl rfl rfl ?_)
      obtain ⟨x9, h10, hm⟩ := of_bind hm
      refine n_ (aopK_A (x_call (v := .u (.one (.bool x9))) (nobs := []) (oa' := _) (nx' := 4) rfl (a_1 rfl (b_r rfl) (a_1 rfl (b_s rfl) a_n)) c_n ent11 (laws_sameInts_sim x4 x7 h10) rfl rfl rfl rfl ?_))
      refine n_ (x_un rfl rfl ?_)
      refine n_ (x_mv rfl rfl ?_)
      refine g_s rfl rfl rfl (fun hb11 => ?_) (fun hb11 => ?_)
      · rw [if_neg (by rw [hb11]; decide)] at hm
        refine g_t rfl rfl rfl ?_
        refine n_ (x_mv rfl rfl ?_)
        refine g_t rfl rfl rfl ?_
        refine n_ (x_lnr rfl N24 rfl rfl fun hL12 => ?_)
        refine g_t rfl rfl rfl ?_
        refine n_ (x_bin T3 rfl rfl rfl ?_)
        refine n_ (x_pk rfl rfl rfl ?_)
        refine z_ ?_
        cases hm
        exact w_ [2, 3] (.cons rfl rfl (.cons (by first | rfl | (simp only [List.length_set]; rfl)) rfl (.cons rfl rfl .nil))) (.lit rfl rfl (.map rfl .nil)) (by decide) (hB_0 hB0)
      · rw [if_pos (show _ = true from hb11)] at hm
        refine g_f rfl rfl rfl ?_
        refine g_f rfl rfl rfl ?_
        refine g_f rfl rfl rfl ?_
        refine n_ (x_pk rfl rfl rfl ?_)
        refine z_ ?_
        cases hm
        exact w_ [2, 3] (.cons rfl rfl (.cons (by first | rfl | (simp only [List.length_set]; rfl)) rfl (.cons rfl rfl .nil))) (.lit rfl rfl (.map rfl .nil)) (by decide) (hB_0 hB0)
    · refine c_s rfl rfl (fun hb14 => ?_) (fun hb14 => ?_)
      · rw [if_pos (show _ = true from hb14)] at hm
        refine Wp.seq ?_
        refine c_reg (Y := sysA _) ?_
        refine n_ (x_mv rfl rfl ?_)
        refine n_ (x_ldp rfl T27 rfl rfl rfl (pk_all rfl rfl) rfl ?_)
        obtain ⟨x15, h16, hm⟩ := of_bind hm
        refine n_ (x_cg (v := .u (.one (.bs () 1 (List.map iL x15)))) (nobs := []) (oa' := _) (nx' := 2) (cs := []) (obs := []) [] false rfl (by decide) h_n rfl (g_a (ls := eFunc false x2) rfl rfl rfl g_n) rfl rfl ent12 (spec_Reached_sim x2 h16) (.inl rfl) rfl rfl rfl rfl ?_)
        obtain ⟨x17, h18, hm⟩ := of_bind hm
        refine n_ (aopK_A (x_call (v := .u (.one (.bool x17))) (nobs := []) (oa' := _) (nx' := 2) rfl (a_1 rfl (b_r rfl) (a_1 rfl (b_s rfl) a_n)) c_n ent11 (laws_sameInts_sim x4 x15 h18) rfl rfl rfl rfl ?_))
        refine n_ (x_as rfl rfl ?_)
        refine z_ ?_
        refine c_ret ?_
        rw [← Option.some.inj hm]
        exact ret0 (us' := [.one (.bool x17)]) rfl (r_tmp rfl rfl rfl r_nil) f_done rfl rfl
      · rw [if_neg (by rw [hb14]; decide)] at hm
        refine c_skip ?_
        refine Wp.seq ?_
        refine Wp.seq ?_
        refine c_reg (Y := sysA _) ?_
        refine n_ (x_as rfl rfl ?_)
        refine z_ ?_
        refine Wp.block ?_
        obtain ⟨y49, hl50, hm⟩ := of_bind hm
        refine c_loop hl50 (fun (st19 : Int) => St 78 [(3, .u (.one (.ptr () 0 0 0))), (4, .u (.one (.ref () 1 0 (List.length x4)))), (5, .u (.one (.int .i64 st19)))] [(0, some ⟨(), 3, [[.bs () 1 (List.map iL x2.params), .int .i64 x2.ret, .bs () 6 (List.map (eBlock false) x2.blocks)]]⟩), (1, some ⟨(), 1, List.map iL x4⟩)] 2) (fun (y : Unit ⊕ Unit) => match y with | (Sum.inl j20) => (.ret, St 78 [(2, .u (.one (.bool false)))] [] 0) | (Sum.inr j21) => (.exit 0, St 78 [(4, .u (.one (.ref () 0 0 (List.length x4))))] [(0, some ⟨(), 1, List.map iL x4⟩)] 1)) (w_ [0, 1] (.cons rfl rfl (.cons (by first | rfl | (simp only [List.length_set]; rfl)) rfl (.cons rfl rfl .nil))) (.lit rfl rfl (.map rfl .nil)) (by decide) (hB_0 hB0)) ?_ (by rintro (_ | _) <;> simp) ?_
        · intro st19 x hm
          refine Wp.seq ?_
          refine Wp.seq ?_
          refine c_reg (Y := sysA _) ?_
          refine n_ (x_mv rfl rfl ?_)
          refine n_ (x_mv rfl rfl ?_)
          refine n_ (x_lnr rfl N24 rfl rfl fun hL22 => ?_)
          refine n_ (x_bin T3 rfl rfl rfl ?_)
          refine z_ ?_
          refine c_s rfl rfl (fun hb23 => ?_) (fun hb23 => ?_)
          · rw [if_pos (show _ = true from hb23)] at hm
            refine c_skip ?_
            refine Wp.seq ?_
            refine Wp.block ?_
            refine Wp.seq ?_
            refine Wp.seq ?_
            refine c_drw (Y := sysC _) mixed ?_
            refine t_ 0 1 rfl (by decide +kernel) (x_ldp rfl T27 rfl rfl rfl (pk_all rfl rfl) rfl ?_)
            refine t_ 1 0 rfl (by decide +kernel) (x_mv rfl rfl ?_)
            refine t_ 2 0 rfl (by decide +kernel) (x_mv rfl rfl ?_)
            obtain ⟨h24, hm⟩ := of_ite hm
            refine t_ 3 1 rfl (by decide +kernel) (x_ix0 rfl E24 rfl rfl rfl h24 ?_)
            refine t_ 4 1 rfl (by decide +kernel) (x_ldn rfl T2 rfl rfl h24 rfl rfl ?_)
            refine t_ 6 0 rfl (by decide +kernel) (x_mv rfl rfl ?_)
            obtain ⟨x25, h26, hm⟩ := of_bind hm
            refine o_ 5 rfl (by decide +kernel) (x_call (v := .u (.one (.ref () 2 0 (List.length x25)))) (nobs := [(2, ⟨(), 1, List.map iL x25⟩)]) (oa' := _) (nx' := 3) rfl (a_a (ls' := eFunc false x2) rfl (c_c (b_s rfl) (c_c (b_s rfl) (c_c (b_s rfl) c_n))) (a_1 rfl (b_s rfl) a_n)) c_n ent14 (impl_SuccsOf_sim x2 (at_ x4 st19) h26) (by simp only [immFreeV, leavesV, leavesU, List.flatMap_cons, List.flatMap_nil, List.append_nil, List.cons_append, List.nil_append, List.all_cons, List.all_nil, immFreeL, immF_map, Bool.and_true, Bool.and_self]) (by simp only [rootV, rootU, rootLs, rootUs, List.length_map, List.map_cons, List.map_nil]) rfl rfl ?_)
            obtain ⟨x27, h28, hm⟩ := of_bind hm
            refine o_ 7 rfl (by decide +kernel) (x_call (v := .u (.one (.bool x27))) (nobs := []) (oa' := _) (nx' := 3) rfl (a_1 rfl (b_r rfl) (a_1 rfl (b_r rfl) a_n)) c_n ent13 (laws_within_sim x25 x4 h28) rfl rfl rfl rfl ?_)
            refine t_ 8 0 rfl (by decide +kernel) (x_un rfl rfl ?_)
            refine a_nil (by decide +kernel) ?_
            refine c_s rfl rfl (fun hb29 => ?_) (fun hb29 => ?_)
            · rw [if_pos (show _ = true from hb29)] at hm
              refine Wp.seq ?_
              refine c_reg (Y := sysA _) ?_
              refine n_ (x_as rfl rfl ?_)
              refine z_ ?_
              refine c_ret ?_
              cases hm
              exact ⟨rfl, w_ [] (.cons rfl rfl .nil) .nil (by decide) (hB_0 hB0)⟩
            · rw [if_neg (by rw [hb29]; decide)] at hm
              refine c_skip ?_
              refine Wp.seq ?_
              refine c_drw (Y := sysC _) mixed ?_
              refine t_ 0 1 rfl (by decide +kernel) (x_ldp rfl T27 rfl rfl rfl (pk_all rfl rfl) rfl ?_)
              refine t_ 1 0 rfl (by decide +kernel) (x_mv rfl rfl ?_)
              refine t_ 2 0 rfl (by decide +kernel) (x_mv rfl rfl ?_)
              obtain ⟨h30, hm⟩ := of_ite hm
              refine t_ 3 1 rfl (by decide +kernel) (x_ix0 rfl E24 rfl rfl rfl h30 ?_)
              refine t_ 4 1 rfl (by decide +kernel) (x_ldn rfl T2 rfl rfl h30 rfl rfl ?_)
              obtain ⟨x31, h32, hm⟩ := of_bind hm
              refine o_ 5 rfl (by decide +kernel) (x_call (v := .u (.one (.ref () 3 0 (List.length x31)))) (nobs := [(3, ⟨(), 1, List.map iL x31⟩)]) (oa' := _) (nx' := 4) rfl (a_a (ls' := eFunc false x2) rfl (c_c (b_s rfl) (c_c (b_s rfl) (c_c (b_s rfl) c_n))) (a_1 rfl (b_s rfl) a_n)) c_n ent15 (impl_PredsOf_sim x2 (at_ x4 st19) h32) (by simp only [immFreeV, leavesV, leavesU, List.flatMap_cons, List.flatMap_nil, List.append_nil, List.cons_append, List.nil_append, List.all_cons, List.all_nil, immFreeL, immF_map, Bool.and_true, Bool.and_self]) (by simp only [rootV, rootU, rootLs, rootUs, List.length_map, List.map_cons, List.map_nil]) rfl rfl ?_)
              refine t_ 6 0 rfl (by decide +kernel) (x_as rfl rfl ?_)
              refine a_nil (by decide +kernel) ?_
              refine Wp.seq ?_
              refine c_reg (Y := sysA _) ?_
              refine n_ (x_mv rfl rfl ?_)
              refine n_ (x_mv rfl rfl ?_)
              obtain ⟨h33, hm⟩ := of_ite hm
              refine n_ (x_ix0 rfl E24 rfl rfl rfl h33 ?_)
              refine n_ (x_ldn rfl T2 rfl rfl h33 rfl rfl ?_)
              refine n_ (x_bin T2 rfl rfl rfl ?_)
              refine n_ (x_as rfl rfl ?_)
              refine z_ ?_
              refine Wp.seq ?_
              refine Wp.seq ?_
              refine c_reg (Y := sysA _) ?_
              refine n_ (x_as rfl rfl ?_)
              refine z_ ?_
              refine Wp.block ?_
              obtain ⟨j35, hl46, hm⟩ := of_bind hm
              refine c_loop hl46 (fun (st34 : Bool × Int) => St 78 [(3, .u (.one (.ptr () 0 0 0))), (4, .u (.one (.ref () 1 0 (List.length x4)))), (5, .u (.one (.int .i64 st19))), (6, .u (.one (.ref () 2 0 (List.length x31)))), (7, .u (.one (.bool st34.1))), (8, .u (.one (.int .i64 st34.2)))] [(0, some ⟨(), 3, [[.bs () 1 (List.map iL x2.params), .int .i64 x2.ret, .bs () 6 (List.map (eBlock false) x2.blocks)]]⟩), (1, some ⟨(), 1, List.map iL x4⟩), (2, some ⟨(), 1, List.map iL x31⟩)] 3) (fun (j35 : Bool) => (.exit 2, St 78 [(3, .u (.one (.ptr () 0 0 0))), (4, .u (.one (.ref () 1 0 (List.length x4)))), (5, .u (.one (.int .i64 st19))), (7, .u (.one (.bool j35)))] [(0, some ⟨(), 3, [[.bs () 1 (List.map iL x2.params), .int .i64 x2.ret, .bs () 6 (List.map (eBlock false) x2.blocks)]]⟩), (1, some ⟨(), 1, List.map iL x4⟩)] 2)) (w_ [0, 1, 3] (.cons rfl rfl (.cons (by first | rfl | (simp only [List.length_set]; rfl)) rfl (.cons rfl rfl (.cons (by first | rfl | (simp only [List.length_set]; rfl)) rfl (.cons rfl rfl (.cons rfl rfl .nil)))))) (.lit rfl rfl (.map rfl (.map rfl .nil))) (by decide) (hB_0 hB0)) ?_ (by intro y; simp) ?_
              · intro st34 x hm
                refine Wp.seq ?_
                refine Wp.seq ?_
                refine c_reg (Y := sysA _) ?_
                refine n_ (x_mv rfl rfl ?_)
                refine n_ (x_mv rfl rfl ?_)
                refine n_ (x_lnr rfl N24 rfl rfl fun hL36 => ?_)
                refine n_ (x_bin T3 rfl rfl rfl ?_)
                refine z_ ?_
                refine c_s rfl rfl (fun hb37 => ?_) (fun hb37 => ?_)
                · rw [if_pos (show _ = true from hb37)] at hm
                  refine c_skip ?_
                  refine Wp.seq ?_
                  refine Wp.block ?_
                  obtain ⟨j38, hj43, hm⟩ := of_bind hm
                  refine c_cut (St 78 [(3, .u (.one (.ptr () 0 0 0))), (4, .u (.one (.ref () 1 0 (List.length x4)))), (5, .u (.one (.int .i64 st19))), (6, .u (.one (.ref () 2 0 (List.length x31)))), (7, .u (.one (.bool j38))), (8, .u (.one (.int .i64 st34.2)))] [(0, some ⟨(), 3, [[.bs () 1 (List.map iL x2.params), .int .i64 x2.ret, .bs () 6 (List.map (eBlock false) x2.blocks)]]⟩), (1, some ⟨(), 1, List.map iL x4⟩), (2, some ⟨(), 1, List.map iL x31⟩)] 3) ?_ ?_
                  · replace hm := hj43
                    refine c_reg (Y := sysA _) ?_
                    refine n_ (x_mv rfl rfl ?_)
                    refine n_ (x_mv rfl rfl ?_)
                    refine g_s rfl rfl rfl (fun hb39 => ?_) (fun hb39 => ?_)
                    · rw [if_neg (by rw [hb39]; decide)] at hm
                      refine g_t rfl rfl rfl ?_
                      refine n_ (x_mv rfl rfl ?_)
                      refine g_t rfl rfl rfl ?_
                      refine n_ (x_mv rfl rfl ?_)
                      refine g_t rfl rfl rfl ?_
                      refine n_ (x_mv rfl rfl ?_)
                      refine g_t rfl rfl rfl ?_
                      obtain ⟨h40, hm⟩ := of_ite hm
                      refine n_ (x_ix0 rfl E24 rfl rfl rfl h40 ?_)
                      refine g_t rfl rfl rfl ?_
                      refine n_ (x_ldn rfl T2 rfl rfl h40 rfl rfl ?_)
                      refine g_t rfl rfl rfl ?_
                      obtain ⟨x41, h42, hm⟩ := of_bind hm
                      refine n_ (aopK_A (x_call (v := .u (.one (.bool x41))) (nobs := []) (oa' := _) (nx' := 3) rfl (a_1 rfl (b_r rfl) (a_1 rfl (b_s rfl) a_n)) c_n ent16 (laws_has_sim x4 (at_ x31 st34.2) h42) rfl rfl rfl rfl ?_))
                      refine n_ (x_pk rfl rfl rfl ?_)
                      refine n_ (x_as rfl rfl ?_)
                      refine z_ ?_
                      cases hm
                      exact w_ [0, 1, 2] (.cons rfl rfl (.cons (by first | rfl | (simp only [List.length_set]; rfl)) rfl (.cons rfl rfl (.cons (by first | rfl | (simp only [List.length_set]; rfl)) rfl (.cons rfl rfl (.cons rfl rfl .nil)))))) (.lit rfl rfl (.map rfl (.map rfl .nil))) (by decide) (hB_0 hB0)
                    · rw [if_pos (show _ = true from hb39)] at hm
                      refine g_f rfl rfl rfl ?_
                      refine g_f rfl rfl rfl ?_
                      refine g_f rfl rfl rfl ?_
                      refine g_f rfl rfl rfl ?_
                      refine g_f rfl rfl rfl ?_
                      refine g_f rfl rfl rfl ?_
                      refine n_ (x_pk rfl rfl rfl ?_)
                      refine n_ (x_as rfl rfl ?_)
                      refine z_ ?_
                      cases hm
                      exact w_ [0, 1, 2] (.cons rfl rfl (.cons (by first | rfl | (simp only [List.length_set]; rfl)) rfl (.cons rfl rfl (.cons (by first | rfl | (simp only [List.length_set]; rfl)) rfl (.cons rfl rfl (.cons rfl rfl .nil)))))) (.lit rfl rfl (.map rfl (.map rfl .nil))) (by decide) (hB_0 hB0)
                  · refine c_reg (Y := sysA _) ?_
                    refine n_ (x_mv rfl rfl ?_)
                    obtain ⟨h44, hm⟩ := of_ite hm
                    refine n_ (x_addc T3 rfl rfl h44 ?_)
                    refine n_ (x_as rfl rfl ?_)
                    refine z_ ?_
                    cases hm
                    exact ⟨rfl, w_ [0, 1, 2] (.cons rfl rfl (.cons (by first | rfl | (simp only [List.length_set]; rfl)) rfl (.cons rfl rfl (.cons (by first | rfl | (simp only [List.length_set]; rfl)) rfl (.cons rfl rfl (.cons rfl rfl .nil)))))) (.lit rfl rfl (.map rfl (.map rfl .nil))) (by decide) (hB_0 hB0)⟩
                · rw [if_neg (by rw [hb37]; decide)] at hm
                  refine c_exit ?_
                  cases hm
                  exact ⟨rfl, w_ [0, 1] (.cons rfl rfl (.cons (by first | rfl | (simp only [List.length_set]; rfl)) rfl (.cons rfl rfl (.cons rfl rfl .nil)))) (.lit rfl rfl (.map rfl .nil)) (by decide) (hB_0 hB0)⟩
              · refine Wp.seq ?_
                refine c_reg (Y := sysA _) ?_
                refine n_ (x_mv rfl rfl ?_)
                refine n_ (x_un rfl rfl ?_)
                refine z_ ?_
                refine c_s rfl rfl (fun hb47 => ?_) (fun hb47 => ?_)
                · rw [if_pos (show _ = true from hb47)] at hm
                  refine Wp.seq ?_
                  refine c_reg (Y := sysA _) ?_
                  refine n_ (x_as rfl rfl ?_)
                  refine z_ ?_
                  refine c_ret ?_
                  cases hm
                  exact ⟨rfl, w_ [] (.cons rfl rfl .nil) .nil (by decide) (hB_0 hB0)⟩
                · rw [if_neg (by rw [hb47]; decide)] at hm
                  refine c_skip ?_
                  refine c_reg (Y := sysA _) ?_
                  refine n_ (x_mv rfl rfl ?_)
                  obtain ⟨h48, hm⟩ := of_ite hm
                  refine n_ (x_addc T3 rfl rfl h48 ?_)
                  refine n_ (x_as rfl rfl ?_)
                  refine z_ ?_
                  cases hm
                  exact ⟨rfl, w_ [0, 1] (.cons rfl rfl (.cons (by first | rfl | (simp only [List.length_set]; rfl)) rfl (.cons rfl rfl .nil))) (.lit rfl rfl (.map rfl .nil)) (by decide) (hB_0 hB0)⟩
          · rw [if_neg (by rw [hb23]; decide)] at hm
            refine c_exit ?_
            cases hm
            exact ⟨rfl, w_ [1] (.cons (by first | rfl | (simp only [List.length_set]; rfl)) rfl .nil) (.map rfl .nil) (by decide) (hB_0 hB0)⟩
        · rcases y49 with j20 | j21
          all_goals simp only at hm
          · rw [← Option.some.inj hm]
            exact ret0 (us' := [.one (.bool false)]) rfl (r_tmp rfl rfl rfl r_nil) f_done rfl rfl
          · refine Wp.seq ?_
            obtain ⟨j51, hj57, hm⟩ := of_bind hm
            refine c_cut (St 78 [(2, .u (.one (.bool j51)))] [] 0) ?_ ?_
            · replace hm := hj57
              refine c_reg (Y := sysA _) ?_
              refine n_ (x_mv rfl rfl ?_)
              obtain ⟨x52, h53, hm⟩ := of_bind hm
              refine n_ (aopK_A (x_call (v := .u (.one (.bool x52))) (nobs := []) (oa' := _) (nx' := 1) rfl (a_1 rfl (b_r rfl) (a_1 rfl (b_s rfl) a_n)) c_n ent16 (laws_has_sim x4 0 h53) rfl rfl rfl rfl ?_))
              refine n_ (x_mv rfl rfl ?_)
              refine g_s rfl rfl rfl (fun hb54 => ?_) (fun hb54 => ?_)
              · rw [if_pos (show _ = true from hb54)] at hm
                refine g_t rfl rfl rfl ?_
                refine n_ (x_mv rfl rfl ?_)
                refine g_t rfl rfl rfl ?_
                obtain ⟨x55, h56, hm⟩ := of_bind hm
                refine n_ (aopK_A (x_call (v := .u (.one (.bool x55))) (nobs := []) (oa' := _) (nx' := 1) rfl (a_1 rfl (b_r rfl) a_n) c_n ent17 (laws_rising_sim x4 h56) rfl rfl rfl rfl ?_))
                refine n_ (x_pk rfl rfl rfl ?_)
                refine n_ (x_as rfl rfl ?_)
                refine z_ ?_
                cases hm
                exact w_ [] (.cons rfl rfl .nil) .nil (by decide) (hB_0 hB0)
              · rw [if_neg (by rw [hb54]; decide)] at hm
                refine g_f rfl rfl rfl ?_
                refine g_f rfl rfl rfl ?_
                refine n_ (x_pk rfl rfl rfl ?_)
                refine n_ (x_as rfl rfl ?_)
                refine z_ ?_
                cases hm
                exact w_ [] (.cons rfl rfl .nil) .nil (by decide) (hB_0 hB0)
            · refine c_ret ?_
              rw [← Option.some.inj hm]
              exact ret0 (us' := [.one (.bool j51)]) rfl (r_tmp rfl rfl rfl r_nil) f_done rfl rfl

end Go.Proofs.Ytmckcjoacfekcaa.AM

/-! The calculus, thirty-seventh part: what loops over rows come to, in plain Lean. -/
namespace Go.Proofs.Ytmckcjoacfekcaa.AM
open Go

theorem loop_anyN {α : Type} {body : Int → Option (Int ⊕ (α ⊕ Unit))} (n : Nat) (c : Nat → Bool) (a : Nat → α) (h1 : ∀ k : Nat, k < n → body (k : Int) = some (if c k = true then .inr (.inl (a k)) else .inl ((k : Int) + 1)))
    (h2 : body (n : Int) = some (.inr (.inr ()))) :
    (∃ k, k < n ∧ c k = true ∧ (∀ j, j < k → c j = false) ∧ loopO body 0 = some (.inl (a k))) ∨ ((∀ k, k < n → c k = false) ∧ loopO body 0 = some (.inr ())) := by
  have key : ∀ m k : Nat, k + m = n → (∃ i, k ≤ i ∧ i < n ∧ c i = true ∧ (∀ j, k ≤ j → j < i → c j = false) ∧ loopO body (k : Int) = some (.inl (a i))) ∨ ((∀ i, k ≤ i → i < n → c i = false) ∧ loopO body (k : Int) = some (.inr ())) := by
    intro m
    induction m with
    | zero =>
      intro k hk
      obtain rfl : k = n := by omega
      exact .inr ⟨fun i h1 h2 => by omega, by rw [loopO_step, h2]; rfl⟩
    | succ m ih =>
      intro k hk
      by_cases hc : c k = true
      · exact .inl ⟨k, Nat.le_refl _, by omega, hc, fun j h1 h2 => by omega, by rw [loopO_step, h1 k (by omega), if_pos hc]; rfl⟩
      · have hc' : c k = false := by simpa using hc
        have e : loopO body (k : Int) = loopO body ((k + 1 : Nat) : Int) := by
          rw [loopO_step, h1 k (by omega), if_neg hc]
          simp
        rcases ih (k + 1) (by omega) with ⟨i, p1, p2, p3, p4, p5⟩ | ⟨p1, p2⟩
        · refine .inl ⟨i, by omega, p2, p3, fun j hj hji => ?_, by rw [e]; exact p5⟩
          rcases Nat.lt_or_ge k j with h | h
          · exact p4 j (by omega) hji
          · obtain rfl : j = k := by omega
            exact hc'
        · refine .inr ⟨fun i hi hin => ?_, by rw [e]; exact p2⟩
          rcases Nat.lt_or_ge k i with h | h
          · exact p1 i (by omega) hin
          · obtain rfl : i = k := by omega
            exact hc'
  rcases key n 0 (by omega) with ⟨k, _, p2, p3, p4, p5⟩ | ⟨p1, p2⟩
  · exact .inl ⟨k, p2, p3, fun j hj => p4 j (Nat.zero_le _) hj, p5⟩
  · exact .inr ⟨fun i hi => p1 i (Nat.zero_le _) hi, p2⟩
/-- Where only it matters that one is found. -/
theorem loop_any {α β : Type} [Inhabited β] {body : Int → Option (Int ⊕ (α ⊕ Unit))} (xs : List β) (c : β → Bool) (a : Nat → α) (h1 : ∀ k : Nat, k < xs.length → body (k : Int) = some (if c (at_ xs k) = true then .inr (.inl (a k)) else .inl ((k : Int) + 1)))
    (h2 : body (xs.length : Int) = some (.inr (.inr ()))) :
    (xs.any c = true ∧ ∃ k, k < xs.length ∧ loopO body 0 = some (.inl (a k))) ∨ (xs.any c = false ∧ loopO body 0 = some (.inr ())) := by
  have hat : ∀ k (h : k < xs.length), at_ xs (k : Int) = xs[k] := fun k h => by simp [at_, List.getD_eq_getElem?_getD, List.getElem?_eq_getElem h]
  rcases loop_anyN xs.length (fun k => c (at_ xs (k : Int))) a h1 h2 with ⟨k, p1, p2, _, p4⟩ | ⟨p1, p2⟩
  · exact .inl ⟨List.any_eq_true.2 ⟨xs[k], List.getElem_mem p1, by rw [← hat k p1]; exact p2⟩, k, p1, p4⟩
  · refine .inr ⟨?_, p2⟩
    rw [List.any_eq_false]
    intro x hx
    obtain ⟨k, hk, rfl⟩ := List.getElem_of_mem hx
    have := p1 k hk
    rw [hat k hk] at this
    simp [this]
/-- A row that is filled from the first on. -/
theorem loop_fill {β : Type} {body : List β × Int → Option ((List β × Int) ⊕ List β)} (n : Nat) (f : Nat → β) (z : β) (h1 : ∀ (l : List β) (k : Nat), k < n → l.length = n → body (l, (k : Int)) = some (.inl (l.set k (f k), (k : Int) + 1)))
    (h2 : ∀ l : List β, l.length = n → body (l, (n : Int)) = some (.inr l)) : loopO body (List.replicate n z, 0) = some ((List.range n).map f) := by
  have key : ∀ m k : Nat, k + m = n → loopO body ((List.range k).map f ++ List.replicate m z, (k : Int)) = some ((List.range n).map f) := by
    intro m
    induction m with
    | zero =>
      intro k hk
      obtain rfl : k = n := by omega
      rw [loopO_step]
      simp only [List.replicate_zero, List.append_nil]
      rw [h2 _ (by simp)]
      rfl
    | succ m ih =>
      intro k hk
      rw [loopO_step, h1 _ k (by omega) (by simp; omega)]
      simp only [Option.bind_some]
      have e : ((List.range k).map f ++ List.replicate (m + 1) z).set k (f k) = (List.range (k + 1)).map f ++ List.replicate m z := by
        rw [List.set_append_right _ _ (by simp)]
        simp [List.replicate_succ, List.range_succ]
      have e2 : ((k : Int) + 1) = ((k + 1 : Nat) : Int) := by simp
      rw [e, e2]
      exact ih (k + 1) (by omega)
  simpa using key n 0 (by omega)
theorem map_at_range {β : Type} [Inhabited β] (xs : List β) : (List.range xs.length).map (fun k : Nat => at_ xs (k : Int)) = xs := by
  apply List.ext_getElem
  · simp
  · intro i h1 h2
    simp [at_, List.getD_eq_getElem?_getD, List.getElem?_eq_getElem h2]
theorem at_nat {β : Type} [Inhabited β] {xs : List β} {k : Nat} (h : k < xs.length) : at_ xs (k : Int) = xs[k] := by simp [at_, List.getD_eq_getElem?_getD, List.getElem?_eq_getElem h]
theorem loop_anyN' {α : Type} {body : Int → Option (Int ⊕ (α ⊕ Unit))} {L : Option (α ⊕ Unit)} (hB : loopO body 0 = L) (n : Nat) (c : Nat → Bool) (a : Nat → α)
    (h1 : ∀ k : Nat, k < n → body (k : Int) = some (if c k = true then .inr (.inl (a k)) else .inl ((k : Int) + 1))) (h2 : body (n : Int) = some (.inr (.inr ()))) :
    (∃ k, k < n ∧ c k = true ∧ (∀ j, j < k → c j = false) ∧ L = some (.inl (a k))) ∨ ((∀ k, k < n → c k = false) ∧ L = some (.inr ())) := by
  subst hB
  exact loop_anyN n c a h1 h2
theorem loop_any' {α β : Type} [Inhabited β] {body : Int → Option (Int ⊕ (α ⊕ Unit))} {L : Option (α ⊕ Unit)} (hB : loopO body 0 = L) (xs : List β) (c : β → Bool) (a : Nat → α)
    (h1 : ∀ k : Nat, k < xs.length → body (k : Int) = some (if c (at_ xs k) = true then .inr (.inl (a k)) else .inl ((k : Int) + 1))) (h2 : body (xs.length : Int) = some (.inr (.inr ()))) :
    (xs.any c = true ∧ ∃ k, k < xs.length ∧ L = some (.inl (a k))) ∨ (xs.any c = false ∧ L = some (.inr ())) := by
  subst hB
  exact loop_any xs c a h1 h2
end Go.Proofs.Ytmckcjoacfekcaa.AM

/-! The calculus, thirty-fifth part: what an argument reads as. -/
namespace Go.Proofs.Ytmckcjoacfekcaa.AM
open Go Go.WideShapes Go.ChangeShapes

/-- The form of a type of data. -/
inductive Ty : Type where
  | int (k : IntKind)
  | bool
  | str
  | sl (n b : Nat) (e : Ty)
  | st (fs : List Ty)
mutual
inductive TyP (P : Program) : TypeId → Ty → Prop
  | int {t k} : P.underlying t = some (.int k) → TyP P t (.int k)
  | bool {t} : P.underlying t = some .bool → TyP P t .bool
  | str {t} : P.underlying t = some .string → TyP P t .str
  | sl {t e n b ty} : P.underlying t = some (.slice e) → P.cellsOf e = n → P.bytesOf e = b → 0 < n → 0 < b → TyP P e ty → TyP P t (.sl n b ty)
  | st {t gs fs m} : P.underlying t = some (.struct gs) → P.cellsOf t = m → FsP P gs.toList fs 0 m → TyP P t (.st fs)
inductive FsP (P : Program) : List Field → List Ty → Nat → Nat → Prop
  | nil {m} : FsP P [] [] m m
  | cons {g gs ty tys o c m} : g.offset = o → P.cellsOf g.type = c → TyP P g.type ty → FsP P gs tys (o + c) m → FsP P (g :: gs) (ty :: tys) o m
end
def fsB (P : Program) (tb : TypeId → Ty → Bool) : List Field → List Ty → Nat → Nat → Bool
  | [], [], o, m => Nat.beq o m
  | g :: gs, ty :: tys, o, m => Nat.beq g.offset o && tb g.type ty && fsB P tb gs tys (o + P.cellsOf g.type) m
  | _, _, _, _ => false
def tyB (P : Program) : Nat → TypeId → Ty → Bool
  | 0, _, _ => false
  | _ + 1, t, .int k => match P.underlying t with
    | some (.int k') => decide (k' = k)
    | _ => false
  | _ + 1, t, .bool => match P.underlying t with
    | some .bool => true
    | _ => false
  | _ + 1, t, .str => match P.underlying t with
    | some .string => true
    | _ => false
  | f + 1, t, .sl n b e => match P.underlying t with
    | some (.slice t') => Nat.beq (P.cellsOf t') n && Nat.beq (P.bytesOf t') b && Nat.blt 0 n && Nat.blt 0 b && tyB P f t' e
    | _ => false
  | f + 1, t, .st fs => match P.underlying t with
    | some (.struct gs) => fsB P (tyB P f) gs.toList fs 0 (P.cellsOf t)
    | _ => false
theorem fsB_sound {P : Program} {tb : TypeId → Ty → Bool} (h : ∀ t ty, tb t ty = true → TyP P t ty) : ∀ {gs : List Field} {fs : List Ty} {o m : Nat}, fsB P tb gs fs o m = true → FsP P gs fs o m
  | [], [], o, m, hb => by
    have := Nat.eq_of_beq_eq_true hb
    subst this
    exact .nil
  | g :: gs, ty :: tys, o, m, hb => by
    simp only [fsB, Bool.and_eq_true] at hb
    obtain ⟨⟨h1, h2⟩, h3⟩ := hb
    exact .cons (Nat.eq_of_beq_eq_true h1) rfl (h _ _ h2) (fsB_sound h h3)
  | [], _ :: _, _, _, hb => by cases hb
  | _ :: _, [], _, _, hb => by cases hb
theorem tyB_sound {P : Program} : ∀ {f : Nat} {t : TypeId} {ty : Ty}, tyB P f t ty = true → TyP P t ty
  | 0, _, _, h => by simp [tyB] at h
  | f + 1, t, .int k, h => by
    unfold tyB at h
    split at h
    · rename_i k' hu
      have := of_decide_eq_true h
      subst this
      exact .int hu
    · cases h
  | f + 1, t, .bool, h => by
    unfold tyB at h
    split at h
    · rename_i hu; exact .bool hu
    · cases h
  | f + 1, t, .str, h => by
    unfold tyB at h
    split at h
    · rename_i hu; exact .str hu
    · cases h
  | f + 1, t, .sl n b e, h => by
    unfold tyB at h
    split at h
    · rename_i t' hu
      simp only [Bool.and_eq_true] at h
      obtain ⟨⟨⟨⟨h1, h2⟩, h3⟩, h4⟩, h5⟩ := h
      exact .sl hu (Nat.eq_of_beq_eq_true h1) (Nat.eq_of_beq_eq_true h2) (blt_lt h3) (blt_lt h4) (tyB_sound h5)
    · cases h
  | f + 1, t, .st fs, h => by
    unfold tyB at h
    split at h
    · rename_i gs hu
      exact .st hu rfl (fsB_sound (fun t ty ht => tyB_sound ht) h)
    · cases h
/-- The cells of a value of a form. -/
inductive Fits {δ : Type} : Ty → List (L δ) → Prop
  | int {k n} : (Lit.int k n).wf = true → Fits (.int k) [.int k n]
  | bool {b} : Fits .bool [.bool b]
  | str {s : ByteArray} : s.size ≤ reachBytes → Fits .str [.str s]
  | sl {n b e v rows} : rows.length * b ≤ reachBytes → (∀ r ∈ rows, Fits e r) → Fits (.sl n b e) [.bs v n rows]
  | st0 : Fits (.st []) []
  | st {t ts a b} : Fits t a → Fits (.st ts) b → Fits (.st (t :: ts)) (a ++ b)
theorem Fits.map {δ ε : Type} (g : δ → ε) : ∀ {ty : Ty} {ls : List (L δ)}, Fits ty ls → Fits ty (ls.map (mapL g)) := by
  intro ty ls h
  induction h with
  | int h => exact .int h
  | bool => exact .bool
  | str h => exact .str h
  | sl h _ ih =>
    simp only [List.map_cons, List.map_nil, mapL, mapR_eq]
    refine .sl (by simpa using h) fun r hr => ?_
    obtain ⟨r0, h0, rfl⟩ := List.mem_map.1 hr
    exact ih r0 h0
  | st0 => exact .st0
  | st _ _ h1 h2 => rw [List.map_append]; exact .st h1 h2
/-- A leaf that is only read. -/
structure Pl (w : World) (l : L Value) : Prop where
  wf : ∀ nest, wfL nest l
  ids : idsL l = []
  own : ownL l = []
  ref : ∀ ob, refOk ob l
  imm : ∀ q ∈ immL l, q.2 ≠ [] → ImmFact w q
theorem pl_int {w : World} {k n} : Pl w (.int k n) := ⟨fun _ => trivial, rfl, rfl, fun _ => trivial, fun q hq => by simp [immL] at hq⟩
theorem pl_bool {w : World} {b} : Pl w (.bool b) := ⟨fun _ => trivial, rfl, rfl, fun _ => trivial, fun q hq => by simp [immL] at hq⟩
theorem pl_str {w : World} {b} : Pl w (.str b) := ⟨fun _ => trivial, rfl, rfl, fun _ => trivial, fun q hq => by simp [immL] at hq⟩
theorem choose_rows {α : Type} {R : Nat → α → Prop} : ∀ n : Nat, (∀ i, i < n → ∃ r, R i r) → ∃ rows : List α, rows.length = n ∧ ∀ (i : Nat) r, rows[i]? = some r → R i r
  | 0, _ => ⟨[], rfl, fun i r h => by simp at h⟩
  | n + 1, h => by
    obtain ⟨rows, h1, h2⟩ := choose_rows n fun i hi => h i (by omega)
    obtain ⟨r, hr⟩ := h n (by omega)
    refine ⟨rows ++ [r], by simp [h1], fun i x hx => ?_⟩
    rcases Nat.lt_trichotomy i n with hi | hi | hi
    · rw [List.getElem?_append_left (by omega)] at hx
      exact h2 i x hx
    · subst hi
      rw [List.getElem?_append_right (by omega), h1, Nat.sub_self] at hx
      cases hx
      exact hr
    · rw [List.getElem?_eq_none (by simp; omega)] at hx
      cases hx
theorem weights_all {H : Type} {P : Program} {e : TypeId} : ∀ {ds : List (DataW H)} {i : Nat} {d : DataW H}, ds[i]? = some d → ∀ n ∈ d.weights P e, n ∈ DataW.weightsAll P e ds
  | d0 :: ds, 0, d, hd, n, hn => by
    simp only [List.getElem?_cons_zero, Option.some.injEq] at hd
    subst hd
    simp only [DataW.weightsAll, List.mem_append]
    exact .inl hn
  | d0 :: ds, i + 1, d, hd, n, hn => by
    simp only [List.getElem?_cons_succ] at hd
    simp only [DataW.weightsAll, List.mem_append]
    exact .inr (weights_all hd n hn)
theorem valR_at {n : Nat} {rows : List (List (L Value))} (hl : ∀ r ∈ rows, r.length = n) {j : Nat} {v : Value} (h : (valR rows)[j]? = some v) : ∃ r, rows[j / n]? = some r ∧ (r.map val)[j % n]? = some v ∧ 0 < n := by
  have hlt := (List.getElem?_eq_some_iff.1 h).1
  rw [valR_len hl] at hlt
  have hn : 0 < n := by
    rcases Nat.eq_zero_or_pos n with h0 | h0
    · subst h0; omega
    · exact h0
  have hi : j / n < rows.length := Nat.div_lt_of_lt_mul (by rw [Nat.mul_comm]; exact hlt)
  have hr := List.getElem?_eq_getElem hi
  have hm := Nat.mod_lt j hn
  have hlr := hl _ (List.mem_of_getElem? hr)
  have hx := List.getElem?_eq_getElem (l := rows[j / n]) (i := j % n) (by omega)
  have := valR_get hl hr hx
  refine ⟨_, hr, ?_, hn⟩
  have e : j / n * n + j % n = j := by rw [Nat.mul_comm]; exact Nat.div_add_mod j n
  rw [e] at this
  rw [List.getElem?_map, hx, ← h, this]
  rfl
section
variable {H : Type} {enc : TypeId × Value → H} {P : Program} {w : World} {base : Nat} {spare : Nat → Bool} {held : Bool}
/-- What a value reads as. -/
theorem reading : ∀ (fuel : Nat) {t : TypeId} {ty : Ty} {cs : List Value} {x : DataW H × List MemPlace}, TyP P t ty → DataW.trod enc P w base spare held fuel t cs = some x → (∀ n ∈ x.1.weights P t, n ≤ reachBytes) →
    ∃ ls : List (L Value), ls.map val = cs ∧ Fits ty ls ∧ (∀ l ∈ ls, Pl w l) ∧ (P.underlying t = P.underlying t) := by
  intro fuel
  induction fuel with
  | zero => intro t ty cs x _ h; simp [DataW.trod] at h
  | succ fuel ih =>
    intro t ty cs x hty h hw
    cases hty with
    | int hu =>
      obtain ⟨n, rfl, rfl, hwf⟩ := DataW.trod_int hu h
      exact ⟨[.int _ n], rfl, .int hwf, by simpa using pl_int, rfl⟩
    | bool hu =>
      obtain ⟨b, rfl, rfl⟩ := DataW.trod_bool hu h
      exact ⟨[.bool b], rfl, .bool, by simpa using pl_bool, rfl⟩
    | str hu =>
      obtain ⟨s, rfl, rfl, _⟩ := DataW.trod_string hu h
      refine ⟨[.str s], rfl, .str ?_, by simpa using pl_str, rfl⟩
      have := hw s.data.toList.length (by simp [DataW.weights])
      simpa using this
    | sl hu hn hb hn0 hb0 he =>
      rename_i e n b ty'
      rcases DataW.trod_slice hu h with ⟨rfl, rfl⟩ | ⟨a, len, cap, elems, rest, m, hm, rfl, rfl, hbs, hl, hm2, hlen, hel, _, _⟩
      · refine ⟨[.bs (.slice none 0 0) n []], rfl, .sl (by simp) (by simp), ?_, rfl⟩
        intro l hl
        simp only [List.mem_singleton] at hl
        subst hl
        exact ⟨fun _ => ⟨⟨none, 0, rfl, by simp, by simp [LIM], by simp⟩, by simp, by simp [wfR]⟩, rfl, rfl, fun _ => trivial, fun q hq => by simp [immL, hdrImm, immR] at hq⟩
      · obtain rfl : fuel = m := by omega
        have hlenb : (elems.length + rest.length) * b ≤ reachBytes := by
          have := hw ((elems.length + rest.length) * P.bytesOf e) (by simp [DataW.weights, hu])
          rwa [hb] at this
        obtain ⟨rows, hr1, hr2⟩ := choose_rows (R := fun i (r : List (L Value)) => (∃ c, w.cells? base (a.add (i * n)) n = some c ∧ r.map val = c) ∧ Fits ty' r ∧ (∀ l ∈ r, Pl w l)) len fun i hi => by
          have h1 := hel i hi
          have hie : i < elems.length := by omega
          rw [List.getElem?_eq_getElem hie, Option.bind_eq_some_iff, hn] at h1
          obtain ⟨c, hc, ht⟩ := h1
          obtain ⟨ls, e1, e2, e3, _⟩ := ih he ht fun k hk => hw k (by
            simp only [DataW.weights, hu, List.mem_cons, List.mem_append]
            refine .inr (.inl (weights_all (i := i) ?_ k hk))
            rw [List.getElem?_map, List.getElem?_eq_getElem hie]
            rfl)
          exact ⟨ls, ⟨c, hc, e1⟩, e2, e3⟩
        have hmem : ∀ r ∈ rows, Fits ty' r ∧ (∀ l ∈ r, Pl w l) ∧ r.length = n := fun r hr => by
          obtain ⟨i, hi⟩ := List.getElem?_of_mem hr
          obtain ⟨⟨c, hc, e1⟩, e2, e3⟩ := hr2 i r hi
          refine ⟨e2, e3, ?_⟩
          have := (World.cells?_some hc).2.1
          rw [← e1, List.length_map] at this
          exact this
        have hsp : rows ≠ [] → a = ⟨a.block, a.off, none⟩ := fun hne => by
          obtain ⟨r, hr⟩ : ∃ r, rows[0]? = some r := by
            cases rows with
            | nil => exact absurd rfl hne
            | cons r _ => exact ⟨r, rfl⟩
          obtain ⟨⟨c, hc, e1⟩, _⟩ := hr2 0 r hr
          obtain ⟨_, k1, k2⟩ := World.cells?_some hc
          have := k2 0 hn0
          rw [List.getElem?_eq_getElem (by omega), Nat.zero_mul] at this
          have h0 : (a.add 0).add 0 = a := by simp [Addr.add]
          rw [h0] at this
          have := World.cell?_spot this
          cases a
          simp only at this
          subst this
          rfl
        have hLen : rows.length ≤ LIM := by
          have h3 : len * b ≤ reachBytes := Nat.le_trans (Nat.mul_le_mul_right _ (by omega)) hlenb
          have h4 : len * 1 ≤ len * b := Nat.mul_le_mul_left _ hb0
          have h5 : reachBytes ≤ LIM := by decide
          omega
        refine ⟨[.bs (.slice (some a) len cap) n rows], rfl, .sl ?_ (fun r hr => (hmem r hr).1), ?_, rfl⟩
        · rw [hr1]
          exact Nat.le_trans (Nat.mul_le_mul_right _ (by omega)) hlenb
        · intro l hl'
          simp only [List.mem_singleton] at hl'
          subst hl'
          refine ⟨fun nest => ⟨⟨some a, cap, by rw [hr1], by omega, hLen, fun hne => ⟨a.block, a.off, by rw [← hsp hne]⟩⟩, fun r hr => (hmem r hr).2.2, ?_⟩, rfl, rfl, fun _ => trivial, fun q hq hne => ?_⟩
          · exact (wfR_iff true rows).2 fun r hr l hl => ((hmem r hr).2.1 l hl).wf true
          · simp only [immL, hdrImm, List.mem_append, List.mem_singleton] at hq
            rcases hq with rfl | hq
            · intro j v hj
              obtain ⟨r, k1, k2, _⟩ := valR_at (fun r hr => (hmem r hr).2.2) hj
              obtain ⟨⟨c, hc, e1⟩, _⟩ := hr2 _ r k1
              obtain ⟨_, k3, k4⟩ := World.cells?_some hc
              have hr0 : rows ≠ [] := fun h0 => by rw [h0] at k1; simp at k1
              have := k4 (j % n) (Nat.mod_lt _ hn0)
              rw [← e1, k2, hsp hr0, addr_add, addr_add] at this
              simp only at this ⊢
              rw [← this]
              congr 2
              have := Nat.div_add_mod j n
              rw [Nat.mul_comm] at this
              omega
            · rw [immR_eq] at hq
              obtain ⟨l, hl, hq⟩ := List.mem_flatMap.1 hq
              obtain ⟨r, hr, hl⟩ := List.mem_flatten.1 hl
              exact ((hmem r hr).2.1 l hl).imm q hq hne
    | st hu hm hfs =>
      rename_i gs fs m
      obtain ⟨xs, k, hk, rfl, hcs, hxl, hxs⟩ := DataW.trod_struct hu h
      obtain rfl : fuel = k := by omega
      rw [hm] at hcs
      have key : ∀ (gl : List Field) (fs : List Ty) (o i : Nat), FsP P gl fs o m → gs.toList.drop i = gl → o ≤ m → ∃ ls : List (L Value), ls.map val = cs.drop o ∧ Fits (.st fs) ls ∧ ∀ l ∈ ls, Pl w l := by
        intro gl
        induction gl with
        | nil =>
          intro fs o i hf _ ho
          cases hf
          exact ⟨[], by rw [List.drop_of_length_le (by omega)]; rfl, .st0, by simp⟩
        | cons g gl ihg =>
          intro fs o i hf hd ho
          cases hf with
          | cons h1 h2 h3 h4 =>
            rename_i ty1 tys c
            have hgi : gs[i]? = some g := by
              have : (gs.toList.drop i)[0]? = some g := by rw [hd]; rfl
              rw [List.getElem?_drop] at this
              simpa using this
            have h5 := hxs i g hgi
            have hi : i < xs.length := by
              rw [hxl]
              exact (Array.getElem?_eq_some_iff.1 hgi).1
            rw [List.getElem?_eq_getElem hi] at h5
            obtain ⟨ls1, a1, a2, a3, _⟩ := ih h3 h5 fun n hn => hw n (by
              simp only [DataW.weights, hu]
              refine DataW.weights_mem_each (j := i) (t := g.type) (d := (xs[i]'hi).1) ?_ ?_ n hn
              · rw [List.getElem?_map, Array.getElem?_toList, hgi]; rfl
              · rw [List.getElem?_map, List.getElem?_eq_getElem hi]; rfl)
            have hle : o + c ≤ m := by
              clear ihg
              have : ∀ {gl : List Field} {tys : List Ty} {o m : Nat}, FsP P gl tys o m → o ≤ m := by
                intro gl
                induction gl with
                | nil => intro tys o m h; cases h; omega
                | cons g gl ih =>
                  intro tys o m h
                  cases h with
                  | cons _ _ _ h => have := ih h; omega
              exact this h4
            obtain ⟨ls2, b1, b2, b3⟩ := ihg tys (o + c) (i + 1) h4 (by rw [← List.drop_drop, hd]; rfl) hle
            refine ⟨ls1 ++ ls2, ?_, .st a2 b2, fun l hl => (List.mem_append.1 hl).elim (a3 l) (b3 l)⟩
            rw [List.map_append, a1, b1, h1, h2]
            rw [← List.drop_drop]
            exact List.take_append_drop c _
      obtain ⟨ls, a1, a2, a3⟩ := key gs.toList fs 0 0 hfs rfl (Nat.zero_le _)
      exact ⟨ls, by simpa using a1, a2, a3, rfl⟩
end
end Go.Proofs.Ytmckcjoacfekcaa.AM

/-! The calculus, thirty-sixth part: from what an argument reads as to typed data; how a whole call is entered. -/
namespace Go.Proofs.Ytmckcjoacfekcaa.AM
open Go Go.WideShapes Go.ChangeShapes Go.RowKit

theorem dc_int {k : IntKind} {ls : List (L Unit)} (h : Fits (.int k) ls) : ∃ n, ls = iK k n ∧ (Lit.int k n).wf = true := by
  cases h with
  | int h => exact ⟨_, rfl, h⟩
theorem dc_i64 {ls : List (L Unit)} (h : Fits (.int .i64) ls) : ∃ n, ls = iL n ∧ inI n := by
  cases h with
  | int h =>
    refine ⟨_, rfl, ?_⟩
    simp [Lit.wf, IntKind.min, IntKind.max, IntKind.bits, IntKind.signed] at h
    exact h
theorem dc_bool {ls : List (L Unit)} (h : Fits .bool ls) : ∃ b, ls = bL b ∧ True := by
  cases h with
  | bool => exact ⟨_, rfl, trivial⟩
theorem dc_str {ls : List (L Unit)} (h : Fits .str ls) : ∃ s, ls = sL s ∧ s.length ≤ reachBytes := by
  cases h with
  | str h =>
    rename_i s
    refine ⟨s.data.toList, ?_, by simpa using h⟩
    simp [sL, bts]
theorem dc_rows {α : Type} {ty : Ty} {enc : α → List (L Unit)} {ok : α → Prop} (hd : ∀ ls, Fits ty ls → ∃ x, ls = enc x ∧ ok x) : ∀ {rows : List (List (L Unit))}, (∀ r ∈ rows, Fits ty r) → ∃ xs : List α, rows = xs.map enc ∧ ∀ x ∈ xs, ok x
  | [], _ => ⟨[], rfl, by simp⟩
  | r :: rows, h => by
    obtain ⟨x, rfl, hx⟩ := hd r (h r (by simp))
    obtain ⟨xs, rfl, hxs⟩ := dc_rows hd (rows := rows) fun r hr => h r (by simp [hr])
    exact ⟨x :: xs, rfl, fun y hy => (List.mem_cons.1 hy).elim (fun e => e ▸ hx) (hxs y)⟩
theorem dc_list {α : Type} {n b : Nat} {ty : Ty} {enc : α → List (L Unit)} {ok : α → Prop} (hd : ∀ ls, Fits ty ls → ∃ x, ls = enc x ∧ ok x) {ls : List (L Unit)} (h : Fits (.sl n b ty) ls) :
    ∃ xs : List α, ls = lL false n enc xs ∧ xs.length * b ≤ reachBytes ∧ ∀ x ∈ xs, ok x := by
  cases h with
  | sl h1 h2 =>
    obtain ⟨xs, rfl, hxs⟩ := dc_rows hd h2
    exact ⟨xs, rfl, by simpa using h1, hxs⟩
theorem dc_nil {ls : List (L Unit)} (h : Fits (.st []) ls) : ls = [] := by
  cases h; rfl
theorem dc_cons {t : Ty} {ts : List Ty} {ls : List (L Unit)} (h : Fits (.st (t :: ts)) ls) : ∃ a b, ls = a ++ b ∧ Fits t a ∧ Fits (.st ts) b := by
  cases h with
  | st h1 h2 => exact ⟨_, _, rfl, h1, h2⟩

/-- A value that is read, of a struct's type. -/
theorem read_st {H : Type} {enc : TypeId × Value → H} {P : Program} {w : World} {r : Reach} {base base' : Nat} {spare : Nat → Bool} {held : Bool} {t : TypeId} {fs : List Ty} {v : Value} {d : DataW H} {p : List MemPlace}
    (hty : TyP P t (.st fs)) (hok : Value.okWide P w r base' t v) (h : DataW.Trod enc P w base spare held t v d p) (hw : ∀ n ∈ d.weights P t, n ≤ reachBytes) :
    ∃ ls : List (L Value), UR (.agg ls) v ∧ Fits (.st fs) (ls.map erL) ∧ ∀ l ∈ ls, Pl w l := by
  have hu : ∃ gs, P.underlying t = some (.struct gs) := by cases hty with | st hu _ _ => exact ⟨_, hu⟩
  obtain ⟨gs, hu⟩ := hu
  obtain ⟨cs, rfl, _⟩ := okWide_struct hu hok
  obtain ⟨fuel, hf⟩ := h
  obtain ⟨ls, e1, e2, e3, _⟩ := reading fuel hty hf hw
  refine ⟨ls, ?_, e2.map _, e3⟩
  simp only [Value.cells] at e1
  simp only [UR, e1]
/-- A value that is read, of one cell. -/
theorem read_one {H : Type} {enc : TypeId × Value → H} {P : Program} {w : World} {base : Nat} {spare : Nat → Bool} {held : Bool} {t : TypeId} {ty : Ty} {v : Value} {d : DataW H} {p : List MemPlace}
    (hty : TyP P t ty) (hv : v.cells = #[v]) (h : DataW.Trod enc P w base spare held t v d p) (hw : ∀ n ∈ d.weights P t, n ≤ reachBytes) :
    ∃ l : L Value, UR (.one l) v ∧ Fits ty [erL l] ∧ Pl w l := by
  obtain ⟨fuel, hf⟩ := h
  obtain ⟨ls, e1, e2, e3, _⟩ := reading fuel hty hf hw
  rw [hv] at e1
  match ls, e1, e2, e3 with
  | [l], e1, e2, e3 =>
    simp only [List.map_cons, List.map_nil, List.cons.injEq, and_true] at e1
    exact ⟨l, e1.symm, e2.map _, e3 l (by simp)⟩
/-- A call over arguments that are only read. -/
theorem enter_sim {P : Program} {f : FuncId} {W : World} {us : List (U Value)} {args : List (U Unit)} {vals : List Value} {r : V Unit} (hs : Sim P f args [] r []) (ha : us.map erU = args) (hus : All2 UR us vals) (hpl : ∀ u ∈ us, ∀ l ∈ leavesU u, Pl W l) :
    Calls P f vals.toArray W fun e W' => ∃ x rv, e = .returned x ∧ erV rv = r ∧ VR rv x ∧ Below W.heap.size W W' := by
  have htop : ∀ l ∈ tops (⟨us.map .u, [], 0⟩ : S Value), Pl W l := by
    intro l hl
    simp only [tops, obLeaves, List.flatMap_nil, List.append_nil, List.mem_flatMap, List.mem_map] at hl
    obtain ⟨_, ⟨u, hu, rfl⟩, hl⟩ := hl
    exact hpl u hu l hl
  have hown : ownS (⟨us.map .u, [], 0⟩ : S Value) = [] := by
    unfold ownS
    simp only [List.flatMap_nil, List.nil_append, List.flatMap_eq_nil_iff]
    exact fun l hl => (htop l hl).own
  refine (hs W ⟨us.map .u, [], 0⟩ us vals rfl ha hus rfl ?_ fun l hl i hi => ?_).mono fun e W' h => ?_
  · refine ⟨fun l hl => ⟨(htop l hl).wf false, (htop l hl).ref _⟩, fun p hp => by simp at hp, List.nodup_nil, fun p hp => ?_, ?_, fun p hp hne => ?_⟩
    · rw [hown] at hp; simp at hp
    · rw [hown]; exact List.nodup_nil
    · obtain ⟨l, hl, hp⟩ := List.mem_flatMap.1 hp
      exact ⟨(htop l hl).imm p hp hne, fun q hq => by rw [hown] at hq; simp at hq⟩
  · rw [(htop l hl).ids] at hi; simp at hi
  · obtain ⟨x, d', rv, h1, _, h3, _, h5, h6⟩ := h
    refine ⟨x, rv, h1, h3, h5, h6.fr.3.1, h6.fr.3.2.1, h6.fr.3.2.2, h6.fr.1, fun k hk => h6.fr.2 k hk fun ⟨p, hp, _⟩ => by rw [hown] at hp; simp at hp⟩
theorem res_bool {rv : V Value} {x : Value} {b : Bool} (h : erV rv = .u (.one (.bool b))) (hv : VR rv x) : x = .bool b := by
  cases rv with
  | u u =>
    cases u with
    | one l =>
      cases l <;> simp only [erV, mapV, mapU, mapL, V.u.injEq, U.one.injEq, reduceCtorEq] at h
      cases h
      exact hv
    | agg ls => simp [erV, mapV, mapU] at h
  | _ => simp [erV, mapV] at h
end Go.Proofs.Ytmckcjoacfekcaa.AM

/-! The calculus, fifty-third part: more laws of loops in plain Lean. -/
namespace Go.Proofs.Ytmckcjoacfekcaa.AM
open Go
theorem inI_le {n : Int} (h1 : -9223372036854775808 ≤ n) (h2 : n ≤ 9223372036854775807) : inI n := ⟨h1, h2⟩
theorem wrap_in {n : Int} (h1 : -9223372036854775808 ≤ n) (h2 : n ≤ 9223372036854775807) : IntKind.i64.wrap n = n := IntWalk.i64_in n (by omega)
theorem at_mem {α : Type} [Inhabited α] {xs : List α} {n : Int} (h : 0 ≤ n ∧ n < (xs.length : Int)) : at_ xs n ∈ xs := List.mem_of_getElem? (at_get h)
theorem mem_at {α : Type} [Inhabited α] {xs : List α} {x : α} (h : x ∈ xs) : ∃ k : Nat, k < xs.length ∧ at_ xs (k : Int) = x := by
  obtain ⟨k, hk, rfl⟩ := List.getElem_of_mem h
  exact ⟨k, hk, at_nat hk⟩
/-- (Not by rfl: the kernel then need not compare great terms.) -/
theorem obs {α β : Type} (a : α) (f : α → Option β) : Option.bind (some a) f = f a := by
  have : ∀ o, o = some a → Option.bind o f = f a := fun o h => by subst h; rfl
  exact this _ rfl
/-- A loop with a measure that falls. -/
theorem loop_wf {σ ρ : Type} {body : σ → Option (σ ⊕ ρ)} {L : Option ρ} {s0 : σ} (hB : loopO body s0 = L) (I : σ → Prop) (m : σ → Nat) (Q : ρ → Prop)
    (h : ∀ s, I s → (∃ s', body s = some (.inl s') ∧ I s' ∧ m s' < m s) ∨ (∃ r, body s = some (.inr r) ∧ Q r)) (h0 : I s0) : ∃ r, L = some r ∧ Q r := by
  subst hB
  have key : ∀ n s, m s ≤ n → I s → ∃ r, loopO body s = some r ∧ Q r := by
    intro n
    induction n with
    | zero =>
      intro s hm hi
      rcases h s hi with ⟨s', e, hi', hlt⟩ | ⟨r, e, hq⟩
      · omega
      · exact ⟨r, by rw [loopO_step, e]; rfl, hq⟩
    | succ n ih =>
      intro s hm hi
      rcases h s hi with ⟨s', e, hi', hlt⟩ | ⟨r, e, hq⟩
      · obtain ⟨r, e2, hq⟩ := ih s' (by omega) hi'
        exact ⟨r, by rw [loopO_step, e]; exact e2, hq⟩
      · exact ⟨r, by rw [loopO_step, e]; rfl, hq⟩
  exact key _ s0 (Nat.le_refl _) h0
/-- A loop that counts from a to n, with a part that grows. -/
theorem loop_cnt {σ : Type} {ρ : Type} {body : σ → Option (σ ⊕ ρ)} {L : Option ρ} {s0 : σ} (hB : loopO body s0 = L) (st : Nat → σ) (n : Nat) (r : ρ) (e0 : s0 = st 0)
    (h : ∀ k, k < n → body (st k) = some (.inl (st (k + 1)))) (he : body (st n) = some (.inr r)) : L = some r := by
  subst hB e0
  have key : ∀ m k, k + m = n → loopO body (st k) = some r := by
    intro m
    induction m with
    | zero =>
      intro k hk
      obtain rfl : k = n := by omega
      rw [loopO_step, he]; rfl
    | succ m ih =>
      intro k hk
      rw [loopO_step, h k (by omega)]
      exact ih (k + 1) (by omega)
  exact key n 0 (by omega)
theorem dc_u8 {ls : List (L Unit)} (h : Fits (.int .u8) ls) : ∃ n, ls = iK .u8 n ∧ 0 ≤ n ∧ n ≤ 255 := by
  cases h with
  | int h =>
    refine ⟨_, rfl, ?_⟩
    simp [Lit.wf, IntKind.min, IntKind.max, IntKind.bits, IntKind.signed] at h
    exact h
end Go.Proofs.Ytmckcjoacfekcaa.AM

/-! Plain laws: lists that are searched, compared, and rise. -/
namespace Go.Proofs.Ytmckcjoacfekcaa.AM
open Go
set_option linter.unusedSimpArgs false
set_option linter.unusedVariables false
theorem indexFunc_int_ok (s : List Int) (f : Int → Option Bool) (c : Int → Bool) (h : ∀ x ∈ s, f x = some (c x)) (hl : s.length ≤ 140737488355328) : slices_ContainsFunc_int64_int64_m s f = some (s.any c) := by
  unfold slices_ContainsFunc_int64_int64_m slices_IndexFunc_int64_int64_m
  generalize hB : loopO _ (0 : Int) = L
  have K := loop_any' hB s c (fun k : Nat => (k : Int)) (by
    intro k hk
    rw [if_pos (by simpa using hk), if_pos (by omega), h _ (at_mem (by omega))]
    simp only [Option.bind_some]
    cases c (at_ s (k : Int))
    · rw [if_neg (by simp), if_pos (inI_le (by omega) (by omega)), if_neg (by simp)]
    · rw [if_pos rfl, if_pos rfl]) (by rw [if_neg (by simp)])
  rcases K with ⟨h1, k, h2, rfl⟩ | ⟨h1, rfl⟩
  · rw [h1]; simp
  · rw [h1]; simp
theorem indexFunc_block_ok (s : List GBlock) (f : GBlock → Option Bool) (c : GBlock → Bool) (h : ∀ x ∈ s, f x = some (c x)) (hl : s.length ≤ 140737488355328) : slices_ContainsFunc_impl_Block_impl_Block_m s f = some (s.any c) := by
  unfold slices_ContainsFunc_impl_Block_impl_Block_m slices_IndexFunc_impl_Block_impl_Block_m
  generalize hB : loopO _ (0 : Int) = L
  have K := loop_any' hB s c (fun k : Nat => (k : Int)) (by
    intro k hk
    rw [if_pos (by simpa using hk), if_pos (by omega), h _ (at_mem (by omega))]
    simp only [Option.bind_some]
    cases c (at_ s (k : Int))
    · rw [if_neg (by simp), if_pos (inI_le (by omega) (by omega)), if_neg (by simp)]
    · rw [if_pos rfl, if_pos rfl]) (by rw [if_neg (by simp)])
  rcases K with ⟨h1, k, h2, rfl⟩ | ⟨h1, rfl⟩
  · rw [h1]; simp
  · rw [h1]; simp
theorem contains_int_ok (s : List Int) (v : Int) (hl : s.length ≤ 140737488355328) : slices_Contains_int64_int64_m s v = some (s.any (fun x => v == x)) := by
  unfold slices_Contains_int64_int64_m slices_Index_int64_int64_m
  generalize hB : loopO _ (0 : Int) = L
  have K := loop_any' hB s (fun x => v == x) (fun k : Nat => (k : Int)) (by
    intro k hk
    rw [if_pos (by simpa using hk), if_pos (by omega)]
    cases (v == at_ s (k : Int))
    · rw [if_neg (by simp), if_pos (inI_le (by omega) (by omega)), if_neg (by simp)]
    · rw [if_pos rfl, if_pos rfl]) (by rw [if_neg (by simp)])
  rcases K with ⟨h1, k, h2, rfl⟩ | ⟨h1, rfl⟩
  · rw [h1]; simp
  · rw [h1]; simp
theorem any_eq_mem {l : List Int} {n : Int} : l.any (fun x => x == n) = decide (n ∈ l) := by
  rw [Bool.eq_iff_iff]
  simp [List.any_eq_true]
theorem any_eq_mem' {l : List Int} {n : Int} : l.any (fun x => n == x) = decide (n ∈ l) := by
  rw [Bool.eq_iff_iff]
  simp [List.any_eq_true]
theorem l1Has_ok (l : List Int) (n : Int) (hl : l.length ≤ 140737488355328) : spec_l1Has_m l n = some (decide (n ∈ l)) := by
  unfold spec_l1Has_m
  generalize hB : loopO _ (0 : Int) = L
  have K := loop_any' hB l (fun x => x == n) (fun _ => ()) (by
    intro k hk
    rw [if_pos (by simpa using hk), if_pos (by omega)]
    cases (at_ l (k : Int) == n)
    · rw [if_neg (by simp), if_pos (inI_le (by omega) (by omega)), if_neg (by simp)]
    · rw [if_pos rfl, if_pos rfl]) (by rw [if_neg (by simp)])
  rw [any_eq_mem] at K
  rcases K with ⟨h1, k, h2, rfl⟩ | ⟨h1, rfl⟩
  · rw [h1]; rfl
  · rw [h1]; rfl
theorem has_ok (l : List Int) (n : Int) (hl : l.length ≤ 140737488355328) : laws_has_m l n = some (decide (n ∈ l)) := by
  unfold laws_has_m
  generalize hB : loopO _ (0 : Int) = L
  have K := loop_any' hB l (fun x => x == n) (fun _ => ()) (by
    intro k hk
    rw [if_pos (by simpa using hk), if_pos (by omega)]
    cases (at_ l (k : Int) == n)
    · rw [if_neg (by simp), if_pos (inI_le (by omega) (by omega)), if_neg (by simp)]
    · rw [if_pos rfl, if_pos rfl]) (by rw [if_neg (by simp)])
  rw [any_eq_mem] at K
  rcases K with ⟨h1, k, h2, rfl⟩ | ⟨h1, rfl⟩
  · rw [h1]; rfl
  · rw [h1]; rfl
theorem within_ok (a b : List Int) (ha : a.length ≤ 140737488355328) (hb : b.length ≤ 140737488355328) (h : ∀ x ∈ a, x ∈ b) : laws_within_m a b = some true := by
  unfold laws_within_m
  generalize hB : loopO _ (0 : Int) = L
  have K := loop_anyN' hB a.length (fun _ => false) (fun _ => ()) (by
    intro k hk
    rw [if_pos (by simpa using hk), if_pos (by omega), has_ok b _ hb]
    simp only [Option.bind_some]
    rw [decide_eq_true (h _ (at_mem (by omega))), if_neg (by simp), if_pos (inI_le (by omega) (by omega)), if_neg (by simp)]) (by rw [if_neg (by simp)])
  rcases K with ⟨k, _, h1, _⟩ | ⟨_, rfl⟩
  · cases h1
  · rfl
theorem sameInts_ok (a : List Int) (ha : a.length ≤ 140737488355328) : laws_sameInts_m a a = some true := by
  unfold laws_sameInts_m
  rw [if_neg (by simp)]
  generalize hB : loopO _ (0 : Int) = L
  have K := loop_anyN' hB a.length (fun _ => false) (fun _ => ()) (by
    intro k hk
    rw [if_pos (by simpa using hk), if_pos (by omega), if_pos (by omega), if_neg (by simp), if_pos (inI_le (by omega) (by omega)), if_neg (by simp)]) (by rw [if_neg (by simp)])
  rcases K with ⟨k, _, h1, _⟩ | ⟨_, rfl⟩
  · cases h1
  · rfl
abbrev Rising (l : List Int) : Prop := l.Pairwise (· < ·)
theorem rising_ok (l : List Int) (hl : l.length ≤ 140737488355328) (h : Rising l) : laws_rising_m l = some true := by
  unfold laws_rising_m
  generalize hB : loopO _ (1 : Int) = L
  obtain ⟨r, rfl, h2⟩ := loop_wf hB (fun s => 1 ≤ s ∧ s ≤ 140737488355330) (fun s => (140737488355330 - s).toNat) (fun r => r = .inr ()) (by
    rintro i ⟨h1, h2⟩
    by_cases hi : i < (l.length : Int)
    · left
      have e1 : at_ l (i - 1) = l[(i - 1).toNat]'(by omega) := by
        have := at_get (xs := l) (n := i - 1) ⟨by omega, by omega⟩
        rw [List.getElem?_eq_getElem (by omega)] at this
        exact (Option.some.inj this).symm
      have e2 : at_ l i = l[i.toNat]'(by omega) := by
        have := at_get (xs := l) (n := i) ⟨by omega, by omega⟩
        rw [List.getElem?_eq_getElem (by omega)] at this
        exact (Option.some.inj this).symm
      have := List.pairwise_iff_getElem.1 h (i - 1).toNat i.toNat (by omega) (by omega) (by omega)
      rw [← e1, ← e2] at this
      rw [if_pos (by simpa using hi), if_pos (inI_le (by omega) (by omega)), if_pos (by omega), if_pos (by omega), if_neg (by simp; omega), if_pos (inI_le (by omega) (by omega))]
      exact ⟨_, rfl, by omega, by omega⟩
    · right
      rw [if_neg (by simpa using hi)]
      exact ⟨_, rfl, rfl⟩) ⟨by omega, by omega⟩
  subst h2
  rfl
theorem rising_len : ∀ {l : List Int} {lo hi : Int}, Rising l → (∀ x ∈ l, lo ≤ x ∧ x < hi) → l.length ≤ (hi - lo).toNat
  | [], lo, hi, _, _ => Nat.zero_le _
  | x :: l, lo, hi, h, hb => by
    have h1 := hb x (by simp)
    have h2 := rising_len (l := l) (lo := x + 1) (hi := hi) (List.pairwise_cons.1 h).2 (fun y hy => ⟨by have := (List.pairwise_cons.1 h).1 y hy; omega, (hb y (by simp [hy])).2⟩)
    simp only [List.length_cons]
    omega
theorem rising_ext : ∀ {a b : List Int}, Rising a → Rising b → (∀ x, x ∈ a ↔ x ∈ b) → a = b
  | [], [], _, _, _ => rfl
  | [], y :: b, _, _, h => by have := (h y).2 (by simp); cases this
  | x :: a, [], _, _, h => by have := (h x).1 (by simp); cases this
  | x :: a, y :: b, ha, hb, h => by
    have ha1 := (List.pairwise_cons.1 ha).1
    have hb1 := (List.pairwise_cons.1 hb).1
    have e : x = y := by
      rcases List.mem_cons.1 ((h x).1 (by simp)) with e | h1
      · exact e
      · rcases List.mem_cons.1 ((h y).2 (by simp)) with e | h2
        · exact e.symm
        · have := ha1 y h2; have := hb1 x h1; omega
    subst e
    congr 1
    refine rising_ext (List.pairwise_cons.1 ha).2 (List.pairwise_cons.1 hb).2 fun z => ?_
    constructor
    · intro hz
      rcases List.mem_cons.1 ((h z).1 (by simp [hz])) with e | h1
      · have := ha1 z hz; omega
      · exact h1
    · intro hz
      rcases List.mem_cons.1 ((h z).2 (by simp [hz])) with e | h1
      · have := hb1 z hz; omega
      · exact h1
theorem rising_filter (n : Nat) (p : Nat → Bool) : Rising (((List.range n).filter p).map Int.ofNat) := by
  rw [Rising, List.pairwise_map]
  exact (List.Pairwise.sublist List.filter_sublist List.pairwise_lt_range).imp fun h => by simpa using h
theorem put_ok (l : List Int) (n : Int) (h : Rising l) (hl : l.length * 8 + 8 ≤ 140737488355328) : ∃ l', spec_l1Put_m l n = some l' ∧ Rising l' ∧ (∀ x, x ∈ l' ↔ x = n ∨ x ∈ l) ∧ (n ∉ l → l'.length = l.length + 1) ∧ (n ∈ l → l' = l) := by
  have hLIM : LIM = 140737488355328 := rfl
  unfold spec_l1Put_m
  generalize hB : loopO _ (0 : Int) = L
  obtain ⟨j, rfl, hj0, hjl, hj1, hj2⟩ := loop_wf hB (fun s => 0 ≤ s ∧ s ≤ (l.length : Int) ∧ ∀ k : Int, 0 ≤ k → k < s → at_ l k < n) (fun s => (l.length - s).toNat) (fun j => 0 ≤ j ∧ j ≤ (l.length : Int) ∧ (∀ k : Int, 0 ≤ k → k < j → at_ l k < n) ∧ (j < (l.length : Int) → n ≤ at_ l j)) (by
    rintro i ⟨h1, h2, h3⟩
    by_cases hi : i < (l.length : Int)
    · rw [if_pos (by simpa using hi), if_pos ⟨h1, hi⟩]
      simp only [Option.bind_some]
      by_cases hlt : at_ l i < n
      · left
        rw [if_pos (by simpa using hlt), if_pos (inI_le (by omega) (by omega))]
        refine ⟨_, rfl, ⟨by omega, by omega, fun k k1 k2 => ?_⟩, by omega⟩
        by_cases hk : k = i
        · subst hk; exact hlt
        · exact h3 k k1 (by omega)
      · right
        rw [if_neg (by simpa using hlt)]
        exact ⟨_, rfl, h1, h2, h3, fun _ => by omega⟩
    · right
      rw [if_neg (by simpa using hi)]
      simp only [Option.bind_some]
      rw [if_neg (by simp)]
      exact ⟨_, rfl, h1, h2, h3, fun h => absurd h hi⟩) ⟨by omega, by omega, fun k k1 k2 => by omega⟩
  simp only [Option.bind_some]
  obtain ⟨m, rfl⟩ := Int.eq_ofNat_of_zero_le hj0
  have hml : m ≤ l.length := by omega
  have htake : ∀ x ∈ l.take m, x < n := fun x hx => by
    obtain ⟨k, hk, rfl⟩ := List.getElem_of_mem hx
    simp only [List.length_take] at hk
    rw [List.getElem_take]
    have := hj1 (k : Int) (by omega) (by omega)
    rwa [at_nat (by omega)] at this
  have hdrop : ∀ x ∈ l.drop m, n ≤ x := fun x hx => by
    obtain ⟨k, hk, rfl⟩ := List.getElem_of_mem hx
    simp only [List.length_drop] at hk
    rw [List.getElem_drop]
    have h0 := hj2 (by omega)
    rw [at_nat (by omega)] at h0
    by_cases hk0 : k = 0
    · subst hk0; exact h0
    · have := List.pairwise_iff_getElem.1 h m (m + k) (by omega) (by omega) (by omega)
      omega
  have hin : n ∈ l → ∃ h : m < l.length, l[m] = n := fun hn => by
    rw [← List.take_append_drop m l] at hn
    rcases List.mem_append.1 hn with h1 | h1
    · have := htake n h1; omega
    · obtain ⟨k, hk, e⟩ := List.getElem_of_mem h1
      simp only [List.length_drop] at hk
      rw [List.getElem_drop] at e
      have h0 := hj2 (by omega)
      rw [at_nat (by omega)] at h0
      refine ⟨by omega, ?_⟩
      by_cases hk0 : k = 0
      · subst hk0; exact e
      · have := List.pairwise_iff_getElem.1 h m (m + k) (by omega) (by omega) (by omega)
        omega
  by_cases hn : n ∈ l
  · obtain ⟨hm, e⟩ := hin hn
    rw [if_pos (by simpa using hm), if_pos (by omega), at_nat hm, e]
    simp only [Option.bind_some]
    rw [if_pos (by simp)]
    exact ⟨l, rfl, h, fun x => ⟨fun hx => .inr hx, fun hx => by rcases hx with rfl | hx <;> assumption⟩, fun h => absurd hn h, fun _ => rfl⟩
  · have hb : ∃ b, (if decide ((m : Int) < (l.length : Int)) = true then (if 0 ≤ (m : Int) ∧ (m : Int) < (l.length : Int) then some (at_ l (m : Int) == n) else none) else some false) = some b ∧ b = false := by
      by_cases hm : m < l.length
      · rw [if_pos (by simpa using hm), if_pos (by omega)]
        refine ⟨_, rfl, ?_⟩
        rw [at_nat hm]
        simp only [beq_eq_false_iff_ne, ne_eq]
        intro e
        exact hn (e ▸ List.getElem_mem hm)
      · rw [if_neg (by simpa using hm)]
        exact ⟨_, rfl, rfl⟩
    obtain ⟨b, e, rfl⟩ := hb
    rw [e]
    simp only [Option.bind_some, Bool.false_eq_true, if_false, Int.toNat_natCast, Nat.sub_zero, List.drop_zero, List.nil_append]
    have e1 : (l.drop m).take (l.length - m) = l.drop m := List.take_of_length_le (by simp)
    rw [if_pos (by omega), if_pos (by simp only [List.length_nil, List.length_take]; omega), if_pos (by simp only [List.length_take, List.length_singleton]; omega), if_pos (by omega), e1,
      if_pos (by simp only [List.length_append, List.length_take, List.length_drop, List.length_singleton]; omega)]
    have hgt : ∀ x ∈ l.drop m, n < x := fun x hx => by
      have h1 := hdrop x hx
      by_cases hx2 : x = n
      · subst hx2; exact absurd (List.mem_of_mem_drop hx) hn
      · omega
    refine ⟨_, rfl, ?_, fun x => ?_, fun _ => ?_, fun h => absurd h hn⟩
    · refine List.pairwise_append.2 ⟨List.pairwise_append.2 ⟨h.sublist (List.take_sublist _ _), by simp, fun a ha b hb => ?_⟩, h.sublist (List.drop_sublist _ _), fun a ha b hb => ?_⟩
      · simp only [List.mem_singleton] at hb; subst hb; exact htake a ha
      · rcases List.mem_append.1 ha with ha | ha
        · have := htake a ha; have := hgt b hb; omega
        · simp only [List.mem_singleton] at ha; subst ha; exact hgt b hb
    · have hx : x ∈ l ↔ x ∈ l.take m ∨ x ∈ l.drop m := by rw [← List.mem_append, List.take_append_drop]
      simp only [List.mem_append, List.mem_singleton, hx]
      constructor
      · rintro ((h | h) | h) <;> simp [h]
      · rintro (h | h | h) <;> simp [h]
    · simp only [List.length_append, List.length_take, List.length_drop, List.length_singleton]
      omega
theorem l1Copy_ok (l : List Int) (hl : l.length * 8 ≤ 140737488355328) : spec_l1Copy_m l = some l := by
  have hLIM : LIM = 140737488355328 := rfl
  unfold spec_l1Copy_m
  rw [if_pos (by simp only [List.length_nil]; omega)]
  rfl
end Go.Proofs.Ytmckcjoacfekcaa.AM

/-! Plain laws: what the reader of drawn bytes gives. -/
namespace Go.Proofs.Ytmckcjoacfekcaa.AM
open Go
set_option linter.unusedSimpArgs false
set_option linter.unusedVariables false
def okRd (r : Gl1Rd) : Prop := 0 ≤ r.p ∧ r.p ≤ (r.b.length : Int) ∧ r.b.length ≤ 140737488355328 ∧ ∀ x ∈ r.b, 0 ≤ x ∧ x ≤ 255
theorem next_ok {r : Gl1Rd} (h : okRd r) : ∃ x r', spec_l1Rd_next_m r = some (x, r') ∧ okRd r' ∧ 0 ≤ x ∧ x ≤ 255 := by
  obtain ⟨h1, h2, h3, h4⟩ := h
  unfold spec_l1Rd_next_m
  by_cases hp : r.p ≥ (r.b.length : Int)
  · rw [if_pos (by simpa using hp)]
    exact ⟨0, r, rfl, ⟨h1, h2, h3, h4⟩, by omega, by omega⟩
  · rw [if_neg (by simpa using hp), if_pos (inI_le (by omega) (by omega)), if_pos (inI_le (by simp only; omega) (by simp only; omega)), if_pos (by simp only; omega)]
    have hb := h4 (at_ r.b (r.p + 1 - 1)) (at_mem (by omega))
    refine ⟨_, _, rfl, ⟨by simp only; omega, by simp only; omega, h3, h4⟩, ?_⟩
    simp only
    rw [wrap_in (by omega) (by omega)]
    exact hb
theorem tmod_lt {a n : Int} (h : 0 ≤ a) (hn : 1 ≤ n) : 0 ≤ Int.tmod a n ∧ Int.tmod a n < n := by
  rw [Int.tmod_eq_emod_of_nonneg h]
  exact ⟨Int.emod_nonneg _ (by omega), Int.emod_lt_of_pos _ (by omega)⟩
theorem below_ok {r : Gl1Rd} (h : okRd r) (n : Int) : ∃ x r', spec_l1Rd_below_m r n = some (x, r') ∧ okRd r' ∧ 0 ≤ x ∧ (1 ≤ n → x < n) := by
  unfold spec_l1Rd_below_m
  by_cases hn : n ≤ 1
  · rw [if_pos (by simpa using hn)]
    exact ⟨0, r, rfl, h, by omega, by omega⟩
  · rw [if_neg (by simpa using hn)]
    obtain ⟨x, r', e, h', hx⟩ := next_ok h
    by_cases hn2 : n ≤ 256
    · rw [if_pos (by simpa using hn2), e]
      simp only [Option.bind_some]
      rw [if_pos (by omega)]
      exact ⟨_, _, rfl, h', (tmod_lt hx.1 (by omega)).1, fun _ => (tmod_lt hx.1 (by omega)).2⟩
    · rw [if_neg (by simpa using hn2), e]
      simp only [Option.bind_some]
      obtain ⟨y, r2, e2, h2, hy⟩ := next_ok h'
      rw [e2]
      simp only [Option.bind_some]
      rw [if_pos (by omega), wrap_in (n := x * 256) (by omega) (by omega), wrap_in (by omega) (by omega)]
      exact ⟨_, _, rfl, h2, (tmod_lt (by omega) (by omega)).1, fun _ => (tmod_lt (by omega) (by omega)).2⟩
theorem once_ok {r : Gl1Rd} (h : okRd r) (n : Int) (hn : inI (n - 1)) : ∃ x r', spec_l1Rd_once_m r n = some (x, r') ∧ okRd r' := by
  unfold spec_l1Rd_once_m
  obtain ⟨x, r', e, h', hx⟩ := below_ok h n
  rw [e]
  simp only [Option.bind_some]
  rw [if_pos hn]
  exact ⟨_, _, rfl, h'⟩
theorem word_ok {r : Gl1Rd} (h : okRd r) : ∃ x r', spec_l1Rd_word_m r = some (x, r') ∧ okRd r' := by
  unfold spec_l1Rd_word_m
  generalize hB : loopO _ _ = L
  obtain ⟨⟨b, p, x⟩, e, h2⟩ := loop_wf hB (fun s => okRd ⟨s.1, s.2.1⟩ ∧ 0 ≤ s.2.2.2 ∧ s.2.2.2 ≤ 8) (fun s => (8 - s.2.2.2).toNat) (fun s => okRd ⟨s.1, s.2.1⟩) (by
    rintro ⟨b, p, a, i⟩ ⟨h1, h2, h3⟩
    simp only at h1 h2 h3 ⊢
    by_cases hi : i < 8
    · left
      rw [if_pos (by simpa using hi)]
      obtain ⟨x, r', e, h', hx⟩ := next_ok h1
      rw [e]
      simp only [Option.bind_some]
      rw [if_pos (inI_le (by omega) (by omega))]
      exact ⟨_, rfl, ⟨h', by simp only; omega, by simp only; omega⟩, by simp only; omega⟩
    · right
      rw [if_neg (by simpa using hi)]
      exact ⟨_, rfl, h1⟩) ⟨h, by simp only; omega, by simp only; omega⟩
  subst e
  exact ⟨_, _, rfl, h2⟩
theorem near_ok {r : Gl1Rd} (h : okRd r) (low high : Int) (h1 : ¬ high < low → inI (IntKind.i64.wrap (high - low) + 1) ∧ IntKind.u64.wrap (IntKind.i64.wrap (high - low) + 1) ≠ 0) : ∃ x r', spec_l1Rd_near_m r low high = some (x, r') ∧ okRd r' := by
  unfold spec_l1Rd_near_m
  obtain ⟨x, r', e, h', hx⟩ := below_ok h 8
  rw [e]
  simp only [Option.bind_some]
  split
  · exact ⟨_, _, rfl, h'⟩
  · split
    · exact ⟨_, _, rfl, h'⟩
    · split
      · exact ⟨_, _, rfl, h'⟩
      · rename_i hl
        obtain ⟨y, r2, e2, h2⟩ := word_ok h'
        rw [e2]
        simp only [Option.bind_some]
        have := h1 (by simpa using hl)
        rw [if_pos this.1, if_pos this.2]
        exact ⟨_, _, rfl, h2⟩
theorem off_ok {r : Gl1Rd} (h : okRd r) (low high : Int) (hl : inI (low - 1)) (hh : inI (high + 1)) (h1 : ¬ high < low → inI (IntKind.i64.wrap (high - low) + 1) ∧ IntKind.u64.wrap (IntKind.i64.wrap (high - low) + 1) ≠ 0) : ∃ x r', spec_l1Rd_off_m r low high = some (x, r') ∧ okRd r' := by
  unfold spec_l1Rd_off_m
  obtain ⟨x, r', e, h'⟩ := once_ok h 24 (inI_le (by omega) (by omega))
  rw [e]
  simp only [Option.bind_some]
  split
  · obtain ⟨y, r2, e2, h2, hy, hy2⟩ := below_ok h' 4
    have hy3 := hy2 (by omega)
    rw [e2]
    simp only [Option.bind_some]
    rw [if_pos ⟨hy, by simpa using hy3⟩]
    exact ⟨_, _, rfl, h2⟩
  · obtain ⟨y, r2, e2, h2⟩ := near_ok h' low high h1
    rw [e2]
    exact ⟨_, _, rfl, h2⟩
theorem open_ok {code : List Int} (hl : code.length ≤ 140737488355328) (h : ∀ x ∈ code, 0 ≤ x ∧ x ≤ 255) : okRd (spec_l1Open_m code) := ⟨Int.le_refl _, by simp only [spec_l1Open_m]; omega, hl, h⟩
end Go.Proofs.Ytmckcjoacfekcaa.AM
