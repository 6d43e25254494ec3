import Derived.Test.YtmckcjoacfekcaaGBase
/-! Printed by a program of this repo (wip/gen): functions and that the code comes to them. -/
namespace Go.Proofs.Ytmckcjoacfekcaa.AM
open Go
set_option linter.unusedSimpArgs false
set_option linter.unusedVariables false
/-- laws.szInt64S -/
noncomputable def laws_szInt64S_m (a : List Int) (left : Int) : Option Int :=
  (if inI (left - ((List.length a : Int))) then
    (if decide ((left - ((List.length a : Int))) < 0) = true then
      (some ((-1)))
      else
      (some (left - ((List.length a : Int)))))
    else none)
set_option maxHeartbeats 8000000 in
set_option maxRecDepth 100000 in
theorem laws_szInt64S_sim (a : List Int) (left : Int) {r : Int} (hm : laws_szInt64S_m a left = some r) : Sim Try.prog 47 [.one (.bs () 1 (List.map iL a)), .one (.int .i64 left)] [] (.u (.one (.int .i64 r))) [] := by
  refine sim_st (N := 12) (k0 := 0) Try.func47 rfl rfl rfl rfl (rs := [.tmp 4]) rfl rfl rfl fun B hB0 => ?_
  unfold laws_szInt64S_m at hm
  refine Wp.seq ?_
  refine c_reg (Y := sysA _) ?_
  refine n_ (x_as rfl rfl ?_)
  refine z_ ?_
  refine Wp.seq ?_
  refine c_reg (Y := sysA _) ?_
  refine n_ (x_mv rfl rfl ?_)
  refine n_ (x_mv rfl rfl ?_)
  refine n_ (x_lnb N24 rfl fun hL1 => ?_)
  obtain ⟨h2, hm⟩ := of_ite hm
  refine n_ (x_subc T3 rfl rfl h2 ?_)
  refine n_ (x_as rfl rfl ?_)
  refine z_ ?_
  refine Wp.seq ?_
  refine Wp.seq ?_
  refine c_reg (Y := sysA _) ?_
  refine n_ (x_mv rfl rfl ?_)
  refine n_ (x_bin T3 rfl rfl rfl ?_)
  refine z_ ?_
  refine c_s rfl rfl (fun hb3 => ?_) (fun hb3 => ?_)
  · rw [if_pos (show _ = true from hb3)] at hm
    refine Wp.seq ?_
    refine c_reg (Y := sysA _) ?_
    refine n_ (x_as rfl rfl ?_)
    refine z_ ?_
    refine c_ret ?_
    rw [← Option.some.inj hm]
    exact ret0 (us' := [.one (.int .i64 ((-1)))]) rfl (r_tmp rfl rfl rfl r_nil) f_done rfl rfl
  · rw [if_neg (by rw [hb3]; decide)] at hm
    refine c_skip ?_
    refine Wp.seq ?_
    refine c_reg (Y := sysA _) ?_
    refine n_ (x_mv rfl rfl ?_)
    refine n_ (x_as rfl rfl ?_)
    refine z_ ?_
    refine c_ret ?_
    rw [← Option.some.inj hm]
    exact ret0 (us' := [.one (.int .i64 (left - ((List.length a : Int))))]) rfl (r_tmp rfl rfl rfl r_nil) f_done rfl rfl

/-- laws.szMInsS -/
noncomputable def laws_szMInsS_m (a : List GMIns) (left : Int) : Option Int :=
  (if inI (left - ((List.length a : Int))) then
    (if decide ((left - ((List.length a : Int))) < 0) = true then
      (some ((-1)))
      else
      (some (left - ((List.length a : Int)))))
    else none)
set_option maxHeartbeats 8000000 in
set_option maxRecDepth 100000 in
theorem laws_szMInsS_sim (a : List GMIns) (left : Int) {r : Int} (hm : laws_szMInsS_m a left = some r) : Sim Try.prog 48 [.one (.bs () 7 (List.map eMIns a)), .one (.int .i64 left)] [] (.u (.one (.int .i64 r))) [] := by
  refine sim_st (N := 12) (k0 := 0) Try.func48 rfl rfl rfl rfl (rs := [.tmp 4]) rfl rfl rfl fun B hB0 => ?_
  unfold laws_szMInsS_m at hm
  refine Wp.seq ?_
  refine c_reg (Y := sysA _) ?_
  refine n_ (x_as rfl rfl ?_)
  refine z_ ?_
  refine Wp.seq ?_
  refine c_reg (Y := sysA _) ?_
  refine n_ (x_mv rfl rfl ?_)
  refine n_ (x_mv rfl rfl ?_)
  refine n_ (x_lnb N34 rfl fun hL1 => ?_)
  obtain ⟨h2, hm⟩ := of_ite hm
  refine n_ (x_subc T3 rfl rfl h2 ?_)
  refine n_ (x_as rfl rfl ?_)
  refine z_ ?_
  refine Wp.seq ?_
  refine Wp.seq ?_
  refine c_reg (Y := sysA _) ?_
  refine n_ (x_mv rfl rfl ?_)
  refine n_ (x_bin T3 rfl rfl rfl ?_)
  refine z_ ?_
  refine c_s rfl rfl (fun hb3 => ?_) (fun hb3 => ?_)
  · rw [if_pos (show _ = true from hb3)] at hm
    refine Wp.seq ?_
    refine c_reg (Y := sysA _) ?_
    refine n_ (x_as rfl rfl ?_)
    refine z_ ?_
    refine c_ret ?_
    rw [← Option.some.inj hm]
    exact ret0 (us' := [.one (.int .i64 ((-1)))]) rfl (r_tmp rfl rfl rfl r_nil) f_done rfl rfl
  · rw [if_neg (by rw [hb3]; decide)] at hm
    refine c_skip ?_
    refine Wp.seq ?_
    refine c_reg (Y := sysA _) ?_
    refine n_ (x_mv rfl rfl ?_)
    refine n_ (x_as rfl rfl ?_)
    refine z_ ?_
    refine c_ret ?_
    rw [← Option.some.inj hm]
    exact ret0 (us' := [.one (.int .i64 (left - ((List.length a : Int))))]) rfl (r_tmp rfl rfl rfl r_nil) f_done rfl rfl

/-- laws.szProgram -/
noncomputable def laws_szProgram_m (a : GProgram) (left : Int) : Option Int :=
  (Option.bind (laws_szInt64S_m a.params left) fun x1 =>
    (if decide (x1 < 0) = true then
      (some ((-1)))
      else
      (Option.bind (laws_szInt64S_m a.widths x1) fun x4 =>
        (if decide (x4 < 0) = true then
          (some ((-1)))
          else
          (Option.bind (laws_szMInsS_m a.code x4) fun x7 =>
            (if decide (x7 < 0) = true then
              (some ((-1)))
              else
              (some x7)))))))
set_option maxHeartbeats 8000000 in
set_option maxRecDepth 100000 in
theorem laws_szProgram_sim (a : GProgram) (left : Int) {r : Int} (hm : laws_szProgram_m a left = some r) : Sim Try.prog 18 [.agg (eProgram false a), .one (.int .i64 left)] [] (.u (.one (.int .i64 r))) [] := by
  refine sim_st (N := 24) (k0 := 0) Try.func18 rfl rfl rfl rfl (rs := [.tmp 4]) rfl rfl rfl fun B hB0 => ?_
  unfold laws_szProgram_m at hm
  refine Wp.seq ?_
  refine c_reg (Y := sysA _) ?_
  refine n_ (x_bx rfl rfl rfl rfl ?_)
  refine n_ (x_as rfl rfl ?_)
  refine z_ ?_
  refine Wp.seq ?_
  refine c_reg (Y := sysA _) ?_
  refine n_ (x_fap rfl F36_1 rfl rfl ?_)
  refine n_ (x_ldp rfl T24 rfl rfl rfl rfl rfl ?_)
  refine n_ (x_mv rfl rfl ?_)
  obtain ⟨x1, h2, hm⟩ := of_bind hm
  refine n_ (aopK_A (x_call (v := .u (.one (.int .i64 x1))) (nobs := []) (oa' := _) (nx' := 1) rfl (a_1 rfl (b_s rfl) (a_1 rfl (b_s rfl) a_n)) c_n ent47 (laws_szInt64S_sim a.params left h2) rfl rfl rfl rfl ?_))
  refine n_ (x_as rfl rfl ?_)
  refine z_ ?_
  refine Wp.seq ?_
  refine Wp.seq ?_
  refine c_reg (Y := sysA _) ?_
  refine n_ (x_mv rfl rfl ?_)
  refine n_ (x_bin T3 rfl rfl rfl ?_)
  refine z_ ?_
  refine c_s rfl rfl (fun hb3 => ?_) (fun hb3 => ?_)
  · rw [if_pos (show _ = true from hb3)] at hm
    refine Wp.seq ?_
    refine c_reg (Y := sysA _) ?_
    refine n_ (x_as rfl rfl ?_)
    refine z_ ?_
    refine c_ret ?_
    rw [← Option.some.inj hm]
    exact ret0 (us' := [.one (.int .i64 ((-1)))]) rfl (r_tmp rfl rfl rfl r_nil) f_done rfl rfl
  · rw [if_neg (by rw [hb3]; decide)] at hm
    refine c_skip ?_
    refine Wp.seq ?_
    refine c_reg (Y := sysA _) ?_
    refine n_ (x_fap rfl F36_2 rfl rfl ?_)
    refine n_ (x_ldp rfl T24 rfl rfl rfl rfl rfl ?_)
    refine n_ (x_mv rfl rfl ?_)
    obtain ⟨x4, h5, hm⟩ := of_bind hm
    refine n_ (aopK_A (x_call (v := .u (.one (.int .i64 x4))) (nobs := []) (oa' := _) (nx' := 1) rfl (a_1 rfl (b_s rfl) (a_1 rfl (b_s rfl) a_n)) c_n ent47 (laws_szInt64S_sim a.widths x1 h5) rfl rfl rfl rfl ?_))
    refine n_ (x_as rfl rfl ?_)
    refine z_ ?_
    refine Wp.seq ?_
    refine Wp.seq ?_
    refine c_reg (Y := sysA _) ?_
    refine n_ (x_mv rfl rfl ?_)
    refine n_ (x_bin T3 rfl rfl rfl ?_)
    refine z_ ?_
    refine c_s rfl rfl (fun hb6 => ?_) (fun hb6 => ?_)
    · rw [if_pos (show _ = true from hb6)] at hm
      refine Wp.seq ?_
      refine c_reg (Y := sysA _) ?_
      refine n_ (x_as rfl rfl ?_)
      refine z_ ?_
      refine c_ret ?_
      rw [← Option.some.inj hm]
      exact ret0 (us' := [.one (.int .i64 ((-1)))]) rfl (r_tmp rfl rfl rfl r_nil) f_done rfl rfl
    · rw [if_neg (by rw [hb6]; decide)] at hm
      refine c_skip ?_
      refine Wp.seq ?_
      refine c_reg (Y := sysA _) ?_
      refine n_ (x_fap rfl F36_3 rfl rfl ?_)
      refine n_ (x_ldp rfl T34 rfl rfl rfl rfl rfl ?_)
      refine n_ (x_mv rfl rfl ?_)
      obtain ⟨x7, h8, hm⟩ := of_bind hm
      refine n_ (aopK_A (x_call (v := .u (.one (.int .i64 x7))) (nobs := []) (oa' := _) (nx' := 1) rfl (a_1 rfl (b_s rfl) (a_1 rfl (b_s rfl) a_n)) c_n ent48 (laws_szMInsS_sim a.code x4 h8) rfl rfl rfl rfl ?_))
      refine n_ (x_as rfl rfl ?_)
      refine z_ ?_
      refine Wp.seq ?_
      refine Wp.seq ?_
      refine c_reg (Y := sysA _) ?_
      refine n_ (x_mv rfl rfl ?_)
      refine n_ (x_bin T3 rfl rfl rfl ?_)
      refine z_ ?_
      refine c_s rfl rfl (fun hb9 => ?_) (fun hb9 => ?_)
      · rw [if_pos (show _ = true from hb9)] at hm
        refine Wp.seq ?_
        refine c_reg (Y := sysA _) ?_
        refine n_ (x_as rfl rfl ?_)
        refine z_ ?_
        refine c_ret ?_
        rw [← Option.some.inj hm]
        exact ret0 (us' := [.one (.int .i64 ((-1)))]) rfl (r_tmp rfl rfl rfl r_nil) f_done rfl rfl
      · rw [if_neg (by rw [hb9]; decide)] at hm
        refine c_skip ?_
        refine Wp.seq ?_
        refine c_reg (Y := sysA _) ?_
        refine n_ (x_mv rfl rfl ?_)
        refine n_ (x_as rfl rfl ?_)
        refine z_ ?_
        refine c_ret ?_
        rw [← Option.some.inj hm]
        exact ret0 (us' := [.one (.int .i64 x7)]) rfl (r_tmp rfl rfl rfl r_nil) f_done rfl rfl

/-- laws.toInt64S -/
noncomputable def laws_toInt64S_m (a : List Int) : Option (List Int) :=
  (if 0 ≤ ((List.length a : Int)) ∧ ((List.length a : Int)) ≤ ((List.length a : Int)) ∧ ((List.length a : Int)) * (8 : Nat) ≤ 140737488355328 ∧ ((List.length a : Int)) ≤ 140737488355328 then
    (Option.bind (loopO (fun (st3 : (List Int) × Int) =>
          ((if decide (st3.2 < ((List.length a : Int))) = true then
              (if 0 ≤ st3.2 ∧ st3.2 < (List.length a : Int) then
                (if 0 ≤ st3.2 ∧ st3.2 < (List.length st3.1 : Int) then
                  (if inI (st3.2 + 1) then
                    (some (Sum.inl ((List.set st3.1 (Int.toNat st3.2) (at_ a st3.2), st3.2 + 1))))
                    else none)
                  else none)
                else none)
              else
              (some (Sum.inr st3.1))) : Option (((List Int) × Int) ⊕ (((List Int)))))) (List.replicate (Int.toNat ((List.length a : Int))) 0, 0)) fun (j4 : (List Int)) =>
      (some j4))
    else none)
set_option maxHeartbeats 8000000 in
set_option maxRecDepth 100000 in
theorem laws_toInt64S_sim (a : List Int) {r : List Int} (hm : laws_toInt64S_m a = some r) : Sim Try.prog 52 [.one (.bs () 1 (List.map iL a))] [] (.u (.one (.os () 1 (List.map iL r)))) [] := by
  refine sim_st (N := 22) (k0 := 0) Try.func52 rfl rfl rfl rfl (rs := [.tmp 2]) rfl rfl rfl fun B hB0 => ?_
  unfold laws_toInt64S_m at hm
  refine Wp.seq ?_
  refine c_reg (Y := sysA _) ?_
  refine n_ (x_as rfl rfl ?_)
  refine z_ ?_
  refine Wp.seq ?_
  refine c_reg (Y := sysA _) ?_
  refine n_ (x_mv rfl rfl ?_)
  refine n_ (x_lnb N24 rfl fun hL1 => ?_)
  obtain ⟨h2, hm⟩ := of_ite hm
  refine n_ (x_mk (enc := iL) (d := 0) A24 rfl rfl rfl h2 ?_)
  refine n_ (x_as rfl rfl ?_)
  refine z_ ?_
  refine Wp.seq ?_
  refine Wp.seq ?_
  refine c_reg (Y := sysA _) ?_
  refine n_ (x_as rfl rfl ?_)
  refine z_ ?_
  refine Wp.block ?_
  obtain ⟨j4, hl11, hm⟩ := of_bind hm
  refine c_loop hl11 (fun (st3 : (List Int) × Int) => St 22 [(0, .u (.one (.bs () 1 (List.map iL a)))), (3, .u (.one (.ref () 0 0 (List.length st3.1)))), (4, .u (.one (.int .i64 st3.2)))] [(0, some ⟨(), 1, List.map iL st3.1⟩)] 1) (fun (j4 : (List Int)) => (.exit 0, St 22 [(3, .u (.one (.ref () 0 0 (List.length j4))))] [(0, some ⟨(), 1, List.map iL j4⟩)] 1)) (w_ [0] (.cons rfl rfl (.cons (by first | rfl | (simp only [List.length_set]; rfl)) rfl (.cons rfl rfl .nil))) (.map rfl .nil) (by decide) (hB_0 hB0)) ?_ (by intro y; simp) ?_
  · intro st3 x hm
    refine Wp.seq ?_
    refine Wp.seq ?_
    refine c_reg (Y := sysA _) ?_
    refine n_ (x_mv rfl rfl ?_)
    refine n_ (x_mv rfl rfl ?_)
    refine n_ (x_lnb N24 rfl fun hL5 => ?_)
    refine n_ (x_bin T3 rfl rfl rfl ?_)
    refine z_ ?_
    refine c_s rfl rfl (fun hb6 => ?_) (fun hb6 => ?_)
    · rw [if_pos (show _ = true from hb6)] at hm
      refine c_skip ?_
      refine Wp.seq ?_
      refine Wp.block ?_
      refine c_reg (Y := sysA _) ?_
      refine n_ (x_mv rfl rfl ?_)
      refine n_ (x_mv rfl rfl ?_)
      refine n_ (x_mv rfl rfl ?_)
      refine n_ (x_mv rfl rfl ?_)
      obtain ⟨h7, hm⟩ := of_ite hm
      refine n_ (x_ixb E24 rfl rfl h7 ?_)
      refine n_ (x_ldi T2 rfl rfl rfl ?_)
      obtain ⟨h8, hm⟩ := of_ite hm
      refine n_ (x_ix0 rfl E24 rfl rfl rfl h8 ?_)
      refine n_ (x_stn (at_ a st3.2) T2 rfl rfl rfl h8 rfl rfl rfl rfl ?_)
      refine z_ ?_
      refine c_reg (Y := sysA _) ?_
      refine n_ (x_mv rfl rfl ?_)
      obtain ⟨h9, hm⟩ := of_ite hm
      refine n_ (x_addc T3 rfl rfl h9 ?_)
      refine n_ (x_as rfl rfl ?_)
      refine z_ ?_
      cases hm
      exact ⟨rfl, w_ [0] (.cons rfl rfl (.cons (by first | rfl | (simp only [List.length_set]; rfl)) rfl (.cons rfl rfl .nil))) (.map rfl .nil) (by decide) (hB_0 hB0)⟩
    · rw [if_neg (by rw [hb6]; decide)] at hm
      refine c_exit ?_
      cases hm
      exact ⟨rfl, w_ [0] (.cons (by first | rfl | (simp only [List.length_set]; rfl)) rfl .nil) (.map rfl .nil) (by decide) (hB_0 hB0)⟩
  · refine Wp.seq ?_
    refine c_reg (Y := sysA _) ?_
    refine n_ (x_mv rfl rfl ?_)
    refine n_ (x_as rfl rfl ?_)
    refine z_ ?_
    refine c_ret ?_
    rw [← Option.some.inj hm]
    exact ret0 (us' := [.one (.os () 1 (List.map iL j4))]) rfl (r_tmp rfl rfl rfl r_nil) ((f_fold 0 0 rfl rfl rfl rfl).trans f_done) rfl rfl

/-- laws.toMIns -/
noncomputable def laws_toMIns_m (a : GMIns) : GMIns :=
  (({ op_ := a.op_, w := a.w, d := a.d, a := a.a, b := a.b, c := a.c, imm := a.imm } : GMIns))
set_option maxHeartbeats 8000000 in
set_option maxRecDepth 100000 in
theorem laws_toMIns_sim (a : GMIns) : Sim Try.prog 96 [.agg (eMIns a)] [] (.u (.agg (eMIns ((laws_toMIns_m a))))) [] := by
  obtain ⟨r, hm⟩ : ∃ r, laws_toMIns_m a = r := ⟨_, rfl⟩
  rw [hm]
  refine sim_st (N := 26) (k0 := 0) Try.func96 rfl rfl rfl rfl (rs := [.cell 2 78]) rfl rfl rfl fun B hB0 => ?_
  unfold laws_toMIns_m at hm
  refine Wp.seq ?_
  refine c_reg (Y := sysA _) ?_
  refine n_ (x_bx rfl rfl rfl rfl ?_)
  refine n_ (x_al T78 (r := [.int .i64 0, .int .i64 0, .int .i64 0, .int .i64 0, .int .i64 0, .int .i64 0, .int .i64 0]) rfl rfl ?_)
  refine z_ ?_
  refine Wp.seq ?_
  refine c_reg (Y := sysA _) ?_
  refine n_ (x_al T78 (r := [.int .i64 0, .int .i64 0, .int .i64 0, .int .i64 0, .int .i64 0, .int .i64 0, .int .i64 0]) rfl rfl ?_)
  refine z_ ?_
  refine Wp.seq ?_
  refine c_reg (Y := sysA _) ?_
  refine n_ (x_fap rfl F109_0 rfl rfl ?_)
  refine n_ (x_ldp rfl T2 rfl rfl rfl rfl rfl ?_)
  refine n_ (x_fap rfl F78_0 rfl rfl ?_)
  refine n_ (x_st T2 (rows := [[.int .i64 a.op_, .int .i64 0, .int .i64 0, .int .i64 0, .int .i64 0, .int .i64 0, .int .i64 0]]) rfl rfl rfl rfl rfl rfl rfl rfl ?_)
  refine z_ ?_
  refine Wp.seq ?_
  refine c_reg (Y := sysA _) ?_
  refine n_ (x_fap rfl F109_1 rfl rfl ?_)
  refine n_ (x_ldp rfl T2 rfl rfl rfl rfl rfl ?_)
  refine n_ (x_fap rfl F78_1 rfl rfl ?_)
  refine n_ (x_st T2 (rows := [[.int .i64 a.op_, .int .i64 a.w, .int .i64 0, .int .i64 0, .int .i64 0, .int .i64 0, .int .i64 0]]) rfl rfl rfl rfl rfl rfl rfl rfl ?_)
  refine z_ ?_
  refine Wp.seq ?_
  refine c_reg (Y := sysA _) ?_
  refine n_ (x_fap rfl F109_2 rfl rfl ?_)
  refine n_ (x_ldp rfl T2 rfl rfl rfl rfl rfl ?_)
  refine n_ (x_fap rfl F78_2 rfl rfl ?_)
  refine n_ (x_st T2 (rows := [[.int .i64 a.op_, .int .i64 a.w, .int .i64 a.d, .int .i64 0, .int .i64 0, .int .i64 0, .int .i64 0]]) rfl rfl rfl rfl rfl rfl rfl rfl ?_)
  refine z_ ?_
  refine Wp.seq ?_
  refine c_reg (Y := sysA _) ?_
  refine n_ (x_fap rfl F109_3 rfl rfl ?_)
  refine n_ (x_ldp rfl T2 rfl rfl rfl rfl rfl ?_)
  refine n_ (x_fap rfl F78_3 rfl rfl ?_)
  refine n_ (x_st T2 (rows := [[.int .i64 a.op_, .int .i64 a.w, .int .i64 a.d, .int .i64 a.a, .int .i64 0, .int .i64 0, .int .i64 0]]) rfl rfl rfl rfl rfl rfl rfl rfl ?_)
  refine z_ ?_
  refine Wp.seq ?_
  refine c_reg (Y := sysA _) ?_
  refine n_ (x_fap rfl F109_4 rfl rfl ?_)
  refine n_ (x_ldp rfl T2 rfl rfl rfl rfl rfl ?_)
  refine n_ (x_fap rfl F78_4 rfl rfl ?_)
  refine n_ (x_st T2 (rows := [[.int .i64 a.op_, .int .i64 a.w, .int .i64 a.d, .int .i64 a.a, .int .i64 a.b, .int .i64 0, .int .i64 0]]) rfl rfl rfl rfl rfl rfl rfl rfl ?_)
  refine z_ ?_
  refine Wp.seq ?_
  refine c_reg (Y := sysA _) ?_
  refine n_ (x_fap rfl F109_5 rfl rfl ?_)
  refine n_ (x_ldp rfl T2 rfl rfl rfl rfl rfl ?_)
  refine n_ (x_fap rfl F78_5 rfl rfl ?_)
  refine n_ (x_st T2 (rows := [[.int .i64 a.op_, .int .i64 a.w, .int .i64 a.d, .int .i64 a.a, .int .i64 a.b, .int .i64 a.c, .int .i64 0]]) rfl rfl rfl rfl rfl rfl rfl rfl ?_)
  refine z_ ?_
  refine Wp.seq ?_
  refine c_reg (Y := sysA _) ?_
  refine n_ (x_fap rfl F109_6 rfl rfl ?_)
  refine n_ (x_ldp rfl T2 rfl rfl rfl rfl rfl ?_)
  refine n_ (x_fap rfl F78_6 rfl rfl ?_)
  refine n_ (x_st T2 (rows := [[.int .i64 a.op_, .int .i64 a.w, .int .i64 a.d, .int .i64 a.a, .int .i64 a.b, .int .i64 a.c, .int .i64 a.imm]]) rfl rfl rfl rfl rfl rfl rfl rfl ?_)
  refine z_ ?_
  refine Wp.seq ?_
  refine c_reg (Y := sysA _) ?_
  refine n_ (x_ldp rfl T78 rfl rfl rfl (pk_all rfl rfl) rfl ?_)
  refine n_ (x_st T78 (rows := [[.int .i64 a.op_, .int .i64 a.w, .int .i64 a.d, .int .i64 a.a, .int .i64 a.b, .int .i64 a.c, .int .i64 a.imm]]) rfl rfl rfl rfl rfl rfl rfl rfl ?_)
  refine z_ ?_
  refine c_ret ?_
  rw [← hm]
  exact ret0 (us' := [.agg (eMIns (({ op_ := a.op_, w := a.w, d := a.d, a := a.a, b := a.b, c := a.c, imm := a.imm } : GMIns)))]) rfl (r_cell rfl T78 rfl rfl rfl (pk_all rfl rfl) rfl r_nil) f_done rfl rfl

/-- laws.toMInsS -/
noncomputable def laws_toMInsS_m (a : List GMIns) : Option (List GMIns) :=
  (if 0 ≤ ((List.length a : Int)) ∧ ((List.length a : Int)) ≤ ((List.length a : Int)) ∧ ((List.length a : Int)) * (56 : Nat) ≤ 140737488355328 ∧ ((List.length a : Int)) ≤ 140737488355328 then
    (Option.bind (loopO (fun (st3 : (List GMIns) × Int) =>
          ((if decide (st3.2 < ((List.length a : Int))) = true then
              (if 0 ≤ st3.2 ∧ st3.2 < (List.length a : Int) then
                (if 0 ≤ st3.2 ∧ st3.2 < (List.length st3.1 : Int) then
                  (if inI (st3.2 + 1) then
                    (some (Sum.inl ((List.set st3.1 (Int.toNat st3.2) (((laws_toMIns_m (at_ a st3.2)))), st3.2 + 1))))
                    else none)
                  else none)
                else none)
              else
              (some (Sum.inr st3.1))) : Option (((List GMIns) × Int) ⊕ (((List GMIns)))))) (List.replicate (Int.toNat ((List.length a : Int))) ((zMIns)), 0)) fun (j4 : (List GMIns)) =>
      (some j4))
    else none)
set_option maxHeartbeats 8000000 in
set_option maxRecDepth 100000 in
theorem laws_toMInsS_sim (a : List GMIns) {r : List GMIns} (hm : laws_toMInsS_m a = some r) : Sim Try.prog 53 [.one (.bs () 7 (List.map eMIns a))] [] (.u (.one (.os () 7 (List.map eMIns r)))) [] := by
  refine sim_st (N := 23) (k0 := 0) Try.func53 rfl rfl rfl rfl (rs := [.tmp 2]) rfl rfl rfl fun B hB0 => ?_
  unfold laws_toMInsS_m at hm
  refine Wp.seq ?_
  refine c_reg (Y := sysA _) ?_
  refine n_ (x_as rfl rfl ?_)
  refine z_ ?_
  refine Wp.seq ?_
  refine c_reg (Y := sysA _) ?_
  refine n_ (x_mv rfl rfl ?_)
  refine n_ (x_lnb N34 rfl fun hL1 => ?_)
  obtain ⟨h2, hm⟩ := of_ite hm
  refine n_ (x_mk (enc := eMIns) (d := (zMIns)) A39 rfl rfl rfl h2 ?_)
  refine n_ (x_as rfl rfl ?_)
  refine z_ ?_
  refine Wp.seq ?_
  refine Wp.seq ?_
  refine c_reg (Y := sysA _) ?_
  refine n_ (x_as rfl rfl ?_)
  refine z_ ?_
  refine Wp.block ?_
  obtain ⟨j4, hl11, hm⟩ := of_bind hm
  refine c_loop hl11 (fun (st3 : (List GMIns) × Int) => St 23 [(0, .u (.one (.bs () 7 (List.map eMIns a)))), (3, .u (.one (.ref () 0 0 (List.length st3.1)))), (4, .u (.one (.int .i64 st3.2)))] [(0, some ⟨(), 7, List.map eMIns st3.1⟩)] 1) (fun (j4 : (List GMIns)) => (.exit 0, St 23 [(3, .u (.one (.ref () 0 0 (List.length j4))))] [(0, some ⟨(), 7, List.map eMIns j4⟩)] 1)) (w_ [0] (.cons rfl rfl (.cons (by first | rfl | (simp only [List.length_set]; rfl)) rfl (.cons rfl rfl .nil))) (.map rfl .nil) (by decide) (hB_0 hB0)) ?_ (by intro y; simp) ?_
  · intro st3 x hm
    refine Wp.seq ?_
    refine Wp.seq ?_
    refine c_reg (Y := sysA _) ?_
    refine n_ (x_mv rfl rfl ?_)
    refine n_ (x_mv rfl rfl ?_)
    refine n_ (x_lnb N34 rfl fun hL5 => ?_)
    refine n_ (x_bin T3 rfl rfl rfl ?_)
    refine z_ ?_
    refine c_s rfl rfl (fun hb6 => ?_) (fun hb6 => ?_)
    · rw [if_pos (show _ = true from hb6)] at hm
      refine c_skip ?_
      refine Wp.seq ?_
      refine Wp.block ?_
      refine c_reg (Y := sysA _) ?_
      refine n_ (x_mv rfl rfl ?_)
      refine n_ (x_mv rfl rfl ?_)
      refine n_ (x_mv rfl rfl ?_)
      refine n_ (x_mv rfl rfl ?_)
      obtain ⟨h7, hm⟩ := of_ite hm
      refine n_ (x_ixb E34 rfl rfl h7 ?_)
      refine n_ (x_ldi T109 rfl (pk_all rfl rfl) rfl ?_)
      refine n_ (aopK_A (x_call (v := .u (.agg (eMIns ((laws_toMIns_m (at_ a st3.2)))))) (nobs := []) (oa' := _) (nx' := 1) rfl (a_a rfl (c_all rfl) a_n) c_n ent96 (laws_toMIns_sim (at_ a st3.2)) rfl rfl rfl rfl ?_))
      obtain ⟨h8, hm⟩ := of_ite hm
      refine n_ (x_ix0 rfl E39 rfl rfl rfl h8 ?_)
      refine n_ (x_stn (((laws_toMIns_m (at_ a st3.2)))) T78 rfl rfl rfl h8 rfl rfl rfl rfl ?_)
      refine z_ ?_
      refine c_reg (Y := sysA _) ?_
      refine n_ (x_mv rfl rfl ?_)
      obtain ⟨h9, hm⟩ := of_ite hm
      refine n_ (x_addc T3 rfl rfl h9 ?_)
      refine n_ (x_as rfl rfl ?_)
      refine z_ ?_
      cases hm
      exact ⟨rfl, w_ [0] (.cons rfl rfl (.cons (by first | rfl | (simp only [List.length_set]; rfl)) rfl (.cons rfl rfl .nil))) (.map rfl .nil) (by decide) (hB_0 hB0)⟩
    · rw [if_neg (by rw [hb6]; decide)] at hm
      refine c_exit ?_
      cases hm
      exact ⟨rfl, w_ [0] (.cons (by first | rfl | (simp only [List.length_set]; rfl)) rfl .nil) (.map rfl .nil) (by decide) (hB_0 hB0)⟩
  · refine Wp.seq ?_
    refine c_reg (Y := sysA _) ?_
    refine n_ (x_mv rfl rfl ?_)
    refine n_ (x_as rfl rfl ?_)
    refine z_ ?_
    refine c_ret ?_
    rw [← Option.some.inj hm]
    exact ret0 (us' := [.one (.os () 7 (List.map eMIns j4))]) rfl (r_tmp rfl rfl rfl r_nil) ((f_fold 0 0 rfl rfl rfl rfl).trans f_done) rfl rfl

/-- laws.toProgram -/
noncomputable def laws_toProgram_m (a : GProgram) : Option GProgram :=
  (Option.bind (laws_toInt64S_m a.params) fun x1 =>
    (Option.bind (laws_toInt64S_m a.widths) fun x3 =>
      (Option.bind (laws_toMInsS_m a.code) fun x5 =>
        (some (({ regs := a.regs, params := x1, widths := x3, code := x5 } : GProgram))))))
set_option maxHeartbeats 8000000 in
set_option maxRecDepth 100000 in
theorem laws_toProgram_sim (a : GProgram) {r : GProgram} (hm : laws_toProgram_m a = some r) : Sim Try.prog 20 [.agg (eProgram false a)] [] (.u (.agg (eProgram true r))) [] := by
  refine sim_st (N := 20) (k0 := 0) Try.func20 rfl rfl rfl rfl (rs := [.cell 2 41]) rfl rfl rfl fun B hB0 => ?_
  unfold laws_toProgram_m at hm
  refine Wp.seq ?_
  refine c_reg (Y := sysA _) ?_
  refine n_ (x_bx rfl rfl rfl rfl ?_)
  refine n_ (x_al T41 (r := [.int .i64 0, .nl, .nl, .nl]) rfl rfl ?_)
  refine z_ ?_
  refine Wp.seq ?_
  refine c_reg (Y := sysA _) ?_
  refine n_ (x_al T41 (r := [.int .i64 0, .nl, .nl, .nl]) rfl rfl ?_)
  refine z_ ?_
  refine Wp.seq ?_
  refine c_reg (Y := sysA _) ?_
  refine n_ (x_fap rfl F36_0 rfl rfl ?_)
  refine n_ (x_ldp rfl T2 rfl rfl rfl rfl rfl ?_)
  refine n_ (x_fap rfl F41_0 rfl rfl ?_)
  refine n_ (x_st T2 (rows := [[.int .i64 a.regs, .nl, .nl, .nl]]) rfl rfl rfl rfl rfl rfl rfl rfl ?_)
  refine z_ ?_
  refine Wp.seq ?_
  refine c_reg (Y := sysA _) ?_
  refine n_ (x_fap rfl F36_1 rfl rfl ?_)
  refine n_ (x_ldp rfl T24 rfl rfl rfl rfl rfl ?_)
  obtain ⟨x1, h2, hm⟩ := of_bind hm
  refine n_ (aopK_A (x_call (v := .u (.one (.ref () 3 0 (List.length x1)))) (nobs := [(3, ⟨(), 1, List.map iL x1⟩)]) (oa' := _) (nx' := 4) rfl (a_1 rfl (b_s rfl) a_n) c_n ent52 (laws_toInt64S_sim a.params h2) (by simp only [immFreeV, leavesV, leavesU, List.flatMap_cons, List.flatMap_nil, List.append_nil, List.cons_append, List.nil_append, List.all_cons, List.all_nil, immFreeL, immF_map, Bool.and_true, Bool.and_self]) (by simp only [rootV, rootU, rootLs, rootUs, List.length_map, List.map_cons, List.map_nil]) rfl rfl ?_))
  refine n_ (x_fap rfl F41_1 rfl rfl ?_)
  refine n_ (x_st T24 (rows := [[.int .i64 a.regs, .ref () 3 0 (List.length x1), .nl, .nl]]) rfl rfl rfl rfl rfl rfl rfl rfl ?_)
  refine z_ ?_
  refine Wp.seq ?_
  refine c_reg (Y := sysA _) ?_
  refine n_ (x_fap rfl F36_2 rfl rfl ?_)
  refine n_ (x_ldp rfl T24 rfl rfl rfl rfl rfl ?_)
  obtain ⟨x3, h4, hm⟩ := of_bind hm
  refine n_ (aopK_A (x_call (v := .u (.one (.ref () 4 0 (List.length x3)))) (nobs := [(4, ⟨(), 1, List.map iL x3⟩)]) (oa' := _) (nx' := 5) rfl (a_1 rfl (b_s rfl) a_n) c_n ent52 (laws_toInt64S_sim a.widths h4) (by simp only [immFreeV, leavesV, leavesU, List.flatMap_cons, List.flatMap_nil, List.append_nil, List.cons_append, List.nil_append, List.all_cons, List.all_nil, immFreeL, immF_map, Bool.and_true, Bool.and_self]) (by simp only [rootV, rootU, rootLs, rootUs, List.length_map, List.map_cons, List.map_nil]) rfl rfl ?_))
  refine n_ (x_fap rfl F41_2 rfl rfl ?_)
  refine n_ (x_st T24 (rows := [[.int .i64 a.regs, .ref () 3 0 (List.length x1), .ref () 4 0 (List.length x3), .nl]]) rfl rfl rfl rfl rfl rfl rfl rfl ?_)
  refine z_ ?_
  refine Wp.seq ?_
  refine c_reg (Y := sysA _) ?_
  refine n_ (x_fap rfl F36_3 rfl rfl ?_)
  refine n_ (x_ldp rfl T34 rfl rfl rfl rfl rfl ?_)
  obtain ⟨x5, h6, hm⟩ := of_bind hm
  refine n_ (aopK_A (x_call (v := .u (.one (.ref () 5 0 (List.length x5)))) (nobs := [(5, ⟨(), 7, List.map eMIns x5⟩)]) (oa' := _) (nx' := 6) rfl (a_1 rfl (b_s rfl) a_n) c_n ent53 (laws_toMInsS_sim a.code h6) (by simp only [immFreeV, leavesV, leavesU, List.flatMap_cons, List.flatMap_nil, List.append_nil, List.cons_append, List.nil_append, List.all_cons, List.all_nil, immFreeL, immF_map, Bool.and_true, Bool.and_self, eMIns, sl]) (by simp only [rootV, rootU, rootLs, rootUs, eMIns, sl, List.length_map, List.map_cons, List.map_nil]) rfl rfl ?_))
  refine n_ (x_fap rfl F41_3 rfl rfl ?_)
  refine n_ (x_st T39 (rows := [[.int .i64 a.regs, .ref () 3 0 (List.length x1), .ref () 4 0 (List.length x3), .ref () 5 0 (List.length x5)]]) rfl rfl rfl rfl rfl rfl rfl rfl ?_)
  refine z_ ?_
  refine Wp.seq ?_
  refine c_reg (Y := sysA _) ?_
  refine n_ (x_ldp rfl T41 rfl rfl rfl (pk_all rfl rfl) rfl ?_)
  refine n_ (x_st T41 (rows := [[.int .i64 a.regs, .ref () 3 0 (List.length x1), .ref () 4 0 (List.length x3), .ref () 5 0 (List.length x5)]]) rfl rfl rfl rfl rfl rfl rfl rfl ?_)
  refine z_ ?_
  refine c_ret ?_
  rw [← Option.some.inj hm]
  exact ret0 (us' := [.agg (eProgram true (({ regs := a.regs, params := x1, widths := x3, code := x5 } : GProgram)))]) rfl (r_cell rfl T41 rfl rfl rfl (pk_all rfl rfl) rfl r_nil) ((f_fold 0 1 rfl rfl rfl rfl).trans ((f_fold 0 2 rfl rfl rfl rfl).trans ((f_fold 0 3 rfl rfl rfl rfl).trans f_done))) rfl rfl

/-- spec.l1In -/
noncomputable def spec_l1In_m (n : Int) (low : Int) (high : Int) : Bool :=
  ((decide (n ≥ low) && decide (n ≤ high)))
set_option maxHeartbeats 8000000 in
set_option maxRecDepth 100000 in
theorem spec_l1In_sim (n : Int) (low : Int) (high : Int) : Sim Try.prog 49 [.one (.int .i64 n), .one (.int .i64 low), .one (.int .i64 high)] [] (.u (.one (.bool ((spec_l1In_m n low high))))) [] := by
  obtain ⟨r, hm⟩ : ∃ r, spec_l1In_m n low high = r := ⟨_, rfl⟩
  rw [hm]
  refine sim_st (N := 15) (k0 := 0) Try.func49 rfl rfl rfl rfl (rs := [.tmp 6]) rfl rfl rfl fun B hB0 => ?_
  unfold spec_l1In_m at hm
  refine Wp.seq ?_
  refine c_reg (Y := sysA _) ?_
  refine n_ (x_as rfl rfl ?_)
  refine z_ ?_
  refine Wp.seq ?_
  refine c_cut (St 15 [(6, .u (.one (.bool ((decide (n ≥ low) && decide (n ≤ high))))))] [] 0) ?_ ?_
  · refine c_reg (Y := sysA _) ?_
    refine n_ (x_mv rfl rfl ?_)
    refine n_ (x_mv rfl rfl ?_)
    refine n_ (x_bin T2 rfl rfl rfl ?_)
    refine n_ (x_mv rfl rfl ?_)
    refine g_s rfl rfl rfl (fun hb2 => ?_) (fun hb2 => ?_)
    · refine g_t rfl rfl rfl ?_
      refine n_ (x_mv rfl rfl ?_)
      refine g_t rfl rfl rfl ?_
      refine n_ (x_mv rfl rfl ?_)
      refine g_t rfl rfl rfl ?_
      refine n_ (x_bin T2 rfl rfl rfl ?_)
      refine n_ (x_pk rfl rfl rfl ?_)
      refine n_ (x_as rfl rfl ?_)
      refine z_ ?_
      exact w_ [] (.cons (by simp only [hb2, eq_self, if_true, Bool.false_eq_true, if_false, Bool.true_or, Bool.false_or, Bool.true_and, Bool.false_and, Bool.not_true, Bool.not_false]; rfl) rfl .nil) .nil (by decide) (hB_0 hB0)
    · refine g_f rfl rfl rfl ?_
      refine g_f rfl rfl rfl ?_
      refine g_f rfl rfl rfl ?_
      refine n_ (x_pk rfl rfl rfl ?_)
      refine n_ (x_as rfl rfl ?_)
      refine z_ ?_
      exact w_ [] (.cons (by simp only [hb2, eq_self, if_true, Bool.false_eq_true, if_false, Bool.true_or, Bool.false_or, Bool.true_and, Bool.false_and, Bool.not_true, Bool.not_false]; rfl) rfl .nil) .nil (by decide) (hB_0 hB0)
  · refine c_ret ?_
    rw [← hm]
    exact ret0 (us' := [.one (.bool ((decide (n ≥ low) && decide (n ≤ high))))]) rfl (r_tmp rfl rfl rfl r_nil) f_done rfl rfl

/-- spec.WidthOk -/
noncomputable def spec_WidthOk_m (w : Int) : Bool :=
  (((w == 1) || ((w == 8) || ((w == 16) || (w == 32)))))
set_option maxHeartbeats 8000000 in
set_option maxRecDepth 100000 in
theorem spec_WidthOk_sim (w : Int) : Sim Try.prog 50 [.one (.int .i64 w)] [] (.u (.one (.bool ((spec_WidthOk_m w))))) [] := by
  obtain ⟨r, hm⟩ : ∃ r, spec_WidthOk_m w = r := ⟨_, rfl⟩
  rw [hm]
  refine sim_st (N := 17) (k0 := 0) Try.func50 rfl rfl rfl rfl (rs := [.tmp 2]) rfl rfl rfl fun B hB0 => ?_
  unfold spec_WidthOk_m at hm
  refine Wp.seq ?_
  refine c_reg (Y := sysA _) ?_
  refine n_ (x_as rfl rfl ?_)
  refine z_ ?_
  refine Wp.seq ?_
  refine c_cut (St 17 [(2, .u (.one (.bool (((w == 1) || ((w == 8) || ((w == 16) || (w == 32))))))))] [] 0) ?_ ?_
  · refine c_reg (Y := sysA _) ?_
    refine n_ (x_mv rfl rfl ?_)
    refine n_ (x_bin T2 rfl rfl rfl ?_)
    refine n_ (x_mv rfl rfl ?_)
    refine g_s rfl rfl rfl (fun hb2 => ?_) (fun hb2 => ?_)
    · refine g_t rfl rfl rfl ?_
      refine n_ (x_mv rfl rfl ?_)
      refine g_t rfl rfl rfl ?_
      refine n_ (x_bin T2 rfl rfl rfl ?_)
      refine n_ (x_pk rfl rfl rfl ?_)
      refine n_ (x_mv rfl rfl ?_)
      refine g_s rfl rfl rfl (fun hb3 => ?_) (fun hb3 => ?_)
      · refine g_t rfl rfl rfl ?_
        refine n_ (x_mv rfl rfl ?_)
        refine g_t rfl rfl rfl ?_
        refine n_ (x_bin T2 rfl rfl rfl ?_)
        refine n_ (x_pk rfl rfl rfl ?_)
        refine n_ (x_mv rfl rfl ?_)
        refine g_s rfl rfl rfl (fun hb4 => ?_) (fun hb4 => ?_)
        · refine g_t rfl rfl rfl ?_
          refine n_ (x_mv rfl rfl ?_)
          refine g_t rfl rfl rfl ?_
          refine n_ (x_bin T2 rfl rfl rfl ?_)
          refine n_ (x_pk rfl rfl rfl ?_)
          refine n_ (x_as rfl rfl ?_)
          refine z_ ?_
          exact w_ [] (.cons (by simp only [hb2, hb3, hb4, eq_self, if_true, Bool.false_eq_true, if_false, Bool.true_or, Bool.false_or, Bool.true_and, Bool.false_and, Bool.not_true, Bool.not_false]; rfl) rfl .nil) .nil (by decide) (hB_0 hB0)
        · refine g_f rfl rfl rfl ?_
          refine g_f rfl rfl rfl ?_
          refine n_ (x_pk rfl rfl rfl ?_)
          refine n_ (x_as rfl rfl ?_)
          refine z_ ?_
          exact w_ [] (.cons (by simp only [hb2, hb3, hb4, eq_self, if_true, Bool.false_eq_true, if_false, Bool.true_or, Bool.false_or, Bool.true_and, Bool.false_and, Bool.not_true, Bool.not_false]; rfl) rfl .nil) .nil (by decide) (hB_0 hB0)
      · refine g_f rfl rfl rfl ?_
        refine g_f rfl rfl rfl ?_
        refine n_ (x_pk rfl rfl rfl ?_)
        refine n_ (x_mv rfl rfl ?_)
        refine g_f rfl rfl rfl ?_
        refine g_f rfl rfl rfl ?_
        refine n_ (x_pk rfl rfl rfl ?_)
        refine n_ (x_as rfl rfl ?_)
        refine z_ ?_
        exact w_ [] (.cons (by simp only [hb2, hb3, eq_self, if_true, Bool.false_eq_true, if_false, Bool.true_or, Bool.false_or, Bool.true_and, Bool.false_and, Bool.not_true, Bool.not_false]; rfl) rfl .nil) .nil (by decide) (hB_0 hB0)
    · refine g_f rfl rfl rfl ?_
      refine g_f rfl rfl rfl ?_
      refine n_ (x_pk rfl rfl rfl ?_)
      refine n_ (x_mv rfl rfl ?_)
      refine g_f rfl rfl rfl ?_
      refine g_f rfl rfl rfl ?_
      refine n_ (x_pk rfl rfl rfl ?_)
      refine n_ (x_mv rfl rfl ?_)
      refine g_f rfl rfl rfl ?_
      refine g_f rfl rfl rfl ?_
      refine n_ (x_pk rfl rfl rfl ?_)
      refine n_ (x_as rfl rfl ?_)
      refine z_ ?_
      exact w_ [] (.cons (by simp only [hb2, eq_self, if_true, Bool.false_eq_true, if_false, Bool.true_or, Bool.false_or, Bool.true_and, Bool.false_and, Bool.not_true, Bool.not_false]; rfl) rfl .nil) .nil (by decide) (hB_0 hB0)
  · refine c_ret ?_
    rw [← hm]
    exact ret0 (us' := [.one (.bool (((w == 1) || ((w == 8) || ((w == 16) || (w == 32))))))]) rfl (r_tmp rfl rfl rfl r_nil) f_done rfl rfl

/-- spec.l17Regs -/
noncomputable def spec_l17Regs_m (i : GMIns) (regs : Int) : Option Bool :=
  (Option.bind ((if inI (regs - 1) then
        (if (spec_l1In_m i.d 0 (regs - 1)) = true then
          (if inI (regs - 1) then
            (if (spec_l1In_m i.a 0 (regs - 1)) = true then
              (if inI (regs - 1) then
                (if (spec_l1In_m i.b 0 (regs - 1)) = true then
                  (if inI (regs - 1) then
                    (some ((spec_l1In_m i.c 0 (regs - 1))))
                    else none)
                  else
                  (some false))
                else none)
              else
              (some false))
            else none)
          else
          (some false))
        else none)) fun (j1 : Bool) =>
    (some j1))
set_option maxHeartbeats 8000000 in
set_option maxRecDepth 100000 in
theorem spec_l17Regs_sim (i : GMIns) (regs : Int) {r : Bool} (hm : spec_l17Regs_m i regs = some r) : Sim Try.prog 94 [.agg (eMIns i), .one (.int .i64 regs)] [] (.u (.one (.bool r))) [] := by
  refine sim_st (N := 31) (k0 := 0) Try.func94 rfl rfl rfl rfl (rs := [.tmp 4]) rfl rfl rfl fun B hB0 => ?_
  unfold spec_l17Regs_m at hm
  refine Wp.seq ?_
  refine c_reg (Y := sysA _) ?_
  refine n_ (x_bx rfl rfl rfl rfl ?_)
  refine n_ (x_as rfl rfl ?_)
  refine z_ ?_
  refine Wp.seq ?_
  obtain ⟨j1, hj9, hm⟩ := of_bind hm
  refine c_cut (St 31 [(4, .u (.one (.bool j1)))] [] 0) ?_ ?_
  · replace hm := hj9
    refine c_reg (Y := sysA _) ?_
    refine n_ (x_fap rfl F78_2 rfl rfl ?_)
    refine n_ (x_ldp rfl T2 rfl rfl rfl rfl rfl ?_)
    refine n_ (x_mv rfl rfl ?_)
    obtain ⟨h2, hm⟩ := of_ite hm
    refine n_ (x_subc T2 rfl rfl h2 ?_)
    refine n_ (aopK_A (x_call (v := .u (.one (.bool ((spec_l1In_m i.d 0 (regs - 1)))))) (nobs := []) (oa' := _) (nx' := 1) rfl (a_1 rfl (b_s rfl) (a_1 rfl (b_s rfl) (a_1 rfl (b_s rfl) a_n))) c_n ent49 (spec_l1In_sim i.d 0 (regs - 1)) rfl rfl rfl rfl ?_))
    refine n_ (x_mv rfl rfl ?_)
    refine g_s rfl rfl rfl (fun hb3 => ?_) (fun hb3 => ?_)
    · rw [if_pos (show _ = true from hb3)] at hm
      refine g_t rfl rfl rfl ?_
      refine n_ (x_fap rfl F78_3 rfl rfl ?_)
      refine g_t rfl rfl rfl ?_
      refine n_ (x_ldp rfl T2 rfl rfl rfl rfl rfl ?_)
      refine g_t rfl rfl rfl ?_
      refine n_ (x_mv rfl rfl ?_)
      refine g_t rfl rfl rfl ?_
      obtain ⟨h4, hm⟩ := of_ite hm
      refine n_ (x_subc T2 rfl rfl h4 ?_)
      refine g_t rfl rfl rfl ?_
      refine n_ (aopK_A (x_call (v := .u (.one (.bool ((spec_l1In_m i.a 0 (regs - 1)))))) (nobs := []) (oa' := _) (nx' := 1) rfl (a_1 rfl (b_s rfl) (a_1 rfl (b_s rfl) (a_1 rfl (b_s rfl) a_n))) c_n ent49 (spec_l1In_sim i.a 0 (regs - 1)) rfl rfl rfl rfl ?_))
      refine n_ (x_pk rfl rfl rfl ?_)
      refine n_ (x_mv rfl rfl ?_)
      refine g_s rfl rfl rfl (fun hb5 => ?_) (fun hb5 => ?_)
      · rw [if_pos (show _ = true from hb5)] at hm
        refine g_t rfl rfl rfl ?_
        refine n_ (x_fap rfl F78_4 rfl rfl ?_)
        refine g_t rfl rfl rfl ?_
        refine n_ (x_ldp rfl T2 rfl rfl rfl rfl rfl ?_)
        refine g_t rfl rfl rfl ?_
        refine n_ (x_mv rfl rfl ?_)
        refine g_t rfl rfl rfl ?_
        obtain ⟨h6, hm⟩ := of_ite hm
        refine n_ (x_subc T2 rfl rfl h6 ?_)
        refine g_t rfl rfl rfl ?_
        refine n_ (aopK_A (x_call (v := .u (.one (.bool ((spec_l1In_m i.b 0 (regs - 1)))))) (nobs := []) (oa' := _) (nx' := 1) rfl (a_1 rfl (b_s rfl) (a_1 rfl (b_s rfl) (a_1 rfl (b_s rfl) a_n))) c_n ent49 (spec_l1In_sim i.b 0 (regs - 1)) rfl rfl rfl rfl ?_))
        refine n_ (x_pk rfl rfl rfl ?_)
        refine n_ (x_mv rfl rfl ?_)
        refine g_s rfl rfl rfl (fun hb7 => ?_) (fun hb7 => ?_)
        · rw [if_pos (show _ = true from hb7)] at hm
          refine g_t rfl rfl rfl ?_
          refine n_ (x_fap rfl F78_5 rfl rfl ?_)
          refine g_t rfl rfl rfl ?_
          refine n_ (x_ldp rfl T2 rfl rfl rfl rfl rfl ?_)
          refine g_t rfl rfl rfl ?_
          refine n_ (x_mv rfl rfl ?_)
          refine g_t rfl rfl rfl ?_
          obtain ⟨h8, hm⟩ := of_ite hm
          refine n_ (x_subc T2 rfl rfl h8 ?_)
          refine g_t rfl rfl rfl ?_
          refine n_ (aopK_A (x_call (v := .u (.one (.bool ((spec_l1In_m i.c 0 (regs - 1)))))) (nobs := []) (oa' := _) (nx' := 1) rfl (a_1 rfl (b_s rfl) (a_1 rfl (b_s rfl) (a_1 rfl (b_s rfl) a_n))) c_n ent49 (spec_l1In_sim i.c 0 (regs - 1)) rfl rfl rfl rfl ?_))
          refine n_ (x_pk rfl rfl rfl ?_)
          refine n_ (x_as rfl rfl ?_)
          refine z_ ?_
          cases hm
          exact w_ [] (.cons rfl rfl .nil) .nil (by decide) (hB_0 hB0)
        · rw [if_neg (by rw [hb7]; decide)] at hm
          refine g_f rfl rfl rfl ?_
          refine g_f rfl rfl rfl ?_
          refine g_f rfl rfl rfl ?_
          refine g_f rfl rfl rfl ?_
          refine g_f rfl rfl rfl ?_
          refine n_ (x_pk rfl rfl rfl ?_)
          refine n_ (x_as rfl rfl ?_)
          refine z_ ?_
          cases hm
          exact w_ [] (.cons rfl rfl .nil) .nil (by decide) (hB_0 hB0)
      · rw [if_neg (by rw [hb5]; decide)] at hm
        refine g_f rfl rfl rfl ?_
        refine g_f rfl rfl rfl ?_
        refine g_f rfl rfl rfl ?_
        refine g_f rfl rfl rfl ?_
        refine g_f rfl rfl rfl ?_
        refine n_ (x_pk rfl rfl rfl ?_)
        refine n_ (x_mv rfl rfl ?_)
        refine g_f rfl rfl rfl ?_
        refine g_f rfl rfl rfl ?_
        refine g_f rfl rfl rfl ?_
        refine g_f rfl rfl rfl ?_
        refine g_f rfl rfl rfl ?_
        refine n_ (x_pk rfl rfl rfl ?_)
        refine n_ (x_as rfl rfl ?_)
        refine z_ ?_
        cases hm
        exact w_ [] (.cons rfl rfl .nil) .nil (by decide) (hB_0 hB0)
    · rw [if_neg (by rw [hb3]; decide)] at hm
      refine g_f rfl rfl rfl ?_
      refine g_f rfl rfl rfl ?_
      refine g_f rfl rfl rfl ?_
      refine g_f rfl rfl rfl ?_
      refine g_f rfl rfl rfl ?_
      refine n_ (x_pk rfl rfl rfl ?_)
      refine n_ (x_mv rfl rfl ?_)
      refine g_f rfl rfl rfl ?_
      refine g_f rfl rfl rfl ?_
      refine g_f rfl rfl rfl ?_
      refine g_f rfl rfl rfl ?_
      refine g_f rfl rfl rfl ?_
      refine n_ (x_pk rfl rfl rfl ?_)
      refine n_ (x_mv rfl rfl ?_)
      refine g_f rfl rfl rfl ?_
      refine g_f rfl rfl rfl ?_
      refine g_f rfl rfl rfl ?_
      refine g_f rfl rfl rfl ?_
      refine g_f rfl rfl rfl ?_
      refine n_ (x_pk rfl rfl rfl ?_)
      refine n_ (x_as rfl rfl ?_)
      refine z_ ?_
      cases hm
      exact w_ [] (.cons rfl rfl .nil) .nil (by decide) (hB_0 hB0)
  · refine c_ret ?_
    rw [← Option.some.inj hm]
    exact ret0 (us' := [.one (.bool j1)]) rfl (r_tmp rfl rfl rfl r_nil) f_done rfl rfl

/-- spec.l1Top -/
noncomputable def spec_l1Top_m (w : Int) : Option Int :=
  (if 0 ≤ (IntKind.u64.wrap w) then
    (some (IntKind.i64.wrap (1 * 2 ^ min (Int.toNat (IntKind.u64.wrap w)) (IntKind.bits .i64))))
    else none)
set_option maxHeartbeats 8000000 in
set_option maxRecDepth 100000 in
theorem spec_l1Top_sim (w : Int) {r : Int} (hm : spec_l1Top_m w = some r) : Sim Try.prog 113 [.one (.int .i64 w)] [] (.u (.one (.int .i64 r))) [] := by
  refine sim_st (N := 6) (k0 := 0) Try.func113 rfl rfl rfl rfl (rs := [.tmp 2]) rfl rfl rfl fun B hB0 => ?_
  unfold spec_l1Top_m at hm
  refine Wp.seq ?_
  refine c_reg (Y := sysA _) ?_
  refine n_ (x_as rfl rfl ?_)
  refine z_ ?_
  refine Wp.seq ?_
  refine c_reg (Y := sysA _) ?_
  refine n_ (x_mv rfl rfl ?_)
  refine n_ (x_cvi T2 T140 rfl rfl ?_)
  obtain ⟨h1, hm⟩ := of_ite hm
  refine n_ (x_shl T2 rfl rfl h1 ?_)
  refine n_ (x_as rfl rfl ?_)
  refine z_ ?_
  refine c_ret ?_
  rw [← Option.some.inj hm]
  exact ret0 (us' := [.one (.int .i64 (IntKind.i64.wrap (1 * 2 ^ min (Int.toNat (IntKind.u64.wrap w)) (IntKind.bits .i64))))]) rfl (r_tmp rfl rfl rfl r_nil) f_done rfl rfl

/-- spec.l1Value -/
noncomputable def spec_l1Value_m (w : Int) (v : Int) : Option Bool :=
  (Option.bind ((if (spec_WidthOk_m w) = true then
        (Option.bind (spec_l1Top_m w) fun x3 =>
          (if inI (x3 - 1) then
            (some ((spec_l1In_m v 0 (x3 - 1))))
            else none))
        else
        (some false))) fun (j1 : Bool) =>
    (some j1))
set_option maxHeartbeats 8000000 in
set_option maxRecDepth 100000 in
theorem spec_l1Value_sim (w : Int) (v : Int) {r : Bool} (hm : spec_l1Value_m w v = some r) : Sim Try.prog 95 [.one (.int .i64 w), .one (.int .i64 v)] [] (.u (.one (.bool r))) [] := by
  refine sim_st (N := 14) (k0 := 0) Try.func95 rfl rfl rfl rfl (rs := [.tmp 4]) rfl rfl rfl fun B hB0 => ?_
  unfold spec_l1Value_m at hm
  refine Wp.seq ?_
  refine c_reg (Y := sysA _) ?_
  refine n_ (x_as rfl rfl ?_)
  refine z_ ?_
  refine Wp.seq ?_
  obtain ⟨j1, hj6, hm⟩ := of_bind hm
  refine c_cut (St 14 [(4, .u (.one (.bool j1)))] [] 0) ?_ ?_
  · replace hm := hj6
    refine c_reg (Y := sysA _) ?_
    refine n_ (x_mv rfl rfl ?_)
    refine n_ (aopK_A (x_call (v := .u (.one (.bool ((spec_WidthOk_m w))))) (nobs := []) (oa' := _) (nx' := 0) rfl (a_1 rfl (b_s rfl) a_n) c_n ent50 (spec_WidthOk_sim w) rfl rfl rfl rfl ?_))
    refine n_ (x_mv rfl rfl ?_)
    refine g_s rfl rfl rfl (fun hb2 => ?_) (fun hb2 => ?_)
    · rw [if_pos (show _ = true from hb2)] at hm
      refine g_t rfl rfl rfl ?_
      refine n_ (x_mv rfl rfl ?_)
      refine g_t rfl rfl rfl ?_
      refine n_ (x_mv rfl rfl ?_)
      refine g_t rfl rfl rfl ?_
      obtain ⟨x3, h4, hm⟩ := of_bind hm
      refine n_ (aopK_A (x_call (v := .u (.one (.int .i64 x3))) (nobs := []) (oa' := _) (nx' := 0) rfl (a_1 rfl (b_s rfl) a_n) c_n ent113 (spec_l1Top_sim w h4) rfl rfl rfl rfl ?_))
      refine g_t rfl rfl rfl ?_
      obtain ⟨h5, hm⟩ := of_ite hm
      refine n_ (x_subc T2 rfl rfl h5 ?_)
      refine g_t rfl rfl rfl ?_
      refine n_ (aopK_A (x_call (v := .u (.one (.bool ((spec_l1In_m v 0 (x3 - 1)))))) (nobs := []) (oa' := _) (nx' := 0) rfl (a_1 rfl (b_s rfl) (a_1 rfl (b_s rfl) (a_1 rfl (b_s rfl) a_n))) c_n ent49 (spec_l1In_sim v 0 (x3 - 1)) rfl rfl rfl rfl ?_))
      refine n_ (x_pk rfl rfl rfl ?_)
      refine n_ (x_as rfl rfl ?_)
      refine z_ ?_
      cases hm
      exact w_ [] (.cons rfl rfl .nil) .nil (by decide) (hB_0 hB0)
    · rw [if_neg (by rw [hb2]; decide)] at hm
      refine g_f rfl rfl rfl ?_
      refine g_f rfl rfl rfl ?_
      refine g_f rfl rfl rfl ?_
      refine g_f rfl rfl rfl ?_
      refine g_f rfl rfl rfl ?_
      refine n_ (x_pk rfl rfl rfl ?_)
      refine n_ (x_as rfl rfl ?_)
      refine z_ ?_
      cases hm
      exact w_ [] (.cons rfl rfl .nil) .nil (by decide) (hB_0 hB0)
  · refine c_ret ?_
    rw [← Option.some.inj hm]
    exact ret0 (us' := [.one (.bool j1)]) rfl (r_tmp rfl rfl rfl r_nil) f_done rfl rfl

/-- spec.l17Ins -/
noncomputable def spec_l17Ins_m (i : GMIns) (regs : Int) (n : Int) : Option Bool :=
  (Option.bind (spec_l17Regs_m i regs) fun x1 =>
    (if ((i.op_ == 31) || (i.op_ == 32)) = true then
      (Option.bind ((if x1 = true then
            (if inI (n - 1) then
              (if (spec_l1In_m i.imm 0 (n - 1)) = true then
                (if (i.w == 0) = true then
                  (if (i.d == 0) = true then
                    (if (i.b == 0) = true then
                      (if (i.c == 0) = true then
                        (if (i.op_ == 32) = true then
                        (some true)
                        else
                        (some ((i.a == 0))))
                        else
                        (some false))
                      else
                      (some false))
                    else
                    (some false))
                  else
                  (some false))
                else
                (some false))
              else none)
            else
            (some false))) fun (j6 : Bool) =>
        (some j6))
      else
      (if (i.op_ == 34) = true then
        (some (([i.op_, i.w, i.d, i.a, i.b, i.c, i.imm] == ([(({ op_ := 34, w := 0, d := 0, a := 0, b := 0, c := 0, imm := 0 } : GMIns)).op_, (({ op_ := 34, w := 0, d := 0, a := 0, b := 0, c := 0, imm := 0 } : GMIns)).w, (({ op_ := 34, w := 0, d := 0, a := 0, b := 0, c := 0, imm := 0 } : GMIns)).d, (({ op_ := 34, w := 0, d := 0, a := 0, b := 0, c := 0, imm := 0 } : GMIns)).a, (({ op_ := 34, w := 0, d := 0, a := 0, b := 0, c := 0, imm := 0 } : GMIns)).b, (({ op_ := 34, w := 0, d := 0, a := 0, b := 0, c := 0, imm := 0 } : GMIns)).c, (({ op_ := 34, w := 0, d := 0, a := 0, b := 0, c := 0, imm := 0 } : GMIns)).imm] : List Int))))
        else
        (if ((i.op_ == 33) || (i.op_ == 35)) = true then
          (some ((if x1 = true then (if (spec_WidthOk_m i.w) = true then ((i.imm == 0) && ((i.b == 0) && ((i.c == 0) && ((i.op_ == 35) || (i.d == 0))))) else false) else false)))
          else
          (if (i.op_ == 21) = true then
            (Option.bind ((if x1 = true then
                  (Option.bind (spec_l1Value_m i.w i.imm) fun x30 =>
                    (if x30 = true then
                      (if (i.a == 0) = true then
                        (if (i.b == 0) = true then
                        (some ((i.c == 0)))
                        else
                        (some false))
                        else
                        (some false))
                      else
                      (some false)))
                  else
                  (some false))) fun (j28 : Bool) =>
              (some j28))
            else
            (if (i.imm != 0) = true then
              (some false)
              else
              (if (spec_l1In_m i.op_ 1 17) = true then
                (some ((x1 && ((spec_WidthOk_m i.w) && (i.c == 0)))))
                else
                (if (spec_l1In_m i.op_ 18 20) = true then
                  (Option.bind ((if inI (regs - 1) then
                        (if (spec_l1In_m i.d 0 (regs - 1)) = true then
                        (if inI (regs - 1) then
                        (if (spec_l1In_m i.a 0 (regs - 1)) = true then
                        (if (spec_WidthOk_m i.w) = true then
                        (if (spec_WidthOk_m i.c) = true then
                        (if (((i.op_ == 20)) == (decide (i.c > i.w))) = true then
                        (if (i.c != i.w) = true then
                        (some ((i.b == 0)))
                        else
                        (some false))
                        else
                        (some false))
                        else
                        (some false))
                        else
                        (some false))
                        else
                        (some false))
                        else none)
                        else
                        (some false))
                        else none)) fun (j42 : Bool) =>
                    (some j42))
                  else
                  (if (i.op_ == 22) = true then
                    (some ((x1 && (spec_WidthOk_m i.w))))
                    else
                    (if (i.op_ == 23) = true then
                      (some ((x1 && ((i.w == 8) && ((i.b == 0) && (i.c == 0))))))
                      else
                      (if (i.op_ == 24) = true then
                        (some ((x1 && ((i.w == 0) && ((i.d == 0) && (i.c == 0))))))
                        else
                        (if (i.op_ == 25) = true then
                        (some ((x1 && ((i.w == 0) && ((i.d == 0) && ((i.b == 0) && (i.c == 0)))))))
                        else
                        (some false)))))))))))))
set_option maxHeartbeats 8000000 in
set_option maxRecDepth 100000 in
theorem spec_l17Ins_sim (i : GMIns) (regs : Int) (n : Int) {r : Bool} (hm : spec_l17Ins_m i regs n = some r) : Sim Try.prog 51 [.agg (eMIns i), .one (.int .i64 regs), .one (.int .i64 n)] [] (.u (.one (.bool r))) [] := by
  refine sim_st (N := 275) (k0 := 0) Try.func51 rfl rfl rfl rfl (rs := [.tmp 6]) rfl rfl rfl fun B hB0 => ?_
  unfold spec_l17Ins_m at hm
  refine Wp.seq ?_
  refine c_reg (Y := sysA _) ?_
  refine n_ (x_bx rfl rfl rfl rfl ?_)
  refine n_ (x_as rfl rfl ?_)
  refine z_ ?_
  refine Wp.seq ?_
  refine c_reg (Y := sysA _) ?_
  refine n_ (x_ldp rfl T78 rfl rfl rfl (pk_all rfl rfl) rfl ?_)
  refine n_ (x_mv rfl rfl ?_)
  obtain ⟨x1, h2, hm⟩ := of_bind hm
  refine n_ (aopK_A (x_call (v := .u (.one (.bool x1))) (nobs := []) (oa' := _) (nx' := 1) rfl (a_a rfl (c_all rfl) (a_1 rfl (b_s rfl) a_n)) c_n ent94 (spec_l17Regs_sim i regs h2) rfl rfl rfl rfl ?_))
  refine n_ (x_as rfl rfl ?_)
  refine z_ ?_
  refine Wp.seq ?_
  refine Wp.block ?_
  refine Wp.seq ?_
  refine c_cut (St 275 [(1, .u (.one (.int .i64 regs))), (2, .u (.one (.int .i64 n))), (3, .u (.one (.ptr () 0 0 0))), (7, .u (.one (.bool x1))), (11, .u (.one (.bool (((i.op_ == 31) || (i.op_ == 32))))))] [(0, some ⟨(), 7, [(eMIns i)]⟩)] 1) ?_ ?_
  · refine c_reg (Y := sysA _) ?_
    refine n_ (x_fap rfl F78_0 rfl rfl ?_)
    refine n_ (x_ldp rfl T2 rfl rfl rfl rfl rfl ?_)
    refine n_ (x_bin T2 rfl rfl rfl ?_)
    refine n_ (x_mv rfl rfl ?_)
    refine g_s rfl rfl rfl (fun hb4 => ?_) (fun hb4 => ?_)
    · refine g_t rfl rfl rfl ?_
      refine n_ (x_fap rfl F78_0 rfl rfl ?_)
      refine g_t rfl rfl rfl ?_
      refine n_ (x_ldp rfl T2 rfl rfl rfl rfl rfl ?_)
      refine g_t rfl rfl rfl ?_
      refine n_ (x_bin T2 rfl rfl rfl ?_)
      refine n_ (x_pk rfl rfl rfl ?_)
      refine n_ (x_as rfl rfl ?_)
      refine z_ ?_
      exact w_ [0] (.cons rfl rfl (.cons rfl rfl (.cons rfl rfl (.cons rfl rfl (.cons (by simp only [hb4, eq_self, if_true, Bool.false_eq_true, if_false, Bool.true_or, Bool.false_or, Bool.true_and, Bool.false_and, Bool.not_true, Bool.not_false]; rfl) rfl .nil))))) (.lit rfl rfl .nil) (by decide) (hB_0 hB0)
    · refine g_f rfl rfl rfl ?_
      refine g_f rfl rfl rfl ?_
      refine g_f rfl rfl rfl ?_
      refine n_ (x_pk rfl rfl rfl ?_)
      refine n_ (x_as rfl rfl ?_)
      refine z_ ?_
      exact w_ [0] (.cons rfl rfl (.cons rfl rfl (.cons rfl rfl (.cons rfl rfl (.cons (by simp only [hb4, eq_self, if_true, Bool.false_eq_true, if_false, Bool.true_or, Bool.false_or, Bool.true_and, Bool.false_and, Bool.not_true, Bool.not_false]; rfl) rfl .nil))))) (.lit rfl rfl .nil) (by decide) (hB_0 hB0)
  · refine c_s rfl rfl (fun hb5 => ?_) (fun hb5 => ?_)
    · rw [if_pos (show _ = true from hb5)] at hm
      refine Wp.seq ?_
      obtain ⟨j6, hj15, hm⟩ := of_bind hm
      refine c_cut (St 275 [(6, .u (.one (.bool j6)))] [] 0) ?_ ?_
      · replace hm := hj15
        refine c_reg (Y := sysA _) ?_
        refine n_ (x_mv rfl rfl ?_)
        refine n_ (x_mv rfl rfl ?_)
        refine g_s rfl rfl rfl (fun hb7 => ?_) (fun hb7 => ?_)
        · rw [if_pos (show _ = true from hb7)] at hm
          refine g_t rfl rfl rfl ?_
          refine n_ (x_fap rfl F78_6 rfl rfl ?_)
          refine g_t rfl rfl rfl ?_
          refine n_ (x_ldp rfl T2 rfl rfl rfl rfl rfl ?_)
          refine g_t rfl rfl rfl ?_
          refine n_ (x_mv rfl rfl ?_)
          refine g_t rfl rfl rfl ?_
          obtain ⟨h8, hm⟩ := of_ite hm
          refine n_ (x_subc T2 rfl rfl h8 ?_)
          refine g_t rfl rfl rfl ?_
          refine n_ (aopK_A (x_call (v := .u (.one (.bool ((spec_l1In_m i.imm 0 (n - 1)))))) (nobs := []) (oa' := _) (nx' := 1) rfl (a_1 rfl (b_s rfl) (a_1 rfl (b_s rfl) (a_1 rfl (b_s rfl) a_n))) c_n ent49 (spec_l1In_sim i.imm 0 (n - 1)) rfl rfl rfl rfl ?_))
          refine n_ (x_pk rfl rfl rfl ?_)
          refine n_ (x_mv rfl rfl ?_)
          refine g_s rfl rfl rfl (fun hb9 => ?_) (fun hb9 => ?_)
          · rw [if_pos (show _ = true from hb9)] at hm
            refine g_t rfl rfl rfl ?_
            refine n_ (x_fap rfl F78_1 rfl rfl ?_)
            refine g_t rfl rfl rfl ?_
            refine n_ (x_ldp rfl T2 rfl rfl rfl rfl rfl ?_)
            refine g_t rfl rfl rfl ?_
            refine n_ (x_bin T2 rfl rfl rfl ?_)
            refine n_ (x_pk rfl rfl rfl ?_)
            refine n_ (x_mv rfl rfl ?_)
            refine g_s rfl rfl rfl (fun hb10 => ?_) (fun hb10 => ?_)
            · rw [if_pos (show _ = true from hb10)] at hm
              refine g_t rfl rfl rfl ?_
              refine n_ (x_fap rfl F78_2 rfl rfl ?_)
              refine g_t rfl rfl rfl ?_
              refine n_ (x_ldp rfl T2 rfl rfl rfl rfl rfl ?_)
              refine g_t rfl rfl rfl ?_
              refine n_ (x_bin T2 rfl rfl rfl ?_)
              refine n_ (x_pk rfl rfl rfl ?_)
              refine n_ (x_mv rfl rfl ?_)
              refine g_s rfl rfl rfl (fun hb11 => ?_) (fun hb11 => ?_)
              · rw [if_pos (show _ = true from hb11)] at hm
                refine g_t rfl rfl rfl ?_
                refine n_ (x_fap rfl F78_4 rfl rfl ?_)
                refine g_t rfl rfl rfl ?_
                refine n_ (x_ldp rfl T2 rfl rfl rfl rfl rfl ?_)
                refine g_t rfl rfl rfl ?_
                refine n_ (x_bin T2 rfl rfl rfl ?_)
                refine n_ (x_pk rfl rfl rfl ?_)
                refine n_ (x_mv rfl rfl ?_)
                refine g_s rfl rfl rfl (fun hb12 => ?_) (fun hb12 => ?_)
                · rw [if_pos (show _ = true from hb12)] at hm
                  refine g_t rfl rfl rfl ?_
                  refine n_ (x_fap rfl F78_5 rfl rfl ?_)
                  refine g_t rfl rfl rfl ?_
                  refine n_ (x_ldp rfl T2 rfl rfl rfl rfl rfl ?_)
                  refine g_t rfl rfl rfl ?_
                  refine n_ (x_bin T2 rfl rfl rfl ?_)
                  refine n_ (x_pk rfl rfl rfl ?_)
                  refine n_ (x_mv rfl rfl ?_)
                  refine g_s rfl rfl rfl (fun hb13 => ?_) (fun hb13 => ?_)
                  · rw [if_pos (show _ = true from hb13)] at hm
                    refine g_t rfl rfl rfl ?_
                    refine n_ (x_fap rfl F78_0 rfl rfl ?_)
                    refine g_t rfl rfl rfl ?_
                    refine n_ (x_ldp rfl T2 rfl rfl rfl rfl rfl ?_)
                    refine g_t rfl rfl rfl ?_
                    refine n_ (x_bin T2 rfl rfl rfl ?_)
                    refine g_t rfl rfl rfl ?_
                    refine n_ (x_mv rfl rfl ?_)
                    refine g_s rfl rfl rfl (fun hb14 => ?_) (fun hb14 => ?_)
                    · rw [if_neg (by rw [hb14]; decide)] at hm
                      refine g_t rfl rfl rfl ?_
                      refine n_ (x_fap rfl F78_3 rfl rfl ?_)
                      refine g_t rfl rfl rfl ?_
                      refine n_ (x_ldp rfl T2 rfl rfl rfl rfl rfl ?_)
                      refine g_t rfl rfl rfl ?_
                      refine n_ (x_bin T2 rfl rfl rfl ?_)
                      refine g_t rfl rfl rfl ?_
                      refine n_ (x_pk rfl rfl rfl ?_)
                      refine n_ (x_pk rfl rfl rfl ?_)
                      refine n_ (x_as rfl rfl ?_)
                      refine z_ ?_
                      cases hm
                      exact w_ [] (.cons rfl rfl .nil) .nil (by decide) (hB_0 hB0)
                    · rw [if_pos (show _ = true from hb14)] at hm
                      refine g_f rfl rfl rfl ?_
                      refine g_f rfl rfl rfl ?_
                      refine g_f rfl rfl rfl ?_
                      refine g_t rfl rfl rfl ?_
                      refine n_ (x_pk rfl rfl rfl ?_)
                      refine n_ (x_pk rfl rfl rfl ?_)
                      refine n_ (x_as rfl rfl ?_)
                      refine z_ ?_
                      cases hm
                      exact w_ [] (.cons rfl rfl .nil) .nil (by decide) (hB_0 hB0)
                  · rw [if_neg (by rw [hb13]; decide)] at hm
                    refine g_f rfl rfl rfl ?_
                    refine g_f rfl rfl rfl ?_
                    refine g_f rfl rfl rfl ?_
                    refine g_f rfl rfl rfl ?_
                    refine g_u rfl rfl rfl ?_
                    refine g_u rfl rfl rfl ?_
                    refine g_u rfl rfl rfl ?_
                    refine g_f rfl rfl rfl ?_
                    refine n_ (x_pk rfl rfl rfl ?_)
                    refine n_ (x_as rfl rfl ?_)
                    refine z_ ?_
                    cases hm
                    exact w_ [] (.cons rfl rfl .nil) .nil (by decide) (hB_0 hB0)
                · rw [if_neg (by rw [hb12]; decide)] at hm
                  refine g_f rfl rfl rfl ?_
                  refine g_f rfl rfl rfl ?_
                  refine g_f rfl rfl rfl ?_
                  refine n_ (x_pk rfl rfl rfl ?_)
                  refine n_ (x_mv rfl rfl ?_)
                  refine g_f rfl rfl rfl ?_
                  refine g_f rfl rfl rfl ?_
                  refine g_f rfl rfl rfl ?_
                  refine g_f rfl rfl rfl ?_
                  refine g_u rfl rfl rfl ?_
                  refine g_u rfl rfl rfl ?_
                  refine g_u rfl rfl rfl ?_
                  refine g_f rfl rfl rfl ?_
                  refine n_ (x_pk rfl rfl rfl ?_)
                  refine n_ (x_as rfl rfl ?_)
                  refine z_ ?_
                  cases hm
                  exact w_ [] (.cons rfl rfl .nil) .nil (by decide) (hB_0 hB0)
              · rw [if_neg (by rw [hb11]; decide)] at hm
                refine g_f rfl rfl rfl ?_
                refine g_f rfl rfl rfl ?_
                refine g_f rfl rfl rfl ?_
                refine n_ (x_pk rfl rfl rfl ?_)
                refine n_ (x_mv rfl rfl ?_)
                refine g_f rfl rfl rfl ?_
                refine g_f rfl rfl rfl ?_
                refine g_f rfl rfl rfl ?_
                refine n_ (x_pk rfl rfl rfl ?_)
                refine n_ (x_mv rfl rfl ?_)
                refine g_f rfl rfl rfl ?_
                refine g_f rfl rfl rfl ?_
                refine g_f rfl rfl rfl ?_
                refine g_f rfl rfl rfl ?_
                refine g_u rfl rfl rfl ?_
                refine g_u rfl rfl rfl ?_
                refine g_u rfl rfl rfl ?_
                refine g_f rfl rfl rfl ?_
                refine n_ (x_pk rfl rfl rfl ?_)
                refine n_ (x_as rfl rfl ?_)
                refine z_ ?_
                cases hm
                exact w_ [] (.cons rfl rfl .nil) .nil (by decide) (hB_0 hB0)
            · rw [if_neg (by rw [hb10]; decide)] at hm
              refine g_f rfl rfl rfl ?_
              refine g_f rfl rfl rfl ?_
              refine g_f rfl rfl rfl ?_
              refine n_ (x_pk rfl rfl rfl ?_)
              refine n_ (x_mv rfl rfl ?_)
              refine g_f rfl rfl rfl ?_
              refine g_f rfl rfl rfl ?_
              refine g_f rfl rfl rfl ?_
              refine n_ (x_pk rfl rfl rfl ?_)
              refine n_ (x_mv rfl rfl ?_)
              refine g_f rfl rfl rfl ?_
              refine g_f rfl rfl rfl ?_
              refine g_f rfl rfl rfl ?_
              refine n_ (x_pk rfl rfl rfl ?_)
              refine n_ (x_mv rfl rfl ?_)
              refine g_f rfl rfl rfl ?_
              refine g_f rfl rfl rfl ?_
              refine g_f rfl rfl rfl ?_
              refine g_f rfl rfl rfl ?_
              refine g_u rfl rfl rfl ?_
              refine g_u rfl rfl rfl ?_
              refine g_u rfl rfl rfl ?_
              refine g_f rfl rfl rfl ?_
              refine n_ (x_pk rfl rfl rfl ?_)
              refine n_ (x_as rfl rfl ?_)
              refine z_ ?_
              cases hm
              exact w_ [] (.cons rfl rfl .nil) .nil (by decide) (hB_0 hB0)
          · rw [if_neg (by rw [hb9]; decide)] at hm
            refine g_f rfl rfl rfl ?_
            refine g_f rfl rfl rfl ?_
            refine g_f rfl rfl rfl ?_
            refine n_ (x_pk rfl rfl rfl ?_)
            refine n_ (x_mv rfl rfl ?_)
            refine g_f rfl rfl rfl ?_
            refine g_f rfl rfl rfl ?_
            refine g_f rfl rfl rfl ?_
            refine n_ (x_pk rfl rfl rfl ?_)
            refine n_ (x_mv rfl rfl ?_)
            refine g_f rfl rfl rfl ?_
            refine g_f rfl rfl rfl ?_
            refine g_f rfl rfl rfl ?_
            refine n_ (x_pk rfl rfl rfl ?_)
            refine n_ (x_mv rfl rfl ?_)
            refine g_f rfl rfl rfl ?_
            refine g_f rfl rfl rfl ?_
            refine g_f rfl rfl rfl ?_
            refine n_ (x_pk rfl rfl rfl ?_)
            refine n_ (x_mv rfl rfl ?_)
            refine g_f rfl rfl rfl ?_
            refine g_f rfl rfl rfl ?_
            refine g_f rfl rfl rfl ?_
            refine g_f rfl rfl rfl ?_
            refine g_u rfl rfl rfl ?_
            refine g_u rfl rfl rfl ?_
            refine g_u rfl rfl rfl ?_
            refine g_f rfl rfl rfl ?_
            refine n_ (x_pk rfl rfl rfl ?_)
            refine n_ (x_as rfl rfl ?_)
            refine z_ ?_
            cases hm
            exact w_ [] (.cons rfl rfl .nil) .nil (by decide) (hB_0 hB0)
        · rw [if_neg (by rw [hb7]; decide)] at hm
          refine g_f rfl rfl rfl ?_
          refine g_f rfl rfl rfl ?_
          refine g_f rfl rfl rfl ?_
          refine g_f rfl rfl rfl ?_
          refine g_f rfl rfl rfl ?_
          refine n_ (x_pk rfl rfl rfl ?_)
          refine n_ (x_mv rfl rfl ?_)
          refine g_f rfl rfl rfl ?_
          refine g_f rfl rfl rfl ?_
          refine g_f rfl rfl rfl ?_
          refine n_ (x_pk rfl rfl rfl ?_)
          refine n_ (x_mv rfl rfl ?_)
          refine g_f rfl rfl rfl ?_
          refine g_f rfl rfl rfl ?_
          refine g_f rfl rfl rfl ?_
          refine n_ (x_pk rfl rfl rfl ?_)
          refine n_ (x_mv rfl rfl ?_)
          refine g_f rfl rfl rfl ?_
          refine g_f rfl rfl rfl ?_
          refine g_f rfl rfl rfl ?_
          refine n_ (x_pk rfl rfl rfl ?_)
          refine n_ (x_mv rfl rfl ?_)
          refine g_f rfl rfl rfl ?_
          refine g_f rfl rfl rfl ?_
          refine g_f rfl rfl rfl ?_
          refine n_ (x_pk rfl rfl rfl ?_)
          refine n_ (x_mv rfl rfl ?_)
          refine g_f rfl rfl rfl ?_
          refine g_f rfl rfl rfl ?_
          refine g_f rfl rfl rfl ?_
          refine g_f rfl rfl rfl ?_
          refine g_u rfl rfl rfl ?_
          refine g_u rfl rfl rfl ?_
          refine g_u rfl rfl rfl ?_
          refine g_f rfl rfl rfl ?_
          refine n_ (x_pk rfl rfl rfl ?_)
          refine n_ (x_as rfl rfl ?_)
          refine z_ ?_
          cases hm
          exact w_ [] (.cons rfl rfl .nil) .nil (by decide) (hB_0 hB0)
      · refine c_ret ?_
        rw [← Option.some.inj hm]
        exact ret0 (us' := [.one (.bool j6)]) rfl (r_tmp rfl rfl rfl r_nil) f_done rfl rfl
    · rw [if_neg (by rw [hb5]; decide)] at hm
      refine Wp.seq ?_
      refine c_reg (Y := sysA _) ?_
      refine n_ (x_fap rfl F78_0 rfl rfl ?_)
      refine n_ (x_ldp rfl T2 rfl rfl rfl rfl rfl ?_)
      refine n_ (x_bin T2 rfl rfl rfl ?_)
      refine n_ (x_as rfl rfl ?_)
      refine z_ ?_
      refine c_s rfl rfl (fun hb16 => ?_) (fun hb16 => ?_)
      · rw [if_pos (show _ = true from hb16)] at hm
        refine Wp.seq ?_
        refine c_reg (Y := sysA _) ?_
        refine n_ (x_ldp rfl T78 rfl rfl rfl (pk_all rfl rfl) rfl ?_)
        refine n_ (x_bu (cells := (eMIns (({ op_ := 34, w := 0, d := 0, a := 0, b := 0, c := 0, imm := 0 } : GMIns)))) T78 rfl rfl rfl ?_)
        refine n_ (x_eqs [i.op_, i.w, i.d, i.a, i.b, i.c, i.imm] [(({ op_ := 34, w := 0, d := 0, a := 0, b := 0, c := 0, imm := 0 } : GMIns)).op_, (({ op_ := 34, w := 0, d := 0, a := 0, b := 0, c := 0, imm := 0 } : GMIns)).w, (({ op_ := 34, w := 0, d := 0, a := 0, b := 0, c := 0, imm := 0 } : GMIns)).d, (({ op_ := 34, w := 0, d := 0, a := 0, b := 0, c := 0, imm := 0 } : GMIns)).a, (({ op_ := 34, w := 0, d := 0, a := 0, b := 0, c := 0, imm := 0 } : GMIns)).b, (({ op_ := 34, w := 0, d := 0, a := 0, b := 0, c := 0, imm := 0 } : GMIns)).c, (({ op_ := 34, w := 0, d := 0, a := 0, b := 0, c := 0, imm := 0 } : GMIns)).imm] rfl rfl rfl rfl S78 rfl ?_)
        refine n_ (x_as rfl rfl ?_)
        refine z_ ?_
        refine c_ret ?_
        rw [← Option.some.inj hm]
        exact ret0 (us' := [.one (.bool (([i.op_, i.w, i.d, i.a, i.b, i.c, i.imm] == ([(({ op_ := 34, w := 0, d := 0, a := 0, b := 0, c := 0, imm := 0 } : GMIns)).op_, (({ op_ := 34, w := 0, d := 0, a := 0, b := 0, c := 0, imm := 0 } : GMIns)).w, (({ op_ := 34, w := 0, d := 0, a := 0, b := 0, c := 0, imm := 0 } : GMIns)).d, (({ op_ := 34, w := 0, d := 0, a := 0, b := 0, c := 0, imm := 0 } : GMIns)).a, (({ op_ := 34, w := 0, d := 0, a := 0, b := 0, c := 0, imm := 0 } : GMIns)).b, (({ op_ := 34, w := 0, d := 0, a := 0, b := 0, c := 0, imm := 0 } : GMIns)).c, (({ op_ := 34, w := 0, d := 0, a := 0, b := 0, c := 0, imm := 0 } : GMIns)).imm] : List Int))))]) rfl (r_tmp rfl rfl rfl r_nil) f_done rfl rfl
      · rw [if_neg (by rw [hb16]; decide)] at hm
        refine Wp.seq ?_
        refine c_cut (St 275 [(1, .u (.one (.int .i64 regs))), (3, .u (.one (.ptr () 0 0 0))), (7, .u (.one (.bool x1))), (65, .u (.one (.bool (((i.op_ == 33) || (i.op_ == 35))))))] [(0, some ⟨(), 7, [(eMIns i)]⟩)] 1) ?_ ?_
        · refine c_reg (Y := sysA _) ?_
          refine n_ (x_fap rfl F78_0 rfl rfl ?_)
          refine n_ (x_ldp rfl T2 rfl rfl rfl rfl rfl ?_)
          refine n_ (x_bin T2 rfl rfl rfl ?_)
          refine n_ (x_mv rfl rfl ?_)
          refine g_s rfl rfl rfl (fun hb18 => ?_) (fun hb18 => ?_)
          · refine g_t rfl rfl rfl ?_
            refine n_ (x_fap rfl F78_0 rfl rfl ?_)
            refine g_t rfl rfl rfl ?_
            refine n_ (x_ldp rfl T2 rfl rfl rfl rfl rfl ?_)
            refine g_t rfl rfl rfl ?_
            refine n_ (x_bin T2 rfl rfl rfl ?_)
            refine n_ (x_pk rfl rfl rfl ?_)
            refine n_ (x_as rfl rfl ?_)
            refine z_ ?_
            exact w_ [0] (.cons rfl rfl (.cons rfl rfl (.cons rfl rfl (.cons (by simp only [hb18, eq_self, if_true, Bool.false_eq_true, if_false, Bool.true_or, Bool.false_or, Bool.true_and, Bool.false_and, Bool.not_true, Bool.not_false]; rfl) rfl .nil)))) (.lit rfl rfl .nil) (by decide) (hB_0 hB0)
          · refine g_f rfl rfl rfl ?_
            refine g_f rfl rfl rfl ?_
            refine g_f rfl rfl rfl ?_
            refine n_ (x_pk rfl rfl rfl ?_)
            refine n_ (x_as rfl rfl ?_)
            refine z_ ?_
            exact w_ [0] (.cons rfl rfl (.cons rfl rfl (.cons rfl rfl (.cons (by simp only [hb18, eq_self, if_true, Bool.false_eq_true, if_false, Bool.true_or, Bool.false_or, Bool.true_and, Bool.false_and, Bool.not_true, Bool.not_false]; rfl) rfl .nil)))) (.lit rfl rfl .nil) (by decide) (hB_0 hB0)
        · refine c_s rfl rfl (fun hb19 => ?_) (fun hb19 => ?_)
          · rw [if_pos (show _ = true from hb19)] at hm
            refine Wp.seq ?_
            refine c_cut (St 275 [(6, .u (.one (.bool ((if x1 = true then (if (spec_WidthOk_m i.w) = true then ((i.imm == 0) && ((i.b == 0) && ((i.c == 0) && ((i.op_ == 35) || (i.d == 0))))) else false) else false)))))] [] 0) ?_ ?_
            · refine c_reg (Y := sysA _) ?_
              refine n_ (x_mv rfl rfl ?_)
              refine n_ (x_mv rfl rfl ?_)
              refine g_s rfl rfl rfl (fun hb21 => ?_) (fun hb21 => ?_)
              · refine g_t rfl rfl rfl ?_
                refine n_ (x_fap rfl F78_1 rfl rfl ?_)
                refine g_t rfl rfl rfl ?_
                refine n_ (x_ldp rfl T2 rfl rfl rfl rfl rfl ?_)
                refine g_t rfl rfl rfl ?_
                refine n_ (aopK_A (x_call (v := .u (.one (.bool ((spec_WidthOk_m i.w))))) (nobs := []) (oa' := _) (nx' := 1) rfl (a_1 rfl (b_s rfl) a_n) c_n ent50 (spec_WidthOk_sim i.w) rfl rfl rfl rfl ?_))
                refine n_ (x_pk rfl rfl rfl ?_)
                refine n_ (x_mv rfl rfl ?_)
                refine g_s rfl rfl rfl (fun hb22 => ?_) (fun hb22 => ?_)
                · refine g_t rfl rfl rfl ?_
                  refine n_ (x_fap rfl F78_6 rfl rfl ?_)
                  refine g_t rfl rfl rfl ?_
                  refine n_ (x_ldp rfl T2 rfl rfl rfl rfl rfl ?_)
                  refine g_t rfl rfl rfl ?_
                  refine n_ (x_bin T2 rfl rfl rfl ?_)
                  refine n_ (x_pk rfl rfl rfl ?_)
                  refine n_ (x_mv rfl rfl ?_)
                  refine g_s rfl rfl rfl (fun hb23 => ?_) (fun hb23 => ?_)
                  · refine g_t rfl rfl rfl ?_
                    refine n_ (x_fap rfl F78_4 rfl rfl ?_)
                    refine g_t rfl rfl rfl ?_
                    refine n_ (x_ldp rfl T2 rfl rfl rfl rfl rfl ?_)
                    refine g_t rfl rfl rfl ?_
                    refine n_ (x_bin T2 rfl rfl rfl ?_)
                    refine n_ (x_pk rfl rfl rfl ?_)
                    refine n_ (x_mv rfl rfl ?_)
                    refine g_s rfl rfl rfl (fun hb24 => ?_) (fun hb24 => ?_)
                    · refine g_t rfl rfl rfl ?_
                      refine n_ (x_fap rfl F78_5 rfl rfl ?_)
                      refine g_t rfl rfl rfl ?_
                      refine n_ (x_ldp rfl T2 rfl rfl rfl rfl rfl ?_)
                      refine g_t rfl rfl rfl ?_
                      refine n_ (x_bin T2 rfl rfl rfl ?_)
                      refine n_ (x_pk rfl rfl rfl ?_)
                      refine n_ (x_mv rfl rfl ?_)
                      refine g_s rfl rfl rfl (fun hb25 => ?_) (fun hb25 => ?_)
                      · refine g_t rfl rfl rfl ?_
                        refine n_ (x_fap rfl F78_0 rfl rfl ?_)
                        refine g_t rfl rfl rfl ?_
                        refine n_ (x_ldp rfl T2 rfl rfl rfl rfl rfl ?_)
                        refine g_t rfl rfl rfl ?_
                        refine n_ (x_bin T2 rfl rfl rfl ?_)
                        refine g_t rfl rfl rfl ?_
                        refine n_ (x_mv rfl rfl ?_)
                        refine g_s rfl rfl rfl (fun hb26 => ?_) (fun hb26 => ?_)
                        · refine g_t rfl rfl rfl ?_
                          refine n_ (x_fap rfl F78_2 rfl rfl ?_)
                          refine g_t rfl rfl rfl ?_
                          refine n_ (x_ldp rfl T2 rfl rfl rfl rfl rfl ?_)
                          refine g_t rfl rfl rfl ?_
                          refine n_ (x_bin T2 rfl rfl rfl ?_)
                          refine g_t rfl rfl rfl ?_
                          refine n_ (x_pk rfl rfl rfl ?_)
                          refine n_ (x_pk rfl rfl rfl ?_)
                          refine n_ (x_as rfl rfl ?_)
                          refine z_ ?_
                          exact w_ [] (.cons (by simp only [hb21, hb22, hb23, hb24, hb25, hb26, eq_self, if_true, Bool.false_eq_true, if_false, Bool.true_or, Bool.false_or, Bool.true_and, Bool.false_and, Bool.not_true, Bool.not_false]; rfl) rfl .nil) .nil (by decide) (hB_0 hB0)
                        · refine g_f rfl rfl rfl ?_
                          refine g_f rfl rfl rfl ?_
                          refine g_f rfl rfl rfl ?_
                          refine g_t rfl rfl rfl ?_
                          refine n_ (x_pk rfl rfl rfl ?_)
                          refine n_ (x_pk rfl rfl rfl ?_)
                          refine n_ (x_as rfl rfl ?_)
                          refine z_ ?_
                          exact w_ [] (.cons (by simp only [hb21, hb22, hb23, hb24, hb25, hb26, eq_self, if_true, Bool.false_eq_true, if_false, Bool.true_or, Bool.false_or, Bool.true_and, Bool.false_and, Bool.not_true, Bool.not_false]; rfl) rfl .nil) .nil (by decide) (hB_0 hB0)
                      · refine g_f rfl rfl rfl ?_
                        refine g_f rfl rfl rfl ?_
                        refine g_f rfl rfl rfl ?_
                        refine g_f rfl rfl rfl ?_
                        refine g_u rfl rfl rfl ?_
                        refine g_u rfl rfl rfl ?_
                        refine g_u rfl rfl rfl ?_
                        refine g_f rfl rfl rfl ?_
                        refine n_ (x_pk rfl rfl rfl ?_)
                        refine n_ (x_as rfl rfl ?_)
                        refine z_ ?_
                        exact w_ [] (.cons (by simp only [hb21, hb22, hb23, hb24, hb25, eq_self, if_true, Bool.false_eq_true, if_false, Bool.true_or, Bool.false_or, Bool.true_and, Bool.false_and, Bool.not_true, Bool.not_false]; rfl) rfl .nil) .nil (by decide) (hB_0 hB0)
                    · refine g_f rfl rfl rfl ?_
                      refine g_f rfl rfl rfl ?_
                      refine g_f rfl rfl rfl ?_
                      refine n_ (x_pk rfl rfl rfl ?_)
                      refine n_ (x_mv rfl rfl ?_)
                      refine g_f rfl rfl rfl ?_
                      refine g_f rfl rfl rfl ?_
                      refine g_f rfl rfl rfl ?_
                      refine g_f rfl rfl rfl ?_
                      refine g_u rfl rfl rfl ?_
                      refine g_u rfl rfl rfl ?_
                      refine g_u rfl rfl rfl ?_
                      refine g_f rfl rfl rfl ?_
                      refine n_ (x_pk rfl rfl rfl ?_)
                      refine n_ (x_as rfl rfl ?_)
                      refine z_ ?_
                      exact w_ [] (.cons (by simp only [hb21, hb22, hb23, hb24, eq_self, if_true, Bool.false_eq_true, if_false, Bool.true_or, Bool.false_or, Bool.true_and, Bool.false_and, Bool.not_true, Bool.not_false]; rfl) rfl .nil) .nil (by decide) (hB_0 hB0)
                  · refine g_f rfl rfl rfl ?_
                    refine g_f rfl rfl rfl ?_
                    refine g_f rfl rfl rfl ?_
                    refine n_ (x_pk rfl rfl rfl ?_)
                    refine n_ (x_mv rfl rfl ?_)
                    refine g_f rfl rfl rfl ?_
                    refine g_f rfl rfl rfl ?_
                    refine g_f rfl rfl rfl ?_
                    refine n_ (x_pk rfl rfl rfl ?_)
                    refine n_ (x_mv rfl rfl ?_)
                    refine g_f rfl rfl rfl ?_
                    refine g_f rfl rfl rfl ?_
                    refine g_f rfl rfl rfl ?_
                    refine g_f rfl rfl rfl ?_
                    refine g_u rfl rfl rfl ?_
                    refine g_u rfl rfl rfl ?_
                    refine g_u rfl rfl rfl ?_
                    refine g_f rfl rfl rfl ?_
                    refine n_ (x_pk rfl rfl rfl ?_)
                    refine n_ (x_as rfl rfl ?_)
                    refine z_ ?_
                    exact w_ [] (.cons (by simp only [hb21, hb22, hb23, eq_self, if_true, Bool.false_eq_true, if_false, Bool.true_or, Bool.false_or, Bool.true_and, Bool.false_and, Bool.not_true, Bool.not_false]; rfl) rfl .nil) .nil (by decide) (hB_0 hB0)
                · refine g_f rfl rfl rfl ?_
                  refine g_f rfl rfl rfl ?_
                  refine g_f rfl rfl rfl ?_
                  refine n_ (x_pk rfl rfl rfl ?_)
                  refine n_ (x_mv rfl rfl ?_)
                  refine g_f rfl rfl rfl ?_
                  refine g_f rfl rfl rfl ?_
                  refine g_f rfl rfl rfl ?_
                  refine n_ (x_pk rfl rfl rfl ?_)
                  refine n_ (x_mv rfl rfl ?_)
                  refine g_f rfl rfl rfl ?_
                  refine g_f rfl rfl rfl ?_
                  refine g_f rfl rfl rfl ?_
                  refine n_ (x_pk rfl rfl rfl ?_)
                  refine n_ (x_mv rfl rfl ?_)
                  refine g_f rfl rfl rfl ?_
                  refine g_f rfl rfl rfl ?_
                  refine g_f rfl rfl rfl ?_
                  refine g_f rfl rfl rfl ?_
                  refine g_u rfl rfl rfl ?_
                  refine g_u rfl rfl rfl ?_
                  refine g_u rfl rfl rfl ?_
                  refine g_f rfl rfl rfl ?_
                  refine n_ (x_pk rfl rfl rfl ?_)
                  refine n_ (x_as rfl rfl ?_)
                  refine z_ ?_
                  exact w_ [] (.cons (by simp only [hb21, hb22, eq_self, if_true, Bool.false_eq_true, if_false, Bool.true_or, Bool.false_or, Bool.true_and, Bool.false_and, Bool.not_true, Bool.not_false]; rfl) rfl .nil) .nil (by decide) (hB_0 hB0)
              · refine g_f rfl rfl rfl ?_
                refine g_f rfl rfl rfl ?_
                refine g_f rfl rfl rfl ?_
                refine n_ (x_pk rfl rfl rfl ?_)
                refine n_ (x_mv rfl rfl ?_)
                refine g_f rfl rfl rfl ?_
                refine g_f rfl rfl rfl ?_
                refine g_f rfl rfl rfl ?_
                refine n_ (x_pk rfl rfl rfl ?_)
                refine n_ (x_mv rfl rfl ?_)
                refine g_f rfl rfl rfl ?_
                refine g_f rfl rfl rfl ?_
                refine g_f rfl rfl rfl ?_
                refine n_ (x_pk rfl rfl rfl ?_)
                refine n_ (x_mv rfl rfl ?_)
                refine g_f rfl rfl rfl ?_
                refine g_f rfl rfl rfl ?_
                refine g_f rfl rfl rfl ?_
                refine n_ (x_pk rfl rfl rfl ?_)
                refine n_ (x_mv rfl rfl ?_)
                refine g_f rfl rfl rfl ?_
                refine g_f rfl rfl rfl ?_
                refine g_f rfl rfl rfl ?_
                refine g_f rfl rfl rfl ?_
                refine g_u rfl rfl rfl ?_
                refine g_u rfl rfl rfl ?_
                refine g_u rfl rfl rfl ?_
                refine g_f rfl rfl rfl ?_
                refine n_ (x_pk rfl rfl rfl ?_)
                refine n_ (x_as rfl rfl ?_)
                refine z_ ?_
                exact w_ [] (.cons (by simp only [hb21, eq_self, if_true, Bool.false_eq_true, if_false, Bool.true_or, Bool.false_or, Bool.true_and, Bool.false_and, Bool.not_true, Bool.not_false]; rfl) rfl .nil) .nil (by decide) (hB_0 hB0)
            · refine c_ret ?_
              rw [← Option.some.inj hm]
              exact ret0 (us' := [.one (.bool ((if x1 = true then (if (spec_WidthOk_m i.w) = true then ((i.imm == 0) && ((i.b == 0) && ((i.c == 0) && ((i.op_ == 35) || (i.d == 0))))) else false) else false)))]) rfl (r_tmp rfl rfl rfl r_nil) f_done rfl rfl
          · rw [if_neg (by rw [hb19]; decide)] at hm
            refine Wp.seq ?_
            refine c_reg (Y := sysA _) ?_
            refine n_ (x_fap rfl F78_0 rfl rfl ?_)
            refine n_ (x_ldp rfl T2 rfl rfl rfl rfl rfl ?_)
            refine n_ (x_bin T2 rfl rfl rfl ?_)
            refine n_ (x_as rfl rfl ?_)
            refine z_ ?_
            refine c_s rfl rfl (fun hb27 => ?_) (fun hb27 => ?_)
            · rw [if_pos (show _ = true from hb27)] at hm
              refine Wp.seq ?_
              obtain ⟨j28, hj35, hm⟩ := of_bind hm
              refine c_cut (St 275 [(6, .u (.one (.bool j28)))] [] 0) ?_ ?_
              · replace hm := hj35
                refine c_reg (Y := sysA _) ?_
                refine n_ (x_mv rfl rfl ?_)
                refine n_ (x_mv rfl rfl ?_)
                refine g_s rfl rfl rfl (fun hb29 => ?_) (fun hb29 => ?_)
                · rw [if_pos (show _ = true from hb29)] at hm
                  refine g_t rfl rfl rfl ?_
                  refine n_ (x_fap rfl F78_1 rfl rfl ?_)
                  refine g_t rfl rfl rfl ?_
                  refine n_ (x_ldp rfl T2 rfl rfl rfl rfl rfl ?_)
                  refine g_t rfl rfl rfl ?_
                  refine n_ (x_fap rfl F78_6 rfl rfl ?_)
                  refine g_t rfl rfl rfl ?_
                  refine n_ (x_ldp rfl T2 rfl rfl rfl rfl rfl ?_)
                  refine g_t rfl rfl rfl ?_
                  obtain ⟨x30, h31, hm⟩ := of_bind hm
                  refine n_ (aopK_A (x_call (v := .u (.one (.bool x30))) (nobs := []) (oa' := _) (nx' := 1) rfl (a_1 rfl (b_s rfl) (a_1 rfl (b_s rfl) a_n)) c_n ent95 (spec_l1Value_sim i.w i.imm h31) rfl rfl rfl rfl ?_))
                  refine n_ (x_pk rfl rfl rfl ?_)
                  refine n_ (x_mv rfl rfl ?_)
                  refine g_s rfl rfl rfl (fun hb32 => ?_) (fun hb32 => ?_)
                  · rw [if_pos (show _ = true from hb32)] at hm
                    refine g_t rfl rfl rfl ?_
                    refine n_ (x_fap rfl F78_3 rfl rfl ?_)
                    refine g_t rfl rfl rfl ?_
                    refine n_ (x_ldp rfl T2 rfl rfl rfl rfl rfl ?_)
                    refine g_t rfl rfl rfl ?_
                    refine n_ (x_bin T2 rfl rfl rfl ?_)
                    refine n_ (x_pk rfl rfl rfl ?_)
                    refine n_ (x_mv rfl rfl ?_)
                    refine g_s rfl rfl rfl (fun hb33 => ?_) (fun hb33 => ?_)
                    · rw [if_pos (show _ = true from hb33)] at hm
                      refine g_t rfl rfl rfl ?_
                      refine n_ (x_fap rfl F78_4 rfl rfl ?_)
                      refine g_t rfl rfl rfl ?_
                      refine n_ (x_ldp rfl T2 rfl rfl rfl rfl rfl ?_)
                      refine g_t rfl rfl rfl ?_
                      refine n_ (x_bin T2 rfl rfl rfl ?_)
                      refine n_ (x_pk rfl rfl rfl ?_)
                      refine n_ (x_mv rfl rfl ?_)
                      refine g_s rfl rfl rfl (fun hb34 => ?_) (fun hb34 => ?_)
                      · rw [if_pos (show _ = true from hb34)] at hm
                        refine g_t rfl rfl rfl ?_
                        refine n_ (x_fap rfl F78_5 rfl rfl ?_)
                        refine g_t rfl rfl rfl ?_
                        refine n_ (x_ldp rfl T2 rfl rfl rfl rfl rfl ?_)
                        refine g_t rfl rfl rfl ?_
                        refine n_ (x_bin T2 rfl rfl rfl ?_)
                        refine n_ (x_pk rfl rfl rfl ?_)
                        refine n_ (x_as rfl rfl ?_)
                        refine z_ ?_
                        cases hm
                        exact w_ [] (.cons rfl rfl .nil) .nil (by decide) (hB_0 hB0)
                      · rw [if_neg (by rw [hb34]; decide)] at hm
                        refine g_f rfl rfl rfl ?_
                        refine g_f rfl rfl rfl ?_
                        refine g_f rfl rfl rfl ?_
                        refine n_ (x_pk rfl rfl rfl ?_)
                        refine n_ (x_as rfl rfl ?_)
                        refine z_ ?_
                        cases hm
                        exact w_ [] (.cons rfl rfl .nil) .nil (by decide) (hB_0 hB0)
                    · rw [if_neg (by rw [hb33]; decide)] at hm
                      refine g_f rfl rfl rfl ?_
                      refine g_f rfl rfl rfl ?_
                      refine g_f rfl rfl rfl ?_
                      refine n_ (x_pk rfl rfl rfl ?_)
                      refine n_ (x_mv rfl rfl ?_)
                      refine g_f rfl rfl rfl ?_
                      refine g_f rfl rfl rfl ?_
                      refine g_f rfl rfl rfl ?_
                      refine n_ (x_pk rfl rfl rfl ?_)
                      refine n_ (x_as rfl rfl ?_)
                      refine z_ ?_
                      cases hm
                      exact w_ [] (.cons rfl rfl .nil) .nil (by decide) (hB_0 hB0)
                  · rw [if_neg (by rw [hb32]; decide)] at hm
                    refine g_f rfl rfl rfl ?_
                    refine g_f rfl rfl rfl ?_
                    refine g_f rfl rfl rfl ?_
                    refine n_ (x_pk rfl rfl rfl ?_)
                    refine n_ (x_mv rfl rfl ?_)
                    refine g_f rfl rfl rfl ?_
                    refine g_f rfl rfl rfl ?_
                    refine g_f rfl rfl rfl ?_
                    refine n_ (x_pk rfl rfl rfl ?_)
                    refine n_ (x_mv rfl rfl ?_)
                    refine g_f rfl rfl rfl ?_
                    refine g_f rfl rfl rfl ?_
                    refine g_f rfl rfl rfl ?_
                    refine n_ (x_pk rfl rfl rfl ?_)
                    refine n_ (x_as rfl rfl ?_)
                    refine z_ ?_
                    cases hm
                    exact w_ [] (.cons rfl rfl .nil) .nil (by decide) (hB_0 hB0)
                · rw [if_neg (by rw [hb29]; decide)] at hm
                  refine g_f rfl rfl rfl ?_
                  refine g_f rfl rfl rfl ?_
                  refine g_f rfl rfl rfl ?_
                  refine g_f rfl rfl rfl ?_
                  refine g_f rfl rfl rfl ?_
                  refine n_ (x_pk rfl rfl rfl ?_)
                  refine n_ (x_mv rfl rfl ?_)
                  refine g_f rfl rfl rfl ?_
                  refine g_f rfl rfl rfl ?_
                  refine g_f rfl rfl rfl ?_
                  refine n_ (x_pk rfl rfl rfl ?_)
                  refine n_ (x_mv rfl rfl ?_)
                  refine g_f rfl rfl rfl ?_
                  refine g_f rfl rfl rfl ?_
                  refine g_f rfl rfl rfl ?_
                  refine n_ (x_pk rfl rfl rfl ?_)
                  refine n_ (x_mv rfl rfl ?_)
                  refine g_f rfl rfl rfl ?_
                  refine g_f rfl rfl rfl ?_
                  refine g_f rfl rfl rfl ?_
                  refine n_ (x_pk rfl rfl rfl ?_)
                  refine n_ (x_as rfl rfl ?_)
                  refine z_ ?_
                  cases hm
                  exact w_ [] (.cons rfl rfl .nil) .nil (by decide) (hB_0 hB0)
              · refine c_ret ?_
                rw [← Option.some.inj hm]
                exact ret0 (us' := [.one (.bool j28)]) rfl (r_tmp rfl rfl rfl r_nil) f_done rfl rfl
            · rw [if_neg (by rw [hb27]; decide)] at hm
              refine Wp.seq ?_
              refine c_reg (Y := sysA _) ?_
              refine n_ (x_fap rfl F78_6 rfl rfl ?_)
              refine n_ (x_ldp rfl T2 rfl rfl rfl rfl rfl ?_)
              refine n_ (x_bin T2 rfl rfl rfl ?_)
              refine n_ (x_as rfl rfl ?_)
              refine z_ ?_
              refine c_s rfl rfl (fun hb36 => ?_) (fun hb36 => ?_)
              · rw [if_pos (show _ = true from hb36)] at hm
                refine Wp.seq ?_
                refine c_reg (Y := sysA _) ?_
                refine n_ (x_as rfl rfl ?_)
                refine z_ ?_
                refine c_ret ?_
                rw [← Option.some.inj hm]
                exact ret0 (us' := [.one (.bool false)]) rfl (r_tmp rfl rfl rfl r_nil) f_done rfl rfl
              · rw [if_neg (by rw [hb36]; decide)] at hm
                refine Wp.seq ?_
                refine c_reg (Y := sysA _) ?_
                refine n_ (x_fap rfl F78_0 rfl rfl ?_)
                refine n_ (x_ldp rfl T2 rfl rfl rfl rfl rfl ?_)
                refine n_ (aopK_A (x_call (v := .u (.one (.bool ((spec_l1In_m i.op_ 1 17))))) (nobs := []) (oa' := _) (nx' := 1) rfl (a_1 rfl (b_s rfl) (a_1 rfl (b_s rfl) (a_1 rfl (b_s rfl) a_n))) c_n ent49 (spec_l1In_sim i.op_ 1 17) rfl rfl rfl rfl ?_))
                refine n_ (x_as rfl rfl ?_)
                refine z_ ?_
                refine c_s rfl rfl (fun hb37 => ?_) (fun hb37 => ?_)
                · rw [if_pos (show _ = true from hb37)] at hm
                  refine Wp.seq ?_
                  refine c_cut (St 275 [(6, .u (.one (.bool ((x1 && ((spec_WidthOk_m i.w) && (i.c == 0)))))))] [] 0) ?_ ?_
                  · refine c_reg (Y := sysA _) ?_
                    refine n_ (x_mv rfl rfl ?_)
                    refine n_ (x_mv rfl rfl ?_)
                    refine g_s rfl rfl rfl (fun hb39 => ?_) (fun hb39 => ?_)
                    · refine g_t rfl rfl rfl ?_
                      refine n_ (x_fap rfl F78_1 rfl rfl ?_)
                      refine g_t rfl rfl rfl ?_
                      refine n_ (x_ldp rfl T2 rfl rfl rfl rfl rfl ?_)
                      refine g_t rfl rfl rfl ?_
                      refine n_ (aopK_A (x_call (v := .u (.one (.bool ((spec_WidthOk_m i.w))))) (nobs := []) (oa' := _) (nx' := 1) rfl (a_1 rfl (b_s rfl) a_n) c_n ent50 (spec_WidthOk_sim i.w) rfl rfl rfl rfl ?_))
                      refine n_ (x_pk rfl rfl rfl ?_)
                      refine n_ (x_mv rfl rfl ?_)
                      refine g_s rfl rfl rfl (fun hb40 => ?_) (fun hb40 => ?_)
                      · refine g_t rfl rfl rfl ?_
                        refine n_ (x_fap rfl F78_5 rfl rfl ?_)
                        refine g_t rfl rfl rfl ?_
                        refine n_ (x_ldp rfl T2 rfl rfl rfl rfl rfl ?_)
                        refine g_t rfl rfl rfl ?_
                        refine n_ (x_bin T2 rfl rfl rfl ?_)
                        refine n_ (x_pk rfl rfl rfl ?_)
                        refine n_ (x_as rfl rfl ?_)
                        refine z_ ?_
                        exact w_ [] (.cons (by simp only [hb39, hb40, eq_self, if_true, Bool.false_eq_true, if_false, Bool.true_or, Bool.false_or, Bool.true_and, Bool.false_and, Bool.not_true, Bool.not_false]; rfl) rfl .nil) .nil (by decide) (hB_0 hB0)
                      · refine g_f rfl rfl rfl ?_
                        refine g_f rfl rfl rfl ?_
                        refine g_f rfl rfl rfl ?_
                        refine n_ (x_pk rfl rfl rfl ?_)
                        refine n_ (x_as rfl rfl ?_)
                        refine z_ ?_
                        exact w_ [] (.cons (by simp only [hb39, hb40, eq_self, if_true, Bool.false_eq_true, if_false, Bool.true_or, Bool.false_or, Bool.true_and, Bool.false_and, Bool.not_true, Bool.not_false]; rfl) rfl .nil) .nil (by decide) (hB_0 hB0)
                    · refine g_f rfl rfl rfl ?_
                      refine g_f rfl rfl rfl ?_
                      refine g_f rfl rfl rfl ?_
                      refine n_ (x_pk rfl rfl rfl ?_)
                      refine n_ (x_mv rfl rfl ?_)
                      refine g_f rfl rfl rfl ?_
                      refine g_f rfl rfl rfl ?_
                      refine g_f rfl rfl rfl ?_
                      refine n_ (x_pk rfl rfl rfl ?_)
                      refine n_ (x_as rfl rfl ?_)
                      refine z_ ?_
                      exact w_ [] (.cons (by simp only [hb39, eq_self, if_true, Bool.false_eq_true, if_false, Bool.true_or, Bool.false_or, Bool.true_and, Bool.false_and, Bool.not_true, Bool.not_false]; rfl) rfl .nil) .nil (by decide) (hB_0 hB0)
                  · refine c_ret ?_
                    rw [← Option.some.inj hm]
                    exact ret0 (us' := [.one (.bool ((x1 && ((spec_WidthOk_m i.w) && (i.c == 0)))))]) rfl (r_tmp rfl rfl rfl r_nil) f_done rfl rfl
                · rw [if_neg (by rw [hb37]; decide)] at hm
                  refine Wp.seq ?_
                  refine c_reg (Y := sysA _) ?_
                  refine n_ (x_fap rfl F78_0 rfl rfl ?_)
                  refine n_ (x_ldp rfl T2 rfl rfl rfl rfl rfl ?_)
                  refine n_ (aopK_A (x_call (v := .u (.one (.bool ((spec_l1In_m i.op_ 18 20))))) (nobs := []) (oa' := _) (nx' := 1) rfl (a_1 rfl (b_s rfl) (a_1 rfl (b_s rfl) (a_1 rfl (b_s rfl) a_n))) c_n ent49 (spec_l1In_sim i.op_ 18 20) rfl rfl rfl rfl ?_))
                  refine n_ (x_as rfl rfl ?_)
                  refine z_ ?_
                  refine c_s rfl rfl (fun hb41 => ?_) (fun hb41 => ?_)
                  · rw [if_pos (show _ = true from hb41)] at hm
                    refine Wp.seq ?_
                    obtain ⟨j42, hj51, hm⟩ := of_bind hm
                    refine c_cut (St 275 [(6, .u (.one (.bool j42)))] [] 0) ?_ ?_
                    · replace hm := hj51
                      refine c_reg (Y := sysA _) ?_
                      refine n_ (x_fap rfl F78_2 rfl rfl ?_)
                      refine n_ (x_ldp rfl T2 rfl rfl rfl rfl rfl ?_)
                      refine n_ (x_mv rfl rfl ?_)
                      obtain ⟨h43, hm⟩ := of_ite hm
                      refine n_ (x_subc T2 rfl rfl h43 ?_)
                      refine n_ (aopK_A (x_call (v := .u (.one (.bool ((spec_l1In_m i.d 0 (regs - 1)))))) (nobs := []) (oa' := _) (nx' := 1) rfl (a_1 rfl (b_s rfl) (a_1 rfl (b_s rfl) (a_1 rfl (b_s rfl) a_n))) c_n ent49 (spec_l1In_sim i.d 0 (regs - 1)) rfl rfl rfl rfl ?_))
                      refine n_ (x_mv rfl rfl ?_)
                      refine g_s rfl rfl rfl (fun hb44 => ?_) (fun hb44 => ?_)
                      · rw [if_pos (show _ = true from hb44)] at hm
                        refine g_t rfl rfl rfl ?_
                        refine n_ (x_fap rfl F78_3 rfl rfl ?_)
                        refine g_t rfl rfl rfl ?_
                        refine n_ (x_ldp rfl T2 rfl rfl rfl rfl rfl ?_)
                        refine g_t rfl rfl rfl ?_
                        refine n_ (x_mv rfl rfl ?_)
                        refine g_t rfl rfl rfl ?_
                        obtain ⟨h45, hm⟩ := of_ite hm
                        refine n_ (x_subc T2 rfl rfl h45 ?_)
                        refine g_t rfl rfl rfl ?_
                        refine n_ (aopK_A (x_call (v := .u (.one (.bool ((spec_l1In_m i.a 0 (regs - 1)))))) (nobs := []) (oa' := _) (nx' := 1) rfl (a_1 rfl (b_s rfl) (a_1 rfl (b_s rfl) (a_1 rfl (b_s rfl) a_n))) c_n ent49 (spec_l1In_sim i.a 0 (regs - 1)) rfl rfl rfl rfl ?_))
                        refine n_ (x_pk rfl rfl rfl ?_)
                        refine n_ (x_mv rfl rfl ?_)
                        refine g_s rfl rfl rfl (fun hb46 => ?_) (fun hb46 => ?_)
                        · rw [if_pos (show _ = true from hb46)] at hm
                          refine g_t rfl rfl rfl ?_
                          refine n_ (x_fap rfl F78_1 rfl rfl ?_)
                          refine g_t rfl rfl rfl ?_
                          refine n_ (x_ldp rfl T2 rfl rfl rfl rfl rfl ?_)
                          refine g_t rfl rfl rfl ?_
                          refine n_ (aopK_A (x_call (v := .u (.one (.bool ((spec_WidthOk_m i.w))))) (nobs := []) (oa' := _) (nx' := 1) rfl (a_1 rfl (b_s rfl) a_n) c_n ent50 (spec_WidthOk_sim i.w) rfl rfl rfl rfl ?_))
                          refine n_ (x_pk rfl rfl rfl ?_)
                          refine n_ (x_mv rfl rfl ?_)
                          refine g_s rfl rfl rfl (fun hb47 => ?_) (fun hb47 => ?_)
                          · rw [if_pos (show _ = true from hb47)] at hm
                            refine g_t rfl rfl rfl ?_
                            refine n_ (x_fap rfl F78_5 rfl rfl ?_)
                            refine g_t rfl rfl rfl ?_
                            refine n_ (x_ldp rfl T2 rfl rfl rfl rfl rfl ?_)
                            refine g_t rfl rfl rfl ?_
                            refine n_ (aopK_A (x_call (v := .u (.one (.bool ((spec_WidthOk_m i.c))))) (nobs := []) (oa' := _) (nx' := 1) rfl (a_1 rfl (b_s rfl) a_n) c_n ent50 (spec_WidthOk_sim i.c) rfl rfl rfl rfl ?_))
                            refine n_ (x_pk rfl rfl rfl ?_)
                            refine n_ (x_mv rfl rfl ?_)
                            refine g_s rfl rfl rfl (fun hb48 => ?_) (fun hb48 => ?_)
                            · rw [if_pos (show _ = true from hb48)] at hm
                              refine g_t rfl rfl rfl ?_
                              refine n_ (x_fap rfl F78_0 rfl rfl ?_)
                              refine g_t rfl rfl rfl ?_
                              refine n_ (x_ldp rfl T2 rfl rfl rfl rfl rfl ?_)
                              refine g_t rfl rfl rfl ?_
                              refine n_ (x_bin T2 rfl rfl rfl ?_)
                              refine g_t rfl rfl rfl ?_
                              refine n_ (x_fap rfl F78_5 rfl rfl ?_)
                              refine g_t rfl rfl rfl ?_
                              refine n_ (x_ldp rfl T2 rfl rfl rfl rfl rfl ?_)
                              refine g_t rfl rfl rfl ?_
                              refine n_ (x_fap rfl F78_1 rfl rfl ?_)
                              refine g_t rfl rfl rfl ?_
                              refine n_ (x_ldp rfl T2 rfl rfl rfl rfl rfl ?_)
                              refine g_t rfl rfl rfl ?_
                              refine n_ (x_bin T2 rfl rfl rfl ?_)
                              refine g_t rfl rfl rfl ?_
                              refine n_ (x_bin T4 rfl rfl rfl ?_)
                              refine n_ (x_pk rfl rfl rfl ?_)
                              refine n_ (x_mv rfl rfl ?_)
                              refine g_s rfl rfl rfl (fun hb49 => ?_) (fun hb49 => ?_)
                              · rw [if_pos (show _ = true from hb49)] at hm
                                refine g_t rfl rfl rfl ?_
                                refine n_ (x_fap rfl F78_5 rfl rfl ?_)
                                refine g_t rfl rfl rfl ?_
                                refine n_ (x_ldp rfl T2 rfl rfl rfl rfl rfl ?_)
                                refine g_t rfl rfl rfl ?_
                                refine n_ (x_fap rfl F78_1 rfl rfl ?_)
                                refine g_t rfl rfl rfl ?_
                                refine n_ (x_ldp rfl T2 rfl rfl rfl rfl rfl ?_)
                                refine g_t rfl rfl rfl ?_
                                refine n_ (x_bin T2 rfl rfl rfl ?_)
                                refine n_ (x_pk rfl rfl rfl ?_)
                                refine n_ (x_mv rfl rfl ?_)
                                refine g_s rfl rfl rfl (fun hb50 => ?_) (fun hb50 => ?_)
                                · rw [if_pos (show _ = true from hb50)] at hm
                                  refine g_t rfl rfl rfl ?_
                                  refine n_ (x_fap rfl F78_4 rfl rfl ?_)
                                  refine g_t rfl rfl rfl ?_
                                  refine n_ (x_ldp rfl T2 rfl rfl rfl rfl rfl ?_)
                                  refine g_t rfl rfl rfl ?_
                                  refine n_ (x_bin T2 rfl rfl rfl ?_)
                                  refine n_ (x_pk rfl rfl rfl ?_)
                                  refine n_ (x_as rfl rfl ?_)
                                  refine z_ ?_
                                  cases hm
                                  exact w_ [] (.cons rfl rfl .nil) .nil (by decide) (hB_0 hB0)
                                · rw [if_neg (by rw [hb50]; decide)] at hm
                                  refine g_f rfl rfl rfl ?_
                                  refine g_f rfl rfl rfl ?_
                                  refine g_f rfl rfl rfl ?_
                                  refine n_ (x_pk rfl rfl rfl ?_)
                                  refine n_ (x_as rfl rfl ?_)
                                  refine z_ ?_
                                  cases hm
                                  exact w_ [] (.cons rfl rfl .nil) .nil (by decide) (hB_0 hB0)
                              · rw [if_neg (by rw [hb49]; decide)] at hm
                                refine g_f rfl rfl rfl ?_
                                refine g_f rfl rfl rfl ?_
                                refine g_f rfl rfl rfl ?_
                                refine g_f rfl rfl rfl ?_
                                refine g_f rfl rfl rfl ?_
                                refine n_ (x_pk rfl rfl rfl ?_)
                                refine n_ (x_mv rfl rfl ?_)
                                refine g_f rfl rfl rfl ?_
                                refine g_f rfl rfl rfl ?_
                                refine g_f rfl rfl rfl ?_
                                refine n_ (x_pk rfl rfl rfl ?_)
                                refine n_ (x_as rfl rfl ?_)
                                refine z_ ?_
                                cases hm
                                exact w_ [] (.cons rfl rfl .nil) .nil (by decide) (hB_0 hB0)
                            · rw [if_neg (by rw [hb48]; decide)] at hm
                              refine g_f rfl rfl rfl ?_
                              refine g_f rfl rfl rfl ?_
                              refine g_f rfl rfl rfl ?_
                              refine g_f rfl rfl rfl ?_
                              refine g_f rfl rfl rfl ?_
                              refine g_f rfl rfl rfl ?_
                              refine g_f rfl rfl rfl ?_
                              refine g_f rfl rfl rfl ?_
                              refine g_f rfl rfl rfl ?_
                              refine n_ (x_pk rfl rfl rfl ?_)
                              refine n_ (x_mv rfl rfl ?_)
                              refine g_f rfl rfl rfl ?_
                              refine g_f rfl rfl rfl ?_
                              refine g_f rfl rfl rfl ?_
                              refine g_f rfl rfl rfl ?_
                              refine g_f rfl rfl rfl ?_
                              refine n_ (x_pk rfl rfl rfl ?_)
                              refine n_ (x_mv rfl rfl ?_)
                              refine g_f rfl rfl rfl ?_
                              refine g_f rfl rfl rfl ?_
                              refine g_f rfl rfl rfl ?_
                              refine n_ (x_pk rfl rfl rfl ?_)
                              refine n_ (x_as rfl rfl ?_)
                              refine z_ ?_
                              cases hm
                              exact w_ [] (.cons rfl rfl .nil) .nil (by decide) (hB_0 hB0)
                          · rw [if_neg (by rw [hb47]; decide)] at hm
                            refine g_f rfl rfl rfl ?_
                            refine g_f rfl rfl rfl ?_
                            refine g_f rfl rfl rfl ?_
                            refine n_ (x_pk rfl rfl rfl ?_)
                            refine n_ (x_mv rfl rfl ?_)
                            refine g_f rfl rfl rfl ?_
                            refine g_f rfl rfl rfl ?_
                            refine g_f rfl rfl rfl ?_
                            refine g_f rfl rfl rfl ?_
                            refine g_f rfl rfl rfl ?_
                            refine g_f rfl rfl rfl ?_
                            refine g_f rfl rfl rfl ?_
                            refine g_f rfl rfl rfl ?_
                            refine g_f rfl rfl rfl ?_
                            refine n_ (x_pk rfl rfl rfl ?_)
                            refine n_ (x_mv rfl rfl ?_)
                            refine g_f rfl rfl rfl ?_
                            refine g_f rfl rfl rfl ?_
                            refine g_f rfl rfl rfl ?_
                            refine g_f rfl rfl rfl ?_
                            refine g_f rfl rfl rfl ?_
                            refine n_ (x_pk rfl rfl rfl ?_)
                            refine n_ (x_mv rfl rfl ?_)
                            refine g_f rfl rfl rfl ?_
                            refine g_f rfl rfl rfl ?_
                            refine g_f rfl rfl rfl ?_
                            refine n_ (x_pk rfl rfl rfl ?_)
                            refine n_ (x_as rfl rfl ?_)
                            refine z_ ?_
                            cases hm
                            exact w_ [] (.cons rfl rfl .nil) .nil (by decide) (hB_0 hB0)
                        · rw [if_neg (by rw [hb46]; decide)] at hm
                          refine g_f rfl rfl rfl ?_
                          refine g_f rfl rfl rfl ?_
                          refine g_f rfl rfl rfl ?_
                          refine n_ (x_pk rfl rfl rfl ?_)
                          refine n_ (x_mv rfl rfl ?_)
                          refine g_f rfl rfl rfl ?_
                          refine g_f rfl rfl rfl ?_
                          refine g_f rfl rfl rfl ?_
                          refine n_ (x_pk rfl rfl rfl ?_)
                          refine n_ (x_mv rfl rfl ?_)
                          refine g_f rfl rfl rfl ?_
                          refine g_f rfl rfl rfl ?_
                          refine g_f rfl rfl rfl ?_
                          refine g_f rfl rfl rfl ?_
                          refine g_f rfl rfl rfl ?_
                          refine g_f rfl rfl rfl ?_
                          refine g_f rfl rfl rfl ?_
                          refine g_f rfl rfl rfl ?_
                          refine g_f rfl rfl rfl ?_
                          refine n_ (x_pk rfl rfl rfl ?_)
                          refine n_ (x_mv rfl rfl ?_)
                          refine g_f rfl rfl rfl ?_
                          refine g_f rfl rfl rfl ?_
                          refine g_f rfl rfl rfl ?_
                          refine g_f rfl rfl rfl ?_
                          refine g_f rfl rfl rfl ?_
                          refine n_ (x_pk rfl rfl rfl ?_)
                          refine n_ (x_mv rfl rfl ?_)
                          refine g_f rfl rfl rfl ?_
                          refine g_f rfl rfl rfl ?_
                          refine g_f rfl rfl rfl ?_
                          refine n_ (x_pk rfl rfl rfl ?_)
                          refine n_ (x_as rfl rfl ?_)
                          refine z_ ?_
                          cases hm
                          exact w_ [] (.cons rfl rfl .nil) .nil (by decide) (hB_0 hB0)
                      · rw [if_neg (by rw [hb44]; decide)] at hm
                        refine g_f rfl rfl rfl ?_
                        refine g_f rfl rfl rfl ?_
                        refine g_f rfl rfl rfl ?_
                        refine g_f rfl rfl rfl ?_
                        refine g_f rfl rfl rfl ?_
                        refine n_ (x_pk rfl rfl rfl ?_)
                        refine n_ (x_mv rfl rfl ?_)
                        refine g_f rfl rfl rfl ?_
                        refine g_f rfl rfl rfl ?_
                        refine g_f rfl rfl rfl ?_
                        refine n_ (x_pk rfl rfl rfl ?_)
                        refine n_ (x_mv rfl rfl ?_)
                        refine g_f rfl rfl rfl ?_
                        refine g_f rfl rfl rfl ?_
                        refine g_f rfl rfl rfl ?_
                        refine n_ (x_pk rfl rfl rfl ?_)
                        refine n_ (x_mv rfl rfl ?_)
                        refine g_f rfl rfl rfl ?_
                        refine g_f rfl rfl rfl ?_
                        refine g_f rfl rfl rfl ?_
                        refine g_f rfl rfl rfl ?_
                        refine g_f rfl rfl rfl ?_
                        refine g_f rfl rfl rfl ?_
                        refine g_f rfl rfl rfl ?_
                        refine g_f rfl rfl rfl ?_
                        refine g_f rfl rfl rfl ?_
                        refine n_ (x_pk rfl rfl rfl ?_)
                        refine n_ (x_mv rfl rfl ?_)
                        refine g_f rfl rfl rfl ?_
                        refine g_f rfl rfl rfl ?_
                        refine g_f rfl rfl rfl ?_
                        refine g_f rfl rfl rfl ?_
                        refine g_f rfl rfl rfl ?_
                        refine n_ (x_pk rfl rfl rfl ?_)
                        refine n_ (x_mv rfl rfl ?_)
                        refine g_f rfl rfl rfl ?_
                        refine g_f rfl rfl rfl ?_
                        refine g_f rfl rfl rfl ?_
                        refine n_ (x_pk rfl rfl rfl ?_)
                        refine n_ (x_as rfl rfl ?_)
                        refine z_ ?_
                        cases hm
                        exact w_ [] (.cons rfl rfl .nil) .nil (by decide) (hB_0 hB0)
                    · refine c_ret ?_
                      rw [← Option.some.inj hm]
                      exact ret0 (us' := [.one (.bool j42)]) rfl (r_tmp rfl rfl rfl r_nil) f_done rfl rfl
                  · rw [if_neg (by rw [hb41]; decide)] at hm
                    refine Wp.seq ?_
                    refine c_reg (Y := sysA _) ?_
                    refine n_ (x_fap rfl F78_0 rfl rfl ?_)
                    refine n_ (x_ldp rfl T2 rfl rfl rfl rfl rfl ?_)
                    refine n_ (x_bin T2 rfl rfl rfl ?_)
                    refine n_ (x_as rfl rfl ?_)
                    refine z_ ?_
                    refine c_s rfl rfl (fun hb52 => ?_) (fun hb52 => ?_)
                    · rw [if_pos (show _ = true from hb52)] at hm
                      refine Wp.seq ?_
                      refine c_cut (St 275 [(6, .u (.one (.bool ((x1 && (spec_WidthOk_m i.w))))))] [] 0) ?_ ?_
                      · refine c_reg (Y := sysA _) ?_
                        refine n_ (x_mv rfl rfl ?_)
                        refine n_ (x_mv rfl rfl ?_)
                        refine g_s rfl rfl rfl (fun hb54 => ?_) (fun hb54 => ?_)
                        · refine g_t rfl rfl rfl ?_
                          refine n_ (x_fap rfl F78_1 rfl rfl ?_)
                          refine g_t rfl rfl rfl ?_
                          refine n_ (x_ldp rfl T2 rfl rfl rfl rfl rfl ?_)
                          refine g_t rfl rfl rfl ?_
                          refine n_ (aopK_A (x_call (v := .u (.one (.bool ((spec_WidthOk_m i.w))))) (nobs := []) (oa' := _) (nx' := 1) rfl (a_1 rfl (b_s rfl) a_n) c_n ent50 (spec_WidthOk_sim i.w) rfl rfl rfl rfl ?_))
                          refine n_ (x_pk rfl rfl rfl ?_)
                          refine n_ (x_as rfl rfl ?_)
                          refine z_ ?_
                          exact w_ [] (.cons (by simp only [hb54, eq_self, if_true, Bool.false_eq_true, if_false, Bool.true_or, Bool.false_or, Bool.true_and, Bool.false_and, Bool.not_true, Bool.not_false]; rfl) rfl .nil) .nil (by decide) (hB_0 hB0)
                        · refine g_f rfl rfl rfl ?_
                          refine g_f rfl rfl rfl ?_
                          refine g_f rfl rfl rfl ?_
                          refine n_ (x_pk rfl rfl rfl ?_)
                          refine n_ (x_as rfl rfl ?_)
                          refine z_ ?_
                          exact w_ [] (.cons (by simp only [hb54, eq_self, if_true, Bool.false_eq_true, if_false, Bool.true_or, Bool.false_or, Bool.true_and, Bool.false_and, Bool.not_true, Bool.not_false]; rfl) rfl .nil) .nil (by decide) (hB_0 hB0)
                      · refine c_ret ?_
                        rw [← Option.some.inj hm]
                        exact ret0 (us' := [.one (.bool ((x1 && (spec_WidthOk_m i.w))))]) rfl (r_tmp rfl rfl rfl r_nil) f_done rfl rfl
                    · rw [if_neg (by rw [hb52]; decide)] at hm
                      refine Wp.seq ?_
                      refine c_reg (Y := sysA _) ?_
                      refine n_ (x_fap rfl F78_0 rfl rfl ?_)
                      refine n_ (x_ldp rfl T2 rfl rfl rfl rfl rfl ?_)
                      refine n_ (x_bin T2 rfl rfl rfl ?_)
                      refine n_ (x_as rfl rfl ?_)
                      refine z_ ?_
                      refine c_s rfl rfl (fun hb55 => ?_) (fun hb55 => ?_)
                      · rw [if_pos (show _ = true from hb55)] at hm
                        refine Wp.seq ?_
                        refine c_cut (St 275 [(6, .u (.one (.bool ((x1 && ((i.w == 8) && ((i.b == 0) && (i.c == 0))))))))] [] 0) ?_ ?_
                        · refine c_reg (Y := sysA _) ?_
                          refine n_ (x_mv rfl rfl ?_)
                          refine n_ (x_mv rfl rfl ?_)
                          refine g_s rfl rfl rfl (fun hb57 => ?_) (fun hb57 => ?_)
                          · refine g_t rfl rfl rfl ?_
                            refine n_ (x_fap rfl F78_1 rfl rfl ?_)
                            refine g_t rfl rfl rfl ?_
                            refine n_ (x_ldp rfl T2 rfl rfl rfl rfl rfl ?_)
                            refine g_t rfl rfl rfl ?_
                            refine n_ (x_bin T2 rfl rfl rfl ?_)
                            refine n_ (x_pk rfl rfl rfl ?_)
                            refine n_ (x_mv rfl rfl ?_)
                            refine g_s rfl rfl rfl (fun hb58 => ?_) (fun hb58 => ?_)
                            · refine g_t rfl rfl rfl ?_
                              refine n_ (x_fap rfl F78_4 rfl rfl ?_)
                              refine g_t rfl rfl rfl ?_
                              refine n_ (x_ldp rfl T2 rfl rfl rfl rfl rfl ?_)
                              refine g_t rfl rfl rfl ?_
                              refine n_ (x_bin T2 rfl rfl rfl ?_)
                              refine n_ (x_pk rfl rfl rfl ?_)
                              refine n_ (x_mv rfl rfl ?_)
                              refine g_s rfl rfl rfl (fun hb59 => ?_) (fun hb59 => ?_)
                              · refine g_t rfl rfl rfl ?_
                                refine n_ (x_fap rfl F78_5 rfl rfl ?_)
                                refine g_t rfl rfl rfl ?_
                                refine n_ (x_ldp rfl T2 rfl rfl rfl rfl rfl ?_)
                                refine g_t rfl rfl rfl ?_
                                refine n_ (x_bin T2 rfl rfl rfl ?_)
                                refine n_ (x_pk rfl rfl rfl ?_)
                                refine n_ (x_as rfl rfl ?_)
                                refine z_ ?_
                                exact w_ [] (.cons (by simp only [hb57, hb58, hb59, eq_self, if_true, Bool.false_eq_true, if_false, Bool.true_or, Bool.false_or, Bool.true_and, Bool.false_and, Bool.not_true, Bool.not_false]; rfl) rfl .nil) .nil (by decide) (hB_0 hB0)
                              · refine g_f rfl rfl rfl ?_
                                refine g_f rfl rfl rfl ?_
                                refine g_f rfl rfl rfl ?_
                                refine n_ (x_pk rfl rfl rfl ?_)
                                refine n_ (x_as rfl rfl ?_)
                                refine z_ ?_
                                exact w_ [] (.cons (by simp only [hb57, hb58, hb59, eq_self, if_true, Bool.false_eq_true, if_false, Bool.true_or, Bool.false_or, Bool.true_and, Bool.false_and, Bool.not_true, Bool.not_false]; rfl) rfl .nil) .nil (by decide) (hB_0 hB0)
                            · refine g_f rfl rfl rfl ?_
                              refine g_f rfl rfl rfl ?_
                              refine g_f rfl rfl rfl ?_
                              refine n_ (x_pk rfl rfl rfl ?_)
                              refine n_ (x_mv rfl rfl ?_)
                              refine g_f rfl rfl rfl ?_
                              refine g_f rfl rfl rfl ?_
                              refine g_f rfl rfl rfl ?_
                              refine n_ (x_pk rfl rfl rfl ?_)
                              refine n_ (x_as rfl rfl ?_)
                              refine z_ ?_
                              exact w_ [] (.cons (by simp only [hb57, hb58, eq_self, if_true, Bool.false_eq_true, if_false, Bool.true_or, Bool.false_or, Bool.true_and, Bool.false_and, Bool.not_true, Bool.not_false]; rfl) rfl .nil) .nil (by decide) (hB_0 hB0)
                          · refine g_f rfl rfl rfl ?_
                            refine g_f rfl rfl rfl ?_
                            refine g_f rfl rfl rfl ?_
                            refine n_ (x_pk rfl rfl rfl ?_)
                            refine n_ (x_mv rfl rfl ?_)
                            refine g_f rfl rfl rfl ?_
                            refine g_f rfl rfl rfl ?_
                            refine g_f rfl rfl rfl ?_
                            refine n_ (x_pk rfl rfl rfl ?_)
                            refine n_ (x_mv rfl rfl ?_)
                            refine g_f rfl rfl rfl ?_
                            refine g_f rfl rfl rfl ?_
                            refine g_f rfl rfl rfl ?_
                            refine n_ (x_pk rfl rfl rfl ?_)
                            refine n_ (x_as rfl rfl ?_)
                            refine z_ ?_
                            exact w_ [] (.cons (by simp only [hb57, eq_self, if_true, Bool.false_eq_true, if_false, Bool.true_or, Bool.false_or, Bool.true_and, Bool.false_and, Bool.not_true, Bool.not_false]; rfl) rfl .nil) .nil (by decide) (hB_0 hB0)
                        · refine c_ret ?_
                          rw [← Option.some.inj hm]
                          exact ret0 (us' := [.one (.bool ((x1 && ((i.w == 8) && ((i.b == 0) && (i.c == 0))))))]) rfl (r_tmp rfl rfl rfl r_nil) f_done rfl rfl
                      · rw [if_neg (by rw [hb55]; decide)] at hm
                        refine Wp.seq ?_
                        refine c_reg (Y := sysA _) ?_
                        refine n_ (x_fap rfl F78_0 rfl rfl ?_)
                        refine n_ (x_ldp rfl T2 rfl rfl rfl rfl rfl ?_)
                        refine n_ (x_bin T2 rfl rfl rfl ?_)
                        refine n_ (x_as rfl rfl ?_)
                        refine z_ ?_
                        refine c_s rfl rfl (fun hb60 => ?_) (fun hb60 => ?_)
                        · rw [if_pos (show _ = true from hb60)] at hm
                          refine Wp.seq ?_
                          refine c_cut (St 275 [(6, .u (.one (.bool ((x1 && ((i.w == 0) && ((i.d == 0) && (i.c == 0))))))))] [] 0) ?_ ?_
                          · refine c_reg (Y := sysA _) ?_
                            refine n_ (x_mv rfl rfl ?_)
                            refine n_ (x_mv rfl rfl ?_)
                            refine g_s rfl rfl rfl (fun hb62 => ?_) (fun hb62 => ?_)
                            · refine g_t rfl rfl rfl ?_
                              refine n_ (x_fap rfl F78_1 rfl rfl ?_)
                              refine g_t rfl rfl rfl ?_
                              refine n_ (x_ldp rfl T2 rfl rfl rfl rfl rfl ?_)
                              refine g_t rfl rfl rfl ?_
                              refine n_ (x_bin T2 rfl rfl rfl ?_)
                              refine n_ (x_pk rfl rfl rfl ?_)
                              refine n_ (x_mv rfl rfl ?_)
                              refine g_s rfl rfl rfl (fun hb63 => ?_) (fun hb63 => ?_)
                              · refine g_t rfl rfl rfl ?_
                                refine n_ (x_fap rfl F78_2 rfl rfl ?_)
                                refine g_t rfl rfl rfl ?_
                                refine n_ (x_ldp rfl T2 rfl rfl rfl rfl rfl ?_)
                                refine g_t rfl rfl rfl ?_
                                refine n_ (x_bin T2 rfl rfl rfl ?_)
                                refine n_ (x_pk rfl rfl rfl ?_)
                                refine n_ (x_mv rfl rfl ?_)
                                refine g_s rfl rfl rfl (fun hb64 => ?_) (fun hb64 => ?_)
                                · refine g_t rfl rfl rfl ?_
                                  refine n_ (x_fap rfl F78_5 rfl rfl ?_)
                                  refine g_t rfl rfl rfl ?_
                                  refine n_ (x_ldp rfl T2 rfl rfl rfl rfl rfl ?_)
                                  refine g_t rfl rfl rfl ?_
                                  refine n_ (x_bin T2 rfl rfl rfl ?_)
                                  refine n_ (x_pk rfl rfl rfl ?_)
                                  refine n_ (x_as rfl rfl ?_)
                                  refine z_ ?_
                                  exact w_ [] (.cons (by simp only [hb62, hb63, hb64, eq_self, if_true, Bool.false_eq_true, if_false, Bool.true_or, Bool.false_or, Bool.true_and, Bool.false_and, Bool.not_true, Bool.not_false]; rfl) rfl .nil) .nil (by decide) (hB_0 hB0)
                                · refine g_f rfl rfl rfl ?_
                                  refine g_f rfl rfl rfl ?_
                                  refine g_f rfl rfl rfl ?_
                                  refine n_ (x_pk rfl rfl rfl ?_)
                                  refine n_ (x_as rfl rfl ?_)
                                  refine z_ ?_
                                  exact w_ [] (.cons (by simp only [hb62, hb63, hb64, eq_self, if_true, Bool.false_eq_true, if_false, Bool.true_or, Bool.false_or, Bool.true_and, Bool.false_and, Bool.not_true, Bool.not_false]; rfl) rfl .nil) .nil (by decide) (hB_0 hB0)
                              · refine g_f rfl rfl rfl ?_
                                refine g_f rfl rfl rfl ?_
                                refine g_f rfl rfl rfl ?_
                                refine n_ (x_pk rfl rfl rfl ?_)
                                refine n_ (x_mv rfl rfl ?_)
                                refine g_f rfl rfl rfl ?_
                                refine g_f rfl rfl rfl ?_
                                refine g_f rfl rfl rfl ?_
                                refine n_ (x_pk rfl rfl rfl ?_)
                                refine n_ (x_as rfl rfl ?_)
                                refine z_ ?_
                                exact w_ [] (.cons (by simp only [hb62, hb63, eq_self, if_true, Bool.false_eq_true, if_false, Bool.true_or, Bool.false_or, Bool.true_and, Bool.false_and, Bool.not_true, Bool.not_false]; rfl) rfl .nil) .nil (by decide) (hB_0 hB0)
                            · refine g_f rfl rfl rfl ?_
                              refine g_f rfl rfl rfl ?_
                              refine g_f rfl rfl rfl ?_
                              refine n_ (x_pk rfl rfl rfl ?_)
                              refine n_ (x_mv rfl rfl ?_)
                              refine g_f rfl rfl rfl ?_
                              refine g_f rfl rfl rfl ?_
                              refine g_f rfl rfl rfl ?_
                              refine n_ (x_pk rfl rfl rfl ?_)
                              refine n_ (x_mv rfl rfl ?_)
                              refine g_f rfl rfl rfl ?_
                              refine g_f rfl rfl rfl ?_
                              refine g_f rfl rfl rfl ?_
                              refine n_ (x_pk rfl rfl rfl ?_)
                              refine n_ (x_as rfl rfl ?_)
                              refine z_ ?_
                              exact w_ [] (.cons (by simp only [hb62, eq_self, if_true, Bool.false_eq_true, if_false, Bool.true_or, Bool.false_or, Bool.true_and, Bool.false_and, Bool.not_true, Bool.not_false]; rfl) rfl .nil) .nil (by decide) (hB_0 hB0)
                          · refine c_ret ?_
                            rw [← Option.some.inj hm]
                            exact ret0 (us' := [.one (.bool ((x1 && ((i.w == 0) && ((i.d == 0) && (i.c == 0))))))]) rfl (r_tmp rfl rfl rfl r_nil) f_done rfl rfl
                        · rw [if_neg (by rw [hb60]; decide)] at hm
                          refine Wp.seq ?_
                          refine c_reg (Y := sysA _) ?_
                          refine n_ (x_fap rfl F78_0 rfl rfl ?_)
                          refine n_ (x_ldp rfl T2 rfl rfl rfl rfl rfl ?_)
                          refine n_ (x_bin T2 rfl rfl rfl ?_)
                          refine n_ (x_as rfl rfl ?_)
                          refine z_ ?_
                          refine c_s rfl rfl (fun hb65 => ?_) (fun hb65 => ?_)
                          · rw [if_pos (show _ = true from hb65)] at hm
                            refine Wp.seq ?_
                            refine c_cut (St 275 [(6, .u (.one (.bool ((x1 && ((i.w == 0) && ((i.d == 0) && ((i.b == 0) && (i.c == 0)))))))))] [] 0) ?_ ?_
                            · refine c_reg (Y := sysA _) ?_
                              refine n_ (x_mv rfl rfl ?_)
                              refine n_ (x_mv rfl rfl ?_)
                              refine g_s rfl rfl rfl (fun hb67 => ?_) (fun hb67 => ?_)
                              · refine g_t rfl rfl rfl ?_
                                refine n_ (x_fap rfl F78_1 rfl rfl ?_)
                                refine g_t rfl rfl rfl ?_
                                refine n_ (x_ldp rfl T2 rfl rfl rfl rfl rfl ?_)
                                refine g_t rfl rfl rfl ?_
                                refine n_ (x_bin T2 rfl rfl rfl ?_)
                                refine n_ (x_pk rfl rfl rfl ?_)
                                refine n_ (x_mv rfl rfl ?_)
                                refine g_s rfl rfl rfl (fun hb68 => ?_) (fun hb68 => ?_)
                                · refine g_t rfl rfl rfl ?_
                                  refine n_ (x_fap rfl F78_2 rfl rfl ?_)
                                  refine g_t rfl rfl rfl ?_
                                  refine n_ (x_ldp rfl T2 rfl rfl rfl rfl rfl ?_)
                                  refine g_t rfl rfl rfl ?_
                                  refine n_ (x_bin T2 rfl rfl rfl ?_)
                                  refine n_ (x_pk rfl rfl rfl ?_)
                                  refine n_ (x_mv rfl rfl ?_)
                                  refine g_s rfl rfl rfl (fun hb69 => ?_) (fun hb69 => ?_)
                                  · refine g_t rfl rfl rfl ?_
                                    refine n_ (x_fap rfl F78_4 rfl rfl ?_)
                                    refine g_t rfl rfl rfl ?_
                                    refine n_ (x_ldp rfl T2 rfl rfl rfl rfl rfl ?_)
                                    refine g_t rfl rfl rfl ?_
                                    refine n_ (x_bin T2 rfl rfl rfl ?_)
                                    refine n_ (x_pk rfl rfl rfl ?_)
                                    refine n_ (x_mv rfl rfl ?_)
                                    refine g_s rfl rfl rfl (fun hb70 => ?_) (fun hb70 => ?_)
                                    · refine g_t rfl rfl rfl ?_
                                      refine n_ (x_fap rfl F78_5 rfl rfl ?_)
                                      refine g_t rfl rfl rfl ?_
                                      refine n_ (x_ldp rfl T2 rfl rfl rfl rfl rfl ?_)
                                      refine g_t rfl rfl rfl ?_
                                      refine n_ (x_bin T2 rfl rfl rfl ?_)
                                      refine n_ (x_pk rfl rfl rfl ?_)
                                      refine n_ (x_as rfl rfl ?_)
                                      refine z_ ?_
                                      exact w_ [] (.cons (by simp only [hb67, hb68, hb69, hb70, eq_self, if_true, Bool.false_eq_true, if_false, Bool.true_or, Bool.false_or, Bool.true_and, Bool.false_and, Bool.not_true, Bool.not_false]; rfl) rfl .nil) .nil (by decide) (hB_0 hB0)
                                    · refine g_f rfl rfl rfl ?_
                                      refine g_f rfl rfl rfl ?_
                                      refine g_f rfl rfl rfl ?_
                                      refine n_ (x_pk rfl rfl rfl ?_)
                                      refine n_ (x_as rfl rfl ?_)
                                      refine z_ ?_
                                      exact w_ [] (.cons (by simp only [hb67, hb68, hb69, hb70, eq_self, if_true, Bool.false_eq_true, if_false, Bool.true_or, Bool.false_or, Bool.true_and, Bool.false_and, Bool.not_true, Bool.not_false]; rfl) rfl .nil) .nil (by decide) (hB_0 hB0)
                                  · refine g_f rfl rfl rfl ?_
                                    refine g_f rfl rfl rfl ?_
                                    refine g_f rfl rfl rfl ?_
                                    refine n_ (x_pk rfl rfl rfl ?_)
                                    refine n_ (x_mv rfl rfl ?_)
                                    refine g_f rfl rfl rfl ?_
                                    refine g_f rfl rfl rfl ?_
                                    refine g_f rfl rfl rfl ?_
                                    refine n_ (x_pk rfl rfl rfl ?_)
                                    refine n_ (x_as rfl rfl ?_)
                                    refine z_ ?_
                                    exact w_ [] (.cons (by simp only [hb67, hb68, hb69, eq_self, if_true, Bool.false_eq_true, if_false, Bool.true_or, Bool.false_or, Bool.true_and, Bool.false_and, Bool.not_true, Bool.not_false]; rfl) rfl .nil) .nil (by decide) (hB_0 hB0)
                                · refine g_f rfl rfl rfl ?_
                                  refine g_f rfl rfl rfl ?_
                                  refine g_f rfl rfl rfl ?_
                                  refine n_ (x_pk rfl rfl rfl ?_)
                                  refine n_ (x_mv rfl rfl ?_)
                                  refine g_f rfl rfl rfl ?_
                                  refine g_f rfl rfl rfl ?_
                                  refine g_f rfl rfl rfl ?_
                                  refine n_ (x_pk rfl rfl rfl ?_)
                                  refine n_ (x_mv rfl rfl ?_)
                                  refine g_f rfl rfl rfl ?_
                                  refine g_f rfl rfl rfl ?_
                                  refine g_f rfl rfl rfl ?_
                                  refine n_ (x_pk rfl rfl rfl ?_)
                                  refine n_ (x_as rfl rfl ?_)
                                  refine z_ ?_
                                  exact w_ [] (.cons (by simp only [hb67, hb68, eq_self, if_true, Bool.false_eq_true, if_false, Bool.true_or, Bool.false_or, Bool.true_and, Bool.false_and, Bool.not_true, Bool.not_false]; rfl) rfl .nil) .nil (by decide) (hB_0 hB0)
                              · refine g_f rfl rfl rfl ?_
                                refine g_f rfl rfl rfl ?_
                                refine g_f rfl rfl rfl ?_
                                refine n_ (x_pk rfl rfl rfl ?_)
                                refine n_ (x_mv rfl rfl ?_)
                                refine g_f rfl rfl rfl ?_
                                refine g_f rfl rfl rfl ?_
                                refine g_f rfl rfl rfl ?_
                                refine n_ (x_pk rfl rfl rfl ?_)
                                refine n_ (x_mv rfl rfl ?_)
                                refine g_f rfl rfl rfl ?_
                                refine g_f rfl rfl rfl ?_
                                refine g_f rfl rfl rfl ?_
                                refine n_ (x_pk rfl rfl rfl ?_)
                                refine n_ (x_mv rfl rfl ?_)
                                refine g_f rfl rfl rfl ?_
                                refine g_f rfl rfl rfl ?_
                                refine g_f rfl rfl rfl ?_
                                refine n_ (x_pk rfl rfl rfl ?_)
                                refine n_ (x_as rfl rfl ?_)
                                refine z_ ?_
                                exact w_ [] (.cons (by simp only [hb67, eq_self, if_true, Bool.false_eq_true, if_false, Bool.true_or, Bool.false_or, Bool.true_and, Bool.false_and, Bool.not_true, Bool.not_false]; rfl) rfl .nil) .nil (by decide) (hB_0 hB0)
                            · refine c_ret ?_
                              rw [← Option.some.inj hm]
                              exact ret0 (us' := [.one (.bool ((x1 && ((i.w == 0) && ((i.d == 0) && ((i.b == 0) && (i.c == 0)))))))]) rfl (r_tmp rfl rfl rfl r_nil) f_done rfl rfl
                          · rw [if_neg (by rw [hb65]; decide)] at hm
                            refine c_skip ?_
                            refine Wp.seq ?_
                            refine c_reg (Y := sysA _) ?_
                            refine n_ (x_as rfl rfl ?_)
                            refine z_ ?_
                            refine c_ret ?_
                            rw [← Option.some.inj hm]
                            exact ret0 (us' := [.one (.bool false)]) rfl (r_tmp rfl rfl rfl r_nil) f_done rfl rfl

/-- spec.ProgramOk -/
noncomputable def spec_ProgramOk_m (p : GProgram) : Option Bool :=
  (if (if (!((spec_l1In_m p.regs 1 130))) = true then true else (if (!((spec_l1In_m ((List.length p.code : Int)) 1 600))) = true then true else (decide (((List.length p.params : Int)) > 4) || (((List.length p.widths : Int)) != ((List.length p.params : Int)))))) = true then
    (some false)
    else
    (Option.bind (loopO (fun (st10 : Int) =>
          ((if decide (st10 < ((List.length p.params : Int))) = true then
              (Option.bind ((if 0 ≤ st10 ∧ st10 < (List.length p.params : Int) then
                    (if inI (p.regs - 1) then
                      (if (!((spec_l1In_m (at_ p.params st10) 0 (p.regs - 1)))) = true then
                        (some true)
                        else
                        (if 0 ≤ st10 ∧ st10 < (List.length p.widths : Int) then
                        (some ((!((spec_WidthOk_m (at_ p.widths st10))))))
                        else none))
                      else none)
                    else none)) fun (j15 : Bool) =>
                (if j15 = true then
                  (some (Sum.inr ((Sum.inl (())))))
                  else
                  (if inI (st10 + 1) then
                    (some (Sum.inl (st10 + 1)))
                    else none)))
              else
              (some (Sum.inr ((Sum.inr (())))))) : Option ((Int) ⊕ (Unit ⊕ Unit)))) 0) fun (y23 : Unit ⊕ Unit) => match y23 with
      | (Sum.inl j11) =>
      (some false)
      | (Sum.inr j12) =>
      (Option.bind (loopO (fun (st25 : Int) =>
            ((if decide (st25 < ((List.length p.code : Int))) = true then
                (if 0 ≤ st25 ∧ st25 < (List.length p.code : Int) then
                  (Option.bind (spec_l17Ins_m (at_ p.code st25) p.regs ((List.length p.code : Int))) fun x30 =>
                    (if (!x30) = true then
                      (some (Sum.inr ((Sum.inl (())))))
                      else
                      (if inI (st25 + 1) then
                        (some (Sum.inl (st25 + 1)))
                        else none)))
                  else none)
                else
                (some (Sum.inr ((Sum.inr (())))))) : Option ((Int) ⊕ (Unit ⊕ Unit)))) 0) fun (y34 : Unit ⊕ Unit) => match y34 with
        | (Sum.inl j26) =>
        (some false)
        | (Sum.inr j27) =>
        (if 0 ≤ (((List.length p.code : Int)) - 1) ∧ (((List.length p.code : Int)) - 1) < (List.length p.code : Int) then
          (some ((if (((at_ p.code (((List.length p.code : Int)) - 1)).op_) == 31) = true then true else (if (((at_ p.code (((List.length p.code : Int)) - 1)).op_) == 33) = true then true else (((at_ p.code (((List.length p.code : Int)) - 1)).op_) == 34)))))
          else none))))
set_option maxHeartbeats 8000000 in
set_option maxRecDepth 100000 in
theorem spec_ProgramOk_sim (p : GProgram) {r : Bool} (hm : spec_ProgramOk_m p = some r) : Sim Try.prog 19 [.agg (eProgram false p)] [] (.u (.one (.bool r))) [] := by
  refine sim_st (N := 92) (k0 := 0) Try.func19 rfl rfl rfl rfl (rs := [.tmp 2]) rfl rfl rfl fun B hB0 => ?_
  unfold spec_ProgramOk_m at hm
  refine Wp.seq ?_
  refine c_reg (Y := sysA _) ?_
  refine n_ (x_bx rfl rfl rfl rfl ?_)
  refine n_ (x_as rfl rfl ?_)
  refine z_ ?_
  refine Wp.seq ?_
  refine c_reg (Y := sysA _) ?_
  refine n_ (x_fap rfl F41_3 rfl rfl ?_)
  refine n_ (x_ldp rfl T39 rfl rfl rfl rfl rfl ?_)
  refine n_ (x_lnb N39 rfl fun hL1 => ?_)
  refine n_ (x_as rfl rfl ?_)
  refine z_ ?_
  refine Wp.seq ?_
  refine Wp.seq ?_
  refine c_cut (St 92 [(1, .u (.one (.ptr () 0 0 0))), (3, .u (.one (.int .i64 ((List.length p.code : Int))))), (33, .u (.one (.bool ((if (!((spec_l1In_m p.regs 1 130))) = true then true else (if (!((spec_l1In_m ((List.length p.code : Int)) 1 600))) = true then true else (decide (((List.length p.params : Int)) > 4) || (((List.length p.widths : Int)) != ((List.length p.params : Int))))))))))] [(0, some ⟨(), 4, [(eProgram false p)]⟩)] 1) ?_ ?_
  · refine c_reg (Y := sysA _) ?_
    refine n_ (x_fap rfl F41_0 rfl rfl ?_)
    refine n_ (x_ldp rfl T2 rfl rfl rfl rfl rfl ?_)
    refine n_ (aopK_A (x_call (v := .u (.one (.bool ((spec_l1In_m p.regs 1 130))))) (nobs := []) (oa' := _) (nx' := 1) rfl (a_1 rfl (b_s rfl) (a_1 rfl (b_s rfl) (a_1 rfl (b_s rfl) a_n))) c_n ent49 (spec_l1In_sim p.regs 1 130) rfl rfl rfl rfl ?_))
    refine n_ (x_un rfl rfl ?_)
    refine n_ (x_mv rfl rfl ?_)
    refine g_s rfl rfl rfl (fun hb3 => ?_) (fun hb3 => ?_)
    · refine g_t rfl rfl rfl ?_
      refine n_ (x_mv rfl rfl ?_)
      refine g_t rfl rfl rfl ?_
      refine n_ (aopK_A (x_call (v := .u (.one (.bool ((spec_l1In_m ((List.length p.code : Int)) 1 600))))) (nobs := []) (oa' := _) (nx' := 1) rfl (a_1 rfl (b_s rfl) (a_1 rfl (b_s rfl) (a_1 rfl (b_s rfl) a_n))) c_n ent49 (spec_l1In_sim ((List.length p.code : Int)) 1 600) rfl rfl rfl rfl ?_))
      refine g_t rfl rfl rfl ?_
      refine n_ (x_un rfl rfl ?_)
      refine n_ (x_pk rfl rfl rfl ?_)
      refine n_ (x_mv rfl rfl ?_)
      refine g_s rfl rfl rfl (fun hb4 => ?_) (fun hb4 => ?_)
      · refine g_t rfl rfl rfl ?_
        refine n_ (x_fap rfl F41_1 rfl rfl ?_)
        refine g_t rfl rfl rfl ?_
        refine n_ (x_ldp rfl T24 rfl rfl rfl rfl rfl ?_)
        refine g_t rfl rfl rfl ?_
        refine n_ (x_lnb N24 rfl fun hL5 => ?_)
        refine g_t rfl rfl rfl ?_
        refine n_ (x_bin T3 rfl rfl rfl ?_)
        refine n_ (x_pk rfl rfl rfl ?_)
        refine n_ (x_mv rfl rfl ?_)
        refine g_s rfl rfl rfl (fun hb6 => ?_) (fun hb6 => ?_)
        · refine g_t rfl rfl rfl ?_
          refine n_ (x_fap rfl F41_2 rfl rfl ?_)
          refine g_t rfl rfl rfl ?_
          refine n_ (x_ldp rfl T24 rfl rfl rfl rfl rfl ?_)
          refine g_t rfl rfl rfl ?_
          refine n_ (x_lnb N24 rfl fun hL7 => ?_)
          refine g_t rfl rfl rfl ?_
          refine n_ (x_fap rfl F41_1 rfl rfl ?_)
          refine g_t rfl rfl rfl ?_
          refine n_ (x_ldp rfl T24 rfl rfl rfl rfl rfl ?_)
          refine g_t rfl rfl rfl ?_
          refine n_ (x_lnb N24 rfl fun hL8 => ?_)
          refine g_t rfl rfl rfl ?_
          refine n_ (x_bin T3 rfl rfl rfl ?_)
          refine n_ (x_pk rfl rfl rfl ?_)
          refine z_ ?_
          exact w_ [0] (.cons rfl rfl (.cons rfl rfl (.cons (by simp only [hb3, hb4, hb6, eq_self, if_true, Bool.false_eq_true, if_false, Bool.true_or, Bool.false_or, Bool.true_and, Bool.false_and, Bool.not_true, Bool.not_false]; rfl) rfl .nil))) (.lit rfl rfl .nil) (by decide) (hB_0 hB0)
        · refine g_f rfl rfl rfl ?_
          refine g_f rfl rfl rfl ?_
          refine g_f rfl rfl rfl ?_
          refine g_f rfl rfl rfl ?_
          refine g_f rfl rfl rfl ?_
          refine g_f rfl rfl rfl ?_
          refine g_f rfl rfl rfl ?_
          refine n_ (x_pk rfl rfl rfl ?_)
          refine z_ ?_
          exact w_ [0] (.cons rfl rfl (.cons rfl rfl (.cons (by simp only [hb3, hb4, hb6, eq_self, if_true, Bool.false_eq_true, if_false, Bool.true_or, Bool.false_or, Bool.true_and, Bool.false_and, Bool.not_true, Bool.not_false]; rfl) rfl .nil))) (.lit rfl rfl .nil) (by decide) (hB_0 hB0)
      · refine g_f rfl rfl rfl ?_
        refine g_f rfl rfl rfl ?_
        refine g_f rfl rfl rfl ?_
        refine g_f rfl rfl rfl ?_
        refine n_ (x_pk rfl rfl rfl ?_)
        refine n_ (x_mv rfl rfl ?_)
        refine g_f rfl rfl rfl ?_
        refine g_f rfl rfl rfl ?_
        refine g_f rfl rfl rfl ?_
        refine g_f rfl rfl rfl ?_
        refine g_f rfl rfl rfl ?_
        refine g_f rfl rfl rfl ?_
        refine g_f rfl rfl rfl ?_
        refine n_ (x_pk rfl rfl rfl ?_)
        refine z_ ?_
        exact w_ [0] (.cons rfl rfl (.cons rfl rfl (.cons (by simp only [hb3, hb4, eq_self, if_true, Bool.false_eq_true, if_false, Bool.true_or, Bool.false_or, Bool.true_and, Bool.false_and, Bool.not_true, Bool.not_false]; rfl) rfl .nil))) (.lit rfl rfl .nil) (by decide) (hB_0 hB0)
    · refine g_f rfl rfl rfl ?_
      refine g_f rfl rfl rfl ?_
      refine g_f rfl rfl rfl ?_
      refine n_ (x_pk rfl rfl rfl ?_)
      refine n_ (x_mv rfl rfl ?_)
      refine g_f rfl rfl rfl ?_
      refine g_f rfl rfl rfl ?_
      refine g_f rfl rfl rfl ?_
      refine g_f rfl rfl rfl ?_
      refine n_ (x_pk rfl rfl rfl ?_)
      refine n_ (x_mv rfl rfl ?_)
      refine g_f rfl rfl rfl ?_
      refine g_f rfl rfl rfl ?_
      refine g_f rfl rfl rfl ?_
      refine g_f rfl rfl rfl ?_
      refine g_f rfl rfl rfl ?_
      refine g_f rfl rfl rfl ?_
      refine g_f rfl rfl rfl ?_
      refine n_ (x_pk rfl rfl rfl ?_)
      refine z_ ?_
      exact w_ [0] (.cons rfl rfl (.cons rfl rfl (.cons (by simp only [hb3, eq_self, if_true, Bool.false_eq_true, if_false, Bool.true_or, Bool.false_or, Bool.true_and, Bool.false_and, Bool.not_true, Bool.not_false]; rfl) rfl .nil))) (.lit rfl rfl .nil) (by decide) (hB_0 hB0)
  · refine c_s rfl rfl (fun hb9 => ?_) (fun hb9 => ?_)
    · rw [if_pos (show _ = true from hb9)] at hm
      refine Wp.seq ?_
      refine c_reg (Y := sysA _) ?_
      refine n_ (x_as rfl rfl ?_)
      refine z_ ?_
      refine c_ret ?_
      rw [← Option.some.inj hm]
      exact ret0 (us' := [.one (.bool false)]) rfl (r_tmp rfl rfl rfl r_nil) f_done rfl rfl
    · rw [if_neg (by rw [hb9]; decide)] at hm
      refine c_skip ?_
      refine Wp.seq ?_
      refine Wp.seq ?_
      refine c_reg (Y := sysA _) ?_
      refine n_ (x_as rfl rfl ?_)
      refine z_ ?_
      refine Wp.block ?_
      obtain ⟨y23, hl24, hm⟩ := of_bind hm
      refine c_loop hl24 (fun (st10 : Int) => St 92 [(1, .u (.one (.ptr () 0 0 0))), (3, .u (.one (.int .i64 ((List.length p.code : Int))))), (4, .u (.one (.int .i64 st10)))] [(0, some ⟨(), 4, [(eProgram false p)]⟩)] 1) (fun (y : Unit ⊕ Unit) => match y with | (Sum.inl j11) => (.ret, St 92 [(2, .u (.one (.bool false)))] [] 0) | (Sum.inr j12) => (.exit 0, St 92 [(1, .u (.one (.ptr () 0 0 0))), (3, .u (.one (.int .i64 ((List.length p.code : Int)))))] [(0, some ⟨(), 4, [(eProgram false p)]⟩)] 1)) (w_ [0] (.cons rfl rfl (.cons rfl rfl (.cons rfl rfl .nil))) (.lit rfl rfl .nil) (by decide) (hB_0 hB0)) ?_ (by rintro (_ | _) <;> simp) ?_
      · intro st10 x hm
        refine Wp.seq ?_
        refine Wp.seq ?_
        refine c_reg (Y := sysA _) ?_
        refine n_ (x_mv rfl rfl ?_)
        refine n_ (x_fap rfl F41_1 rfl rfl ?_)
        refine n_ (x_ldp rfl T24 rfl rfl rfl rfl rfl ?_)
        refine n_ (x_lnb N24 rfl fun hL13 => ?_)
        refine n_ (x_bin T3 rfl rfl rfl ?_)
        refine z_ ?_
        refine c_s rfl rfl (fun hb14 => ?_) (fun hb14 => ?_)
        · rw [if_pos (show _ = true from hb14)] at hm
          refine c_skip ?_
          refine Wp.seq ?_
          refine Wp.block ?_
          refine Wp.seq ?_
          obtain ⟨j15, hj20, hm⟩ := of_bind hm
          refine c_cut (St 92 [(1, .u (.one (.ptr () 0 0 0))), (3, .u (.one (.int .i64 ((List.length p.code : Int))))), (4, .u (.one (.int .i64 st10))), (59, .u (.one (.bool j15)))] [(0, some ⟨(), 4, [(eProgram false p)]⟩)] 1) ?_ ?_
          · replace hm := hj20
            refine c_drw (Y := sysC _) mixed ?_
            refine t_ 0 1 rfl (by decide +kernel) (x_fap rfl F41_1 rfl rfl ?_)
            refine t_ 1 1 rfl (by decide +kernel) (x_ldp rfl T24 rfl rfl rfl rfl rfl ?_)
            refine t_ 2 0 rfl (by decide +kernel) (x_mv rfl rfl ?_)
            obtain ⟨h16, hm⟩ := of_ite hm
            refine t_ 3 0 rfl (by decide +kernel) (x_ixb E24 rfl rfl h16 ?_)
            refine t_ 4 0 rfl (by decide +kernel) (x_ldi T2 rfl rfl rfl ?_)
            refine t_ 5 1 rfl (by decide +kernel) (x_fap rfl F41_0 rfl rfl ?_)
            refine t_ 6 1 rfl (by decide +kernel) (x_ldp rfl T2 rfl rfl rfl rfl rfl ?_)
            obtain ⟨h17, hm⟩ := of_ite hm
            refine t_ 7 0 rfl (by decide +kernel) (x_subc T2 rfl rfl h17 ?_)
            refine o_ 8 rfl (by decide +kernel) (x_call (v := .u (.one (.bool ((spec_l1In_m (at_ p.params st10) 0 (p.regs - 1)))))) (nobs := []) (oa' := _) (nx' := 1) rfl (a_1 rfl (b_s rfl) (a_1 rfl (b_s rfl) (a_1 rfl (b_s rfl) a_n))) c_n ent49 (spec_l1In_sim (at_ p.params st10) 0 (p.regs - 1)) rfl rfl rfl rfl ?_)
            refine t_ 9 0 rfl (by decide +kernel) (x_un rfl rfl ?_)
            refine t_ 10 0 rfl (by decide +kernel) (x_mv rfl rfl ?_)
            refine t_s 51 rfl rfl (fun hb18 => ?_) (fun hb18 => ?_)
            · rw [if_pos (show _ = true from hb18)] at hm
              refine t_f 11 rfl (by decide +kernel) rfl rfl rfl ?_
              refine t_f 12 rfl (by decide +kernel) rfl rfl rfl ?_
              refine t_f 13 rfl (by decide +kernel) rfl rfl rfl ?_
              refine t_f 14 rfl (by decide +kernel) rfl rfl rfl ?_
              refine t_f 15 rfl (by decide +kernel) rfl rfl rfl ?_
              refine t_f 16 rfl (by decide +kernel) rfl rfl rfl ?_
              refine t_f 17 rfl (by decide +kernel) rfl rfl rfl ?_
              refine t_ 18 0 rfl (by decide +kernel) (x_pk rfl rfl rfl ?_)
              refine a_nil (by decide +kernel) ?_
              cases hm
              exact w_ [0] (.cons rfl rfl (.cons rfl rfl (.cons rfl rfl (.cons rfl rfl .nil)))) (.lit rfl rfl .nil) (by decide) (hB_0 hB0)
            · rw [if_neg (by rw [hb18]; decide)] at hm
              refine t_g 11 1 rfl (by decide +kernel) rfl rfl rfl (x_fap rfl F41_2 rfl rfl ?_)
              refine t_g 12 1 rfl (by decide +kernel) rfl rfl rfl (x_ldp rfl T24 rfl rfl rfl rfl rfl ?_)
              refine t_g 13 0 rfl (by decide +kernel) rfl rfl rfl (x_mv rfl rfl ?_)
              obtain ⟨h19, hm⟩ := of_ite hm
              refine t_g 14 0 rfl (by decide +kernel) rfl rfl rfl (x_ixb E24 rfl rfl h19 ?_)
              refine t_g 15 0 rfl (by decide +kernel) rfl rfl rfl (x_ldi T2 rfl rfl rfl ?_)
              refine o_g 16 rfl (by decide +kernel) rfl rfl rfl (x_call (v := .u (.one (.bool ((spec_WidthOk_m (at_ p.widths st10)))))) (nobs := []) (oa' := _) (nx' := 1) rfl (a_1 rfl (b_s rfl) a_n) c_n ent50 (spec_WidthOk_sim (at_ p.widths st10)) rfl rfl rfl rfl ?_)
              refine t_g 17 0 rfl (by decide +kernel) rfl rfl rfl (x_un rfl rfl ?_)
              refine t_ 18 0 rfl (by decide +kernel) (x_pk rfl rfl rfl ?_)
              refine a_nil (by decide +kernel) ?_
              cases hm
              exact w_ [0] (.cons rfl rfl (.cons rfl rfl (.cons rfl rfl (.cons rfl rfl .nil)))) (.lit rfl rfl .nil) (by decide) (hB_0 hB0)
          · refine c_s rfl rfl (fun hb21 => ?_) (fun hb21 => ?_)
            · rw [if_pos (show _ = true from hb21)] at hm
              refine Wp.seq ?_
              refine c_reg (Y := sysA _) ?_
              refine n_ (x_as rfl rfl ?_)
              refine z_ ?_
              refine c_ret ?_
              cases hm
              exact ⟨rfl, w_ [] (.cons rfl rfl .nil) .nil (by decide) (hB_0 hB0)⟩
            · rw [if_neg (by rw [hb21]; decide)] at hm
              refine c_skip ?_
              refine c_reg (Y := sysA _) ?_
              refine n_ (x_mv rfl rfl ?_)
              obtain ⟨h22, hm⟩ := of_ite hm
              refine n_ (x_addc T3 rfl rfl h22 ?_)
              refine n_ (x_as rfl rfl ?_)
              refine z_ ?_
              cases hm
              exact ⟨rfl, w_ [0] (.cons rfl rfl (.cons rfl rfl (.cons rfl rfl .nil))) (.lit rfl rfl .nil) (by decide) (hB_0 hB0)⟩
        · rw [if_neg (by rw [hb14]; decide)] at hm
          refine c_exit ?_
          cases hm
          exact ⟨rfl, w_ [0] (.cons rfl rfl (.cons rfl rfl .nil)) (.lit rfl rfl .nil) (by decide) (hB_0 hB0)⟩
      · rcases y23 with j11 | j12
        all_goals simp only at hm
        · rw [← Option.some.inj hm]
          exact ret0 (us' := [.one (.bool false)]) rfl (r_tmp rfl rfl rfl r_nil) f_done rfl rfl
        · refine Wp.seq ?_
          refine Wp.seq ?_
          refine c_reg (Y := sysA _) ?_
          refine n_ (x_as rfl rfl ?_)
          refine z_ ?_
          refine Wp.block ?_
          obtain ⟨y34, hl35, hm⟩ := of_bind hm
          refine c_loop hl35 (fun (st25 : Int) => St 92 [(1, .u (.one (.ptr () 0 0 0))), (3, .u (.one (.int .i64 ((List.length p.code : Int))))), (5, .u (.one (.int .i64 st25)))] [(0, some ⟨(), 4, [(eProgram false p)]⟩)] 1) (fun (y : Unit ⊕ Unit) => match y with | (Sum.inl j26) => (.ret, St 92 [(2, .u (.one (.bool false)))] [] 0) | (Sum.inr j27) => (.exit 2, St 92 [(1, .u (.one (.ptr () 0 0 0))), (3, .u (.one (.int .i64 ((List.length p.code : Int)))))] [(0, some ⟨(), 4, [(eProgram false p)]⟩)] 1)) (w_ [0] (.cons rfl rfl (.cons rfl rfl (.cons rfl rfl .nil))) (.lit rfl rfl .nil) (by decide) (hB_0 hB0)) ?_ (by rintro (_ | _) <;> simp) ?_
          · intro st25 x hm
            refine Wp.seq ?_
            refine Wp.seq ?_
            refine c_reg (Y := sysA _) ?_
            refine n_ (x_mv rfl rfl ?_)
            refine n_ (x_mv rfl rfl ?_)
            refine n_ (x_bin T2 rfl rfl rfl ?_)
            refine z_ ?_
            refine c_s rfl rfl (fun hb28 => ?_) (fun hb28 => ?_)
            · rw [if_pos (show _ = true from hb28)] at hm
              refine c_skip ?_
              refine Wp.seq ?_
              refine Wp.block ?_
              refine Wp.seq ?_
              refine c_drw (Y := sysC _) mixed ?_
              refine t_ 0 1 rfl (by decide +kernel) (x_fap rfl F41_3 rfl rfl ?_)
              refine t_ 1 1 rfl (by decide +kernel) (x_ldp rfl T39 rfl rfl rfl rfl rfl ?_)
              refine t_ 2 0 rfl (by decide +kernel) (x_mv rfl rfl ?_)
              obtain ⟨h29, hm⟩ := of_ite hm
              refine t_ 3 0 rfl (by decide +kernel) (x_ixb E39 rfl rfl h29 ?_)
              refine t_ 4 0 rfl (by decide +kernel) (x_ldi T78 rfl (pk_all rfl rfl) rfl ?_)
              refine t_ 5 1 rfl (by decide +kernel) (x_fap rfl F41_0 rfl rfl ?_)
              refine t_ 6 1 rfl (by decide +kernel) (x_ldp rfl T2 rfl rfl rfl rfl rfl ?_)
              refine t_ 7 0 rfl (by decide +kernel) (x_mv rfl rfl ?_)
              obtain ⟨x30, h31, hm⟩ := of_bind hm
              refine o_ 8 rfl (by decide +kernel) (x_call (v := .u (.one (.bool x30))) (nobs := []) (oa' := _) (nx' := 1) rfl (a_a rfl (c_all rfl) (a_1 rfl (b_s rfl) (a_1 rfl (b_s rfl) a_n))) c_n ent51 (spec_l17Ins_sim (at_ p.code st25) p.regs ((List.length p.code : Int)) h31) rfl rfl rfl rfl ?_)
              refine t_ 9 0 rfl (by decide +kernel) (x_un rfl rfl ?_)
              refine a_nil (by decide +kernel) ?_
              refine c_s rfl rfl (fun hb32 => ?_) (fun hb32 => ?_)
              · rw [if_pos (show _ = true from hb32)] at hm
                refine Wp.seq ?_
                refine c_reg (Y := sysA _) ?_
                refine n_ (x_as rfl rfl ?_)
                refine z_ ?_
                refine c_ret ?_
                cases hm
                exact ⟨rfl, w_ [] (.cons rfl rfl .nil) .nil (by decide) (hB_0 hB0)⟩
              · rw [if_neg (by rw [hb32]; decide)] at hm
                refine c_skip ?_
                refine c_reg (Y := sysA _) ?_
                refine n_ (x_mv rfl rfl ?_)
                obtain ⟨h33, hm⟩ := of_ite hm
                refine n_ (x_addc T2 rfl rfl h33 ?_)
                refine n_ (x_as rfl rfl ?_)
                refine z_ ?_
                cases hm
                exact ⟨rfl, w_ [0] (.cons rfl rfl (.cons rfl rfl (.cons rfl rfl .nil))) (.lit rfl rfl .nil) (by decide) (hB_0 hB0)⟩
            · rw [if_neg (by rw [hb28]; decide)] at hm
              refine c_exit ?_
              cases hm
              exact ⟨rfl, w_ [0] (.cons rfl rfl (.cons rfl rfl .nil)) (.lit rfl rfl .nil) (by decide) (hB_0 hB0)⟩
          · rcases y34 with j26 | j27
            all_goals simp only at hm
            · rw [← Option.some.inj hm]
              exact ret0 (us' := [.one (.bool false)]) rfl (r_tmp rfl rfl rfl r_nil) f_done rfl rfl
            · refine Wp.seq ?_
              refine c_reg (Y := sysA _) ?_
              refine n_ (x_fap rfl F41_3 rfl rfl ?_)
              refine n_ (x_ldp rfl T39 rfl rfl rfl rfl rfl ?_)
              refine n_ (x_mv rfl rfl ?_)
              refine n_ (x_subc T2 rfl rfl (by unfold inI; omega) ?_)
              obtain ⟨h36, hm⟩ := of_ite hm
              refine n_ (x_ixb E39 rfl rfl h36 ?_)
              refine n_ (x_fai F78_0 rfl ?_)
              refine n_ (x_ldi T2 rfl rfl rfl ?_)
              refine n_ (x_as rfl rfl ?_)
              refine z_ ?_
              refine Wp.seq ?_
              refine c_cut (St 92 [(2, .u (.one (.bool ((if (((at_ p.code (((List.length p.code : Int)) - 1)).op_) == 31) = true then true else (if (((at_ p.code (((List.length p.code : Int)) - 1)).op_) == 33) = true then true else (((at_ p.code (((List.length p.code : Int)) - 1)).op_) == 34)))))))] [] 0) ?_ ?_
              · refine c_reg (Y := sysA _) ?_
                refine n_ (x_mv rfl rfl ?_)
                refine n_ (x_bin T2 rfl rfl rfl ?_)
                refine n_ (x_mv rfl rfl ?_)
                refine g_s rfl rfl rfl (fun hb38 => ?_) (fun hb38 => ?_)
                · refine g_t rfl rfl rfl ?_
                  refine n_ (x_mv rfl rfl ?_)
                  refine g_t rfl rfl rfl ?_
                  refine n_ (x_bin T2 rfl rfl rfl ?_)
                  refine n_ (x_pk rfl rfl rfl ?_)
                  refine n_ (x_mv rfl rfl ?_)
                  refine g_s rfl rfl rfl (fun hb39 => ?_) (fun hb39 => ?_)
                  · refine g_t rfl rfl rfl ?_
                    refine n_ (x_mv rfl rfl ?_)
                    refine g_t rfl rfl rfl ?_
                    refine n_ (x_bin T2 rfl rfl rfl ?_)
                    refine n_ (x_pk rfl rfl rfl ?_)
                    refine n_ (x_as rfl rfl ?_)
                    refine z_ ?_
                    exact w_ [] (.cons (by simp only [hb38, hb39, eq_self, if_true, Bool.false_eq_true, if_false, Bool.true_or, Bool.false_or, Bool.true_and, Bool.false_and, Bool.not_true, Bool.not_false]; rfl) rfl .nil) .nil (by decide) (hB_0 hB0)
                  · refine g_f rfl rfl rfl ?_
                    refine g_f rfl rfl rfl ?_
                    refine n_ (x_pk rfl rfl rfl ?_)
                    refine n_ (x_as rfl rfl ?_)
                    refine z_ ?_
                    exact w_ [] (.cons (by simp only [hb38, hb39, eq_self, if_true, Bool.false_eq_true, if_false, Bool.true_or, Bool.false_or, Bool.true_and, Bool.false_and, Bool.not_true, Bool.not_false]; rfl) rfl .nil) .nil (by decide) (hB_0 hB0)
                · refine g_f rfl rfl rfl ?_
                  refine g_f rfl rfl rfl ?_
                  refine n_ (x_pk rfl rfl rfl ?_)
                  refine n_ (x_mv rfl rfl ?_)
                  refine g_f rfl rfl rfl ?_
                  refine g_f rfl rfl rfl ?_
                  refine n_ (x_pk rfl rfl rfl ?_)
                  refine n_ (x_as rfl rfl ?_)
                  refine z_ ?_
                  exact w_ [] (.cons (by simp only [hb38, eq_self, if_true, Bool.false_eq_true, if_false, Bool.true_or, Bool.false_or, Bool.true_and, Bool.false_and, Bool.not_true, Bool.not_false]; rfl) rfl .nil) .nil (by decide) (hB_0 hB0)
              · refine c_ret ?_
                rw [← Option.some.inj hm]
                exact ret0 (us' := [.one (.bool ((if (((at_ p.code (((List.length p.code : Int)) - 1)).op_) == 31) = true then true else (if (((at_ p.code (((List.length p.code : Int)) - 1)).op_) == 33) = true then true else (((at_ p.code (((List.length p.code : Int)) - 1)).op_) == 34)))))]) rfl (r_tmp rfl rfl rfl r_nil) f_done rfl rfl

/-- impl.within -/
noncomputable def impl_within_m (n : Int) (low : Int) (high : Int) : Bool :=
  ((decide (n ≥ low) && decide (n ≤ high)))
set_option maxHeartbeats 8000000 in
set_option maxRecDepth 100000 in
theorem impl_within_sim (n : Int) (low : Int) (high : Int) : Sim Try.prog 54 [.one (.int .i64 n), .one (.int .i64 low), .one (.int .i64 high)] [] (.u (.one (.bool ((impl_within_m n low high))))) [] := by
  obtain ⟨r, hm⟩ : ∃ r, impl_within_m n low high = r := ⟨_, rfl⟩
  rw [hm]
  refine sim_st (N := 15) (k0 := 0) Try.func54 rfl rfl rfl rfl (rs := [.tmp 6]) rfl rfl rfl fun B hB0 => ?_
  unfold impl_within_m at hm
  refine Wp.seq ?_
  refine c_reg (Y := sysA _) ?_
  refine n_ (x_as rfl rfl ?_)
  refine z_ ?_
  refine Wp.seq ?_
  refine c_cut (St 15 [(6, .u (.one (.bool ((decide (n ≥ low) && decide (n ≤ high))))))] [] 0) ?_ ?_
  · refine c_reg (Y := sysA _) ?_
    refine n_ (x_mv rfl rfl ?_)
    refine n_ (x_mv rfl rfl ?_)
    refine n_ (x_bin T2 rfl rfl rfl ?_)
    refine n_ (x_mv rfl rfl ?_)
    refine g_s rfl rfl rfl (fun hb2 => ?_) (fun hb2 => ?_)
    · refine g_t rfl rfl rfl ?_
      refine n_ (x_mv rfl rfl ?_)
      refine g_t rfl rfl rfl ?_
      refine n_ (x_mv rfl rfl ?_)
      refine g_t rfl rfl rfl ?_
      refine n_ (x_bin T2 rfl rfl rfl ?_)
      refine n_ (x_pk rfl rfl rfl ?_)
      refine n_ (x_as rfl rfl ?_)
      refine z_ ?_
      exact w_ [] (.cons (by simp only [hb2, eq_self, if_true, Bool.false_eq_true, if_false, Bool.true_or, Bool.false_or, Bool.true_and, Bool.false_and, Bool.not_true, Bool.not_false]; rfl) rfl .nil) .nil (by decide) (hB_0 hB0)
    · refine g_f rfl rfl rfl ?_
      refine g_f rfl rfl rfl ?_
      refine g_f rfl rfl rfl ?_
      refine n_ (x_pk rfl rfl rfl ?_)
      refine n_ (x_as rfl rfl ?_)
      refine z_ ?_
      exact w_ [] (.cons (by simp only [hb2, eq_self, if_true, Bool.false_eq_true, if_false, Bool.true_or, Bool.false_or, Bool.true_and, Bool.false_and, Bool.not_true, Bool.not_false]; rfl) rfl .nil) .nil (by decide) (hB_0 hB0)
  · refine c_ret ?_
    rw [← hm]
    exact ret0 (us' := [.one (.bool ((decide (n ≥ low) && decide (n ≤ high))))]) rfl (r_tmp rfl rfl rfl r_nil) f_done rfl rfl

/-- (impl.Program).isReg -/
noncomputable def impl_Program_isReg_m (p : GProgram) (n : Int) : Option Bool :=
  (if inI (p.regs - 1) then
    (some ((impl_within_m n 0 (p.regs - 1))))
    else none)
set_option maxHeartbeats 8000000 in
set_option maxRecDepth 100000 in
theorem impl_Program_isReg_sim (p : GProgram) (n : Int) {r : Bool} (hm : impl_Program_isReg_m p n = some r) : Sim Try.prog 57 [.agg (eProgram false p), .one (.int .i64 n)] [] (.u (.one (.bool r))) [] := by
  refine sim_st (N := 10) (k0 := 0) Try.func57 rfl rfl rfl rfl (rs := [.tmp 4]) rfl rfl rfl fun B hB0 => ?_
  unfold impl_Program_isReg_m at hm
  refine Wp.seq ?_
  refine c_reg (Y := sysA _) ?_
  refine n_ (x_bx rfl rfl rfl rfl ?_)
  refine n_ (x_as rfl rfl ?_)
  refine z_ ?_
  refine Wp.seq ?_
  refine c_reg (Y := sysA _) ?_
  refine n_ (x_mv rfl rfl ?_)
  refine n_ (x_fap rfl F41_0 rfl rfl ?_)
  refine n_ (x_ldp rfl T2 rfl rfl rfl rfl rfl ?_)
  obtain ⟨h1, hm⟩ := of_ite hm
  refine n_ (x_subc T2 rfl rfl h1 ?_)
  refine n_ (aopK_A (x_call (v := .u (.one (.bool ((impl_within_m n 0 (p.regs - 1)))))) (nobs := []) (oa' := _) (nx' := 1) rfl (a_1 rfl (b_s rfl) (a_1 rfl (b_s rfl) (a_1 rfl (b_s rfl) a_n))) c_n ent54 (impl_within_sim n 0 (p.regs - 1)) rfl rfl rfl rfl ?_))
  refine n_ (x_as rfl rfl ?_)
  refine z_ ?_
  refine c_ret ?_
  rw [← Option.some.inj hm]
  exact ret0 (us' := [.one (.bool ((impl_within_m n 0 (p.regs - 1))))]) rfl (r_tmp rfl rfl rfl r_nil) f_done rfl rfl

/-- impl.ProgramOk$1 -/
noncomputable def impl_ProgramOk_1_m (k : Int) (a : GProgram) : Option Bool :=
  (Option.bind (impl_Program_isReg_m a k) fun x1 =>
    (some ((!x1))))
set_option maxHeartbeats 8000000 in
set_option maxRecDepth 100000 in
theorem impl_ProgramOk_1_sim (k : Int) (a : GProgram) {r : Bool} (hm : impl_ProgramOk_1_m k a = some r) : Sim Try.prog 56 [.one (.int .i64 k), .one (.ip () (eProgram false a))] [] (.u (.one (.bool r))) [] := by
  refine sim_st (N := 8) (k0 := 0) Try.func56 rfl rfl rfl rfl (rs := [.tmp 3]) rfl rfl rfl fun B hB0 => ?_
  unfold impl_ProgramOk_1_m at hm
  refine Wp.seq ?_
  refine c_reg (Y := sysA _) ?_
  refine n_ (x_as rfl rfl ?_)
  refine z_ ?_
  refine Wp.seq ?_
  refine c_reg (Y := sysA _) ?_
  refine n_ (x_ldi T41 rfl (pk_all rfl rfl) rfl ?_)
  refine n_ (x_mv rfl rfl ?_)
  obtain ⟨x1, h2, hm⟩ := of_bind hm
  refine n_ (aopK_A (x_call (v := .u (.one (.bool x1))) (nobs := []) (oa' := _) (nx' := 0) rfl (a_a rfl (c_all rfl) (a_1 rfl (b_s rfl) a_n)) c_n ent57 (impl_Program_isReg_sim a k h2) rfl rfl rfl rfl ?_))
  refine n_ (x_un rfl rfl ?_)
  refine n_ (x_as rfl rfl ?_)
  refine z_ ?_
  refine c_ret ?_
  rw [← Option.some.inj hm]
  exact ret0 (us' := [.one (.bool ((!x1)))]) rfl (r_tmp rfl rfl rfl r_nil) f_done rfl rfl

/-- slices.IndexFunc[[]int64,int64] -/
noncomputable def slices_IndexFunc_int64_int64_m (s : List Int) (f : Int → Option Bool) : Option Int :=
  (Option.bind (loopO (fun (st2 : Int) =>
        ((if decide (st2 < ((List.length s : Int))) = true then
            (if 0 ≤ st2 ∧ st2 < (List.length s : Int) then
              (Option.bind (f (at_ s st2)) fun x7 =>
                (if x7 = true then
                  (some (Sum.inr ((Sum.inl st2))))
                  else
                  (if inI (st2 + 1) then
                    (some (Sum.inl (st2 + 1)))
                    else none)))
              else none)
            else
            (some (Sum.inr ((Sum.inr (())))))) : Option ((Int) ⊕ (Int ⊕ Unit)))) 0) fun (y11 : Int ⊕ Unit) => match y11 with
    | (Sum.inl j3) =>
    (some j3)
    | (Sum.inr j4) =>
    (some ((-1))))
set_option maxHeartbeats 8000000 in
set_option maxRecDepth 100000 in
theorem slices_IndexFunc_int64_int64_sim (s : List Int) (fi : FuncId) (fc : List (L Unit)) (f : Int → Option Bool) (hef : Ent Try.prog fi) (hcf : CapOk fc) (hsf : ∀ z0 y, f z0 = some y → Sim Try.prog fi ([.one (.int .i64 z0)] ++ List.map .one fc) [] (.u (.one (.bool y))) []) {r : Int} (hm : slices_IndexFunc_int64_int64_m s f = some r) : Sim Try.prog 97 [.one (.bs () 1 (List.map iL s)), .one (.fn () fi fc)] [] (.u (.one (.int .i64 r))) [] := by
  refine sim_st (N := 19) (k0 := 0) Try.func97 rfl rfl rfl rfl (rs := [.tmp 4]) rfl (by simp [leavesU, idsL, List.all_cons, hcf.ids]) rfl fun B hB0 => ?_
  unfold slices_IndexFunc_int64_int64_m at hm
  refine Wp.seq ?_
  refine c_reg (Y := sysA _) ?_
  refine n_ (x_as rfl rfl ?_)
  refine z_ ?_
  refine Wp.seq ?_
  refine Wp.seq ?_
  refine c_reg (Y := sysA _) ?_
  refine n_ (x_mv rfl rfl ?_)
  refine n_ (x_lnb N24 rfl fun hL1 => ?_)
  refine n_ (x_mv rfl rfl ?_)
  refine z_ ?_
  refine Wp.block ?_
  obtain ⟨y11, hl12, hm⟩ := of_bind hm
  refine c_loop hl12 (fun (st2 : Int) => St 19 [(0, .u (.one (.bs () 1 (List.map iL s)))), (1, .u (.one (.fn () fi fc))), (7, .u (.one (.int .i64 ((List.length s : Int))))), (8, .u (.one (.int .i64 st2)))] [] 0) (fun (y : Int ⊕ Unit) => match y with | (Sum.inl j3) => (.ret, St 19 [(4, .u (.one (.int .i64 j3)))] [] 0) | (Sum.inr j4) => (.exit 0, St 19 [] [] 0)) (w_ [] (.cons rfl rfl (.cons (by rw [fnv_ren hcf]; rfl) (fnv_knows hcf _ _) (.cons rfl rfl (.cons rfl rfl .nil)))) .nil (by decide) (hB_0 hB0)) ?_ (by rintro (_ | _) <;> simp) ?_
  · intro st2 x hm
    refine Wp.seq ?_
    refine c_reg (Y := sysA _) ?_
    refine n_ (x_bin T3 rfl rfl rfl ?_)
    refine z_ ?_
    refine Wp.seq ?_
    refine c_s rfl rfl (fun hb5 => ?_) (fun hb5 => ?_)
    · rw [if_pos (show _ = true from hb5)] at hm
      refine c_skip ?_
      refine Wp.seq ?_
      refine Wp.block ?_
      refine Wp.seq ?_
      refine c_reg (Y := sysA _) ?_
      refine n_ (x_mv rfl rfl ?_)
      refine n_ (x_as rfl rfl ?_)
      refine z_ ?_
      refine Wp.seq ?_
      refine c_reg (Y := sysA _) ?_
      refine n_ (x_mv rfl rfl ?_)
      refine n_ (x_mv rfl rfl ?_)
      refine n_ (x_mv rfl rfl ?_)
      obtain ⟨h6, hm⟩ := of_ite hm
      refine n_ (x_ixb E24 rfl rfl h6 ?_)
      refine n_ (x_ldi T2 rfl rfl rfl ?_)
      obtain ⟨x7, h8, hm⟩ := of_bind hm
      refine n_ (aopK_A (x_call (v := .u (.one (.bool x7))) (nobs := []) (oa' := _) (nx' := 0) rfl (a_1 rfl (b_s rfl) a_n) hcf.bor hef (hsf (at_ s st2) x7 h8) rfl rfl rfl rfl ?_))
      refine z_ ?_
      refine c_s rfl rfl (fun hb9 => ?_) (fun hb9 => ?_)
      · rw [if_pos (show _ = true from hb9)] at hm
        refine Wp.seq ?_
        refine c_reg (Y := sysA _) ?_
        refine n_ (x_mv rfl rfl ?_)
        refine n_ (x_as rfl rfl ?_)
        refine z_ ?_
        refine c_ret ?_
        cases hm
        exact ⟨rfl, w_ [] (.cons rfl rfl .nil) .nil (by decide) (hB_0 hB0)⟩
      · rw [if_neg (by rw [hb9]; decide)] at hm
        refine c_skip ?_
        refine c_reg (Y := sysA _) ?_
        obtain ⟨h10, hm⟩ := of_ite hm
        refine n_ (x_addc T3 rfl rfl h10 ?_)
        refine n_ (x_mv rfl rfl ?_)
        refine z_ ?_
        cases hm
        exact ⟨rfl, w_ [] (.cons rfl rfl (.cons (by rw [fnv_ren hcf]; rfl) (fnv_knows hcf _ _) (.cons rfl rfl (.cons rfl rfl .nil)))) .nil (by decide) (hB_0 hB0)⟩
    · rw [if_neg (by rw [hb5]; decide)] at hm
      refine c_exit ?_
      cases hm
      exact ⟨rfl, w_ [] .nil .nil (by decide) (hB_0 hB0)⟩
  · rcases y11 with j3 | j4
    all_goals simp only at hm
    · rw [← Option.some.inj hm]
      exact ret0 (us' := [.one (.int .i64 j3)]) rfl (r_tmp rfl rfl rfl r_nil) f_done rfl rfl
    · refine Wp.seq ?_
      refine c_reg (Y := sysA _) ?_
      refine n_ (x_as rfl rfl ?_)
      refine z_ ?_
      refine c_ret ?_
      rw [← Option.some.inj hm]
      exact ret0 (us' := [.one (.int .i64 ((-1)))]) rfl (r_tmp rfl rfl rfl r_nil) f_done rfl rfl

/-- slices.ContainsFunc[[]int64,int64] -/
noncomputable def slices_ContainsFunc_int64_int64_m (s : List Int) (f : Int → Option Bool) : Option Bool :=
  (Option.bind (slices_IndexFunc_int64_int64_m s f) fun x1 =>
    (some (decide (x1 ≥ 0))))
set_option maxHeartbeats 8000000 in
set_option maxRecDepth 100000 in
theorem slices_ContainsFunc_int64_int64_sim (s : List Int) (fi : FuncId) (fc : List (L Unit)) (f : Int → Option Bool) (hef : Ent Try.prog fi) (hcf : CapOk fc) (hsf : ∀ z0 y, f z0 = some y → Sim Try.prog fi ([.one (.int .i64 z0)] ++ List.map .one fc) [] (.u (.one (.bool y))) []) {r : Bool} (hm : slices_ContainsFunc_int64_int64_m s f = some r) : Sim Try.prog 55 [.one (.bs () 1 (List.map iL s)), .one (.fn () fi fc)] [] (.u (.one (.bool r))) [] := by
  refine sim_st (N := 9) (k0 := 0) Try.func55 rfl rfl rfl rfl (rs := [.tmp 4]) rfl (by simp [leavesU, idsL, List.all_cons, hcf.ids]) rfl fun B hB0 => ?_
  unfold slices_ContainsFunc_int64_int64_m at hm
  refine Wp.seq ?_
  refine c_reg (Y := sysA _) ?_
  refine n_ (x_as rfl rfl ?_)
  refine z_ ?_
  refine Wp.seq ?_
  refine c_reg (Y := sysA _) ?_
  refine n_ (x_mv rfl rfl ?_)
  refine n_ (x_mv rfl rfl ?_)
  obtain ⟨x1, h2, hm⟩ := of_bind hm
  refine n_ (aopK_A (x_call (v := .u (.one (.int .i64 x1))) (nobs := []) (oa' := _) (nx' := 0) rfl (a_1 rfl (b_s rfl) (a_1 rfl (b_f hcf.bor) a_n)) c_n ent97 (slices_IndexFunc_int64_int64_sim s fi fc f hef hcf hsf h2) rfl rfl rfl rfl ?_))
  refine n_ (x_bin T3 rfl rfl rfl ?_)
  refine n_ (x_as rfl rfl ?_)
  refine z_ ?_
  refine c_ret ?_
  rw [← Option.some.inj hm]
  exact ret0 (us' := [.one (.bool (decide (x1 ≥ 0)))]) rfl (r_tmp rfl rfl rfl r_nil) f_done rfl rfl

/-- impl.WidthOk -/
noncomputable def impl_WidthOk_m (w : Int) : Bool :=
  (((w == 1) || ((w == 8) || ((w == 16) || (w == 32)))))
set_option maxHeartbeats 8000000 in
set_option maxRecDepth 100000 in
theorem impl_WidthOk_sim (w : Int) : Sim Try.prog 59 [.one (.int .i64 w)] [] (.u (.one (.bool ((impl_WidthOk_m w))))) [] := by
  obtain ⟨r, hm⟩ : ∃ r, impl_WidthOk_m w = r := ⟨_, rfl⟩
  rw [hm]
  refine sim_st (N := 17) (k0 := 0) Try.func59 rfl rfl rfl rfl (rs := [.tmp 2]) rfl rfl rfl fun B hB0 => ?_
  unfold impl_WidthOk_m at hm
  refine Wp.seq ?_
  refine c_reg (Y := sysA _) ?_
  refine n_ (x_as rfl rfl ?_)
  refine z_ ?_
  refine Wp.seq ?_
  refine c_cut (St 17 [(2, .u (.one (.bool (((w == 1) || ((w == 8) || ((w == 16) || (w == 32))))))))] [] 0) ?_ ?_
  · refine c_reg (Y := sysA _) ?_
    refine n_ (x_mv rfl rfl ?_)
    refine n_ (x_bin T2 rfl rfl rfl ?_)
    refine n_ (x_mv rfl rfl ?_)
    refine g_s rfl rfl rfl (fun hb2 => ?_) (fun hb2 => ?_)
    · refine g_t rfl rfl rfl ?_
      refine n_ (x_mv rfl rfl ?_)
      refine g_t rfl rfl rfl ?_
      refine n_ (x_bin T2 rfl rfl rfl ?_)
      refine n_ (x_pk rfl rfl rfl ?_)
      refine n_ (x_mv rfl rfl ?_)
      refine g_s rfl rfl rfl (fun hb3 => ?_) (fun hb3 => ?_)
      · refine g_t rfl rfl rfl ?_
        refine n_ (x_mv rfl rfl ?_)
        refine g_t rfl rfl rfl ?_
        refine n_ (x_bin T2 rfl rfl rfl ?_)
        refine n_ (x_pk rfl rfl rfl ?_)
        refine n_ (x_mv rfl rfl ?_)
        refine g_s rfl rfl rfl (fun hb4 => ?_) (fun hb4 => ?_)
        · refine g_t rfl rfl rfl ?_
          refine n_ (x_mv rfl rfl ?_)
          refine g_t rfl rfl rfl ?_
          refine n_ (x_bin T2 rfl rfl rfl ?_)
          refine n_ (x_pk rfl rfl rfl ?_)
          refine n_ (x_as rfl rfl ?_)
          refine z_ ?_
          exact w_ [] (.cons (by simp only [hb2, hb3, hb4, eq_self, if_true, Bool.false_eq_true, if_false, Bool.true_or, Bool.false_or, Bool.true_and, Bool.false_and, Bool.not_true, Bool.not_false]; rfl) rfl .nil) .nil (by decide) (hB_0 hB0)
        · refine g_f rfl rfl rfl ?_
          refine g_f rfl rfl rfl ?_
          refine n_ (x_pk rfl rfl rfl ?_)
          refine n_ (x_as rfl rfl ?_)
          refine z_ ?_
          exact w_ [] (.cons (by simp only [hb2, hb3, hb4, eq_self, if_true, Bool.false_eq_true, if_false, Bool.true_or, Bool.false_or, Bool.true_and, Bool.false_and, Bool.not_true, Bool.not_false]; rfl) rfl .nil) .nil (by decide) (hB_0 hB0)
      · refine g_f rfl rfl rfl ?_
        refine g_f rfl rfl rfl ?_
        refine n_ (x_pk rfl rfl rfl ?_)
        refine n_ (x_mv rfl rfl ?_)
        refine g_f rfl rfl rfl ?_
        refine g_f rfl rfl rfl ?_
        refine n_ (x_pk rfl rfl rfl ?_)
        refine n_ (x_as rfl rfl ?_)
        refine z_ ?_
        exact w_ [] (.cons (by simp only [hb2, hb3, eq_self, if_true, Bool.false_eq_true, if_false, Bool.true_or, Bool.false_or, Bool.true_and, Bool.false_and, Bool.not_true, Bool.not_false]; rfl) rfl .nil) .nil (by decide) (hB_0 hB0)
    · refine g_f rfl rfl rfl ?_
      refine g_f rfl rfl rfl ?_
      refine n_ (x_pk rfl rfl rfl ?_)
      refine n_ (x_mv rfl rfl ?_)
      refine g_f rfl rfl rfl ?_
      refine g_f rfl rfl rfl ?_
      refine n_ (x_pk rfl rfl rfl ?_)
      refine n_ (x_mv rfl rfl ?_)
      refine g_f rfl rfl rfl ?_
      refine g_f rfl rfl rfl ?_
      refine n_ (x_pk rfl rfl rfl ?_)
      refine n_ (x_as rfl rfl ?_)
      refine z_ ?_
      exact w_ [] (.cons (by simp only [hb2, eq_self, if_true, Bool.false_eq_true, if_false, Bool.true_or, Bool.false_or, Bool.true_and, Bool.false_and, Bool.not_true, Bool.not_false]; rfl) rfl .nil) .nil (by decide) (hB_0 hB0)
  · refine c_ret ?_
    rw [← hm]
    exact ret0 (us' := [.one (.bool (((w == 1) || ((w == 8) || ((w == 16) || (w == 32))))))]) rfl (r_tmp rfl rfl rfl r_nil) f_done rfl rfl

/-- impl.ProgramOk$2 -/
noncomputable def impl_ProgramOk_2_m (w : Int) : Bool :=
  ((!((impl_WidthOk_m w))))
set_option maxHeartbeats 8000000 in
set_option maxRecDepth 100000 in
theorem impl_ProgramOk_2_sim (w : Int) : Sim Try.prog 58 [.one (.int .i64 w)] [] (.u (.one (.bool ((impl_ProgramOk_2_m w))))) [] := by
  obtain ⟨r, hm⟩ : ∃ r, impl_ProgramOk_2_m w = r := ⟨_, rfl⟩
  rw [hm]
  refine sim_st (N := 6) (k0 := 0) Try.func58 rfl rfl rfl rfl (rs := [.tmp 2]) rfl rfl rfl fun B hB0 => ?_
  unfold impl_ProgramOk_2_m at hm
  refine Wp.seq ?_
  refine c_reg (Y := sysA _) ?_
  refine n_ (x_as rfl rfl ?_)
  refine z_ ?_
  refine Wp.seq ?_
  refine c_reg (Y := sysA _) ?_
  refine n_ (x_mv rfl rfl ?_)
  refine n_ (aopK_A (x_call (v := .u (.one (.bool ((impl_WidthOk_m w))))) (nobs := []) (oa' := _) (nx' := 0) rfl (a_1 rfl (b_s rfl) a_n) c_n ent59 (impl_WidthOk_sim w) rfl rfl rfl rfl ?_))
  refine n_ (x_un rfl rfl ?_)
  refine n_ (x_as rfl rfl ?_)
  refine z_ ?_
  refine c_ret ?_
  rw [← hm]
  exact ret0 (us' := [.one (.bool ((!((impl_WidthOk_m w)))))]) rfl (r_tmp rfl rfl rfl r_nil) f_done rfl rfl

/-- slices.Index[[]int64,int64] -/
noncomputable def slices_Index_int64_int64_m (s : List Int) (v : Int) : Option Int :=
  (Option.bind (loopO (fun (st2 : Int) =>
        ((if decide (st2 < ((List.length s : Int))) = true then
            (if 0 ≤ st2 ∧ st2 < (List.length s : Int) then
              (if (v == (at_ s st2)) = true then
                (some (Sum.inr ((Sum.inl st2))))
                else
                (if inI (st2 + 1) then
                  (some (Sum.inl (st2 + 1)))
                  else none))
              else none)
            else
            (some (Sum.inr ((Sum.inr (())))))) : Option ((Int) ⊕ (Int ⊕ Unit)))) 0) fun (y9 : Int ⊕ Unit) => match y9 with
    | (Sum.inl j3) =>
    (some j3)
    | (Sum.inr j4) =>
    (some ((-1))))
set_option maxHeartbeats 8000000 in
set_option maxRecDepth 100000 in
theorem slices_Index_int64_int64_sim (s : List Int) (v : Int) {r : Int} (hm : slices_Index_int64_int64_m s v = some r) : Sim Try.prog 112 [.one (.bs () 1 (List.map iL s)), .one (.int .i64 v)] [] (.u (.one (.int .i64 r))) [] := by
  refine sim_st (N := 19) (k0 := 0) Try.func112 rfl rfl rfl rfl (rs := [.tmp 4]) rfl rfl rfl fun B hB0 => ?_
  unfold slices_Index_int64_int64_m at hm
  refine Wp.seq ?_
  refine c_reg (Y := sysA _) ?_
  refine n_ (x_as rfl rfl ?_)
  refine z_ ?_
  refine Wp.seq ?_
  refine Wp.seq ?_
  refine c_reg (Y := sysA _) ?_
  refine n_ (x_mv rfl rfl ?_)
  refine n_ (x_lnb N24 rfl fun hL1 => ?_)
  refine n_ (x_mv rfl rfl ?_)
  refine z_ ?_
  refine Wp.block ?_
  obtain ⟨y9, hl10, hm⟩ := of_bind hm
  refine c_loop hl10 (fun (st2 : Int) => St 19 [(0, .u (.one (.bs () 1 (List.map iL s)))), (1, .u (.one (.int .i64 v))), (7, .u (.one (.int .i64 ((List.length s : Int))))), (8, .u (.one (.int .i64 st2)))] [] 0) (fun (y : Int ⊕ Unit) => match y with | (Sum.inl j3) => (.ret, St 19 [(4, .u (.one (.int .i64 j3)))] [] 0) | (Sum.inr j4) => (.exit 0, St 19 [] [] 0)) (w_ [] (.cons rfl rfl (.cons rfl rfl (.cons rfl rfl (.cons rfl rfl .nil)))) .nil (by decide) (hB_0 hB0)) ?_ (by rintro (_ | _) <;> simp) ?_
  · intro st2 x hm
    refine Wp.seq ?_
    refine c_reg (Y := sysA _) ?_
    refine n_ (x_bin T3 rfl rfl rfl ?_)
    refine z_ ?_
    refine Wp.seq ?_
    refine c_s rfl rfl (fun hb5 => ?_) (fun hb5 => ?_)
    · rw [if_pos (show _ = true from hb5)] at hm
      refine c_skip ?_
      refine Wp.seq ?_
      refine Wp.block ?_
      refine Wp.seq ?_
      refine c_reg (Y := sysA _) ?_
      refine n_ (x_mv rfl rfl ?_)
      refine n_ (x_as rfl rfl ?_)
      refine z_ ?_
      refine Wp.seq ?_
      refine c_reg (Y := sysA _) ?_
      refine n_ (x_mv rfl rfl ?_)
      refine n_ (x_mv rfl rfl ?_)
      refine n_ (x_mv rfl rfl ?_)
      obtain ⟨h6, hm⟩ := of_ite hm
      refine n_ (x_ixb E24 rfl rfl h6 ?_)
      refine n_ (x_ldi T2 rfl rfl rfl ?_)
      refine n_ (x_bin T2 rfl rfl rfl ?_)
      refine z_ ?_
      refine c_s rfl rfl (fun hb7 => ?_) (fun hb7 => ?_)
      · rw [if_pos (show _ = true from hb7)] at hm
        refine Wp.seq ?_
        refine c_reg (Y := sysA _) ?_
        refine n_ (x_mv rfl rfl ?_)
        refine n_ (x_as rfl rfl ?_)
        refine z_ ?_
        refine c_ret ?_
        cases hm
        exact ⟨rfl, w_ [] (.cons rfl rfl .nil) .nil (by decide) (hB_0 hB0)⟩
      · rw [if_neg (by rw [hb7]; decide)] at hm
        refine c_skip ?_
        refine c_reg (Y := sysA _) ?_
        obtain ⟨h8, hm⟩ := of_ite hm
        refine n_ (x_addc T3 rfl rfl h8 ?_)
        refine n_ (x_mv rfl rfl ?_)
        refine z_ ?_
        cases hm
        exact ⟨rfl, w_ [] (.cons rfl rfl (.cons rfl rfl (.cons rfl rfl (.cons rfl rfl .nil)))) .nil (by decide) (hB_0 hB0)⟩
    · rw [if_neg (by rw [hb5]; decide)] at hm
      refine c_exit ?_
      cases hm
      exact ⟨rfl, w_ [] .nil .nil (by decide) (hB_0 hB0)⟩
  · rcases y9 with j3 | j4
    all_goals simp only at hm
    · rw [← Option.some.inj hm]
      exact ret0 (us' := [.one (.int .i64 j3)]) rfl (r_tmp rfl rfl rfl r_nil) f_done rfl rfl
    · refine Wp.seq ?_
      refine c_reg (Y := sysA _) ?_
      refine n_ (x_as rfl rfl ?_)
      refine z_ ?_
      refine c_ret ?_
      rw [← Option.some.inj hm]
      exact ret0 (us' := [.one (.int .i64 ((-1)))]) rfl (r_tmp rfl rfl rfl r_nil) f_done rfl rfl

/-- slices.Contains[[]int64,int64] -/
noncomputable def slices_Contains_int64_int64_m (s : List Int) (v : Int) : Option Bool :=
  (Option.bind (slices_Index_int64_int64_m s v) fun x1 =>
    (some (decide (x1 ≥ 0))))
set_option maxHeartbeats 8000000 in
set_option maxRecDepth 100000 in
theorem slices_Contains_int64_int64_sim (s : List Int) (v : Int) {r : Bool} (hm : slices_Contains_int64_int64_m s v = some r) : Sim Try.prog 93 [.one (.bs () 1 (List.map iL s)), .one (.int .i64 v)] [] (.u (.one (.bool r))) [] := by
  refine sim_st (N := 9) (k0 := 0) Try.func93 rfl rfl rfl rfl (rs := [.tmp 4]) rfl rfl rfl fun B hB0 => ?_
  unfold slices_Contains_int64_int64_m at hm
  refine Wp.seq ?_
  refine c_reg (Y := sysA _) ?_
  refine n_ (x_as rfl rfl ?_)
  refine z_ ?_
  refine Wp.seq ?_
  refine c_reg (Y := sysA _) ?_
  refine n_ (x_mv rfl rfl ?_)
  refine n_ (x_mv rfl rfl ?_)
  obtain ⟨x1, h2, hm⟩ := of_bind hm
  refine n_ (aopK_A (x_call (v := .u (.one (.int .i64 x1))) (nobs := []) (oa' := _) (nx' := 0) rfl (a_1 rfl (b_s rfl) (a_1 rfl (b_s rfl) a_n)) c_n ent112 (slices_Index_int64_int64_sim s v h2) rfl rfl rfl rfl ?_))
  refine n_ (x_bin T3 rfl rfl rfl ?_)
  refine n_ (x_as rfl rfl ?_)
  refine z_ ?_
  refine c_ret ?_
  rw [← Option.some.inj hm]
  exact ret0 (us' := [.one (.bool (decide (x1 ≥ 0)))]) rfl (r_tmp rfl rfl rfl r_nil) f_done rfl rfl

/-- impl.is -/
noncomputable def impl_is_m (op_ : Int) (ops : List Int) : Option Bool :=
  (Option.bind (slices_Contains_int64_int64_m ops op_) fun x1 =>
    (some x1))
set_option maxHeartbeats 8000000 in
set_option maxRecDepth 100000 in
theorem impl_is_sim (op_ : Int) (ops : List Int) {r : Bool} (hm : impl_is_m op_ ops = some r) : Sim Try.prog 60 [.one (.int .i64 op_), .one (.bs () 1 (List.map iL ops))] [] (.u (.one (.bool r))) [] := by
  refine sim_st (N := 8) (k0 := 0) Try.func60 rfl rfl rfl rfl (rs := [.tmp 4]) rfl rfl rfl fun B hB0 => ?_
  unfold impl_is_m at hm
  refine Wp.seq ?_
  refine c_reg (Y := sysA _) ?_
  refine n_ (x_as rfl rfl ?_)
  refine z_ ?_
  refine Wp.seq ?_
  refine c_reg (Y := sysA _) ?_
  refine n_ (x_mv rfl rfl ?_)
  refine n_ (x_mv rfl rfl ?_)
  obtain ⟨x1, h2, hm⟩ := of_bind hm
  refine n_ (aopK_A (x_call (v := .u (.one (.bool x1))) (nobs := []) (oa' := _) (nx' := 0) rfl (a_1 rfl (b_s rfl) (a_1 rfl (b_s rfl) a_n)) c_n ent93 (slices_Contains_int64_int64_sim ops op_ h2) rfl rfl rfl rfl ?_))
  refine n_ (x_as rfl rfl ?_)
  refine z_ ?_
  refine c_ret ?_
  rw [← Option.some.inj hm]
  exact ret0 (us' := [.one (.bool x1)]) rfl (r_tmp rfl rfl rfl r_nil) f_done rfl rfl

/-- impl.isBinary -/
noncomputable def impl_isBinary_m (op_ : Int) : Bool :=
  ((impl_within_m op_ 1 17))
set_option maxHeartbeats 8000000 in
set_option maxRecDepth 100000 in
theorem impl_isBinary_sim (op_ : Int) : Sim Try.prog 83 [.one (.int .i64 op_)] [] (.u (.one (.bool ((impl_isBinary_m op_))))) [] := by
  obtain ⟨r, hm⟩ : ∃ r, impl_isBinary_m op_ = r := ⟨_, rfl⟩
  rw [hm]
  refine sim_st (N := 5) (k0 := 0) Try.func83 rfl rfl rfl rfl (rs := [.tmp 2]) rfl rfl rfl fun B hB0 => ?_
  unfold impl_isBinary_m at hm
  refine Wp.seq ?_
  refine c_reg (Y := sysA _) ?_
  refine n_ (x_as rfl rfl ?_)
  refine z_ ?_
  refine Wp.seq ?_
  refine c_reg (Y := sysA _) ?_
  refine n_ (x_mv rfl rfl ?_)
  refine n_ (aopK_A (x_call (v := .u (.one (.bool ((impl_within_m op_ 1 17))))) (nobs := []) (oa' := _) (nx' := 0) rfl (a_1 rfl (b_s rfl) (a_1 rfl (b_s rfl) (a_1 rfl (b_s rfl) a_n))) c_n ent54 (impl_within_sim op_ 1 17) rfl rfl rfl rfl ?_))
  refine n_ (x_as rfl rfl ?_)
  refine z_ ?_
  refine c_ret ?_
  rw [← hm]
  exact ret0 (us' := [.one (.bool ((impl_within_m op_ 1 17)))]) rfl (r_tmp rfl rfl rfl r_nil) f_done rfl rfl

/-- impl.isCast -/
noncomputable def impl_isCast_m (op_ : Int) : Bool :=
  ((impl_within_m op_ 18 20))
set_option maxHeartbeats 8000000 in
set_option maxRecDepth 100000 in
theorem impl_isCast_sim (op_ : Int) : Sim Try.prog 84 [.one (.int .i64 op_)] [] (.u (.one (.bool ((impl_isCast_m op_))))) [] := by
  obtain ⟨r, hm⟩ : ∃ r, impl_isCast_m op_ = r := ⟨_, rfl⟩
  rw [hm]
  refine sim_st (N := 5) (k0 := 0) Try.func84 rfl rfl rfl rfl (rs := [.tmp 2]) rfl rfl rfl fun B hB0 => ?_
  unfold impl_isCast_m at hm
  refine Wp.seq ?_
  refine c_reg (Y := sysA _) ?_
  refine n_ (x_as rfl rfl ?_)
  refine z_ ?_
  refine Wp.seq ?_
  refine c_reg (Y := sysA _) ?_
  refine n_ (x_mv rfl rfl ?_)
  refine n_ (aopK_A (x_call (v := .u (.one (.bool ((impl_within_m op_ 18 20))))) (nobs := []) (oa' := _) (nx' := 0) rfl (a_1 rfl (b_s rfl) (a_1 rfl (b_s rfl) (a_1 rfl (b_s rfl) a_n))) c_n ent54 (impl_within_sim op_ 18 20) rfl rfl rfl rfl ?_))
  refine n_ (x_as rfl rfl ?_)
  refine z_ ?_
  refine c_ret ?_
  rw [← hm]
  exact ret0 (us' := [.one (.bool ((impl_within_m op_ 18 20)))]) rfl (r_tmp rfl rfl rfl r_nil) f_done rfl rfl

/-- impl.used -/
noncomputable def impl_used_m (op_ : Int) : (List UInt8) × Bool :=
  (if (impl_isBinary_m op_) = true then
    (([87, 68, 65, 66], true))
    else
    (if (impl_isCast_m op_) = true then
      (([87, 68, 65, 67], true))
      else
      ((Option.getD (lkE [(21, [87, 68, 73]), (22, [87, 68, 65, 66, 67]), (23, [87, 68, 65]), (24, [65, 66]), (25, [65]), (31, [73]), (32, [65, 73]), (33, [87, 65]), (35, [87, 68, 65]), (34, [])] op_) [], Option.isSome (lkE [(21, [87, 68, 73]), (22, [87, 68, 65, 66, 67]), (23, [87, 68, 65]), (24, [65, 66]), (25, [65]), (31, [73]), (32, [65, 73]), (33, [87, 65]), (35, [87, 68, 65]), (34, [])] op_)))))
set_option maxHeartbeats 8000000 in
set_option maxRecDepth 100000 in
theorem impl_used_sim (op_ : Int) : Sim Try.prog 99 [.one (.int .i64 op_)] [] (.tup [.one (.str (bts (((impl_used_m op_)).1))), .one (.bool (((impl_used_m op_)).2))]) [] := by
  obtain ⟨r, hm⟩ : ∃ r, impl_used_m op_ = r := ⟨_, rfl⟩
  rw [hm]
  refine sim_st (N := 21) (k0 := 0) Try.func99 rfl rfl rfl rfl (rs := [.tmp 2, .tmp 3]) rfl rfl rfl fun B hB0 => ?_
  unfold impl_used_m at hm
  refine Wp.seq ?_
  refine c_reg (Y := sysA _) ?_
  refine n_ (x_as rfl rfl ?_)
  refine n_ (x_as rfl rfl ?_)
  refine z_ ?_
  refine Wp.seq ?_
  refine Wp.block ?_
  refine Wp.seq ?_
  refine c_reg (Y := sysA _) ?_
  refine n_ (x_mv rfl rfl ?_)
  refine n_ (aopK_A (x_call (v := .u (.one (.bool ((impl_isBinary_m op_))))) (nobs := []) (oa' := _) (nx' := 0) rfl (a_1 rfl (b_s rfl) a_n) c_n ent83 (impl_isBinary_sim op_) rfl rfl rfl rfl ?_))
  refine n_ (x_as rfl rfl ?_)
  refine z_ ?_
  refine c_s rfl rfl (fun hb1 => ?_) (fun hb1 => ?_)
  · rw [if_pos (show _ = true from hb1)] at hm
    refine Wp.seq ?_
    refine c_reg (Y := sysA _) ?_
    refine n_ (x_as rfl rfl ?_)
    refine n_ (x_as rfl rfl ?_)
    refine z_ ?_
    refine c_ret ?_
    rw [← hm]
    exact ret0 (us' := [.one (.str (bts ([87, 68, 65, 66]))), .one (.bool true)]) rfl (r_tmp rfl rfl rfl (r_tmp rfl rfl rfl r_nil)) f_done rfl rfl
  · rw [if_neg (by rw [hb1]; decide)] at hm
    refine Wp.seq ?_
    refine c_reg (Y := sysA _) ?_
    refine n_ (x_mv rfl rfl ?_)
    refine n_ (aopK_A (x_call (v := .u (.one (.bool ((impl_isCast_m op_))))) (nobs := []) (oa' := _) (nx' := 0) rfl (a_1 rfl (b_s rfl) a_n) c_n ent84 (impl_isCast_sim op_) rfl rfl rfl rfl ?_))
    refine n_ (x_as rfl rfl ?_)
    refine z_ ?_
    refine c_s rfl rfl (fun hb2 => ?_) (fun hb2 => ?_)
    · rw [if_pos (show _ = true from hb2)] at hm
      refine Wp.seq ?_
      refine c_reg (Y := sysA _) ?_
      refine n_ (x_as rfl rfl ?_)
      refine n_ (x_as rfl rfl ?_)
      refine z_ ?_
      refine c_ret ?_
      rw [← hm]
      exact ret0 (us' := [.one (.str (bts ([87, 68, 65, 67]))), .one (.bool true)]) rfl (r_tmp rfl rfl rfl (r_tmp rfl rfl rfl r_nil)) f_done rfl rfl
    · rw [if_neg (by rw [hb2]; decide)] at hm
      refine c_skip ?_
      refine Wp.seq ?_
      refine c_map Try.underlying123 Try.underlying2 (fun W => by kernel_rfl) 10 [(21, [87, 68, 73]), (22, [87, 68, 65, 66, 67]), (23, [87, 68, 65]), (24, [65, 66]), (25, [65]), (31, [73]), (32, [65, 73]), (33, [87, 65]), (35, [87, 68, 65]), (34, [])] rfl rfl rfl rfl ⟨rfl, rfl, rfl⟩ (.cons ⟨rfl, rfl, rfl⟩ (.cons ⟨rfl, rfl, rfl⟩ (.cons ⟨rfl, rfl, rfl⟩ (.cons ⟨rfl, rfl, rfl⟩ (.cons ⟨rfl, rfl, rfl⟩ (.cons ⟨rfl, rfl, rfl⟩ (.cons ⟨rfl, rfl, rfl⟩ (.cons ⟨rfl, rfl, rfl⟩ (.cons ⟨rfl, rfl, rfl⟩ (.cons ⟨rfl, rfl, rfl⟩ .nil)))))))))) (by decide) ⟨rfl, rfl, rfl⟩ ⟨rfl, rfl, rfl⟩ ⟨rfl, rfl, rfl⟩ rfl ⟨nofun, nofun⟩ ⟨rfl, rfl, rfl⟩ (by decide) (by decide) ?_
      refine n_ (x_mv rfl rfl ?_)
      refine n_ (x_ex rfl rfl rfl ?_)
      refine n_ (x_ex rfl rfl rfl ?_)
      refine n_ (x_as rfl rfl ?_)
      refine n_ (x_as rfl rfl ?_)
      refine z_ ?_
      refine Wp.seq ?_
      refine c_reg (Y := sysA _) ?_
      refine n_ (x_mv rfl rfl ?_)
      refine n_ (x_mv rfl rfl ?_)
      refine n_ (x_as rfl rfl ?_)
      refine n_ (x_as rfl rfl ?_)
      refine z_ ?_
      refine c_ret ?_
      rw [← hm]
      exact ret0 (us' := [.one (.str (bts (Option.getD (lkE [(21, [87, 68, 73]), (22, [87, 68, 65, 66, 67]), (23, [87, 68, 65]), (24, [65, 66]), (25, [65]), (31, [73]), (32, [65, 73]), (33, [87, 65]), (35, [87, 68, 65]), (34, [])] op_) []))), .one (.bool (Option.isSome (lkE [(21, [87, 68, 73]), (22, [87, 68, 65, 66, 67]), (23, [87, 68, 65]), (24, [65, 66]), (25, [65]), (31, [73]), (32, [65, 73]), (33, [87, 65]), (35, [87, 68, 65]), (34, [])] op_)))]) rfl (r_tmp rfl rfl rfl (r_tmp rfl rfl rfl r_nil)) f_done rfl rfl

/-- slices.Index[[]byte,byte] -/
noncomputable def slices_Index_byte_byte_m (s : List Int) (v : Int) : Option Int :=
  (Option.bind (loopO (fun (st2 : Int) =>
        ((if decide (st2 < ((List.length s : Int))) = true then
            (if 0 ≤ st2 ∧ st2 < (List.length s : Int) then
              (if (v == (at_ s st2)) = true then
                (some (Sum.inr ((Sum.inl st2))))
                else
                (if inI (st2 + 1) then
                  (some (Sum.inl (st2 + 1)))
                  else none))
              else none)
            else
            (some (Sum.inr ((Sum.inr (())))))) : Option ((Int) ⊕ (Int ⊕ Unit)))) 0) fun (y9 : Int ⊕ Unit) => match y9 with
    | (Sum.inl j3) =>
    (some j3)
    | (Sum.inr j4) =>
    (some ((-1))))
set_option maxHeartbeats 8000000 in
set_option maxRecDepth 100000 in
theorem slices_Index_byte_byte_sim (s : List Int) (v : Int) {r : Int} (hm : slices_Index_byte_byte_m s v = some r) : Sim Try.prog 126 [.one (.bs () 1 (List.map (iK .u8) s)), .one (.int .u8 v)] [] (.u (.one (.int .i64 r))) [] := by
  refine sim_st (N := 19) (k0 := 0) Try.func126 rfl rfl rfl rfl (rs := [.tmp 4]) rfl rfl rfl fun B hB0 => ?_
  unfold slices_Index_byte_byte_m at hm
  refine Wp.seq ?_
  refine c_reg (Y := sysA _) ?_
  refine n_ (x_as rfl rfl ?_)
  refine z_ ?_
  refine Wp.seq ?_
  refine Wp.seq ?_
  refine c_reg (Y := sysA _) ?_
  refine n_ (x_mv rfl rfl ?_)
  refine n_ (x_lnb N22 rfl fun hL1 => ?_)
  refine n_ (x_mv rfl rfl ?_)
  refine z_ ?_
  refine Wp.block ?_
  obtain ⟨y9, hl10, hm⟩ := of_bind hm
  refine c_loop hl10 (fun (st2 : Int) => St 19 [(0, .u (.one (.bs () 1 (List.map (iK .u8) s)))), (1, .u (.one (.int .u8 v))), (7, .u (.one (.int .i64 ((List.length s : Int))))), (8, .u (.one (.int .i64 st2)))] [] 0) (fun (y : Int ⊕ Unit) => match y with | (Sum.inl j3) => (.ret, St 19 [(4, .u (.one (.int .i64 j3)))] [] 0) | (Sum.inr j4) => (.exit 0, St 19 [] [] 0)) (w_ [] (.cons rfl rfl (.cons rfl rfl (.cons rfl rfl (.cons rfl rfl .nil)))) .nil (by decide) (hB_0 hB0)) ?_ (by rintro (_ | _) <;> simp) ?_
  · intro st2 x hm
    refine Wp.seq ?_
    refine c_reg (Y := sysA _) ?_
    refine n_ (x_bin T3 rfl rfl rfl ?_)
    refine z_ ?_
    refine Wp.seq ?_
    refine c_s rfl rfl (fun hb5 => ?_) (fun hb5 => ?_)
    · rw [if_pos (show _ = true from hb5)] at hm
      refine c_skip ?_
      refine Wp.seq ?_
      refine Wp.block ?_
      refine Wp.seq ?_
      refine c_reg (Y := sysA _) ?_
      refine n_ (x_mv rfl rfl ?_)
      refine n_ (x_as rfl rfl ?_)
      refine z_ ?_
      refine Wp.seq ?_
      refine c_reg (Y := sysA _) ?_
      refine n_ (x_mv rfl rfl ?_)
      refine n_ (x_mv rfl rfl ?_)
      refine n_ (x_mv rfl rfl ?_)
      obtain ⟨h6, hm⟩ := of_ite hm
      refine n_ (x_ixb E22 rfl rfl h6 ?_)
      refine n_ (x_ldi T5 rfl rfl rfl ?_)
      refine n_ (x_bin T5 rfl rfl rfl ?_)
      refine z_ ?_
      refine c_s rfl rfl (fun hb7 => ?_) (fun hb7 => ?_)
      · rw [if_pos (show _ = true from hb7)] at hm
        refine Wp.seq ?_
        refine c_reg (Y := sysA _) ?_
        refine n_ (x_mv rfl rfl ?_)
        refine n_ (x_as rfl rfl ?_)
        refine z_ ?_
        refine c_ret ?_
        cases hm
        exact ⟨rfl, w_ [] (.cons rfl rfl .nil) .nil (by decide) (hB_0 hB0)⟩
      · rw [if_neg (by rw [hb7]; decide)] at hm
        refine c_skip ?_
        refine c_reg (Y := sysA _) ?_
        obtain ⟨h8, hm⟩ := of_ite hm
        refine n_ (x_addc T3 rfl rfl h8 ?_)
        refine n_ (x_mv rfl rfl ?_)
        refine z_ ?_
        cases hm
        exact ⟨rfl, w_ [] (.cons rfl rfl (.cons rfl rfl (.cons rfl rfl (.cons rfl rfl .nil)))) .nil (by decide) (hB_0 hB0)⟩
    · rw [if_neg (by rw [hb5]; decide)] at hm
      refine c_exit ?_
      cases hm
      exact ⟨rfl, w_ [] .nil .nil (by decide) (hB_0 hB0)⟩
  · rcases y9 with j3 | j4
    all_goals simp only at hm
    · rw [← Option.some.inj hm]
      exact ret0 (us' := [.one (.int .i64 j3)]) rfl (r_tmp rfl rfl rfl r_nil) f_done rfl rfl
    · refine Wp.seq ?_
      refine c_reg (Y := sysA _) ?_
      refine n_ (x_as rfl rfl ?_)
      refine z_ ?_
      refine c_ret ?_
      rw [← Option.some.inj hm]
      exact ret0 (us' := [.one (.int .i64 ((-1)))]) rfl (r_tmp rfl rfl rfl r_nil) f_done rfl rfl

/-- slices.Contains[[]byte,byte] -/
noncomputable def slices_Contains_byte_byte_m (s : List Int) (v : Int) : Option Bool :=
  (Option.bind (slices_Index_byte_byte_m s v) fun x1 =>
    (some (decide (x1 ≥ 0))))
set_option maxHeartbeats 8000000 in
set_option maxRecDepth 100000 in
theorem slices_Contains_byte_byte_sim (s : List Int) (v : Int) {r : Bool} (hm : slices_Contains_byte_byte_m s v = some r) : Sim Try.prog 114 [.one (.bs () 1 (List.map (iK .u8) s)), .one (.int .u8 v)] [] (.u (.one (.bool r))) [] := by
  refine sim_st (N := 9) (k0 := 0) Try.func114 rfl rfl rfl rfl (rs := [.tmp 4]) rfl rfl rfl fun B hB0 => ?_
  unfold slices_Contains_byte_byte_m at hm
  refine Wp.seq ?_
  refine c_reg (Y := sysA _) ?_
  refine n_ (x_as rfl rfl ?_)
  refine z_ ?_
  refine Wp.seq ?_
  refine c_reg (Y := sysA _) ?_
  refine n_ (x_mv rfl rfl ?_)
  refine n_ (x_mv rfl rfl ?_)
  obtain ⟨x1, h2, hm⟩ := of_bind hm
  refine n_ (aopK_A (x_call (v := .u (.one (.int .i64 x1))) (nobs := []) (oa' := _) (nx' := 0) rfl (a_1 rfl (b_s rfl) (a_1 rfl (b_s rfl) a_n)) c_n ent126 (slices_Index_byte_byte_sim s v h2) rfl rfl rfl rfl ?_))
  refine n_ (x_bin T3 rfl rfl rfl ?_)
  refine n_ (x_as rfl rfl ?_)
  refine z_ ?_
  refine c_ret ?_
  rw [← Option.some.inj hm]
  exact ret0 (us' := [.one (.bool (decide (x1 ≥ 0)))]) rfl (r_tmp rfl rfl rfl r_nil) f_done rfl rfl

/-- impl.isBlank -/
noncomputable def impl_isBlank_m (vx : GMIns) (uses : List UInt8) : Option Bool :=
  (Option.bind (loopO (fun (st2 : Int) =>
        ((if decide (st2 < ((List.length ([vx.w, vx.d, vx.a, vx.b, vx.c, vx.imm]) : Int))) = true then
            (if 0 ≤ st2 ∧ st2 < (List.length ([vx.w, vx.d, vx.a, vx.b, vx.c, vx.imm]) : Int) then
              (Option.bind ((if ((at_ ([vx.w, vx.d, vx.a, vx.b, vx.c, vx.imm]) st2) != 0) = true then
                    (if List.length uses ≤ LIM then
                      (if 0 ≤ st2 ∧ st2 < (List.length ([87, 68, 65, 66, 67, 73]) : Int) then
                        (Option.bind (slices_Contains_byte_byte_m (byI uses) (sat ([87, 68, 65, 66, 67, 73]) st2)) fun x11 =>
                        (some ((!x11))))
                        else none)
                      else none)
                    else
                    (some false))) fun (j7 : Bool) =>
                (if j7 = true then
                  (some (Sum.inr ((Sum.inl (())))))
                  else
                  (if inI (st2 + 1) then
                    (some (Sum.inl (st2 + 1)))
                    else none)))
              else none)
            else
            (some (Sum.inr ((Sum.inr (())))))) : Option ((Int) ⊕ (Unit ⊕ Unit)))) 0) fun (y16 : Unit ⊕ Unit) => match y16 with
    | (Sum.inl j3) =>
    (some false)
    | (Sum.inr j4) =>
    (some true))
set_option maxHeartbeats 8000000 in
set_option maxRecDepth 100000 in
theorem impl_isBlank_sim (vx : GMIns) (uses : List UInt8) {r : Bool} (hm : impl_isBlank_m vx uses = some r) : Sim Try.prog 100 [.agg (eMIns vx), .one (.str (bts uses))] [] (.u (.one (.bool r))) [] := by
  refine sim_st (N := 37) (k0 := 0) Try.func100 rfl rfl rfl rfl (rs := [.tmp 4]) rfl rfl rfl fun B hB0 => ?_
  unfold impl_isBlank_m at hm
  refine Wp.seq ?_
  refine c_reg (Y := sysA _) ?_
  refine n_ (x_bx rfl rfl rfl rfl ?_)
  refine n_ (x_as rfl rfl ?_)
  refine z_ ?_
  refine Wp.seq ?_
  refine Wp.seq ?_
  refine c_reg (Y := sysA _) ?_
  refine n_ (x_fap rfl F78_1 rfl rfl ?_)
  refine n_ (x_ldp rfl T2 rfl rfl rfl rfl rfl ?_)
  refine n_ (x_fap rfl F78_2 rfl rfl ?_)
  refine n_ (x_ldp rfl T2 rfl rfl rfl rfl rfl ?_)
  refine n_ (x_fap rfl F78_3 rfl rfl ?_)
  refine n_ (x_ldp rfl T2 rfl rfl rfl rfl rfl ?_)
  refine n_ (x_fap rfl F78_4 rfl rfl ?_)
  refine n_ (x_ldp rfl T2 rfl rfl rfl rfl rfl ?_)
  refine n_ (x_fap rfl F78_5 rfl rfl ?_)
  refine n_ (x_ldp rfl T2 rfl rfl rfl rfl rfl ?_)
  refine n_ (x_fap rfl F78_6 rfl rfl ?_)
  refine n_ (x_ldp rfl T2 rfl rfl rfl rfl rfl ?_)
  refine n_ (x_bsm (enc := iL) ([vx.w, vx.d, vx.a, vx.b, vx.c, vx.imm]) A24 rfl rfl rfl rfl ?_)
  refine n_ (x_lnr rfl N24 rfl rfl fun hL1 => ?_)
  refine n_ (x_mv rfl rfl ?_)
  refine z_ ?_
  refine Wp.block ?_
  obtain ⟨y16, hl17, hm⟩ := of_bind hm
  refine c_loop hl17 (fun (st2 : Int) => St 37 [(1, .u (.one (.str (bts uses)))), (19, .u (.one (.ref () 0 0 (List.length ([vx.w, vx.d, vx.a, vx.b, vx.c, vx.imm]))))), (20, .u (.one (.int .i64 ((List.length ([vx.w, vx.d, vx.a, vx.b, vx.c, vx.imm]) : Int))))), (21, .u (.one (.int .i64 st2)))] [(0, some ⟨(), 1, List.map iL ([vx.w, vx.d, vx.a, vx.b, vx.c, vx.imm])⟩)] 1) (fun (y : Unit ⊕ Unit) => match y with | (Sum.inl j3) => (.ret, St 37 [(4, .u (.one (.bool false)))] [] 0) | (Sum.inr j4) => (.exit 0, St 37 [] [] 0)) (w_ [1] (.cons rfl rfl (.cons (by first | rfl | (simp only [List.length_set]; rfl)) rfl (.cons rfl rfl (.cons rfl rfl .nil)))) (.map rfl .nil) (by decide) (hB_0 hB0)) ?_ (by rintro (_ | _) <;> simp) ?_
  · intro st2 x hm
    refine Wp.seq ?_
    refine c_reg (Y := sysA _) ?_
    refine n_ (x_bin T3 rfl rfl rfl ?_)
    refine z_ ?_
    refine Wp.seq ?_
    refine c_s rfl rfl (fun hb5 => ?_) (fun hb5 => ?_)
    · rw [if_pos (show _ = true from hb5)] at hm
      refine c_skip ?_
      refine Wp.seq ?_
      refine Wp.block ?_
      refine Wp.seq ?_
      refine c_reg (Y := sysA _) ?_
      refine n_ (x_mv rfl rfl ?_)
      obtain ⟨h6, hm⟩ := of_ite hm
      refine n_ (x_ix0 rfl E24 rfl rfl rfl h6 ?_)
      refine n_ (x_ldn rfl T2 rfl rfl h6 rfl rfl ?_)
      refine n_ (x_as rfl rfl ?_)
      refine n_ (x_as rfl rfl ?_)
      refine z_ ?_
      refine Wp.seq ?_
      obtain ⟨j7, hj13, hm⟩ := of_bind hm
      refine c_cut (St 37 [(1, .u (.one (.str (bts uses)))), (19, .u (.one (.ref () 0 0 (List.length ([vx.w, vx.d, vx.a, vx.b, vx.c, vx.imm]))))), (20, .u (.one (.int .i64 ((List.length ([vx.w, vx.d, vx.a, vx.b, vx.c, vx.imm]) : Int))))), (21, .u (.one (.int .i64 st2))), (35, .u (.one (.bool j7)))] [(0, some ⟨(), 1, List.map iL ([vx.w, vx.d, vx.a, vx.b, vx.c, vx.imm])⟩)] 1) ?_ ?_
      · replace hm := hj13
        refine c_reg (Y := sysA _) ?_
        refine n_ (x_mv rfl rfl ?_)
        refine n_ (x_bin T2 rfl rfl rfl ?_)
        refine n_ (x_mv rfl rfl ?_)
        refine g_s rfl rfl rfl (fun hb8 => ?_) (fun hb8 => ?_)
        · rw [if_pos (show _ = true from hb8)] at hm
          refine g_t rfl rfl rfl ?_
          refine n_ (x_mv rfl rfl ?_)
          refine g_t rfl rfl rfl ?_
          obtain ⟨h9, hm⟩ := of_ite hm
          refine n_ (x_cvb (te := 5) (s := uses) Try.underlying9 Try.underlying22 Try.underlying5 rfl h9 ?_)
          refine g_t rfl rfl rfl ?_
          refine n_ (x_mv rfl rfl ?_)
          refine g_t rfl rfl rfl ?_
          obtain ⟨h10, hm⟩ := of_ite hm
          refine n_ (x_sx N9 (s := [87, 68, 65, 66, 67, 73]) rfl rfl h10 ?_)
          refine g_t rfl rfl rfl ?_
          obtain ⟨x11, h12, hm⟩ := of_bind hm
          refine n_ (aopK_A (x_call (v := .u (.one (.bool x11))) (nobs := []) (oa' := _) (nx' := 1) rfl (a_1 rfl (b_s rfl) (a_1 rfl (b_s rfl) a_n)) c_n ent114 (slices_Contains_byte_byte_sim (byI uses) (sat ([87, 68, 65, 66, 67, 73]) st2) h12) rfl rfl rfl rfl ?_))
          refine g_t rfl rfl rfl ?_
          refine n_ (x_un rfl rfl ?_)
          refine n_ (x_pk rfl rfl rfl ?_)
          refine z_ ?_
          cases hm
          exact w_ [0] (.cons rfl rfl (.cons (by first | rfl | (simp only [List.length_set]; rfl)) rfl (.cons rfl rfl (.cons rfl rfl (.cons rfl rfl .nil))))) (.map rfl .nil) (by decide) (hB_0 hB0)
        · rw [if_neg (by rw [hb8]; decide)] at hm
          refine g_f rfl rfl rfl ?_
          refine g_f rfl rfl rfl ?_
          refine g_f rfl rfl rfl ?_
          refine g_f rfl rfl rfl ?_
          refine g_f rfl rfl rfl ?_
          refine g_f rfl rfl rfl ?_
          refine n_ (x_pk rfl rfl rfl ?_)
          refine z_ ?_
          cases hm
          exact w_ [0] (.cons rfl rfl (.cons (by first | rfl | (simp only [List.length_set]; rfl)) rfl (.cons rfl rfl (.cons rfl rfl (.cons rfl rfl .nil))))) (.map rfl .nil) (by decide) (hB_0 hB0)
      · refine c_s rfl rfl (fun hb14 => ?_) (fun hb14 => ?_)
        · rw [if_pos (show _ = true from hb14)] at hm
          refine Wp.seq ?_
          refine c_reg (Y := sysA _) ?_
          refine n_ (x_as rfl rfl ?_)
          refine z_ ?_
          refine c_ret ?_
          cases hm
          exact ⟨rfl, w_ [] (.cons rfl rfl .nil) .nil (by decide) (hB_0 hB0)⟩
        · rw [if_neg (by rw [hb14]; decide)] at hm
          refine c_skip ?_
          refine c_reg (Y := sysA _) ?_
          obtain ⟨h15, hm⟩ := of_ite hm
          refine n_ (x_addc T3 rfl rfl h15 ?_)
          refine n_ (x_mv rfl rfl ?_)
          refine z_ ?_
          cases hm
          exact ⟨rfl, w_ [0] (.cons rfl rfl (.cons (by first | rfl | (simp only [List.length_set]; rfl)) rfl (.cons rfl rfl (.cons rfl rfl .nil)))) (.map rfl .nil) (by decide) (hB_0 hB0)⟩
    · rw [if_neg (by rw [hb5]; decide)] at hm
      refine c_exit ?_
      cases hm
      exact ⟨rfl, w_ [] .nil .nil (by decide) (hB_0 hB0)⟩
  · rcases y16 with j3 | j4
    all_goals simp only at hm
    · rw [← Option.some.inj hm]
      exact ret0 (us' := [.one (.bool false)]) rfl (r_tmp rfl rfl rfl r_nil) f_done rfl rfl
    · refine Wp.seq ?_
      refine c_reg (Y := sysA _) ?_
      refine n_ (x_as rfl rfl ?_)
      refine z_ ?_
      refine c_ret ?_
      rw [← Option.some.inj hm]
      exact ret0 (us' := [.one (.bool true)]) rfl (r_tmp rfl rfl rfl r_nil) f_done rfl rfl

/-- impl.mask -/
noncomputable def impl_mask_m (w : Int) : Option Int :=
  (if 0 ≤ w then
    (if inI ((IntKind.i64.wrap (1 * 2 ^ min (Int.toNat w) (IntKind.bits .i64))) - 1) then
      (some ((IntKind.i64.wrap (1 * 2 ^ min (Int.toNat w) (IntKind.bits .i64))) - 1))
      else none)
    else none)
set_option maxHeartbeats 8000000 in
set_option maxRecDepth 100000 in
theorem impl_mask_sim (w : Int) {r : Int} (hm : impl_mask_m w = some r) : Sim Try.prog 127 [.one (.int .i64 w)] [] (.u (.one (.int .i64 r))) [] := by
  refine sim_st (N := 6) (k0 := 0) Try.func127 rfl rfl rfl rfl (rs := [.tmp 2]) rfl rfl rfl fun B hB0 => ?_
  unfold impl_mask_m at hm
  refine Wp.seq ?_
  refine c_reg (Y := sysA _) ?_
  refine n_ (x_as rfl rfl ?_)
  refine z_ ?_
  refine Wp.seq ?_
  refine c_reg (Y := sysA _) ?_
  refine n_ (x_mv rfl rfl ?_)
  obtain ⟨h1, hm⟩ := of_ite hm
  refine n_ (x_shl T2 rfl rfl h1 ?_)
  obtain ⟨h2, hm⟩ := of_ite hm
  refine n_ (x_subc T2 rfl rfl h2 ?_)
  refine n_ (x_as rfl rfl ?_)
  refine z_ ?_
  refine c_ret ?_
  rw [← Option.some.inj hm]
  exact ret0 (us' := [.one (.int .i64 ((IntKind.i64.wrap (1 * 2 ^ min (Int.toNat w) (IntKind.bits .i64))) - 1))]) rfl (r_tmp rfl rfl rfl r_nil) f_done rfl rfl

/-- impl.isValue -/
noncomputable def impl_isValue_m (w : Int) (v : Int) : Option Bool :=
  (Option.bind ((if (impl_WidthOk_m w) = true then
        (Option.bind (impl_mask_m w) fun x3 =>
          (some ((impl_within_m v 0 x3))))
        else
        (some false))) fun (j1 : Bool) =>
    (some j1))
set_option maxHeartbeats 8000000 in
set_option maxRecDepth 100000 in
theorem impl_isValue_sim (w : Int) (v : Int) {r : Bool} (hm : impl_isValue_m w v = some r) : Sim Try.prog 115 [.one (.int .i64 w), .one (.int .i64 v)] [] (.u (.one (.bool r))) [] := by
  refine sim_st (N := 13) (k0 := 0) Try.func115 rfl rfl rfl rfl (rs := [.tmp 4]) rfl rfl rfl fun B hB0 => ?_
  unfold impl_isValue_m at hm
  refine Wp.seq ?_
  refine c_reg (Y := sysA _) ?_
  refine n_ (x_as rfl rfl ?_)
  refine z_ ?_
  refine Wp.seq ?_
  obtain ⟨j1, hj5, hm⟩ := of_bind hm
  refine c_cut (St 13 [(4, .u (.one (.bool j1)))] [] 0) ?_ ?_
  · replace hm := hj5
    refine c_reg (Y := sysA _) ?_
    refine n_ (x_mv rfl rfl ?_)
    refine n_ (aopK_A (x_call (v := .u (.one (.bool ((impl_WidthOk_m w))))) (nobs := []) (oa' := _) (nx' := 0) rfl (a_1 rfl (b_s rfl) a_n) c_n ent59 (impl_WidthOk_sim w) rfl rfl rfl rfl ?_))
    refine n_ (x_mv rfl rfl ?_)
    refine g_s rfl rfl rfl (fun hb2 => ?_) (fun hb2 => ?_)
    · rw [if_pos (show _ = true from hb2)] at hm
      refine g_t rfl rfl rfl ?_
      refine n_ (x_mv rfl rfl ?_)
      refine g_t rfl rfl rfl ?_
      refine n_ (x_mv rfl rfl ?_)
      refine g_t rfl rfl rfl ?_
      obtain ⟨x3, h4, hm⟩ := of_bind hm
      refine n_ (aopK_A (x_call (v := .u (.one (.int .i64 x3))) (nobs := []) (oa' := _) (nx' := 0) rfl (a_1 rfl (b_s rfl) a_n) c_n ent127 (impl_mask_sim w h4) rfl rfl rfl rfl ?_))
      refine g_t rfl rfl rfl ?_
      refine n_ (aopK_A (x_call (v := .u (.one (.bool ((impl_within_m v 0 x3))))) (nobs := []) (oa' := _) (nx' := 0) rfl (a_1 rfl (b_s rfl) (a_1 rfl (b_s rfl) (a_1 rfl (b_s rfl) a_n))) c_n ent54 (impl_within_sim v 0 x3) rfl rfl rfl rfl ?_))
      refine n_ (x_pk rfl rfl rfl ?_)
      refine n_ (x_as rfl rfl ?_)
      refine z_ ?_
      cases hm
      exact w_ [] (.cons rfl rfl .nil) .nil (by decide) (hB_0 hB0)
    · rw [if_neg (by rw [hb2]; decide)] at hm
      refine g_f rfl rfl rfl ?_
      refine g_f rfl rfl rfl ?_
      refine g_f rfl rfl rfl ?_
      refine g_f rfl rfl rfl ?_
      refine n_ (x_pk rfl rfl rfl ?_)
      refine n_ (x_as rfl rfl ?_)
      refine z_ ?_
      cases hm
      exact w_ [] (.cons rfl rfl .nil) .nil (by decide) (hB_0 hB0)
  · refine c_ret ?_
    rw [← Option.some.inj hm]
    exact ret0 (us' := [.one (.bool j1)]) rfl (r_tmp rfl rfl rfl r_nil) f_done rfl rfl

/-- (impl.Program).isPlaced -/
noncomputable def impl_Program_isPlaced_m (p : GProgram) (vx : GMIns) : Option Bool :=
  (if ((vx.op_ == 31) || (vx.op_ == 32)) = true then
    (some ((impl_within_m vx.imm 0 (((List.length p.code : Int)) - 1))))
    else
    (if ((vx.op_ == 24) || ((vx.op_ == 25) || (vx.op_ == 34))) = true then
      (some true)
      else
      (if (vx.op_ == 21) = true then
        (Option.bind (impl_isValue_m vx.w vx.imm) fun x10 =>
          (some x10))
        else
        (if (vx.op_ == 23) = true then
          (some ((vx.w == 8)))
          else
          (some ((impl_WidthOk_m vx.w)))))))
set_option maxHeartbeats 8000000 in
set_option maxRecDepth 100000 in
theorem impl_Program_isPlaced_sim (p : GProgram) (vx : GMIns) {r : Bool} (hm : impl_Program_isPlaced_m p vx = some r) : Sim Try.prog 101 [.agg (eProgram false p), .agg (eMIns vx)] [] (.u (.one (.bool r))) [] := by
  refine sim_st (N := 36) (k0 := 0) Try.func101 rfl rfl rfl rfl (rs := [.tmp 4]) rfl rfl rfl fun B hB0 => ?_
  unfold impl_Program_isPlaced_m at hm
  refine Wp.seq ?_
  refine c_reg (Y := sysA _) ?_
  refine n_ (x_bx rfl rfl rfl rfl ?_)
  refine n_ (x_bx rfl rfl rfl rfl ?_)
  refine n_ (x_as rfl rfl ?_)
  refine z_ ?_
  refine Wp.seq ?_
  refine Wp.seq ?_
  refine c_reg (Y := sysA _) ?_
  refine n_ (x_fap rfl F78_0 rfl rfl ?_)
  refine n_ (x_ldp rfl T2 rfl rfl rfl rfl rfl ?_)
  refine z_ ?_
  refine Wp.block ?_
  refine Wp.seq ?_
  refine c_cut (St 36 [(2, .u (.one (.ptr () 0 0 0))), (3, .u (.one (.ptr () 1 0 0))), (6, .u (.one (.int .i64 vx.op_))), (7, .u (.one (.bool (((vx.op_ == 31) || (vx.op_ == 32))))))] [(0, some ⟨(), 4, [(eProgram false p)]⟩), (1, some ⟨(), 7, [(eMIns vx)]⟩)] 2) ?_ ?_
  · refine Wp.seq ?_
    refine c_reg (Y := sysA _) ?_
    refine n_ (x_bin T2 rfl rfl rfl ?_)
    refine n_ (x_as rfl rfl ?_)
    refine z_ ?_
    refine c_s rfl rfl (fun hb2 => ?_) (fun hb2 => ?_)
    · refine c_skip ?_
      exact w_ [0, 1] (.cons rfl rfl (.cons rfl rfl (.cons rfl rfl (.cons (by simp only [hb2, eq_self, if_true, Bool.false_eq_true, if_false, Bool.true_or, Bool.false_or, Bool.true_and, Bool.false_and, Bool.not_true, Bool.not_false]; rfl) rfl .nil)))) (.lit rfl rfl (.lit rfl rfl .nil)) (by decide) (hB_0 hB0)
    · refine c_reg (Y := sysA _) ?_
      refine n_ (x_bin T2 rfl rfl rfl ?_)
      refine n_ (x_as rfl rfl ?_)
      refine z_ ?_
      exact w_ [0, 1] (.cons rfl rfl (.cons rfl rfl (.cons rfl rfl (.cons (by simp only [hb2, eq_self, if_true, Bool.false_eq_true, if_false, Bool.true_or, Bool.false_or, Bool.true_and, Bool.false_and, Bool.not_true, Bool.not_false]; rfl) rfl .nil)))) (.lit rfl rfl (.lit rfl rfl .nil)) (by decide) (hB_0 hB0)
  · refine c_s rfl rfl (fun hb3 => ?_) (fun hb3 => ?_)
    · rw [if_pos (show _ = true from hb3)] at hm
      refine Wp.seq ?_
      refine c_reg (Y := sysA _) ?_
      refine n_ (x_fap rfl F78_6 rfl rfl ?_)
      refine n_ (x_ldp rfl T2 rfl rfl rfl rfl rfl ?_)
      refine n_ (x_fap rfl F41_3 rfl rfl ?_)
      refine n_ (x_ldp rfl T39 rfl rfl rfl rfl rfl ?_)
      refine n_ (x_lnb N39 rfl fun hL4 => ?_)
      refine n_ (x_subc T2 rfl rfl (by unfold inI; omega) ?_)
      refine n_ (aopK_A (x_call (v := .u (.one (.bool ((impl_within_m vx.imm 0 (((List.length p.code : Int)) - 1)))))) (nobs := []) (oa' := _) (nx' := 2) rfl (a_1 rfl (b_s rfl) (a_1 rfl (b_s rfl) (a_1 rfl (b_s rfl) a_n))) c_n ent54 (impl_within_sim vx.imm 0 (((List.length p.code : Int)) - 1)) rfl rfl rfl rfl ?_))
      refine n_ (x_as rfl rfl ?_)
      refine z_ ?_
      refine c_ret ?_
      rw [← Option.some.inj hm]
      exact ret0 (us' := [.one (.bool ((impl_within_m vx.imm 0 (((List.length p.code : Int)) - 1))))]) rfl (r_tmp rfl rfl rfl r_nil) f_done rfl rfl
    · rw [if_neg (by rw [hb3]; decide)] at hm
      refine Wp.seq ?_
      refine c_cut (St 36 [(3, .u (.one (.ptr () 0 0 0))), (6, .u (.one (.int .i64 vx.op_))), (17, .u (.one (.bool (((vx.op_ == 24) || ((vx.op_ == 25) || (vx.op_ == 34)))))))] [(0, some ⟨(), 7, [(eMIns vx)]⟩)] 1) ?_ ?_
      · refine Wp.seq ?_
        refine c_reg (Y := sysA _) ?_
        refine n_ (x_bin T2 rfl rfl rfl ?_)
        refine n_ (x_as rfl rfl ?_)
        refine z_ ?_
        refine c_s rfl rfl (fun hb6 => ?_) (fun hb6 => ?_)
        · refine c_skip ?_
          exact w_ [1] (.cons rfl rfl (.cons rfl rfl (.cons (by simp only [hb6, eq_self, if_true, Bool.false_eq_true, if_false, Bool.true_or, Bool.false_or, Bool.true_and, Bool.false_and, Bool.not_true, Bool.not_false]; rfl) rfl .nil))) (.lit rfl rfl .nil) (by decide) (hB_0 hB0)
        · refine Wp.seq ?_
          refine c_reg (Y := sysA _) ?_
          refine n_ (x_bin T2 rfl rfl rfl ?_)
          refine n_ (x_as rfl rfl ?_)
          refine z_ ?_
          refine c_s rfl rfl (fun hb7 => ?_) (fun hb7 => ?_)
          · refine c_skip ?_
            exact w_ [1] (.cons rfl rfl (.cons rfl rfl (.cons (by simp only [hb6, hb7, eq_self, if_true, Bool.false_eq_true, if_false, Bool.true_or, Bool.false_or, Bool.true_and, Bool.false_and, Bool.not_true, Bool.not_false]; rfl) rfl .nil))) (.lit rfl rfl .nil) (by decide) (hB_0 hB0)
          · refine c_reg (Y := sysA _) ?_
            refine n_ (x_bin T2 rfl rfl rfl ?_)
            refine n_ (x_as rfl rfl ?_)
            refine z_ ?_
            exact w_ [1] (.cons rfl rfl (.cons rfl rfl (.cons (by simp only [hb6, hb7, eq_self, if_true, Bool.false_eq_true, if_false, Bool.true_or, Bool.false_or, Bool.true_and, Bool.false_and, Bool.not_true, Bool.not_false]; rfl) rfl .nil))) (.lit rfl rfl .nil) (by decide) (hB_0 hB0)
      · refine c_s rfl rfl (fun hb8 => ?_) (fun hb8 => ?_)
        · rw [if_pos (show _ = true from hb8)] at hm
          refine Wp.seq ?_
          refine c_reg (Y := sysA _) ?_
          refine n_ (x_as rfl rfl ?_)
          refine z_ ?_
          refine c_ret ?_
          rw [← Option.some.inj hm]
          exact ret0 (us' := [.one (.bool true)]) rfl (r_tmp rfl rfl rfl r_nil) f_done rfl rfl
        · rw [if_neg (by rw [hb8]; decide)] at hm
          refine Wp.seq ?_
          refine c_reg (Y := sysA _) ?_
          refine n_ (x_bin T2 rfl rfl rfl ?_)
          refine n_ (x_as rfl rfl ?_)
          refine z_ ?_
          refine c_s rfl rfl (fun hb9 => ?_) (fun hb9 => ?_)
          · rw [if_pos (show _ = true from hb9)] at hm
            refine Wp.seq ?_
            refine c_reg (Y := sysA _) ?_
            refine n_ (x_fap rfl F78_1 rfl rfl ?_)
            refine n_ (x_ldp rfl T2 rfl rfl rfl rfl rfl ?_)
            refine n_ (x_fap rfl F78_6 rfl rfl ?_)
            refine n_ (x_ldp rfl T2 rfl rfl rfl rfl rfl ?_)
            obtain ⟨x10, h11, hm⟩ := of_bind hm
            refine n_ (aopK_A (x_call (v := .u (.one (.bool x10))) (nobs := []) (oa' := _) (nx' := 1) rfl (a_1 rfl (b_s rfl) (a_1 rfl (b_s rfl) a_n)) c_n ent115 (impl_isValue_sim vx.w vx.imm h11) rfl rfl rfl rfl ?_))
            refine n_ (x_as rfl rfl ?_)
            refine z_ ?_
            refine c_ret ?_
            rw [← Option.some.inj hm]
            exact ret0 (us' := [.one (.bool x10)]) rfl (r_tmp rfl rfl rfl r_nil) f_done rfl rfl
          · rw [if_neg (by rw [hb9]; decide)] at hm
            refine Wp.seq ?_
            refine c_reg (Y := sysA _) ?_
            refine n_ (x_bin T2 rfl rfl rfl ?_)
            refine n_ (x_as rfl rfl ?_)
            refine z_ ?_
            refine c_s rfl rfl (fun hb12 => ?_) (fun hb12 => ?_)
            · rw [if_pos (show _ = true from hb12)] at hm
              refine Wp.seq ?_
              refine c_reg (Y := sysA _) ?_
              refine n_ (x_fap rfl F78_1 rfl rfl ?_)
              refine n_ (x_ldp rfl T2 rfl rfl rfl rfl rfl ?_)
              refine n_ (x_bin T2 rfl rfl rfl ?_)
              refine n_ (x_as rfl rfl ?_)
              refine z_ ?_
              refine c_ret ?_
              rw [← Option.some.inj hm]
              exact ret0 (us' := [.one (.bool ((vx.w == 8)))]) rfl (r_tmp rfl rfl rfl r_nil) f_done rfl rfl
            · rw [if_neg (by rw [hb12]; decide)] at hm
              refine c_skip ?_
              refine Wp.seq ?_
              refine c_reg (Y := sysA _) ?_
              refine n_ (x_fap rfl F78_1 rfl rfl ?_)
              refine n_ (x_ldp rfl T2 rfl rfl rfl rfl rfl ?_)
              refine n_ (aopK_A (x_call (v := .u (.one (.bool ((impl_WidthOk_m vx.w))))) (nobs := []) (oa' := _) (nx' := 1) rfl (a_1 rfl (b_s rfl) a_n) c_n ent59 (impl_WidthOk_sim vx.w) rfl rfl rfl rfl ?_))
              refine n_ (x_as rfl rfl ?_)
              refine z_ ?_
              refine c_ret ?_
              rw [← Option.some.inj hm]
              exact ret0 (us' := [.one (.bool ((impl_WidthOk_m vx.w)))]) rfl (r_tmp rfl rfl rfl r_nil) f_done rfl rfl

/-- (impl.Program).isMIns -/
noncomputable def impl_Program_isMIns_m (p : GProgram) (vx : GMIns) : Option Bool :=
  (Option.bind ((if (!(((impl_used_m vx.op_)).2)) = true then
        (some true)
        else
        (Option.bind (impl_isBlank_m vx (((impl_used_m vx.op_)).1)) fun x3 =>
          (if (!x3) = true then
            (some true)
            else
            (Option.bind (impl_Program_isReg_m p vx.d) fun x6 =>
              (if (!x6) = true then
                (some true)
                else
                (Option.bind (impl_Program_isReg_m p vx.a) fun x9 =>
                  (if (!x9) = true then
                    (some true)
                    else
                    (Option.bind (impl_Program_isReg_m p vx.b) fun x12 =>
                      (if (!x12) = true then
                        (some true)
                        else
                        (Option.bind (impl_Program_isPlaced_m p vx) fun x15 =>
                        (some ((!x15)))))))))))))) fun (j1 : Bool) =>
    (if j1 = true then
      (some false)
      else
      (if (impl_isCast_m vx.op_) = true then
        (some (((impl_WidthOk_m vx.c) && (if decide (vx.c < vx.w) = true then ((vx.op_ != 20) || (decide (vx.c > vx.w) && (vx.op_ == 20))) else (decide (vx.c > vx.w) && (vx.op_ == 20))))))
        else
        (Option.bind (impl_Program_isReg_m p vx.c) fun x26 =>
          (some x26)))))
set_option maxHeartbeats 8000000 in
set_option maxRecDepth 100000 in
theorem impl_Program_isMIns_sim (p : GProgram) (vx : GMIns) {r : Bool} (hm : impl_Program_isMIns_m p vx = some r) : Sim Try.prog 63 [.agg (eProgram false p), .agg (eMIns vx)] [] (.u (.one (.bool r))) [] := by
  refine sim_st (N := 82) (k0 := 0) Try.func63 rfl rfl rfl rfl (rs := [.tmp 4]) rfl rfl rfl fun B hB0 => ?_
  unfold impl_Program_isMIns_m at hm
  refine Wp.seq ?_
  refine c_reg (Y := sysA _) ?_
  refine n_ (x_bx rfl rfl rfl rfl ?_)
  refine n_ (x_bx rfl rfl rfl rfl ?_)
  refine n_ (x_as rfl rfl ?_)
  refine z_ ?_
  refine Wp.seq ?_
  refine c_reg (Y := sysA _) ?_
  refine n_ (x_fap rfl F78_0 rfl rfl ?_)
  refine n_ (x_ldp rfl T2 rfl rfl rfl rfl rfl ?_)
  refine n_ (aopK_A (x_call (v := .tup [.one (.str (bts (((impl_used_m vx.op_)).1))), .one (.bool (((impl_used_m vx.op_)).2))]) (nobs := []) (oa' := _) (nx' := 2) rfl (a_1 rfl (b_s rfl) a_n) c_n ent99 (impl_used_sim vx.op_) rfl rfl rfl rfl ?_))
  refine n_ (x_mv rfl rfl ?_)
  refine n_ (x_ex rfl rfl rfl ?_)
  refine n_ (x_ex rfl rfl rfl ?_)
  refine n_ (x_as rfl rfl ?_)
  refine n_ (x_as rfl rfl ?_)
  refine z_ ?_
  refine Wp.seq ?_
  refine Wp.seq ?_
  obtain ⟨j1, hj17, hm⟩ := of_bind hm
  refine c_cut (St 82 [(2, .u (.one (.ptr () 0 0 0))), (3, .u (.one (.ptr () 1 0 0))), (47, .u (.one (.bool j1)))] [(0, some ⟨(), 4, [(eProgram false p)]⟩), (1, some ⟨(), 7, [(eMIns vx)]⟩)] 2) ?_ ?_
  · replace hm := hj17
    refine c_reg (Y := sysA _) ?_
    refine n_ (x_mv rfl rfl ?_)
    refine n_ (x_un rfl rfl ?_)
    refine n_ (x_mv rfl rfl ?_)
    refine g_s rfl rfl rfl (fun hb2 => ?_) (fun hb2 => ?_)
    · rw [if_neg (by rw [hb2]; decide)] at hm
      refine g_t rfl rfl rfl ?_
      refine n_ (x_ldp rfl T78 rfl rfl rfl (pk_all rfl rfl) rfl ?_)
      refine g_t rfl rfl rfl ?_
      refine n_ (x_mv rfl rfl ?_)
      refine g_t rfl rfl rfl ?_
      obtain ⟨x3, h4, hm⟩ := of_bind hm
      refine n_ (aopK_A (x_call (v := .u (.one (.bool x3))) (nobs := []) (oa' := _) (nx' := 2) rfl (a_a rfl (c_all rfl) (a_1 rfl (b_s rfl) a_n)) c_n ent100 (impl_isBlank_sim vx (((impl_used_m vx.op_)).1) h4) rfl rfl rfl rfl ?_))
      refine g_t rfl rfl rfl ?_
      refine n_ (x_un rfl rfl ?_)
      refine n_ (x_pk rfl rfl rfl ?_)
      refine n_ (x_mv rfl rfl ?_)
      refine g_s rfl rfl rfl (fun hb5 => ?_) (fun hb5 => ?_)
      · rw [if_neg (by rw [hb5]; decide)] at hm
        refine g_t rfl rfl rfl ?_
        refine n_ (x_ldp rfl T41 rfl rfl rfl (pk_all rfl rfl) rfl ?_)
        refine g_t rfl rfl rfl ?_
        refine n_ (x_fap rfl F78_2 rfl rfl ?_)
        refine g_t rfl rfl rfl ?_
        refine n_ (x_ldp rfl T2 rfl rfl rfl rfl rfl ?_)
        refine g_t rfl rfl rfl ?_
        obtain ⟨x6, h7, hm⟩ := of_bind hm
        refine n_ (aopK_A (x_call (v := .u (.one (.bool x6))) (nobs := []) (oa' := _) (nx' := 2) rfl (a_a rfl (c_all rfl) (a_1 rfl (b_s rfl) a_n)) c_n ent57 (impl_Program_isReg_sim p vx.d h7) rfl rfl rfl rfl ?_))
        refine g_t rfl rfl rfl ?_
        refine n_ (x_un rfl rfl ?_)
        refine n_ (x_pk rfl rfl rfl ?_)
        refine n_ (x_mv rfl rfl ?_)
        refine g_s rfl rfl rfl (fun hb8 => ?_) (fun hb8 => ?_)
        · rw [if_neg (by rw [hb8]; decide)] at hm
          refine g_t rfl rfl rfl ?_
          refine n_ (x_ldp rfl T41 rfl rfl rfl (pk_all rfl rfl) rfl ?_)
          refine g_t rfl rfl rfl ?_
          refine n_ (x_fap rfl F78_3 rfl rfl ?_)
          refine g_t rfl rfl rfl ?_
          refine n_ (x_ldp rfl T2 rfl rfl rfl rfl rfl ?_)
          refine g_t rfl rfl rfl ?_
          obtain ⟨x9, h10, hm⟩ := of_bind hm
          refine n_ (aopK_A (x_call (v := .u (.one (.bool x9))) (nobs := []) (oa' := _) (nx' := 2) rfl (a_a rfl (c_all rfl) (a_1 rfl (b_s rfl) a_n)) c_n ent57 (impl_Program_isReg_sim p vx.a h10) rfl rfl rfl rfl ?_))
          refine g_t rfl rfl rfl ?_
          refine n_ (x_un rfl rfl ?_)
          refine n_ (x_pk rfl rfl rfl ?_)
          refine n_ (x_mv rfl rfl ?_)
          refine g_s rfl rfl rfl (fun hb11 => ?_) (fun hb11 => ?_)
          · rw [if_neg (by rw [hb11]; decide)] at hm
            refine g_t rfl rfl rfl ?_
            refine n_ (x_ldp rfl T41 rfl rfl rfl (pk_all rfl rfl) rfl ?_)
            refine g_t rfl rfl rfl ?_
            refine n_ (x_fap rfl F78_4 rfl rfl ?_)
            refine g_t rfl rfl rfl ?_
            refine n_ (x_ldp rfl T2 rfl rfl rfl rfl rfl ?_)
            refine g_t rfl rfl rfl ?_
            obtain ⟨x12, h13, hm⟩ := of_bind hm
            refine n_ (aopK_A (x_call (v := .u (.one (.bool x12))) (nobs := []) (oa' := _) (nx' := 2) rfl (a_a rfl (c_all rfl) (a_1 rfl (b_s rfl) a_n)) c_n ent57 (impl_Program_isReg_sim p vx.b h13) rfl rfl rfl rfl ?_))
            refine g_t rfl rfl rfl ?_
            refine n_ (x_un rfl rfl ?_)
            refine n_ (x_pk rfl rfl rfl ?_)
            refine n_ (x_mv rfl rfl ?_)
            refine g_s rfl rfl rfl (fun hb14 => ?_) (fun hb14 => ?_)
            · rw [if_neg (by rw [hb14]; decide)] at hm
              refine g_t rfl rfl rfl ?_
              refine n_ (x_ldp rfl T41 rfl rfl rfl (pk_all rfl rfl) rfl ?_)
              refine g_t rfl rfl rfl ?_
              refine n_ (x_ldp rfl T78 rfl rfl rfl (pk_all rfl rfl) rfl ?_)
              refine g_t rfl rfl rfl ?_
              obtain ⟨x15, h16, hm⟩ := of_bind hm
              refine n_ (aopK_A (x_call (v := .u (.one (.bool x15))) (nobs := []) (oa' := _) (nx' := 2) rfl (a_a rfl (c_all rfl) (a_a rfl (c_all rfl) a_n)) c_n ent101 (impl_Program_isPlaced_sim p vx h16) rfl rfl rfl rfl ?_))
              refine g_t rfl rfl rfl ?_
              refine n_ (x_un rfl rfl ?_)
              refine n_ (x_pk rfl rfl rfl ?_)
              refine z_ ?_
              cases hm
              exact w_ [0, 1] (.cons rfl rfl (.cons rfl rfl (.cons rfl rfl .nil))) (.lit rfl rfl (.lit rfl rfl .nil)) (by decide) (hB_0 hB0)
            · rw [if_pos (show _ = true from hb14)] at hm
              refine g_f rfl rfl rfl ?_
              refine g_f rfl rfl rfl ?_
              refine g_f rfl rfl rfl ?_
              refine g_f rfl rfl rfl ?_
              refine n_ (x_pk rfl rfl rfl ?_)
              refine z_ ?_
              cases hm
              exact w_ [0, 1] (.cons rfl rfl (.cons rfl rfl (.cons rfl rfl .nil))) (.lit rfl rfl (.lit rfl rfl .nil)) (by decide) (hB_0 hB0)
          · rw [if_pos (show _ = true from hb11)] at hm
            refine g_f rfl rfl rfl ?_
            refine g_f rfl rfl rfl ?_
            refine g_f rfl rfl rfl ?_
            refine g_f rfl rfl rfl ?_
            refine g_f rfl rfl rfl ?_
            refine n_ (x_pk rfl rfl rfl ?_)
            refine n_ (x_mv rfl rfl ?_)
            refine g_f rfl rfl rfl ?_
            refine g_f rfl rfl rfl ?_
            refine g_f rfl rfl rfl ?_
            refine g_f rfl rfl rfl ?_
            refine n_ (x_pk rfl rfl rfl ?_)
            refine z_ ?_
            cases hm
            exact w_ [0, 1] (.cons rfl rfl (.cons rfl rfl (.cons rfl rfl .nil))) (.lit rfl rfl (.lit rfl rfl .nil)) (by decide) (hB_0 hB0)
        · rw [if_pos (show _ = true from hb8)] at hm
          refine g_f rfl rfl rfl ?_
          refine g_f rfl rfl rfl ?_
          refine g_f rfl rfl rfl ?_
          refine g_f rfl rfl rfl ?_
          refine g_f rfl rfl rfl ?_
          refine n_ (x_pk rfl rfl rfl ?_)
          refine n_ (x_mv rfl rfl ?_)
          refine g_f rfl rfl rfl ?_
          refine g_f rfl rfl rfl ?_
          refine g_f rfl rfl rfl ?_
          refine g_f rfl rfl rfl ?_
          refine g_f rfl rfl rfl ?_
          refine n_ (x_pk rfl rfl rfl ?_)
          refine n_ (x_mv rfl rfl ?_)
          refine g_f rfl rfl rfl ?_
          refine g_f rfl rfl rfl ?_
          refine g_f rfl rfl rfl ?_
          refine g_f rfl rfl rfl ?_
          refine n_ (x_pk rfl rfl rfl ?_)
          refine z_ ?_
          cases hm
          exact w_ [0, 1] (.cons rfl rfl (.cons rfl rfl (.cons rfl rfl .nil))) (.lit rfl rfl (.lit rfl rfl .nil)) (by decide) (hB_0 hB0)
      · rw [if_pos (show _ = true from hb5)] at hm
        refine g_f rfl rfl rfl ?_
        refine g_f rfl rfl rfl ?_
        refine g_f rfl rfl rfl ?_
        refine g_f rfl rfl rfl ?_
        refine g_f rfl rfl rfl ?_
        refine n_ (x_pk rfl rfl rfl ?_)
        refine n_ (x_mv rfl rfl ?_)
        refine g_f rfl rfl rfl ?_
        refine g_f rfl rfl rfl ?_
        refine g_f rfl rfl rfl ?_
        refine g_f rfl rfl rfl ?_
        refine g_f rfl rfl rfl ?_
        refine n_ (x_pk rfl rfl rfl ?_)
        refine n_ (x_mv rfl rfl ?_)
        refine g_f rfl rfl rfl ?_
        refine g_f rfl rfl rfl ?_
        refine g_f rfl rfl rfl ?_
        refine g_f rfl rfl rfl ?_
        refine g_f rfl rfl rfl ?_
        refine n_ (x_pk rfl rfl rfl ?_)
        refine n_ (x_mv rfl rfl ?_)
        refine g_f rfl rfl rfl ?_
        refine g_f rfl rfl rfl ?_
        refine g_f rfl rfl rfl ?_
        refine g_f rfl rfl rfl ?_
        refine n_ (x_pk rfl rfl rfl ?_)
        refine z_ ?_
        cases hm
        exact w_ [0, 1] (.cons rfl rfl (.cons rfl rfl (.cons rfl rfl .nil))) (.lit rfl rfl (.lit rfl rfl .nil)) (by decide) (hB_0 hB0)
    · rw [if_pos (show _ = true from hb2)] at hm
      refine g_f rfl rfl rfl ?_
      refine g_f rfl rfl rfl ?_
      refine g_f rfl rfl rfl ?_
      refine g_f rfl rfl rfl ?_
      refine n_ (x_pk rfl rfl rfl ?_)
      refine n_ (x_mv rfl rfl ?_)
      refine g_f rfl rfl rfl ?_
      refine g_f rfl rfl rfl ?_
      refine g_f rfl rfl rfl ?_
      refine g_f rfl rfl rfl ?_
      refine g_f rfl rfl rfl ?_
      refine n_ (x_pk rfl rfl rfl ?_)
      refine n_ (x_mv rfl rfl ?_)
      refine g_f rfl rfl rfl ?_
      refine g_f rfl rfl rfl ?_
      refine g_f rfl rfl rfl ?_
      refine g_f rfl rfl rfl ?_
      refine g_f rfl rfl rfl ?_
      refine n_ (x_pk rfl rfl rfl ?_)
      refine n_ (x_mv rfl rfl ?_)
      refine g_f rfl rfl rfl ?_
      refine g_f rfl rfl rfl ?_
      refine g_f rfl rfl rfl ?_
      refine g_f rfl rfl rfl ?_
      refine g_f rfl rfl rfl ?_
      refine n_ (x_pk rfl rfl rfl ?_)
      refine n_ (x_mv rfl rfl ?_)
      refine g_f rfl rfl rfl ?_
      refine g_f rfl rfl rfl ?_
      refine g_f rfl rfl rfl ?_
      refine g_f rfl rfl rfl ?_
      refine n_ (x_pk rfl rfl rfl ?_)
      refine z_ ?_
      cases hm
      exact w_ [0, 1] (.cons rfl rfl (.cons rfl rfl (.cons rfl rfl .nil))) (.lit rfl rfl (.lit rfl rfl .nil)) (by decide) (hB_0 hB0)
  · refine c_s rfl rfl (fun hb18 => ?_) (fun hb18 => ?_)
    · rw [if_pos (show _ = true from hb18)] at hm
      refine Wp.seq ?_
      refine c_reg (Y := sysA _) ?_
      refine n_ (x_as rfl rfl ?_)
      refine z_ ?_
      refine c_ret ?_
      rw [← Option.some.inj hm]
      exact ret0 (us' := [.one (.bool false)]) rfl (r_tmp rfl rfl rfl r_nil) f_done rfl rfl
    · rw [if_neg (by rw [hb18]; decide)] at hm
      refine c_skip ?_
      refine Wp.seq ?_
      refine Wp.seq ?_
      refine c_reg (Y := sysA _) ?_
      refine n_ (x_fap rfl F78_0 rfl rfl ?_)
      refine n_ (x_ldp rfl T2 rfl rfl rfl rfl rfl ?_)
      refine n_ (aopK_A (x_call (v := .u (.one (.bool ((impl_isCast_m vx.op_))))) (nobs := []) (oa' := _) (nx' := 2) rfl (a_1 rfl (b_s rfl) a_n) c_n ent84 (impl_isCast_sim vx.op_) rfl rfl rfl rfl ?_))
      refine z_ ?_
      refine c_s rfl rfl (fun hb19 => ?_) (fun hb19 => ?_)
      · rw [if_pos (show _ = true from hb19)] at hm
        refine Wp.seq ?_
        refine c_cut (St 82 [(4, .u (.one (.bool (((impl_WidthOk_m vx.c) && (if decide (vx.c < vx.w) = true then ((vx.op_ != 20) || (decide (vx.c > vx.w) && (vx.op_ == 20))) else (decide (vx.c > vx.w) && (vx.op_ == 20))))))))] [] 0) ?_ ?_
        · refine c_reg (Y := sysA _) ?_
          refine n_ (x_fap rfl F78_5 rfl rfl ?_)
          refine n_ (x_ldp rfl T2 rfl rfl rfl rfl rfl ?_)
          refine n_ (aopK_A (x_call (v := .u (.one (.bool ((impl_WidthOk_m vx.c))))) (nobs := []) (oa' := _) (nx' := 2) rfl (a_1 rfl (b_s rfl) a_n) c_n ent59 (impl_WidthOk_sim vx.c) rfl rfl rfl rfl ?_))
          refine n_ (x_mv rfl rfl ?_)
          refine g_s rfl rfl rfl (fun hb21 => ?_) (fun hb21 => ?_)
          · refine g_t rfl rfl rfl ?_
            refine n_ (x_fap rfl F78_5 rfl rfl ?_)
            refine g_t rfl rfl rfl ?_
            refine n_ (x_ldp rfl T2 rfl rfl rfl rfl rfl ?_)
            refine g_t rfl rfl rfl ?_
            refine n_ (x_fap rfl F78_1 rfl rfl ?_)
            refine g_t rfl rfl rfl ?_
            refine n_ (x_ldp rfl T2 rfl rfl rfl rfl rfl ?_)
            refine g_t rfl rfl rfl ?_
            refine n_ (x_bin T2 rfl rfl rfl ?_)
            refine g_t rfl rfl rfl ?_
            refine n_ (x_mv rfl rfl ?_)
            refine g_s rfl rfl rfl (fun hb22 => ?_) (fun hb22 => ?_)
            · refine g_t rfl rfl rfl ?_
              refine n_ (x_fap rfl F78_0 rfl rfl ?_)
              refine g_t rfl rfl rfl ?_
              refine n_ (x_ldp rfl T2 rfl rfl rfl rfl rfl ?_)
              refine g_t rfl rfl rfl ?_
              refine n_ (x_bin T2 rfl rfl rfl ?_)
              refine g_t rfl rfl rfl ?_
              refine n_ (x_pk rfl rfl rfl ?_)
              refine g_t rfl rfl rfl ?_
              refine n_ (x_mv rfl rfl ?_)
              refine g_s rfl rfl rfl (fun hb23 => ?_) (fun hb23 => ?_)
              · refine g_t rfl rfl rfl ?_
                refine n_ (x_fap rfl F78_5 rfl rfl ?_)
                refine g_t rfl rfl rfl ?_
                refine n_ (x_ldp rfl T2 rfl rfl rfl rfl rfl ?_)
                refine g_t rfl rfl rfl ?_
                refine n_ (x_fap rfl F78_1 rfl rfl ?_)
                refine g_t rfl rfl rfl ?_
                refine n_ (x_ldp rfl T2 rfl rfl rfl rfl rfl ?_)
                refine g_t rfl rfl rfl ?_
                refine n_ (x_bin T2 rfl rfl rfl ?_)
                refine g_t rfl rfl rfl ?_
                refine n_ (x_mv rfl rfl ?_)
                refine g_s rfl rfl rfl (fun hb24 => ?_) (fun hb24 => ?_)
                · refine g_t rfl rfl rfl ?_
                  refine n_ (x_fap rfl F78_0 rfl rfl ?_)
                  refine g_t rfl rfl rfl ?_
                  refine n_ (x_ldp rfl T2 rfl rfl rfl rfl rfl ?_)
                  refine g_t rfl rfl rfl ?_
                  refine n_ (x_bin T2 rfl rfl rfl ?_)
                  refine g_t rfl rfl rfl ?_
                  refine n_ (x_pk rfl rfl rfl ?_)
                  refine g_t rfl rfl rfl ?_
                  refine n_ (x_pk rfl rfl rfl ?_)
                  refine n_ (x_pk rfl rfl rfl ?_)
                  refine n_ (x_as rfl rfl ?_)
                  refine z_ ?_
                  exact w_ [] (.cons (by simp only [hb21, hb22, hb23, hb24, eq_self, if_true, Bool.false_eq_true, if_false, Bool.true_or, Bool.false_or, Bool.true_and, Bool.false_and, Bool.not_true, Bool.not_false]; rfl) rfl .nil) .nil (by decide) (hB_0 hB0)
                · refine g_f rfl rfl rfl ?_
                  refine g_f rfl rfl rfl ?_
                  refine g_f rfl rfl rfl ?_
                  refine g_t rfl rfl rfl ?_
                  refine n_ (x_pk rfl rfl rfl ?_)
                  refine g_t rfl rfl rfl ?_
                  refine n_ (x_pk rfl rfl rfl ?_)
                  refine n_ (x_pk rfl rfl rfl ?_)
                  refine n_ (x_as rfl rfl ?_)
                  refine z_ ?_
                  exact w_ [] (.cons (by simp only [hb21, hb22, hb23, hb24, eq_self, if_true, Bool.false_eq_true, if_false, Bool.true_or, Bool.false_or, Bool.true_and, Bool.false_and, Bool.not_true, Bool.not_false]; rfl) rfl .nil) .nil (by decide) (hB_0 hB0)
              · refine g_f rfl rfl rfl ?_
                refine g_f rfl rfl rfl ?_
                refine g_f rfl rfl rfl ?_
                refine g_f rfl rfl rfl ?_
                refine g_f rfl rfl rfl ?_
                refine g_f rfl rfl rfl ?_
                refine g_u rfl rfl rfl ?_
                refine g_u rfl rfl rfl ?_
                refine g_u rfl rfl rfl ?_
                refine g_f rfl rfl rfl ?_
                refine g_t rfl rfl rfl ?_
                refine n_ (x_pk rfl rfl rfl ?_)
                refine n_ (x_pk rfl rfl rfl ?_)
                refine n_ (x_as rfl rfl ?_)
                refine z_ ?_
                exact w_ [] (.cons (by simp only [hb21, hb22, hb23, eq_self, if_true, Bool.false_eq_true, if_false, Bool.true_or, Bool.false_or, Bool.true_and, Bool.false_and, Bool.not_true, Bool.not_false]; rfl) rfl .nil) .nil (by decide) (hB_0 hB0)
            · refine g_f rfl rfl rfl ?_
              refine g_f rfl rfl rfl ?_
              refine g_f rfl rfl rfl ?_
              refine g_t rfl rfl rfl ?_
              refine n_ (x_pk rfl rfl rfl ?_)
              refine g_t rfl rfl rfl ?_
              refine n_ (x_mv rfl rfl ?_)
              refine g_t rfl rfl rfl ?_
              refine n_ (x_fap rfl F78_5 rfl rfl ?_)
              refine g_t rfl rfl rfl ?_
              refine n_ (x_ldp rfl T2 rfl rfl rfl rfl rfl ?_)
              refine g_t rfl rfl rfl ?_
              refine n_ (x_fap rfl F78_1 rfl rfl ?_)
              refine g_t rfl rfl rfl ?_
              refine n_ (x_ldp rfl T2 rfl rfl rfl rfl rfl ?_)
              refine g_t rfl rfl rfl ?_
              refine n_ (x_bin T2 rfl rfl rfl ?_)
              refine g_t rfl rfl rfl ?_
              refine n_ (x_mv rfl rfl ?_)
              refine g_s rfl rfl rfl (fun hb25 => ?_) (fun hb25 => ?_)
              · refine g_t rfl rfl rfl ?_
                refine n_ (x_fap rfl F78_0 rfl rfl ?_)
                refine g_t rfl rfl rfl ?_
                refine n_ (x_ldp rfl T2 rfl rfl rfl rfl rfl ?_)
                refine g_t rfl rfl rfl ?_
                refine n_ (x_bin T2 rfl rfl rfl ?_)
                refine g_t rfl rfl rfl ?_
                refine n_ (x_pk rfl rfl rfl ?_)
                refine g_t rfl rfl rfl ?_
                refine n_ (x_pk rfl rfl rfl ?_)
                refine n_ (x_pk rfl rfl rfl ?_)
                refine n_ (x_as rfl rfl ?_)
                refine z_ ?_
                exact w_ [] (.cons (by simp only [hb21, hb22, hb25, eq_self, if_true, Bool.false_eq_true, if_false, Bool.true_or, Bool.false_or, Bool.true_and, Bool.false_and, Bool.not_true, Bool.not_false]; rfl) rfl .nil) .nil (by decide) (hB_0 hB0)
              · refine g_f rfl rfl rfl ?_
                refine g_f rfl rfl rfl ?_
                refine g_f rfl rfl rfl ?_
                refine g_t rfl rfl rfl ?_
                refine n_ (x_pk rfl rfl rfl ?_)
                refine g_t rfl rfl rfl ?_
                refine n_ (x_pk rfl rfl rfl ?_)
                refine n_ (x_pk rfl rfl rfl ?_)
                refine n_ (x_as rfl rfl ?_)
                refine z_ ?_
                exact w_ [] (.cons (by simp only [hb21, hb22, hb25, eq_self, if_true, Bool.false_eq_true, if_false, Bool.true_or, Bool.false_or, Bool.true_and, Bool.false_and, Bool.not_true, Bool.not_false]; rfl) rfl .nil) .nil (by decide) (hB_0 hB0)
          · refine g_f rfl rfl rfl ?_
            refine g_f rfl rfl rfl ?_
            refine g_f rfl rfl rfl ?_
            refine g_f rfl rfl rfl ?_
            refine g_f rfl rfl rfl ?_
            refine g_f rfl rfl rfl ?_
            refine g_u rfl rfl rfl ?_
            refine g_u rfl rfl rfl ?_
            refine g_u rfl rfl rfl ?_
            refine g_f rfl rfl rfl ?_
            refine g_f rfl rfl rfl ?_
            refine g_u rfl rfl rfl ?_
            refine g_u rfl rfl rfl ?_
            refine g_u rfl rfl rfl ?_
            refine g_u rfl rfl rfl ?_
            refine g_u rfl rfl rfl ?_
            refine g_u rfl rfl rfl ?_
            refine g_u rfl rfl rfl ?_
            refine g_u rfl rfl rfl ?_
            refine g_u rfl rfl rfl ?_
            refine g_u rfl rfl rfl ?_
            refine g_f rfl rfl rfl ?_
            refine n_ (x_pk rfl rfl rfl ?_)
            refine n_ (x_as rfl rfl ?_)
            refine z_ ?_
            exact w_ [] (.cons (by simp only [hb21, eq_self, if_true, Bool.false_eq_true, if_false, Bool.true_or, Bool.false_or, Bool.true_and, Bool.false_and, Bool.not_true, Bool.not_false]; rfl) rfl .nil) .nil (by decide) (hB_0 hB0)
        · refine c_ret ?_
          rw [← Option.some.inj hm]
          exact ret0 (us' := [.one (.bool (((impl_WidthOk_m vx.c) && (if decide (vx.c < vx.w) = true then ((vx.op_ != 20) || (decide (vx.c > vx.w) && (vx.op_ == 20))) else (decide (vx.c > vx.w) && (vx.op_ == 20))))))]) rfl (r_tmp rfl rfl rfl r_nil) f_done rfl rfl
      · rw [if_neg (by rw [hb19]; decide)] at hm
        refine c_skip ?_
        refine Wp.seq ?_
        refine c_reg (Y := sysA _) ?_
        refine n_ (x_ldp rfl T41 rfl rfl rfl (pk_all rfl rfl) rfl ?_)
        refine n_ (x_fap rfl F78_5 rfl rfl ?_)
        refine n_ (x_ldp rfl T2 rfl rfl rfl rfl rfl ?_)
        obtain ⟨x26, h27, hm⟩ := of_bind hm
        refine n_ (aopK_A (x_call (v := .u (.one (.bool x26))) (nobs := []) (oa' := _) (nx' := 2) rfl (a_a rfl (c_all rfl) (a_1 rfl (b_s rfl) a_n)) c_n ent57 (impl_Program_isReg_sim p vx.c h27) rfl rfl rfl rfl ?_))
        refine n_ (x_as rfl rfl ?_)
        refine z_ ?_
        refine c_ret ?_
        rw [← Option.some.inj hm]
        exact ret0 (us' := [.one (.bool x26)]) rfl (r_tmp rfl rfl rfl r_nil) f_done rfl rfl

/-- impl.ProgramOk$3 -/
noncomputable def impl_ProgramOk_3_m (vx : GMIns) (a : GProgram) : Option Bool :=
  (Option.bind (impl_Program_isMIns_m a vx) fun x1 =>
    (some ((!x1))))
set_option maxHeartbeats 8000000 in
set_option maxRecDepth 100000 in
theorem impl_ProgramOk_3_sim (vx : GMIns) (a : GProgram) {r : Bool} (hm : impl_ProgramOk_3_m vx a = some r) : Sim Try.prog 62 [.agg (eMIns vx), .one (.ip () (eProgram false a))] [] (.u (.one (.bool r))) [] := by
  refine sim_st (N := 8) (k0 := 0) Try.func62 rfl rfl rfl rfl (rs := [.tmp 3]) rfl rfl rfl fun B hB0 => ?_
  unfold impl_ProgramOk_3_m at hm
  refine Wp.seq ?_
  refine c_reg (Y := sysA _) ?_
  refine n_ (x_bx rfl rfl rfl rfl ?_)
  refine n_ (x_as rfl rfl ?_)
  refine z_ ?_
  refine Wp.seq ?_
  refine c_reg (Y := sysA _) ?_
  refine n_ (x_ldi T41 rfl (pk_all rfl rfl) rfl ?_)
  refine n_ (x_ldp rfl T78 rfl rfl rfl (pk_all rfl rfl) rfl ?_)
  obtain ⟨x1, h2, hm⟩ := of_bind hm
  refine n_ (aopK_A (x_call (v := .u (.one (.bool x1))) (nobs := []) (oa' := _) (nx' := 1) rfl (a_a rfl (c_all rfl) (a_a rfl (c_all rfl) a_n)) c_n ent63 (impl_Program_isMIns_sim a vx h2) rfl rfl rfl rfl ?_))
  refine n_ (x_un rfl rfl ?_)
  refine n_ (x_as rfl rfl ?_)
  refine z_ ?_
  refine c_ret ?_
  rw [← Option.some.inj hm]
  exact ret0 (us' := [.one (.bool ((!x1)))]) rfl (r_tmp rfl rfl rfl r_nil) f_done rfl rfl

/-- slices.IndexFunc[[]impl.MIns,impl.MIns] -/
noncomputable def slices_IndexFunc_impl_MIns_impl_MIns_m (s : List GMIns) (f : GMIns → Option Bool) : Option Int :=
  (Option.bind (loopO (fun (st2 : Int) =>
        ((if decide (st2 < ((List.length s : Int))) = true then
            (if 0 ≤ st2 ∧ st2 < (List.length s : Int) then
              (Option.bind (f (at_ s st2)) fun x7 =>
                (if x7 = true then
                  (some (Sum.inr ((Sum.inl st2))))
                  else
                  (if inI (st2 + 1) then
                    (some (Sum.inl (st2 + 1)))
                    else none)))
              else none)
            else
            (some (Sum.inr ((Sum.inr (())))))) : Option ((Int) ⊕ (Int ⊕ Unit)))) 0) fun (y11 : Int ⊕ Unit) => match y11 with
    | (Sum.inl j3) =>
    (some j3)
    | (Sum.inr j4) =>
    (some ((-1))))
set_option maxHeartbeats 8000000 in
set_option maxRecDepth 100000 in
theorem slices_IndexFunc_impl_MIns_impl_MIns_sim (s : List GMIns) (fi : FuncId) (fc : List (L Unit)) (f : GMIns → Option Bool) (hef : Ent Try.prog fi) (hcf : CapOk fc) (hsf : ∀ z0 y, f z0 = some y → Sim Try.prog fi ([.agg (eMIns z0)] ++ List.map .one fc) [] (.u (.one (.bool y))) []) {r : Int} (hm : slices_IndexFunc_impl_MIns_impl_MIns_m s f = some r) : Sim Try.prog 98 [.one (.bs () 7 (List.map eMIns s)), .one (.fn () fi fc)] [] (.u (.one (.int .i64 r))) [] := by
  refine sim_st (N := 19) (k0 := 0) Try.func98 rfl rfl rfl rfl (rs := [.tmp 4]) rfl (by simp [leavesU, idsL, List.all_cons, hcf.ids]) rfl fun B hB0 => ?_
  unfold slices_IndexFunc_impl_MIns_impl_MIns_m at hm
  refine Wp.seq ?_
  refine c_reg (Y := sysA _) ?_
  refine n_ (x_as rfl rfl ?_)
  refine z_ ?_
  refine Wp.seq ?_
  refine Wp.seq ?_
  refine c_reg (Y := sysA _) ?_
  refine n_ (x_mv rfl rfl ?_)
  refine n_ (x_lnb N39 rfl fun hL1 => ?_)
  refine n_ (x_mv rfl rfl ?_)
  refine z_ ?_
  refine Wp.block ?_
  obtain ⟨y11, hl12, hm⟩ := of_bind hm
  refine c_loop hl12 (fun (st2 : Int) => St 19 [(0, .u (.one (.bs () 7 (List.map eMIns s)))), (1, .u (.one (.fn () fi fc))), (7, .u (.one (.int .i64 ((List.length s : Int))))), (8, .u (.one (.int .i64 st2)))] [] 0) (fun (y : Int ⊕ Unit) => match y with | (Sum.inl j3) => (.ret, St 19 [(4, .u (.one (.int .i64 j3)))] [] 0) | (Sum.inr j4) => (.exit 0, St 19 [] [] 0)) (w_ [] (.cons rfl rfl (.cons (by rw [fnv_ren hcf]; rfl) (fnv_knows hcf _ _) (.cons rfl rfl (.cons rfl rfl .nil)))) .nil (by decide) (hB_0 hB0)) ?_ (by rintro (_ | _) <;> simp) ?_
  · intro st2 x hm
    refine Wp.seq ?_
    refine c_reg (Y := sysA _) ?_
    refine n_ (x_bin T3 rfl rfl rfl ?_)
    refine z_ ?_
    refine Wp.seq ?_
    refine c_s rfl rfl (fun hb5 => ?_) (fun hb5 => ?_)
    · rw [if_pos (show _ = true from hb5)] at hm
      refine c_skip ?_
      refine Wp.seq ?_
      refine Wp.block ?_
      refine Wp.seq ?_
      refine c_reg (Y := sysA _) ?_
      refine n_ (x_mv rfl rfl ?_)
      refine n_ (x_as rfl rfl ?_)
      refine z_ ?_
      refine Wp.seq ?_
      refine c_reg (Y := sysA _) ?_
      refine n_ (x_mv rfl rfl ?_)
      refine n_ (x_mv rfl rfl ?_)
      refine n_ (x_mv rfl rfl ?_)
      obtain ⟨h6, hm⟩ := of_ite hm
      refine n_ (x_ixb E39 rfl rfl h6 ?_)
      refine n_ (x_ldi T78 rfl (pk_all rfl rfl) rfl ?_)
      obtain ⟨x7, h8, hm⟩ := of_bind hm
      refine n_ (aopK_A (x_call (v := .u (.one (.bool x7))) (nobs := []) (oa' := _) (nx' := 0) rfl (a_a rfl (c_all rfl) a_n) hcf.bor hef (hsf (at_ s st2) x7 h8) rfl rfl rfl rfl ?_))
      refine z_ ?_
      refine c_s rfl rfl (fun hb9 => ?_) (fun hb9 => ?_)
      · rw [if_pos (show _ = true from hb9)] at hm
        refine Wp.seq ?_
        refine c_reg (Y := sysA _) ?_
        refine n_ (x_mv rfl rfl ?_)
        refine n_ (x_as rfl rfl ?_)
        refine z_ ?_
        refine c_ret ?_
        cases hm
        exact ⟨rfl, w_ [] (.cons rfl rfl .nil) .nil (by decide) (hB_0 hB0)⟩
      · rw [if_neg (by rw [hb9]; decide)] at hm
        refine c_skip ?_
        refine c_reg (Y := sysA _) ?_
        obtain ⟨h10, hm⟩ := of_ite hm
        refine n_ (x_addc T3 rfl rfl h10 ?_)
        refine n_ (x_mv rfl rfl ?_)
        refine z_ ?_
        cases hm
        exact ⟨rfl, w_ [] (.cons rfl rfl (.cons (by rw [fnv_ren hcf]; rfl) (fnv_knows hcf _ _) (.cons rfl rfl (.cons rfl rfl .nil)))) .nil (by decide) (hB_0 hB0)⟩
    · rw [if_neg (by rw [hb5]; decide)] at hm
      refine c_exit ?_
      cases hm
      exact ⟨rfl, w_ [] .nil .nil (by decide) (hB_0 hB0)⟩
  · rcases y11 with j3 | j4
    all_goals simp only at hm
    · rw [← Option.some.inj hm]
      exact ret0 (us' := [.one (.int .i64 j3)]) rfl (r_tmp rfl rfl rfl r_nil) f_done rfl rfl
    · refine Wp.seq ?_
      refine c_reg (Y := sysA _) ?_
      refine n_ (x_as rfl rfl ?_)
      refine z_ ?_
      refine c_ret ?_
      rw [← Option.some.inj hm]
      exact ret0 (us' := [.one (.int .i64 ((-1)))]) rfl (r_tmp rfl rfl rfl r_nil) f_done rfl rfl

/-- slices.ContainsFunc[[]impl.MIns,impl.MIns] -/
noncomputable def slices_ContainsFunc_impl_MIns_impl_MIns_m (s : List GMIns) (f : GMIns → Option Bool) : Option Bool :=
  (Option.bind (slices_IndexFunc_impl_MIns_impl_MIns_m s f) fun x1 =>
    (some (decide (x1 ≥ 0))))
set_option maxHeartbeats 8000000 in
set_option maxRecDepth 100000 in
theorem slices_ContainsFunc_impl_MIns_impl_MIns_sim (s : List GMIns) (fi : FuncId) (fc : List (L Unit)) (f : GMIns → Option Bool) (hef : Ent Try.prog fi) (hcf : CapOk fc) (hsf : ∀ z0 y, f z0 = some y → Sim Try.prog fi ([.agg (eMIns z0)] ++ List.map .one fc) [] (.u (.one (.bool y))) []) {r : Bool} (hm : slices_ContainsFunc_impl_MIns_impl_MIns_m s f = some r) : Sim Try.prog 61 [.one (.bs () 7 (List.map eMIns s)), .one (.fn () fi fc)] [] (.u (.one (.bool r))) [] := by
  refine sim_st (N := 9) (k0 := 0) Try.func61 rfl rfl rfl rfl (rs := [.tmp 4]) rfl (by simp [leavesU, idsL, List.all_cons, hcf.ids]) rfl fun B hB0 => ?_
  unfold slices_ContainsFunc_impl_MIns_impl_MIns_m at hm
  refine Wp.seq ?_
  refine c_reg (Y := sysA _) ?_
  refine n_ (x_as rfl rfl ?_)
  refine z_ ?_
  refine Wp.seq ?_
  refine c_reg (Y := sysA _) ?_
  refine n_ (x_mv rfl rfl ?_)
  refine n_ (x_mv rfl rfl ?_)
  obtain ⟨x1, h2, hm⟩ := of_bind hm
  refine n_ (aopK_A (x_call (v := .u (.one (.int .i64 x1))) (nobs := []) (oa' := _) (nx' := 0) rfl (a_1 rfl (b_s rfl) (a_1 rfl (b_f hcf.bor) a_n)) c_n ent98 (slices_IndexFunc_impl_MIns_impl_MIns_sim s fi fc f hef hcf hsf h2) rfl rfl rfl rfl ?_))
  refine n_ (x_bin T3 rfl rfl rfl ?_)
  refine n_ (x_as rfl rfl ?_)
  refine z_ ?_
  refine c_ret ?_
  rw [← Option.some.inj hm]
  exact ret0 (us' := [.one (.bool (decide (x1 ≥ 0)))]) rfl (r_tmp rfl rfl rfl r_nil) f_done rfl rfl

/-- impl.ProgramOk -/
noncomputable def impl_ProgramOk_m (p : GProgram) : Option Bool :=
  (if (if (!((impl_within_m p.regs 1 130))) = true then true else (if decide (((List.length p.params : Int)) > 4) = true then true else (if (((List.length p.widths : Int)) != ((List.length p.params : Int))) = true then true else (!((impl_within_m ((List.length p.code : Int)) 1 600)))))) = true then
    (some false)
    else
    (Option.bind ((Option.bind (slices_ContainsFunc_int64_int64_m p.params ((fun z0 => impl_ProgramOk_1_m z0 p))) fun x11 =>
          (if x11 = true then
            (some true)
            else
            (Option.bind (slices_ContainsFunc_int64_int64_m p.widths ((fun z0 => some (impl_ProgramOk_2_m z0)))) fun x14 =>
              (some x14))))) fun (j10 : Bool) =>
      (if j10 = true then
        (some false)
        else
        (Option.bind ((if 0 ≤ (((List.length p.code : Int)) - 1) ∧ (((List.length p.code : Int)) - 1) < (List.length p.code : Int) then
              (Option.bind (impl_is_m ((at_ p.code (((List.length p.code : Int)) - 1)).op_) ([31, 33, 34])) fun x20 =>
                (if x20 = true then
                  (Option.bind (slices_ContainsFunc_impl_MIns_impl_MIns_m p.code ((fun z0 => impl_ProgramOk_3_m z0 p))) fun x23 =>
                    (some ((!x23))))
                  else
                  (some false)))
              else none)) fun (j18 : Bool) =>
          (some j18)))))
set_option maxHeartbeats 8000000 in
set_option maxRecDepth 100000 in
theorem impl_ProgramOk_sim (p : GProgram) {r : Bool} (hm : impl_ProgramOk_m p = some r) : Sim Try.prog 21 [.agg (eProgram false p)] [] (.u (.one (.bool r))) [] := by
  refine sim_st (N := 56) (k0 := 0) Try.func21 rfl rfl rfl rfl (rs := [.tmp 2]) rfl rfl rfl fun B hB0 => ?_
  unfold impl_ProgramOk_m at hm
  refine Wp.seq ?_
  refine c_reg (Y := sysA _) ?_
  refine n_ (x_bx rfl rfl rfl rfl ?_)
  refine n_ (x_as rfl rfl ?_)
  refine z_ ?_
  refine Wp.seq ?_
  refine c_reg (Y := sysA _) ?_
  refine n_ (x_fap rfl F41_3 rfl rfl ?_)
  refine n_ (x_ldp rfl T39 rfl rfl rfl rfl rfl ?_)
  refine n_ (x_lnb N39 rfl fun hL1 => ?_)
  refine n_ (x_as rfl rfl ?_)
  refine z_ ?_
  refine Wp.seq ?_
  refine Wp.seq ?_
  refine c_cut (St 56 [(1, .u (.one (.ptr () 0 0 0))), (3, .u (.one (.int .i64 ((List.length p.code : Int))))), (30, .u (.one (.bool ((if (!((impl_within_m p.regs 1 130))) = true then true else (if decide (((List.length p.params : Int)) > 4) = true then true else (if (((List.length p.widths : Int)) != ((List.length p.params : Int))) = true then true else (!((impl_within_m ((List.length p.code : Int)) 1 600))))))))))] [(0, some ⟨(), 4, [(eProgram false p)]⟩)] 1) ?_ ?_
  · refine c_reg (Y := sysA _) ?_
    refine n_ (x_fap rfl F41_0 rfl rfl ?_)
    refine n_ (x_ldp rfl T2 rfl rfl rfl rfl rfl ?_)
    refine n_ (aopK_A (x_call (v := .u (.one (.bool ((impl_within_m p.regs 1 130))))) (nobs := []) (oa' := _) (nx' := 1) rfl (a_1 rfl (b_s rfl) (a_1 rfl (b_s rfl) (a_1 rfl (b_s rfl) a_n))) c_n ent54 (impl_within_sim p.regs 1 130) rfl rfl rfl rfl ?_))
    refine n_ (x_un rfl rfl ?_)
    refine n_ (x_mv rfl rfl ?_)
    refine g_s rfl rfl rfl (fun hb3 => ?_) (fun hb3 => ?_)
    · refine g_t rfl rfl rfl ?_
      refine n_ (x_fap rfl F41_1 rfl rfl ?_)
      refine g_t rfl rfl rfl ?_
      refine n_ (x_ldp rfl T24 rfl rfl rfl rfl rfl ?_)
      refine g_t rfl rfl rfl ?_
      refine n_ (x_lnb N24 rfl fun hL4 => ?_)
      refine g_t rfl rfl rfl ?_
      refine n_ (x_bin T3 rfl rfl rfl ?_)
      refine n_ (x_pk rfl rfl rfl ?_)
      refine n_ (x_mv rfl rfl ?_)
      refine g_s rfl rfl rfl (fun hb5 => ?_) (fun hb5 => ?_)
      · refine g_t rfl rfl rfl ?_
        refine n_ (x_fap rfl F41_2 rfl rfl ?_)
        refine g_t rfl rfl rfl ?_
        refine n_ (x_ldp rfl T24 rfl rfl rfl rfl rfl ?_)
        refine g_t rfl rfl rfl ?_
        refine n_ (x_lnb N24 rfl fun hL6 => ?_)
        refine g_t rfl rfl rfl ?_
        refine n_ (x_fap rfl F41_1 rfl rfl ?_)
        refine g_t rfl rfl rfl ?_
        refine n_ (x_ldp rfl T24 rfl rfl rfl rfl rfl ?_)
        refine g_t rfl rfl rfl ?_
        refine n_ (x_lnb N24 rfl fun hL7 => ?_)
        refine g_t rfl rfl rfl ?_
        refine n_ (x_bin T3 rfl rfl rfl ?_)
        refine n_ (x_pk rfl rfl rfl ?_)
        refine n_ (x_mv rfl rfl ?_)
        refine g_s rfl rfl rfl (fun hb8 => ?_) (fun hb8 => ?_)
        · refine g_t rfl rfl rfl ?_
          refine n_ (x_mv rfl rfl ?_)
          refine g_t rfl rfl rfl ?_
          refine n_ (aopK_A (x_call (v := .u (.one (.bool ((impl_within_m ((List.length p.code : Int)) 1 600))))) (nobs := []) (oa' := _) (nx' := 1) rfl (a_1 rfl (b_s rfl) (a_1 rfl (b_s rfl) (a_1 rfl (b_s rfl) a_n))) c_n ent54 (impl_within_sim ((List.length p.code : Int)) 1 600) rfl rfl rfl rfl ?_))
          refine g_t rfl rfl rfl ?_
          refine n_ (x_un rfl rfl ?_)
          refine n_ (x_pk rfl rfl rfl ?_)
          refine z_ ?_
          exact w_ [0] (.cons rfl rfl (.cons rfl rfl (.cons (by simp only [hb3, hb5, hb8, eq_self, if_true, Bool.false_eq_true, if_false, Bool.true_or, Bool.false_or, Bool.true_and, Bool.false_and, Bool.not_true, Bool.not_false]; rfl) rfl .nil))) (.lit rfl rfl .nil) (by decide) (hB_0 hB0)
        · refine g_f rfl rfl rfl ?_
          refine g_f rfl rfl rfl ?_
          refine g_f rfl rfl rfl ?_
          refine n_ (x_pk rfl rfl rfl ?_)
          refine z_ ?_
          exact w_ [0] (.cons rfl rfl (.cons rfl rfl (.cons (by simp only [hb3, hb5, hb8, eq_self, if_true, Bool.false_eq_true, if_false, Bool.true_or, Bool.false_or, Bool.true_and, Bool.false_and, Bool.not_true, Bool.not_false]; rfl) rfl .nil))) (.lit rfl rfl .nil) (by decide) (hB_0 hB0)
      · refine g_f rfl rfl rfl ?_
        refine g_f rfl rfl rfl ?_
        refine g_f rfl rfl rfl ?_
        refine g_f rfl rfl rfl ?_
        refine g_f rfl rfl rfl ?_
        refine g_f rfl rfl rfl ?_
        refine g_f rfl rfl rfl ?_
        refine n_ (x_pk rfl rfl rfl ?_)
        refine n_ (x_mv rfl rfl ?_)
        refine g_f rfl rfl rfl ?_
        refine g_f rfl rfl rfl ?_
        refine g_f rfl rfl rfl ?_
        refine n_ (x_pk rfl rfl rfl ?_)
        refine z_ ?_
        exact w_ [0] (.cons rfl rfl (.cons rfl rfl (.cons (by simp only [hb3, hb5, eq_self, if_true, Bool.false_eq_true, if_false, Bool.true_or, Bool.false_or, Bool.true_and, Bool.false_and, Bool.not_true, Bool.not_false]; rfl) rfl .nil))) (.lit rfl rfl .nil) (by decide) (hB_0 hB0)
    · refine g_f rfl rfl rfl ?_
      refine g_f rfl rfl rfl ?_
      refine g_f rfl rfl rfl ?_
      refine g_f rfl rfl rfl ?_
      refine n_ (x_pk rfl rfl rfl ?_)
      refine n_ (x_mv rfl rfl ?_)
      refine g_f rfl rfl rfl ?_
      refine g_f rfl rfl rfl ?_
      refine g_f rfl rfl rfl ?_
      refine g_f rfl rfl rfl ?_
      refine g_f rfl rfl rfl ?_
      refine g_f rfl rfl rfl ?_
      refine g_f rfl rfl rfl ?_
      refine n_ (x_pk rfl rfl rfl ?_)
      refine n_ (x_mv rfl rfl ?_)
      refine g_f rfl rfl rfl ?_
      refine g_f rfl rfl rfl ?_
      refine g_f rfl rfl rfl ?_
      refine n_ (x_pk rfl rfl rfl ?_)
      refine z_ ?_
      exact w_ [0] (.cons rfl rfl (.cons rfl rfl (.cons (by simp only [hb3, eq_self, if_true, Bool.false_eq_true, if_false, Bool.true_or, Bool.false_or, Bool.true_and, Bool.false_and, Bool.not_true, Bool.not_false]; rfl) rfl .nil))) (.lit rfl rfl .nil) (by decide) (hB_0 hB0)
  · refine c_s rfl rfl (fun hb9 => ?_) (fun hb9 => ?_)
    · rw [if_pos (show _ = true from hb9)] at hm
      refine Wp.seq ?_
      refine c_reg (Y := sysA _) ?_
      refine n_ (x_as rfl rfl ?_)
      refine z_ ?_
      refine c_ret ?_
      rw [← Option.some.inj hm]
      exact ret0 (us' := [.one (.bool false)]) rfl (r_tmp rfl rfl rfl r_nil) f_done rfl rfl
    · rw [if_neg (by rw [hb9]; decide)] at hm
      refine c_skip ?_
      refine Wp.seq ?_
      refine Wp.seq ?_
      obtain ⟨j10, hj16, hm⟩ := of_bind hm
      refine c_cut (St 56 [(1, .u (.one (.ptr () 0 0 0))), (3, .u (.one (.int .i64 ((List.length p.code : Int))))), (39, .u (.one (.bool j10)))] [(0, some ⟨(), 4, [(eProgram false p)]⟩)] 1) ?_ ?_
      · replace hm := hj16
        refine c_reg (Y := sysA _) ?_
        refine n_ (x_fap rfl F41_1 rfl rfl ?_)
        refine n_ (x_ldp rfl T24 rfl rfl rfl rfl rfl ?_)
        refine n_ (x_mf (ls := [.ptr () 0 0 0]) rfl ?_)
        obtain ⟨x11, h12, hm⟩ := of_bind hm
        refine n_ (aopK_A (x_call (v := .u (.one (.bool x11))) (nobs := []) (oa' := _) (nx' := 1) rfl (a_1 rfl (b_s rfl) (a_1 rfl (b_f (c_c (b_p rfl (c_all rfl) rfl) c_n)) a_n)) c_n ent55 (slices_ContainsFunc_int64_int64_sim p.params 56 [.ip () (eProgram false p)] (fun z0 => impl_ProgramOk_1_m z0 p) ent56 rfl (fun z0 y hy => impl_ProgramOk_1_sim z0 p hy) h12) rfl rfl rfl rfl ?_))
        refine n_ (x_mv rfl rfl ?_)
        refine g_s rfl rfl rfl (fun hb13 => ?_) (fun hb13 => ?_)
        · rw [if_neg (by rw [hb13]; decide)] at hm
          refine g_t rfl rfl rfl ?_
          refine n_ (x_fap rfl F41_2 rfl rfl ?_)
          refine g_t rfl rfl rfl ?_
          refine n_ (x_ldp rfl T24 rfl rfl rfl rfl rfl ?_)
          refine g_t rfl rfl rfl ?_
          obtain ⟨x14, h15, hm⟩ := of_bind hm
          refine n_ (aopK_A (x_call (v := .u (.one (.bool x14))) (nobs := []) (oa' := _) (nx' := 1) rfl (a_1 rfl (b_s rfl) (a_1 rfl (b_f c_n) a_n)) c_n ent55 (slices_ContainsFunc_int64_int64_sim p.widths 58 [] (fun z0 => some (impl_ProgramOk_2_m z0)) ent58 rfl (fun z0 y hy => by cases hy; exact impl_ProgramOk_2_sim z0) h15) rfl rfl rfl rfl ?_))
          refine n_ (x_pk rfl rfl rfl ?_)
          refine z_ ?_
          cases hm
          exact w_ [0] (.cons rfl rfl (.cons rfl rfl (.cons rfl rfl .nil))) (.lit rfl rfl .nil) (by decide) (hB_0 hB0)
        · rw [if_pos (show _ = true from hb13)] at hm
          refine g_f rfl rfl rfl ?_
          refine g_f rfl rfl rfl ?_
          refine g_f rfl rfl rfl ?_
          refine n_ (x_pk rfl rfl rfl ?_)
          refine z_ ?_
          cases hm
          exact w_ [0] (.cons rfl rfl (.cons rfl rfl (.cons rfl rfl .nil))) (.lit rfl rfl .nil) (by decide) (hB_0 hB0)
      · refine c_s rfl rfl (fun hb17 => ?_) (fun hb17 => ?_)
        · rw [if_pos (show _ = true from hb17)] at hm
          refine Wp.seq ?_
          refine c_reg (Y := sysA _) ?_
          refine n_ (x_as rfl rfl ?_)
          refine z_ ?_
          refine c_ret ?_
          rw [← Option.some.inj hm]
          exact ret0 (us' := [.one (.bool false)]) rfl (r_tmp rfl rfl rfl r_nil) f_done rfl rfl
        · rw [if_neg (by rw [hb17]; decide)] at hm
          refine c_skip ?_
          refine Wp.seq ?_
          obtain ⟨j18, hj25, hm⟩ := of_bind hm
          refine c_cut (St 56 [(2, .u (.one (.bool j18)))] [] 0) ?_ ?_
          · replace hm := hj25
            refine c_reg (Y := sysA _) ?_
            refine n_ (x_fap rfl F41_3 rfl rfl ?_)
            refine n_ (x_ldp rfl T39 rfl rfl rfl rfl rfl ?_)
            refine n_ (x_mv rfl rfl ?_)
            refine n_ (x_subc T3 rfl rfl (by unfold inI; omega) ?_)
            obtain ⟨h19, hm⟩ := of_ite hm
            refine n_ (x_ixb E39 rfl rfl h19 ?_)
            refine n_ (x_fai F78_0 rfl ?_)
            refine n_ (x_ldi T2 rfl rfl rfl ?_)
            refine n_ (x_bsm (enc := iL) ([31, 33, 34]) A24 rfl rfl rfl rfl ?_)
            obtain ⟨x20, h21, hm⟩ := of_bind hm
            refine n_ (aopK_A (x_call (v := .u (.one (.bool x20))) (nobs := []) (oa' := _) (nx' := 2) rfl (a_1 rfl (b_s rfl) (a_1 rfl (b_r rfl) a_n)) c_n ent60 (impl_is_sim ((at_ p.code (((List.length p.code : Int)) - 1)).op_) ([31, 33, 34]) h21) rfl rfl rfl rfl ?_))
            refine n_ (x_mv rfl rfl ?_)
            refine g_s rfl rfl rfl (fun hb22 => ?_) (fun hb22 => ?_)
            · rw [if_pos (show _ = true from hb22)] at hm
              refine g_t rfl rfl rfl ?_
              refine n_ (x_fap rfl F41_3 rfl rfl ?_)
              refine g_t rfl rfl rfl ?_
              refine n_ (x_ldp rfl T39 rfl rfl rfl rfl rfl ?_)
              refine g_t rfl rfl rfl ?_
              refine n_ (x_mf (ls := [.ptr () 0 0 0]) rfl ?_)
              refine g_t rfl rfl rfl ?_
              obtain ⟨x23, h24, hm⟩ := of_bind hm
              refine n_ (aopK_A (x_call (v := .u (.one (.bool x23))) (nobs := []) (oa' := _) (nx' := 2) rfl (a_1 rfl (b_s rfl) (a_1 rfl (b_f (c_c (b_p rfl (c_all rfl) rfl) c_n)) a_n)) c_n ent61 (slices_ContainsFunc_impl_MIns_impl_MIns_sim p.code 62 [.ip () (eProgram false p)] (fun z0 => impl_ProgramOk_3_m z0 p) ent62 rfl (fun z0 y hy => impl_ProgramOk_3_sim z0 p hy) h24) rfl rfl rfl rfl ?_))
              refine g_t rfl rfl rfl ?_
              refine n_ (x_un rfl rfl ?_)
              refine n_ (x_pk rfl rfl rfl ?_)
              refine n_ (x_as rfl rfl ?_)
              refine z_ ?_
              cases hm
              exact w_ [] (.cons rfl rfl .nil) .nil (by decide) (hB_0 hB0)
            · rw [if_neg (by rw [hb22]; decide)] at hm
              refine g_f rfl rfl rfl ?_
              refine g_f rfl rfl rfl ?_
              refine g_f rfl rfl rfl ?_
              refine g_f rfl rfl rfl ?_
              refine g_f rfl rfl rfl ?_
              refine n_ (x_pk rfl rfl rfl ?_)
              refine n_ (x_as rfl rfl ?_)
              refine z_ ?_
              cases hm
              exact w_ [] (.cons rfl rfl .nil) .nil (by decide) (hB_0 hB0)
          · refine c_ret ?_
            rw [← Option.some.inj hm]
            exact ret0 (us' := [.one (.bool j18)]) rfl (r_tmp rfl rfl rfl r_nil) f_done rfl rfl

/-- laws.eqInt64S -/
noncomputable def laws_eqInt64S_m (a : List Int) (b : List Int) : Option Bool :=
  (if (((List.length a : Int)) != ((List.length b : Int))) = true then
    (some false)
    else
    (Option.bind (loopO (fun (st4 : Int) =>
          ((if decide (st4 < ((List.length a : Int))) = true then
              (if 0 ≤ st4 ∧ st4 < (List.length a : Int) then
                (if 0 ≤ st4 ∧ st4 < (List.length b : Int) then
                  (if ((at_ a st4) != (at_ b st4)) = true then
                    (some (Sum.inr ((Sum.inl (())))))
                    else
                    (if inI (st4 + 1) then
                      (some (Sum.inl (st4 + 1)))
                      else none))
                  else none)
                else none)
              else
              (some (Sum.inr ((Sum.inr (())))))) : Option ((Int) ⊕ (Unit ⊕ Unit)))) 0) fun (y13 : Unit ⊕ Unit) => match y13 with
      | (Sum.inl j5) =>
      (some false)
      | (Sum.inr j6) =>
      (some true)))
set_option maxHeartbeats 8000000 in
set_option maxRecDepth 100000 in
theorem laws_eqInt64S_sim (a : List Int) (b : List Int) {r : Bool} (hm : laws_eqInt64S_m a b = some r) : Sim Try.prog 64 [.one (.bs () 1 (List.map iL a)), .one (.bs () 1 (List.map iL b))] [] (.u (.one (.bool r))) [] := by
  refine sim_st (N := 26) (k0 := 0) Try.func64 rfl rfl rfl rfl (rs := [.tmp 4]) rfl rfl rfl fun B hB0 => ?_
  unfold laws_eqInt64S_m at hm
  refine Wp.seq ?_
  refine c_reg (Y := sysA _) ?_
  refine n_ (x_as rfl rfl ?_)
  refine z_ ?_
  refine Wp.seq ?_
  refine Wp.seq ?_
  refine c_reg (Y := sysA _) ?_
  refine n_ (x_mv rfl rfl ?_)
  refine n_ (x_lnb N24 rfl fun hL1 => ?_)
  refine n_ (x_mv rfl rfl ?_)
  refine n_ (x_lnb N24 rfl fun hL2 => ?_)
  refine n_ (x_bin T3 rfl rfl rfl ?_)
  refine z_ ?_
  refine c_s rfl rfl (fun hb3 => ?_) (fun hb3 => ?_)
  · rw [if_pos (show _ = true from hb3)] at hm
    refine Wp.seq ?_
    refine c_reg (Y := sysA _) ?_
    refine n_ (x_as rfl rfl ?_)
    refine z_ ?_
    refine c_ret ?_
    rw [← Option.some.inj hm]
    exact ret0 (us' := [.one (.bool false)]) rfl (r_tmp rfl rfl rfl r_nil) f_done rfl rfl
  · rw [if_neg (by rw [hb3]; decide)] at hm
    refine c_skip ?_
    refine Wp.seq ?_
    refine Wp.seq ?_
    refine c_reg (Y := sysA _) ?_
    refine n_ (x_as rfl rfl ?_)
    refine z_ ?_
    refine Wp.block ?_
    obtain ⟨y13, hl14, hm⟩ := of_bind hm
    refine c_loop hl14 (fun (st4 : Int) => St 26 [(0, .u (.one (.bs () 1 (List.map iL a)))), (1, .u (.one (.bs () 1 (List.map iL b)))), (5, .u (.one (.int .i64 st4)))] [] 0) (fun (y : Unit ⊕ Unit) => match y with | (Sum.inl j5) => (.ret, St 26 [(4, .u (.one (.bool false)))] [] 0) | (Sum.inr j6) => (.exit 0, St 26 [] [] 0)) (w_ [] (.cons rfl rfl (.cons rfl rfl (.cons rfl rfl .nil))) .nil (by decide) (hB_0 hB0)) ?_ (by rintro (_ | _) <;> simp) ?_
    · intro st4 x hm
      refine Wp.seq ?_
      refine Wp.seq ?_
      refine c_reg (Y := sysA _) ?_
      refine n_ (x_mv rfl rfl ?_)
      refine n_ (x_mv rfl rfl ?_)
      refine n_ (x_lnb N24 rfl fun hL7 => ?_)
      refine n_ (x_bin T3 rfl rfl rfl ?_)
      refine z_ ?_
      refine c_s rfl rfl (fun hb8 => ?_) (fun hb8 => ?_)
      · rw [if_pos (show _ = true from hb8)] at hm
        refine c_skip ?_
        refine Wp.seq ?_
        refine Wp.block ?_
        refine Wp.seq ?_
        refine c_drw (Y := sysC _) mixed ?_
        refine t_ 0 0 rfl (by decide +kernel) (x_mv rfl rfl ?_)
        refine t_ 1 0 rfl (by decide +kernel) (x_mv rfl rfl ?_)
        obtain ⟨h9, hm⟩ := of_ite hm
        refine t_ 2 0 rfl (by decide +kernel) (x_ixb E24 rfl rfl h9 ?_)
        refine t_ 3 0 rfl (by decide +kernel) (x_ldi T2 rfl rfl rfl ?_)
        refine t_ 4 0 rfl (by decide +kernel) (x_mv rfl rfl ?_)
        refine t_ 5 0 rfl (by decide +kernel) (x_mv rfl rfl ?_)
        obtain ⟨h10, hm⟩ := of_ite hm
        refine t_ 6 0 rfl (by decide +kernel) (x_ixb E24 rfl rfl h10 ?_)
        refine t_ 7 0 rfl (by decide +kernel) (x_ldi T2 rfl rfl rfl ?_)
        refine t_ 8 0 rfl (by decide +kernel) (x_bin T2 rfl rfl rfl ?_)
        refine a_nil (by decide +kernel) ?_
        refine c_s rfl rfl (fun hb11 => ?_) (fun hb11 => ?_)
        · rw [if_pos (show _ = true from hb11)] at hm
          refine Wp.seq ?_
          refine c_reg (Y := sysA _) ?_
          refine n_ (x_as rfl rfl ?_)
          refine z_ ?_
          refine c_ret ?_
          cases hm
          exact ⟨rfl, w_ [] (.cons rfl rfl .nil) .nil (by decide) (hB_0 hB0)⟩
        · rw [if_neg (by rw [hb11]; decide)] at hm
          refine c_skip ?_
          refine c_reg (Y := sysA _) ?_
          refine n_ (x_mv rfl rfl ?_)
          obtain ⟨h12, hm⟩ := of_ite hm
          refine n_ (x_addc T3 rfl rfl h12 ?_)
          refine n_ (x_as rfl rfl ?_)
          refine z_ ?_
          cases hm
          exact ⟨rfl, w_ [] (.cons rfl rfl (.cons rfl rfl (.cons rfl rfl .nil))) .nil (by decide) (hB_0 hB0)⟩
      · rw [if_neg (by rw [hb8]; decide)] at hm
        refine c_exit ?_
        cases hm
        exact ⟨rfl, w_ [] .nil .nil (by decide) (hB_0 hB0)⟩
    · rcases y13 with j5 | j6
      all_goals simp only at hm
      · rw [← Option.some.inj hm]
        exact ret0 (us' := [.one (.bool false)]) rfl (r_tmp rfl rfl rfl r_nil) f_done rfl rfl
      · refine Wp.seq ?_
        refine c_reg (Y := sysA _) ?_
        refine n_ (x_as rfl rfl ?_)
        refine z_ ?_
        refine c_ret ?_
        rw [← Option.some.inj hm]
        exact ret0 (us' := [.one (.bool true)]) rfl (r_tmp rfl rfl rfl r_nil) f_done rfl rfl

/-- laws.eqMIns -/
noncomputable def laws_eqMIns_m (a : GMIns) (b : GMIns) : Bool :=
  (if (a.op_ != b.op_) = true then
    false
    else
    (if (a.w != b.w) = true then
      false
      else
      (if (a.d != b.d) = true then
        false
        else
        (if (a.a != b.a) = true then
          false
          else
          (if (a.b != b.b) = true then
            false
            else
            (if (a.c != b.c) = true then
              false
              else
              (if (a.imm != b.imm) = true then
                false
                else
                true)))))))
set_option maxHeartbeats 8000000 in
set_option maxRecDepth 100000 in
theorem laws_eqMIns_sim (a : GMIns) (b : GMIns) : Sim Try.prog 102 [.agg (eMIns a), .agg (eMIns b)] [] (.u (.one (.bool ((laws_eqMIns_m a b))))) [] := by
  obtain ⟨r, hm⟩ : ∃ r, laws_eqMIns_m a b = r := ⟨_, rfl⟩
  rw [hm]
  refine sim_st (N := 40) (k0 := 0) Try.func102 rfl rfl rfl rfl (rs := [.tmp 4]) rfl rfl rfl fun B hB0 => ?_
  unfold laws_eqMIns_m at hm
  refine Wp.seq ?_
  refine c_reg (Y := sysA _) ?_
  refine n_ (x_bx rfl rfl rfl rfl ?_)
  refine n_ (x_bx rfl rfl rfl rfl ?_)
  refine n_ (x_as rfl rfl ?_)
  refine z_ ?_
  refine Wp.seq ?_
  refine Wp.seq ?_
  refine c_reg (Y := sysA _) ?_
  refine n_ (x_fap rfl F78_0 rfl rfl ?_)
  refine n_ (x_ldp rfl T2 rfl rfl rfl rfl rfl ?_)
  refine n_ (x_fap rfl F78_0 rfl rfl ?_)
  refine n_ (x_ldp rfl T2 rfl rfl rfl rfl rfl ?_)
  refine n_ (x_bin T2 rfl rfl rfl ?_)
  refine z_ ?_
  refine c_s rfl rfl (fun hb1 => ?_) (fun hb1 => ?_)
  · rw [if_pos (show _ = true from hb1)] at hm
    refine Wp.seq ?_
    refine c_reg (Y := sysA _) ?_
    refine n_ (x_as rfl rfl ?_)
    refine z_ ?_
    refine c_ret ?_
    rw [← hm]
    exact ret0 (us' := [.one (.bool false)]) rfl (r_tmp rfl rfl rfl r_nil) f_done rfl rfl
  · rw [if_neg (by rw [hb1]; decide)] at hm
    refine c_skip ?_
    refine Wp.seq ?_
    refine Wp.seq ?_
    refine c_reg (Y := sysA _) ?_
    refine n_ (x_fap rfl F78_1 rfl rfl ?_)
    refine n_ (x_ldp rfl T2 rfl rfl rfl rfl rfl ?_)
    refine n_ (x_fap rfl F78_1 rfl rfl ?_)
    refine n_ (x_ldp rfl T2 rfl rfl rfl rfl rfl ?_)
    refine n_ (x_bin T2 rfl rfl rfl ?_)
    refine z_ ?_
    refine c_s rfl rfl (fun hb2 => ?_) (fun hb2 => ?_)
    · rw [if_pos (show _ = true from hb2)] at hm
      refine Wp.seq ?_
      refine c_reg (Y := sysA _) ?_
      refine n_ (x_as rfl rfl ?_)
      refine z_ ?_
      refine c_ret ?_
      rw [← hm]
      exact ret0 (us' := [.one (.bool false)]) rfl (r_tmp rfl rfl rfl r_nil) f_done rfl rfl
    · rw [if_neg (by rw [hb2]; decide)] at hm
      refine c_skip ?_
      refine Wp.seq ?_
      refine Wp.seq ?_
      refine c_reg (Y := sysA _) ?_
      refine n_ (x_fap rfl F78_2 rfl rfl ?_)
      refine n_ (x_ldp rfl T2 rfl rfl rfl rfl rfl ?_)
      refine n_ (x_fap rfl F78_2 rfl rfl ?_)
      refine n_ (x_ldp rfl T2 rfl rfl rfl rfl rfl ?_)
      refine n_ (x_bin T2 rfl rfl rfl ?_)
      refine z_ ?_
      refine c_s rfl rfl (fun hb3 => ?_) (fun hb3 => ?_)
      · rw [if_pos (show _ = true from hb3)] at hm
        refine Wp.seq ?_
        refine c_reg (Y := sysA _) ?_
        refine n_ (x_as rfl rfl ?_)
        refine z_ ?_
        refine c_ret ?_
        rw [← hm]
        exact ret0 (us' := [.one (.bool false)]) rfl (r_tmp rfl rfl rfl r_nil) f_done rfl rfl
      · rw [if_neg (by rw [hb3]; decide)] at hm
        refine c_skip ?_
        refine Wp.seq ?_
        refine Wp.seq ?_
        refine c_reg (Y := sysA _) ?_
        refine n_ (x_fap rfl F78_3 rfl rfl ?_)
        refine n_ (x_ldp rfl T2 rfl rfl rfl rfl rfl ?_)
        refine n_ (x_fap rfl F78_3 rfl rfl ?_)
        refine n_ (x_ldp rfl T2 rfl rfl rfl rfl rfl ?_)
        refine n_ (x_bin T2 rfl rfl rfl ?_)
        refine z_ ?_
        refine c_s rfl rfl (fun hb4 => ?_) (fun hb4 => ?_)
        · rw [if_pos (show _ = true from hb4)] at hm
          refine Wp.seq ?_
          refine c_reg (Y := sysA _) ?_
          refine n_ (x_as rfl rfl ?_)
          refine z_ ?_
          refine c_ret ?_
          rw [← hm]
          exact ret0 (us' := [.one (.bool false)]) rfl (r_tmp rfl rfl rfl r_nil) f_done rfl rfl
        · rw [if_neg (by rw [hb4]; decide)] at hm
          refine c_skip ?_
          refine Wp.seq ?_
          refine Wp.seq ?_
          refine c_reg (Y := sysA _) ?_
          refine n_ (x_fap rfl F78_4 rfl rfl ?_)
          refine n_ (x_ldp rfl T2 rfl rfl rfl rfl rfl ?_)
          refine n_ (x_fap rfl F78_4 rfl rfl ?_)
          refine n_ (x_ldp rfl T2 rfl rfl rfl rfl rfl ?_)
          refine n_ (x_bin T2 rfl rfl rfl ?_)
          refine z_ ?_
          refine c_s rfl rfl (fun hb5 => ?_) (fun hb5 => ?_)
          · rw [if_pos (show _ = true from hb5)] at hm
            refine Wp.seq ?_
            refine c_reg (Y := sysA _) ?_
            refine n_ (x_as rfl rfl ?_)
            refine z_ ?_
            refine c_ret ?_
            rw [← hm]
            exact ret0 (us' := [.one (.bool false)]) rfl (r_tmp rfl rfl rfl r_nil) f_done rfl rfl
          · rw [if_neg (by rw [hb5]; decide)] at hm
            refine c_skip ?_
            refine Wp.seq ?_
            refine Wp.seq ?_
            refine c_reg (Y := sysA _) ?_
            refine n_ (x_fap rfl F78_5 rfl rfl ?_)
            refine n_ (x_ldp rfl T2 rfl rfl rfl rfl rfl ?_)
            refine n_ (x_fap rfl F78_5 rfl rfl ?_)
            refine n_ (x_ldp rfl T2 rfl rfl rfl rfl rfl ?_)
            refine n_ (x_bin T2 rfl rfl rfl ?_)
            refine z_ ?_
            refine c_s rfl rfl (fun hb6 => ?_) (fun hb6 => ?_)
            · rw [if_pos (show _ = true from hb6)] at hm
              refine Wp.seq ?_
              refine c_reg (Y := sysA _) ?_
              refine n_ (x_as rfl rfl ?_)
              refine z_ ?_
              refine c_ret ?_
              rw [← hm]
              exact ret0 (us' := [.one (.bool false)]) rfl (r_tmp rfl rfl rfl r_nil) f_done rfl rfl
            · rw [if_neg (by rw [hb6]; decide)] at hm
              refine c_skip ?_
              refine Wp.seq ?_
              refine Wp.seq ?_
              refine c_reg (Y := sysA _) ?_
              refine n_ (x_fap rfl F78_6 rfl rfl ?_)
              refine n_ (x_ldp rfl T2 rfl rfl rfl rfl rfl ?_)
              refine n_ (x_fap rfl F78_6 rfl rfl ?_)
              refine n_ (x_ldp rfl T2 rfl rfl rfl rfl rfl ?_)
              refine n_ (x_bin T2 rfl rfl rfl ?_)
              refine z_ ?_
              refine c_s rfl rfl (fun hb7 => ?_) (fun hb7 => ?_)
              · rw [if_pos (show _ = true from hb7)] at hm
                refine Wp.seq ?_
                refine c_reg (Y := sysA _) ?_
                refine n_ (x_as rfl rfl ?_)
                refine z_ ?_
                refine c_ret ?_
                rw [← hm]
                exact ret0 (us' := [.one (.bool false)]) rfl (r_tmp rfl rfl rfl r_nil) f_done rfl rfl
              · rw [if_neg (by rw [hb7]; decide)] at hm
                refine c_skip ?_
                refine Wp.seq ?_
                refine c_reg (Y := sysA _) ?_
                refine n_ (x_as rfl rfl ?_)
                refine z_ ?_
                refine c_ret ?_
                rw [← hm]
                exact ret0 (us' := [.one (.bool true)]) rfl (r_tmp rfl rfl rfl r_nil) f_done rfl rfl

/-- laws.eqMInsS -/
noncomputable def laws_eqMInsS_m (a : List GMIns) (b : List GMIns) : Option Bool :=
  (if (((List.length a : Int)) != ((List.length b : Int))) = true then
    (some false)
    else
    (Option.bind (loopO (fun (st4 : Int) =>
          ((if decide (st4 < ((List.length a : Int))) = true then
              (if 0 ≤ st4 ∧ st4 < (List.length a : Int) then
                (if 0 ≤ st4 ∧ st4 < (List.length b : Int) then
                  (if (!((laws_eqMIns_m (at_ a st4) (at_ b st4)))) = true then
                    (some (Sum.inr ((Sum.inl (())))))
                    else
                    (if inI (st4 + 1) then
                      (some (Sum.inl (st4 + 1)))
                      else none))
                  else none)
                else none)
              else
              (some (Sum.inr ((Sum.inr (())))))) : Option ((Int) ⊕ (Unit ⊕ Unit)))) 0) fun (y13 : Unit ⊕ Unit) => match y13 with
      | (Sum.inl j5) =>
      (some false)
      | (Sum.inr j6) =>
      (some true)))
set_option maxHeartbeats 8000000 in
set_option maxRecDepth 100000 in
theorem laws_eqMInsS_sim (a : List GMIns) (b : List GMIns) {r : Bool} (hm : laws_eqMInsS_m a b = some r) : Sim Try.prog 65 [.one (.bs () 7 (List.map eMIns a)), .one (.bs () 7 (List.map eMIns b))] [] (.u (.one (.bool r))) [] := by
  refine sim_st (N := 27) (k0 := 0) Try.func65 rfl rfl rfl rfl (rs := [.tmp 4]) rfl rfl rfl fun B hB0 => ?_
  unfold laws_eqMInsS_m at hm
  refine Wp.seq ?_
  refine c_reg (Y := sysA _) ?_
  refine n_ (x_as rfl rfl ?_)
  refine z_ ?_
  refine Wp.seq ?_
  refine Wp.seq ?_
  refine c_reg (Y := sysA _) ?_
  refine n_ (x_mv rfl rfl ?_)
  refine n_ (x_lnb N39 rfl fun hL1 => ?_)
  refine n_ (x_mv rfl rfl ?_)
  refine n_ (x_lnb N39 rfl fun hL2 => ?_)
  refine n_ (x_bin T3 rfl rfl rfl ?_)
  refine z_ ?_
  refine c_s rfl rfl (fun hb3 => ?_) (fun hb3 => ?_)
  · rw [if_pos (show _ = true from hb3)] at hm
    refine Wp.seq ?_
    refine c_reg (Y := sysA _) ?_
    refine n_ (x_as rfl rfl ?_)
    refine z_ ?_
    refine c_ret ?_
    rw [← Option.some.inj hm]
    exact ret0 (us' := [.one (.bool false)]) rfl (r_tmp rfl rfl rfl r_nil) f_done rfl rfl
  · rw [if_neg (by rw [hb3]; decide)] at hm
    refine c_skip ?_
    refine Wp.seq ?_
    refine Wp.seq ?_
    refine c_reg (Y := sysA _) ?_
    refine n_ (x_as rfl rfl ?_)
    refine z_ ?_
    refine Wp.block ?_
    obtain ⟨y13, hl14, hm⟩ := of_bind hm
    refine c_loop hl14 (fun (st4 : Int) => St 27 [(0, .u (.one (.bs () 7 (List.map eMIns a)))), (1, .u (.one (.bs () 7 (List.map eMIns b)))), (5, .u (.one (.int .i64 st4)))] [] 0) (fun (y : Unit ⊕ Unit) => match y with | (Sum.inl j5) => (.ret, St 27 [(4, .u (.one (.bool false)))] [] 0) | (Sum.inr j6) => (.exit 0, St 27 [] [] 0)) (w_ [] (.cons rfl rfl (.cons rfl rfl (.cons rfl rfl .nil))) .nil (by decide) (hB_0 hB0)) ?_ (by rintro (_ | _) <;> simp) ?_
    · intro st4 x hm
      refine Wp.seq ?_
      refine Wp.seq ?_
      refine c_reg (Y := sysA _) ?_
      refine n_ (x_mv rfl rfl ?_)
      refine n_ (x_mv rfl rfl ?_)
      refine n_ (x_lnb N39 rfl fun hL7 => ?_)
      refine n_ (x_bin T3 rfl rfl rfl ?_)
      refine z_ ?_
      refine c_s rfl rfl (fun hb8 => ?_) (fun hb8 => ?_)
      · rw [if_pos (show _ = true from hb8)] at hm
        refine c_skip ?_
        refine Wp.seq ?_
        refine Wp.block ?_
        refine Wp.seq ?_
        refine c_drw (Y := sysC _) mixed ?_
        refine t_ 0 0 rfl (by decide +kernel) (x_mv rfl rfl ?_)
        refine t_ 1 0 rfl (by decide +kernel) (x_mv rfl rfl ?_)
        obtain ⟨h9, hm⟩ := of_ite hm
        refine t_ 2 0 rfl (by decide +kernel) (x_ixb E39 rfl rfl h9 ?_)
        refine t_ 3 0 rfl (by decide +kernel) (x_ldi T78 rfl (pk_all rfl rfl) rfl ?_)
        refine t_ 4 0 rfl (by decide +kernel) (x_mv rfl rfl ?_)
        refine t_ 5 0 rfl (by decide +kernel) (x_mv rfl rfl ?_)
        obtain ⟨h10, hm⟩ := of_ite hm
        refine t_ 6 0 rfl (by decide +kernel) (x_ixb E39 rfl rfl h10 ?_)
        refine t_ 7 0 rfl (by decide +kernel) (x_ldi T78 rfl (pk_all rfl rfl) rfl ?_)
        refine o_ 8 rfl (by decide +kernel) (x_call (v := .u (.one (.bool ((laws_eqMIns_m (at_ a st4) (at_ b st4)))))) (nobs := []) (oa' := _) (nx' := 0) rfl (a_a rfl (c_all rfl) (a_a rfl (c_all rfl) a_n)) c_n ent102 (laws_eqMIns_sim (at_ a st4) (at_ b st4)) rfl rfl rfl rfl ?_)
        refine t_ 9 0 rfl (by decide +kernel) (x_un rfl rfl ?_)
        refine a_nil (by decide +kernel) ?_
        refine c_s rfl rfl (fun hb11 => ?_) (fun hb11 => ?_)
        · rw [if_pos (show _ = true from hb11)] at hm
          refine Wp.seq ?_
          refine c_reg (Y := sysA _) ?_
          refine n_ (x_as rfl rfl ?_)
          refine z_ ?_
          refine c_ret ?_
          cases hm
          exact ⟨rfl, w_ [] (.cons rfl rfl .nil) .nil (by decide) (hB_0 hB0)⟩
        · rw [if_neg (by rw [hb11]; decide)] at hm
          refine c_skip ?_
          refine c_reg (Y := sysA _) ?_
          refine n_ (x_mv rfl rfl ?_)
          obtain ⟨h12, hm⟩ := of_ite hm
          refine n_ (x_addc T3 rfl rfl h12 ?_)
          refine n_ (x_as rfl rfl ?_)
          refine z_ ?_
          cases hm
          exact ⟨rfl, w_ [] (.cons rfl rfl (.cons rfl rfl (.cons rfl rfl .nil))) .nil (by decide) (hB_0 hB0)⟩
      · rw [if_neg (by rw [hb8]; decide)] at hm
        refine c_exit ?_
        cases hm
        exact ⟨rfl, w_ [] .nil .nil (by decide) (hB_0 hB0)⟩
    · rcases y13 with j5 | j6
      all_goals simp only at hm
      · rw [← Option.some.inj hm]
        exact ret0 (us' := [.one (.bool false)]) rfl (r_tmp rfl rfl rfl r_nil) f_done rfl rfl
      · refine Wp.seq ?_
        refine c_reg (Y := sysA _) ?_
        refine n_ (x_as rfl rfl ?_)
        refine z_ ?_
        refine c_ret ?_
        rw [← Option.some.inj hm]
        exact ret0 (us' := [.one (.bool true)]) rfl (r_tmp rfl rfl rfl r_nil) f_done rfl rfl

/-- laws.eqProgram -/
noncomputable def laws_eqProgram_m (a : GProgram) (b : GProgram) : Option Bool :=
  (if (a.regs != b.regs) = true then
    (some false)
    else
    (Option.bind (laws_eqInt64S_m a.params b.params) fun x2 =>
      (if (!x2) = true then
        (some false)
        else
        (Option.bind (laws_eqInt64S_m a.widths b.widths) fun x5 =>
          (if (!x5) = true then
            (some false)
            else
            (Option.bind (laws_eqMInsS_m a.code b.code) fun x8 =>
              (if (!x8) = true then
                (some false)
                else
                (some true))))))))
set_option maxHeartbeats 8000000 in
set_option maxRecDepth 100000 in
theorem laws_eqProgram_sim (a : GProgram) (b : GProgram) {r : Bool} (hm : laws_eqProgram_m a b = some r) : Sim Try.prog 22 [.agg (eProgram false a), .agg (eProgram false b)] [] (.u (.one (.bool r))) [] := by
  refine sim_st (N := 28) (k0 := 0) Try.func22 rfl rfl rfl rfl (rs := [.tmp 4]) rfl rfl rfl fun B hB0 => ?_
  unfold laws_eqProgram_m at hm
  refine Wp.seq ?_
  refine c_reg (Y := sysA _) ?_
  refine n_ (x_bx rfl rfl rfl rfl ?_)
  refine n_ (x_bx rfl rfl rfl rfl ?_)
  refine n_ (x_as rfl rfl ?_)
  refine z_ ?_
  refine Wp.seq ?_
  refine Wp.seq ?_
  refine c_reg (Y := sysA _) ?_
  refine n_ (x_fap rfl F41_0 rfl rfl ?_)
  refine n_ (x_ldp rfl T2 rfl rfl rfl rfl rfl ?_)
  refine n_ (x_fap rfl F41_0 rfl rfl ?_)
  refine n_ (x_ldp rfl T2 rfl rfl rfl rfl rfl ?_)
  refine n_ (x_bin T2 rfl rfl rfl ?_)
  refine z_ ?_
  refine c_s rfl rfl (fun hb1 => ?_) (fun hb1 => ?_)
  · rw [if_pos (show _ = true from hb1)] at hm
    refine Wp.seq ?_
    refine c_reg (Y := sysA _) ?_
    refine n_ (x_as rfl rfl ?_)
    refine z_ ?_
    refine c_ret ?_
    rw [← Option.some.inj hm]
    exact ret0 (us' := [.one (.bool false)]) rfl (r_tmp rfl rfl rfl r_nil) f_done rfl rfl
  · rw [if_neg (by rw [hb1]; decide)] at hm
    refine c_skip ?_
    refine Wp.seq ?_
    refine Wp.seq ?_
    refine c_reg (Y := sysA _) ?_
    refine n_ (x_fap rfl F41_1 rfl rfl ?_)
    refine n_ (x_ldp rfl T24 rfl rfl rfl rfl rfl ?_)
    refine n_ (x_fap rfl F41_1 rfl rfl ?_)
    refine n_ (x_ldp rfl T24 rfl rfl rfl rfl rfl ?_)
    obtain ⟨x2, h3, hm⟩ := of_bind hm
    refine n_ (aopK_A (x_call (v := .u (.one (.bool x2))) (nobs := []) (oa' := _) (nx' := 2) rfl (a_1 rfl (b_s rfl) (a_1 rfl (b_s rfl) a_n)) c_n ent64 (laws_eqInt64S_sim a.params b.params h3) rfl rfl rfl rfl ?_))
    refine n_ (x_un rfl rfl ?_)
    refine z_ ?_
    refine c_s rfl rfl (fun hb4 => ?_) (fun hb4 => ?_)
    · rw [if_pos (show _ = true from hb4)] at hm
      refine Wp.seq ?_
      refine c_reg (Y := sysA _) ?_
      refine n_ (x_as rfl rfl ?_)
      refine z_ ?_
      refine c_ret ?_
      rw [← Option.some.inj hm]
      exact ret0 (us' := [.one (.bool false)]) rfl (r_tmp rfl rfl rfl r_nil) f_done rfl rfl
    · rw [if_neg (by rw [hb4]; decide)] at hm
      refine c_skip ?_
      refine Wp.seq ?_
      refine Wp.seq ?_
      refine c_reg (Y := sysA _) ?_
      refine n_ (x_fap rfl F41_2 rfl rfl ?_)
      refine n_ (x_ldp rfl T24 rfl rfl rfl rfl rfl ?_)
      refine n_ (x_fap rfl F41_2 rfl rfl ?_)
      refine n_ (x_ldp rfl T24 rfl rfl rfl rfl rfl ?_)
      obtain ⟨x5, h6, hm⟩ := of_bind hm
      refine n_ (aopK_A (x_call (v := .u (.one (.bool x5))) (nobs := []) (oa' := _) (nx' := 2) rfl (a_1 rfl (b_s rfl) (a_1 rfl (b_s rfl) a_n)) c_n ent64 (laws_eqInt64S_sim a.widths b.widths h6) rfl rfl rfl rfl ?_))
      refine n_ (x_un rfl rfl ?_)
      refine z_ ?_
      refine c_s rfl rfl (fun hb7 => ?_) (fun hb7 => ?_)
      · rw [if_pos (show _ = true from hb7)] at hm
        refine Wp.seq ?_
        refine c_reg (Y := sysA _) ?_
        refine n_ (x_as rfl rfl ?_)
        refine z_ ?_
        refine c_ret ?_
        rw [← Option.some.inj hm]
        exact ret0 (us' := [.one (.bool false)]) rfl (r_tmp rfl rfl rfl r_nil) f_done rfl rfl
      · rw [if_neg (by rw [hb7]; decide)] at hm
        refine c_skip ?_
        refine Wp.seq ?_
        refine Wp.seq ?_
        refine c_reg (Y := sysA _) ?_
        refine n_ (x_fap rfl F41_3 rfl rfl ?_)
        refine n_ (x_ldp rfl T39 rfl rfl rfl rfl rfl ?_)
        refine n_ (x_fap rfl F41_3 rfl rfl ?_)
        refine n_ (x_ldp rfl T39 rfl rfl rfl rfl rfl ?_)
        obtain ⟨x8, h9, hm⟩ := of_bind hm
        refine n_ (aopK_A (x_call (v := .u (.one (.bool x8))) (nobs := []) (oa' := _) (nx' := 2) rfl (a_1 rfl (b_s rfl) (a_1 rfl (b_s rfl) a_n)) c_n ent65 (laws_eqMInsS_sim a.code b.code h9) rfl rfl rfl rfl ?_))
        refine n_ (x_un rfl rfl ?_)
        refine z_ ?_
        refine c_s rfl rfl (fun hb10 => ?_) (fun hb10 => ?_)
        · rw [if_pos (show _ = true from hb10)] at hm
          refine Wp.seq ?_
          refine c_reg (Y := sysA _) ?_
          refine n_ (x_as rfl rfl ?_)
          refine z_ ?_
          refine c_ret ?_
          rw [← Option.some.inj hm]
          exact ret0 (us' := [.one (.bool false)]) rfl (r_tmp rfl rfl rfl r_nil) f_done rfl rfl
        · rw [if_neg (by rw [hb10]; decide)] at hm
          refine c_skip ?_
          refine Wp.seq ?_
          refine c_reg (Y := sysA _) ?_
          refine n_ (x_as rfl rfl ?_)
          refine z_ ?_
          refine c_ret ?_
          rw [← Option.some.inj hm]
          exact ret0 (us' := [.one (.bool true)]) rfl (r_tmp rfl rfl rfl r_nil) f_done rfl rfl

/-- laws.FnExactProgramOk -/
noncomputable def laws_FnExactProgramOk_m (aP : GProgram) : Option Bool :=
  (Option.bind (laws_szProgram_m aP 1048576) fun x1 =>
    (if decide (x1 < 0) = true then
      (some true)
      else
      (Option.bind (laws_toProgram_m aP) fun x4 =>
        (Option.bind (spec_ProgramOk_m x4) fun x6 =>
          (Option.bind (laws_toProgram_m aP) fun x8 =>
            (Option.bind (impl_ProgramOk_m x8) fun x10 =>
              (if (!(x10 == x6)) = true then
                (some false)
                else
                (Option.bind (laws_toProgram_m aP) fun x13 =>
                  (Option.bind (laws_eqProgram_m x8 x13) fun x15 =>
                    (if (!x15) = true then
                      (some false)
                      else
                      (some true)))))))))))
set_option maxHeartbeats 8000000 in
set_option maxRecDepth 100000 in
theorem laws_FnExactProgramOk_sim (aP : GProgram) {r : Bool} (hm : laws_FnExactProgramOk_m aP = some r) : Sim Try.prog 4 [.agg (eProgram false aP)] [] (.u (.one (.bool r))) [] := by
  refine sim_st (N := 27) (k0 := 0) Try.func4 rfl rfl rfl rfl (rs := [.tmp 2]) rfl rfl rfl fun B hB0 => ?_
  unfold laws_FnExactProgramOk_m at hm
  refine Wp.seq ?_
  refine c_reg (Y := sysA _) ?_
  refine n_ (x_bx rfl rfl rfl rfl ?_)
  refine n_ (x_as rfl rfl ?_)
  refine z_ ?_
  refine Wp.seq ?_
  refine c_reg (Y := sysA _) ?_
  refine n_ (x_as rfl rfl ?_)
  refine z_ ?_
  refine Wp.seq ?_
  refine c_reg (Y := sysA _) ?_
  refine n_ (x_ldp rfl T36 rfl rfl rfl (pk_all rfl rfl) rfl ?_)
  refine n_ (x_mv rfl rfl ?_)
  obtain ⟨x1, h2, hm⟩ := of_bind hm
  refine n_ (aopK_A (x_call (v := .u (.one (.int .i64 x1))) (nobs := []) (oa' := _) (nx' := 1) rfl (a_a rfl (c_all rfl) (a_1 rfl (b_s rfl) a_n)) c_n ent18 (laws_szProgram_sim aP 1048576 h2) rfl rfl rfl rfl ?_))
  refine n_ (x_as rfl rfl ?_)
  refine z_ ?_
  refine Wp.seq ?_
  refine Wp.seq ?_
  refine c_reg (Y := sysA _) ?_
  refine n_ (x_mv rfl rfl ?_)
  refine n_ (x_bin T3 rfl rfl rfl ?_)
  refine z_ ?_
  refine c_s rfl rfl (fun hb3 => ?_) (fun hb3 => ?_)
  · rw [if_pos (show _ = true from hb3)] at hm
    refine Wp.seq ?_
    refine c_reg (Y := sysA _) ?_
    refine n_ (x_as rfl rfl ?_)
    refine z_ ?_
    refine c_ret ?_
    rw [← Option.some.inj hm]
    exact ret0 (us' := [.one (.bool true)]) rfl (r_tmp rfl rfl rfl r_nil) f_done rfl rfl
  · rw [if_neg (by rw [hb3]; decide)] at hm
    refine c_skip ?_
    refine Wp.seq ?_
    refine c_reg (Y := sysA _) ?_
    refine n_ (x_ldp rfl T36 rfl rfl rfl (pk_all rfl rfl) rfl ?_)
    obtain ⟨x4, h5, hm⟩ := of_bind hm
    refine n_ (aopK_A (x_call (v := .u (.agg [.int .i64 x4.regs, .ref () 1 0 (List.length x4.params), .ref () 2 0 (List.length x4.widths), .ref () 3 0 (List.length x4.code)])) (nobs := [(1, ⟨(), 1, List.map iL x4.params⟩), (2, ⟨(), 1, List.map iL x4.widths⟩), (3, ⟨(), 7, List.map eMIns x4.code⟩)]) (oa' := _) (nx' := 4) rfl (a_a rfl (c_all rfl) a_n) c_n ent20 (laws_toProgram_sim aP h5) (by simp only [immFreeV, leavesV, leavesU, List.flatMap_cons, List.flatMap_nil, List.append_nil, List.cons_append, List.nil_append, List.all_cons, List.all_nil, immFreeL, immF_map, Bool.and_true, Bool.and_self, eMIns, eProgram, sl]) (by simp only [rootV, rootU, rootLs, rootUs, eMIns, eProgram, sl, List.length_map, List.map_cons, List.map_nil]) rfl rfl ?_))
    obtain ⟨x6, h7, hm⟩ := of_bind hm
    refine n_ (aopK_A (x_call (v := .u (.one (.bool x6))) (nobs := []) (oa' := _) (nx' := 4) rfl (a_a (ls' := eProgram false x4) rfl (c_c (b_s rfl) (c_c (b_r rfl) (c_c (b_r rfl) (c_c (b_r rfl) c_n)))) a_n) c_n ent19 (spec_ProgramOk_sim x4 h7) rfl rfl rfl rfl ?_))
    refine n_ (x_as rfl rfl ?_)
    refine z_ ?_
    refine Wp.seq ?_
    refine c_reg (Y := sysA _) ?_
    refine n_ (x_ldp rfl T36 rfl rfl rfl (pk_all rfl rfl) rfl ?_)
    obtain ⟨x8, h9, hm⟩ := of_bind hm
    refine n_ (aopK_A (x_call (v := .u (.agg [.int .i64 x8.regs, .ref () 4 0 (List.length x8.params), .ref () 5 0 (List.length x8.widths), .ref () 6 0 (List.length x8.code)])) (nobs := [(4, ⟨(), 1, List.map iL x8.params⟩), (5, ⟨(), 1, List.map iL x8.widths⟩), (6, ⟨(), 7, List.map eMIns x8.code⟩)]) (oa' := _) (nx' := 7) rfl (a_a rfl (c_all rfl) a_n) c_n ent20 (laws_toProgram_sim aP h9) (by simp only [immFreeV, leavesV, leavesU, List.flatMap_cons, List.flatMap_nil, List.append_nil, List.cons_append, List.nil_append, List.all_cons, List.all_nil, immFreeL, immF_map, Bool.and_true, Bool.and_self, eMIns, eProgram, sl]) (by simp only [rootV, rootU, rootLs, rootUs, eMIns, eProgram, sl, List.length_map, List.map_cons, List.map_nil]) rfl rfl ?_))
    refine n_ (x_al T41 (r := [.int .i64 0, .nl, .nl, .nl]) rfl rfl ?_)
    refine n_ (x_st T41 (rows := [[.int .i64 x8.regs, .ref () 4 0 (List.length x8.params), .ref () 5 0 (List.length x8.widths), .ref () 6 0 (List.length x8.code)]]) rfl rfl rfl rfl rfl rfl rfl rfl ?_)
    refine z_ ?_
    refine Wp.seq ?_
    refine c_reg (Y := sysA _) ?_
    refine n_ (x_ldp rfl T41 rfl rfl rfl (pk_all rfl rfl) rfl ?_)
    obtain ⟨x10, h11, hm⟩ := of_bind hm
    refine n_ (aopK_A (x_call (v := .u (.one (.bool x10))) (nobs := []) (oa' := _) (nx' := 8) rfl (a_a (ls' := eProgram false x8) rfl (c_c (b_s rfl) (c_c (b_r rfl) (c_c (b_r rfl) (c_c (b_r rfl) c_n)))) a_n) c_n ent21 (impl_ProgramOk_sim x8 h11) rfl rfl rfl rfl ?_))
    refine n_ (x_as rfl rfl ?_)
    refine z_ ?_
    refine Wp.seq ?_
    refine Wp.seq ?_
    refine c_reg (Y := sysA _) ?_
    refine n_ (x_mv rfl rfl ?_)
    refine n_ (x_mv rfl rfl ?_)
    refine n_ (x_bin T4 rfl rfl rfl ?_)
    refine z_ ?_
    refine c_s rfl rfl (fun hb12 => ?_) (fun hb12 => ?_)
    · rw [if_pos (show _ = true from hb12)] at hm
      refine Wp.seq ?_
      refine c_reg (Y := sysA _) ?_
      refine n_ (x_as rfl rfl ?_)
      refine z_ ?_
      refine c_ret ?_
      rw [← Option.some.inj hm]
      exact ret0 (us' := [.one (.bool false)]) rfl (r_tmp rfl rfl rfl r_nil) f_done rfl rfl
    · rw [if_neg (by rw [hb12]; decide)] at hm
      refine c_skip ?_
      refine Wp.seq ?_
      refine Wp.seq ?_
      refine c_drw (Y := sysC _) mixed ?_
      refine t_ 0 1 rfl (by decide +kernel) (x_ldp rfl T41 rfl rfl rfl (pk_all rfl rfl) rfl ?_)
      refine t_ 1 1 rfl (by decide +kernel) (x_ldp rfl T36 rfl rfl rfl (pk_all rfl rfl) rfl ?_)
      obtain ⟨x13, h14, hm⟩ := of_bind hm
      refine o_ 2 rfl (by decide +kernel) (x_call (v := .u (.agg [.int .i64 x13.regs, .ref () 8 0 (List.length x13.params), .ref () 9 0 (List.length x13.widths), .ref () 10 0 (List.length x13.code)])) (nobs := [(8, ⟨(), 1, List.map iL x13.params⟩), (9, ⟨(), 1, List.map iL x13.widths⟩), (10, ⟨(), 7, List.map eMIns x13.code⟩)]) (oa' := _) (nx' := 11) rfl (a_a rfl (c_all rfl) a_n) c_n ent20 (laws_toProgram_sim aP h14) (by simp only [immFreeV, leavesV, leavesU, List.flatMap_cons, List.flatMap_nil, List.append_nil, List.cons_append, List.nil_append, List.all_cons, List.all_nil, immFreeL, immF_map, Bool.and_true, Bool.and_self, eMIns, eProgram, sl]) (by simp only [rootV, rootU, rootLs, rootUs, eMIns, eProgram, sl, List.length_map, List.map_cons, List.map_nil]) rfl rfl ?_)
      obtain ⟨x15, h16, hm⟩ := of_bind hm
      refine o_ 3 rfl (by decide +kernel) (x_call (v := .u (.one (.bool x15))) (nobs := []) (oa' := _) (nx' := 11) rfl (a_a (ls' := eProgram false x8) rfl (c_c (b_s rfl) (c_c (b_r rfl) (c_c (b_r rfl) (c_c (b_r rfl) c_n)))) (a_a (ls' := eProgram false x13) rfl (c_c (b_s rfl) (c_c (b_r rfl) (c_c (b_r rfl) (c_c (b_r rfl) c_n)))) a_n)) c_n ent22 (laws_eqProgram_sim x8 x13 h16) rfl rfl rfl rfl ?_)
      refine t_ 4 0 rfl (by decide +kernel) (x_un rfl rfl ?_)
      refine a_nil (by decide +kernel) ?_
      refine c_s rfl rfl (fun hb17 => ?_) (fun hb17 => ?_)
      · rw [if_pos (show _ = true from hb17)] at hm
        refine Wp.seq ?_
        refine c_reg (Y := sysA _) ?_
        refine n_ (x_as rfl rfl ?_)
        refine z_ ?_
        refine c_ret ?_
        rw [← Option.some.inj hm]
        exact ret0 (us' := [.one (.bool false)]) rfl (r_tmp rfl rfl rfl r_nil) f_done rfl rfl
      · rw [if_neg (by rw [hb17]; decide)] at hm
        refine c_skip ?_
        refine Wp.seq ?_
        refine c_reg (Y := sysA _) ?_
        refine n_ (x_as rfl rfl ?_)
        refine z_ ?_
        refine c_ret ?_
        rw [← Option.some.inj hm]
        exact ret0 (us' := [.one (.bool true)]) rfl (r_tmp rfl rfl rfl r_nil) f_done rfl rfl

end Go.Proofs.Ytmckcjoacfekcaa.AM
