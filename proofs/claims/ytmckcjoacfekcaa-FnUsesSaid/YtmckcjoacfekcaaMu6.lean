import Derived.Test.YtmckcjoacfekcaaMu5
import Derived.SizedLaws
import Derived.WideShapes
import Derived.ChangeSlices
import Derived.OpenShut
import Derived.Below
set_option linter.unusedVariables false
set_option linter.unusedSimpArgs false
namespace Go.Proofs.Ytmckcjoacfekcaa.AM
open Go
set_option linter.unusedSimpArgs false
set_option linter.unusedVariables false
/-- laws.FnUses -/
noncomputable def laws_FnUses_m (code : List Int) : Option Bool :=
  (if (laws_big_m code) = true then
    (some true)
    else
    (Option.bind (spec_DrawUses_m code) fun x2 =>
      (Option.bind (spec_DrawOperandsOf_m code) fun x4 =>
        (Option.bind ((Option.bind (impl_Uses_m x2.1 x2.2) fun x7 =>
              (Option.bind (spec_Uses_m x2.1 x2.2) fun x9 =>
                (if (x7 != x9) = true then
                  (some true)
                  else
                  (Option.bind (impl_OperandsOf_m x4) fun x12 =>
                    (Option.bind (spec_OperandsOf_m x4) fun x14 =>
                      (Option.bind (laws_sameInts_m x12 x14) fun x16 =>
                        (some ((!x16)))))))))) fun (j6 : Bool) =>
          (if j6 = true then
            (some false)
            else
            (Option.bind (loopO (fun (st20 : Int × Int) =>
                  ((Option.bind (impl_CountOf_m x2.1) fun x22 =>
                      (if decide (st20.2 < x22) = true then
                        (Option.bind (impl_Uses_m x2.1 st20.2) fun x25 =>
                        (if inI (st20.2 + 1) then
                        (some (Sum.inl ((IntKind.i64.wrap (st20.1 + x25), st20.2 + 1))))
                        else none))
                        else
                        (some (Sum.inr st20.1)))) : Option ((Int × Int) ⊕ (Int)))) (0, 0)) fun (j21 : Int) =>
              (Option.bind (loopO (fun (st30 : Int × Int) =>
                    ((if decide (st30.2 < ((List.length x2.1.blocks : Int))) = true then
                        (Option.bind (loopO (fun (st34 : Int × Int) =>
                        ((if 0 ≤ st30.2 ∧ st30.2 < (List.length x2.1.blocks : Int) then
                        (if decide (st34.1 < ((List.length ((at_ x2.1.blocks st30.2).phis) : Int))) = true then
                        (if 0 ≤ st30.2 ∧ st30.2 < (List.length x2.1.blocks : Int) then
                        (if 0 ≤ st34.1 ∧ st34.1 < (List.length ((at_ x2.1.blocks st30.2).phis) : Int) then
                        (if inI (st34.2 + ((List.length ((at_ ((at_ x2.1.blocks st30.2).phis) st34.1).ins) : Int))) then
                        (if inI (st34.1 + 1) then
                        (some (Sum.inl ((st34.1 + 1, st34.2 + ((List.length ((at_ ((at_ x2.1.blocks st30.2).phis) st34.1).ins) : Int))))))
                        else none)
                        else none)
                        else none)
                        else none)
                        else
                        (some (Sum.inr st34.2)))
                        else none) : Option ((Int × Int) ⊕ (Int)))) (0, st30.1)) fun (j35 : Int) =>
                        (Option.bind (loopO (fun (st46 : Int × Int) =>
                        ((if 0 ≤ st30.2 ∧ st30.2 < (List.length x2.1.blocks : Int) then
                        (if decide (st46.1 < ((List.length ((at_ x2.1.blocks st30.2).insts) : Int))) = true then
                        (if 0 ≤ st30.2 ∧ st30.2 < (List.length x2.1.blocks : Int) then
                        (if 0 ≤ st46.1 ∧ st46.1 < (List.length ((at_ x2.1.blocks st30.2).insts) : Int) then
                        (Option.bind (impl_OperandsOf_m (at_ ((at_ x2.1.blocks st30.2).insts) st46.1)) fun x53 =>
                        (if inI (st46.2 + ((List.length x53 : Int))) then
                        (if inI (st46.1 + 1) then
                        (some (Sum.inl ((st46.1 + 1, st46.2 + ((List.length x53 : Int))))))
                        else none)
                        else none))
                        else none)
                        else none)
                        else
                        (some (Sum.inr st46.2)))
                        else none) : Option ((Int × Int) ⊕ (Int)))) (0, j35)) fun (j47 : Int) =>
                        (Option.bind ((if 0 ≤ st30.2 ∧ st30.2 < (List.length x2.1.blocks : Int) then
                        (if ((((at_ x2.1.blocks st30.2).term).kind) == 1) = true then
                        (some true)
                        else
                        (if 0 ≤ st30.2 ∧ st30.2 < (List.length x2.1.blocks : Int) then
                        (some (((((at_ x2.1.blocks st30.2).term).kind) == 3)))
                        else none))
                        else none)) fun (j60 : Bool) =>
                        (if j60 = true then
                        (if inI (j47 + 1) then
                        (if inI (st30.2 + 1) then
                        (some (Sum.inl ((j47 + 1, st30.2 + 1))))
                        else none)
                        else none)
                        else
                        (if inI (st30.2 + 1) then
                        (some (Sum.inl ((j47, st30.2 + 1))))
                        else none)))))
                        else
                        (some (Sum.inr st30.1))) : Option ((Int × Int) ⊕ (Int)))) (0, 0)) fun (j31 : Int) =>
                (some ((j21 == j31))))))))))
set_option maxHeartbeats 8000000 in
set_option maxRecDepth 100000 in
theorem laws_FnUses_sim (code : List Int) {r : Bool} (hm : laws_FnUses_m code = some r) : Sim Try.prog 7 [.one (.bs () 1 (List.map (iK .u8) code))] [] (.u (.one (.bool r))) [] := by
  refine sim_st (N := 125) (k0 := 0) Try.func7 rfl rfl rfl rfl (rs := [.tmp 2]) rfl rfl rfl fun B hB0 => ?_
  unfold laws_FnUses_m at hm
  refine Wp.seq ?_
  refine c_reg (Y := sysA _) ?_
  refine n_ (x_as rfl rfl ?_)
  refine z_ ?_
  refine Wp.seq ?_
  refine Wp.seq ?_
  refine c_reg (Y := sysA _) ?_
  refine n_ (x_mv rfl rfl ?_)
  refine n_ (aopK_A (x_call (v := .u (.one (.bool ((laws_big_m code))))) (nobs := []) (oa' := _) (nx' := 0) rfl (a_1 rfl (b_s rfl) a_n) c_n ent8 (laws_big_sim code) rfl rfl rfl rfl ?_))
  refine z_ ?_
  refine c_s rfl rfl (fun hb1 => ?_) (fun hb1 => ?_)
  · rw [if_pos (show _ = true from hb1)] at hm
    refine Wp.seq ?_
    refine c_reg (Y := sysA _) ?_
    refine n_ (x_as rfl rfl ?_)
    refine z_ ?_
    refine c_ret ?_
    rw [← Option.some.inj hm]
    exact ret0 (us' := [.one (.bool true)]) rfl (r_tmp rfl rfl rfl r_nil) f_done rfl rfl
  · rw [if_neg (by rw [hb1]; decide)] at hm
    refine c_skip ?_
    refine Wp.seq ?_
    refine c_reg (Y := sysA _) ?_
    refine n_ (x_mv rfl rfl ?_)
    obtain ⟨x2, h3, hm⟩ := of_bind hm
    refine n_ (x_cg (v := .tup [.agg (eFunc false x2.1), .one (.int .i64 x2.2)]) (nobs := []) (oa' := _) (nx' := 0) (cs := []) (obs := []) [] false rfl (by decide) h_n rfl (g_1 (l := .bs () 1 (List.map (iK .u8) code)) rfl rfl rfl g_n) rfl rfl ent32 (spec_DrawUses_sim code h3) (.inl rfl) rfl rfl rfl rfl ?_)
    refine n_ (x_mv rfl rfl ?_)
    refine n_ (x_ex rfl rfl rfl ?_)
    refine n_ (x_ex rfl rfl rfl ?_)
    refine n_ (x_al T27 (r := [.nl, .int .i64 0, .nl]) rfl rfl ?_)
    refine n_ (x_st T27 (rows := [(eFunc false x2.1)]) rfl rfl rfl rfl rfl rfl rfl rfl ?_)
    refine n_ (x_as rfl rfl ?_)
    refine z_ ?_
    refine Wp.seq ?_
    refine c_reg (Y := sysA _) ?_
    refine n_ (x_mv rfl rfl ?_)
    obtain ⟨x4, h5, hm⟩ := of_bind hm
    refine n_ (x_cg (v := .u (.agg (eInst false x4))) (nobs := []) (oa' := _) (nx' := 1) (cs := []) (obs := []) [] false rfl (by decide) h_n rfl (g_1 (l := .bs () 1 (List.map (iK .u8) code)) rfl rfl rfl g_n) rfl rfl ent33 (spec_DrawOperandsOf_sim code h5) (.inl rfl) rfl rfl rfl rfl ?_)
    refine n_ (x_al T53 (r := [.int .i64 0, .int .i64 0, .int .i64 0, .int .i64 0, .int .i64 0, .int .i64 0, .nl]) rfl rfl ?_)
    refine n_ (x_st T53 (rows := [(eInst false x4)]) rfl rfl rfl rfl rfl rfl rfl rfl ?_)
    refine z_ ?_
    refine Wp.seq ?_
    refine Wp.seq ?_
    obtain ⟨j6, hj18, hm⟩ := of_bind hm
    refine c_cut (St 125 [(3, .u (.one (.ptr () 0 0 0))), (35, .u (.one (.bool j6)))] [(0, some ⟨(), 3, [(eFunc false x2.1)]⟩)] 1) ?_ ?_
    · replace hm := hj18
      refine c_drw (Y := sysC _) mixed ?_
      refine t_ 0 1 rfl (by decide +kernel) (x_ldp rfl T27 rfl rfl rfl (pk_all rfl rfl) rfl ?_)
      refine t_ 1 0 rfl (by decide +kernel) (x_mv rfl rfl ?_)
      refine t_ 3 1 rfl (by decide +kernel) (x_ldp rfl T27 rfl rfl rfl (pk_all rfl rfl) rfl ?_)
      refine t_ 4 0 rfl (by decide +kernel) (x_mv rfl rfl ?_)
      obtain ⟨x7, h8, hm⟩ := of_bind hm
      refine o_ 2 rfl (by decide +kernel) (x_call (v := .u (.one (.int .i64 x7))) (nobs := []) (oa' := _) (nx' := 2) rfl (a_a rfl (c_all rfl) (a_1 rfl (b_s rfl) a_n)) c_n ent34 (impl_Uses_sim x2.1 x2.2 h8) rfl rfl rfl rfl ?_)
      obtain ⟨x9, h10, hm⟩ := of_bind hm
      refine o_ 5 rfl (by decide +kernel) (x_call (v := .u (.one (.int .i64 x9))) (nobs := []) (oa' := _) (nx' := 2) rfl (a_a rfl (c_all rfl) (a_1 rfl (b_s rfl) a_n)) c_n ent35 (spec_Uses_sim x2.1 x2.2 h10) rfl rfl rfl rfl ?_)
      refine t_ 6 0 rfl (by decide +kernel) (x_bin T2 rfl rfl rfl ?_)
      refine t_ 7 0 rfl (by decide +kernel) (x_mv rfl rfl ?_)
      refine t_s 28 rfl rfl (fun hb11 => ?_) (fun hb11 => ?_)
      · rw [if_pos (show _ = true from hb11)] at hm
        refine t_f 8 rfl (by decide +kernel) rfl rfl rfl ?_
        refine t_f 9 rfl (by decide +kernel) rfl rfl rfl ?_
        refine t_f 10 rfl (by decide +kernel) rfl rfl rfl ?_
        refine t_f 11 rfl (by decide +kernel) rfl rfl rfl ?_
        refine t_f 12 rfl (by decide +kernel) rfl rfl rfl ?_
        refine t_f 13 rfl (by decide +kernel) rfl rfl rfl ?_
        refine t_ 14 0 rfl (by decide +kernel) (x_pk rfl rfl rfl ?_)
        refine a_nil (by decide +kernel) ?_
        cases hm
        exact w_ [0] (.cons rfl rfl (.cons rfl rfl .nil)) (.lit rfl rfl .nil) (by decide) (hB_0 hB0)
      · rw [if_neg (by rw [hb11]; decide)] at hm
        refine t_g 8 1 rfl (by decide +kernel) rfl rfl rfl (x_ldp rfl T53 rfl rfl rfl (pk_all rfl rfl) rfl ?_)
        refine t_g 10 1 rfl (by decide +kernel) rfl rfl rfl (x_ldp rfl T53 rfl rfl rfl (pk_all rfl rfl) rfl ?_)
        obtain ⟨x12, h13, hm⟩ := of_bind hm
        refine o_g 9 rfl (by decide +kernel) rfl rfl rfl (x_call (v := .u (.one (.ref () 2 0 (List.length x12)))) (nobs := [(2, ⟨(), 1, List.map iL x12⟩)]) (oa' := _) (nx' := 3) rfl (a_a rfl (c_all rfl) a_n) c_n ent36 (impl_OperandsOf_sim x4 h13) (by simp only [immFreeV, leavesV, leavesU, List.flatMap_cons, List.flatMap_nil, List.append_nil, List.cons_append, List.nil_append, List.all_cons, List.all_nil, immFreeL, immF_map, Bool.and_true, Bool.and_self]) (by simp only [rootV, rootU, rootLs, rootUs, List.length_map, List.map_cons, List.map_nil]) rfl rfl ?_)
        obtain ⟨x14, h15, hm⟩ := of_bind hm
        refine o_g 11 rfl (by decide +kernel) rfl rfl rfl (x_call (v := .u (.one (.ref () 3 0 (List.length x14)))) (nobs := [(3, ⟨(), 1, List.map iL x14⟩)]) (oa' := _) (nx' := 4) rfl (a_a rfl (c_all rfl) a_n) c_n ent37 (spec_OperandsOf_sim x4 h15) (by simp only [immFreeV, leavesV, leavesU, List.flatMap_cons, List.flatMap_nil, List.append_nil, List.cons_append, List.nil_append, List.all_cons, List.all_nil, immFreeL, immF_map, Bool.and_true, Bool.and_self]) (by simp only [rootV, rootU, rootLs, rootUs, List.length_map, List.map_cons, List.map_nil]) rfl rfl ?_)
        obtain ⟨x16, h17, hm⟩ := of_bind hm
        refine o_g 12 rfl (by decide +kernel) rfl rfl rfl (x_call (v := .u (.one (.bool x16))) (nobs := []) (oa' := _) (nx' := 4) rfl (a_1 rfl (b_r rfl) (a_1 rfl (b_r rfl) a_n)) c_n ent11 (laws_sameInts_sim x12 x14 h17) rfl rfl rfl rfl ?_)
        refine t_g 13 0 rfl (by decide +kernel) rfl rfl rfl (x_un rfl rfl ?_)
        refine t_ 14 0 rfl (by decide +kernel) (x_pk rfl rfl rfl ?_)
        refine a_nil (by decide +kernel) ?_
        cases hm
        exact w_ [0] (.cons rfl rfl (.cons rfl rfl .nil)) (.lit rfl rfl .nil) (by decide) (hB_0 hB0)
    · refine c_s rfl rfl (fun hb19 => ?_) (fun hb19 => ?_)
      · rw [if_pos (show _ = true from hb19)] at hm
        refine Wp.seq ?_
        refine c_reg (Y := sysA _) ?_
        refine n_ (x_as rfl rfl ?_)
        refine z_ ?_
        refine c_ret ?_
        rw [← Option.some.inj hm]
        exact ret0 (us' := [.one (.bool false)]) rfl (r_tmp rfl rfl rfl r_nil) f_done rfl rfl
      · rw [if_neg (by rw [hb19]; decide)] at hm
        refine c_skip ?_
        refine Wp.seq ?_
        refine c_reg (Y := sysA _) ?_
        refine n_ (x_as rfl rfl ?_)
        refine z_ ?_
        refine Wp.seq ?_
        refine Wp.seq ?_
        refine c_reg (Y := sysA _) ?_
        refine n_ (x_as rfl rfl ?_)
        refine z_ ?_
        refine Wp.block ?_
        obtain ⟨j21, hl29, hm⟩ := of_bind hm
        refine c_loop hl29 (fun (st20 : Int × Int) => St 125 [(3, .u (.one (.ptr () 0 0 0))), (6, .u (.one (.int .i64 st20.1))), (7, .u (.one (.int .i64 st20.2)))] [(0, some ⟨(), 3, [(eFunc false x2.1)]⟩)] 1) (fun (j21 : Int) => (.exit 0, St 125 [(3, .u (.one (.ptr () 0 0 0))), (6, .u (.one (.int .i64 j21)))] [(0, some ⟨(), 3, [(eFunc false x2.1)]⟩)] 1)) (w_ [0] (.cons rfl rfl (.cons rfl rfl (.cons rfl rfl .nil))) (.lit rfl rfl .nil) (by decide) (hB_0 hB0)) ?_ (by intro y; simp) ?_
        · intro st20 x hm
          refine Wp.seq ?_
          refine Wp.seq ?_
          refine c_reg (Y := sysA _) ?_
          refine n_ (x_mv rfl rfl ?_)
          refine n_ (x_ldp rfl T27 rfl rfl rfl (pk_all rfl rfl) rfl ?_)
          obtain ⟨x22, h23, hm⟩ := of_bind hm
          refine n_ (aopK_A (x_call (v := .u (.one (.int .i64 x22))) (nobs := []) (oa' := _) (nx' := 1) rfl (a_a rfl (c_all rfl) a_n) c_n ent28 (impl_CountOf_sim x2.1 h23) rfl rfl rfl rfl ?_))
          refine n_ (x_bin T2 rfl rfl rfl ?_)
          refine z_ ?_
          refine c_s rfl rfl (fun hb24 => ?_) (fun hb24 => ?_)
          · rw [if_pos (show _ = true from hb24)] at hm
            refine c_skip ?_
            refine Wp.seq ?_
            refine Wp.block ?_
            refine c_reg (Y := sysA _) ?_
            refine n_ (x_mv rfl rfl ?_)
            refine n_ (x_ldp rfl T27 rfl rfl rfl (pk_all rfl rfl) rfl ?_)
            refine n_ (x_mv rfl rfl ?_)
            obtain ⟨x25, h26, hm⟩ := of_bind hm
            refine n_ (aopK_A (x_call (v := .u (.one (.int .i64 x25))) (nobs := []) (oa' := _) (nx' := 1) rfl (a_a rfl (c_all rfl) (a_1 rfl (b_s rfl) a_n)) c_n ent34 (impl_Uses_sim x2.1 st20.2 h26) rfl rfl rfl rfl ?_))
            refine n_ (x_bin T2 rfl rfl rfl ?_)
            refine n_ (x_as rfl rfl ?_)
            refine z_ ?_
            refine c_reg (Y := sysA _) ?_
            refine n_ (x_mv rfl rfl ?_)
            obtain ⟨h27, hm⟩ := of_ite hm
            refine n_ (x_addc T2 rfl rfl h27 ?_)
            refine n_ (x_as rfl rfl ?_)
            refine z_ ?_
            cases hm
            exact ⟨rfl, w_ [0] (.cons rfl rfl (.cons rfl rfl (.cons rfl rfl .nil))) (.lit rfl rfl .nil) (by decide) (hB_0 hB0)⟩
          · rw [if_neg (by rw [hb24]; decide)] at hm
            refine c_exit ?_
            cases hm
            exact ⟨rfl, w_ [0] (.cons rfl rfl (.cons rfl rfl .nil)) (.lit rfl rfl .nil) (by decide) (hB_0 hB0)⟩
        · refine Wp.seq ?_
          refine c_reg (Y := sysA _) ?_
          refine n_ (x_as rfl rfl ?_)
          refine z_ ?_
          refine Wp.seq ?_
          refine Wp.seq ?_
          refine c_reg (Y := sysA _) ?_
          refine n_ (x_as rfl rfl ?_)
          refine z_ ?_
          refine Wp.block ?_
          obtain ⟨j31, hl70, hm⟩ := of_bind hm
          refine c_loop hl70 (fun (st30 : Int × Int) => St 125 [(3, .u (.one (.ptr () 0 0 0))), (6, .u (.one (.int .i64 j21))), (8, .u (.one (.int .i64 st30.1))), (9, .u (.one (.int .i64 st30.2)))] [(0, some ⟨(), 3, [(eFunc false x2.1)]⟩)] 1) (fun (j31 : Int) => (.exit 2, St 125 [(6, .u (.one (.int .i64 j21))), (8, .u (.one (.int .i64 j31)))] [] 0)) (w_ [0] (.cons rfl rfl (.cons rfl rfl (.cons rfl rfl (.cons rfl rfl .nil)))) (.lit rfl rfl .nil) (by decide) (hB_0 hB0)) ?_ (by intro y; simp) ?_
          · intro st30 x hm
            refine Wp.seq ?_
            refine Wp.seq ?_
            refine c_reg (Y := sysA _) ?_
            refine n_ (x_mv rfl rfl ?_)
            refine n_ (x_fap rfl F27_2 rfl rfl ?_)
            refine n_ (x_ldp rfl T25 rfl rfl rfl rfl rfl ?_)
            refine n_ (x_lnb N25 rfl fun hL32 => ?_)
            refine n_ (x_bin T3 rfl rfl rfl ?_)
            refine z_ ?_
            refine c_s rfl rfl (fun hb33 => ?_) (fun hb33 => ?_)
            · rw [if_pos (show _ = true from hb33)] at hm
              refine c_skip ?_
              refine Wp.seq ?_
              refine Wp.block ?_
              refine Wp.seq ?_
              refine Wp.seq ?_
              refine c_reg (Y := sysA _) ?_
              refine n_ (x_as rfl rfl ?_)
              refine z_ ?_
              refine Wp.block ?_
              obtain ⟨j35, hl45, hm⟩ := of_bind hm
              refine c_loop hl45 (fun (st34 : Int × Int) => St 125 [(3, .u (.one (.ptr () 0 0 0))), (6, .u (.one (.int .i64 j21))), (8, .u (.one (.int .i64 st34.2))), (9, .u (.one (.int .i64 st30.2))), (10, .u (.one (.int .i64 st34.1)))] [(0, some ⟨(), 3, [(eFunc false x2.1)]⟩)] 1) (fun (j35 : Int) => (.exit 4, St 125 [(3, .u (.one (.ptr () 0 0 0))), (6, .u (.one (.int .i64 j21))), (8, .u (.one (.int .i64 j35))), (9, .u (.one (.int .i64 st30.2)))] [(0, some ⟨(), 3, [(eFunc false x2.1)]⟩)] 1)) (w_ [0] (.cons rfl rfl (.cons rfl rfl (.cons rfl rfl (.cons rfl rfl (.cons rfl rfl .nil))))) (.lit rfl rfl .nil) (by decide) (hB_0 hB0)) ?_ (by intro y; simp) ?_
              · intro st34 x hm
                refine Wp.seq ?_
                refine Wp.seq ?_
                refine c_reg (Y := sysA _) ?_
                refine n_ (x_mv rfl rfl ?_)
                refine n_ (x_fap rfl F27_2 rfl rfl ?_)
                refine n_ (x_ldp rfl T25 rfl rfl rfl rfl rfl ?_)
                refine n_ (x_mv rfl rfl ?_)
                obtain ⟨h36, hm⟩ := of_ite hm
                refine n_ (x_ixb E25 rfl rfl h36 ?_)
                refine n_ (x_fai F61_0 rfl ?_)
                refine n_ (x_ldi T56 rfl rfl rfl ?_)
                refine n_ (x_lnb N56 rfl fun hL37 => ?_)
                refine n_ (x_bin T3 rfl rfl rfl ?_)
                refine z_ ?_
                refine c_s rfl rfl (fun hb38 => ?_) (fun hb38 => ?_)
                · rw [if_pos (show _ = true from hb38)] at hm
                  refine c_skip ?_
                  refine Wp.seq ?_
                  refine Wp.block ?_
                  refine c_reg (Y := sysA _) ?_
                  refine n_ (x_mv rfl rfl ?_)
                  refine n_ (x_fap rfl F27_2 rfl rfl ?_)
                  refine n_ (x_ldp rfl T25 rfl rfl rfl rfl rfl ?_)
                  refine n_ (x_mv rfl rfl ?_)
                  obtain ⟨h39, hm⟩ := of_ite hm
                  refine n_ (x_ixb E25 rfl rfl h39 ?_)
                  refine n_ (x_fai F61_0 rfl ?_)
                  refine n_ (x_ldi T56 rfl rfl rfl ?_)
                  refine n_ (x_mv rfl rfl ?_)
                  obtain ⟨h40, hm⟩ := of_ite hm
                  refine n_ (x_ixb E56 rfl rfl h40 ?_)
                  refine n_ (x_fai F63_1 rfl ?_)
                  refine n_ (x_ldi T24 rfl rfl rfl ?_)
                  refine n_ (x_lnb N24 rfl fun hL41 => ?_)
                  obtain ⟨h42, hm⟩ := of_ite hm
                  refine n_ (x_addc T2 rfl rfl h42 ?_)
                  refine n_ (x_as rfl rfl ?_)
                  refine z_ ?_
                  refine c_reg (Y := sysA _) ?_
                  refine n_ (x_mv rfl rfl ?_)
                  obtain ⟨h43, hm⟩ := of_ite hm
                  refine n_ (x_addc T3 rfl rfl h43 ?_)
                  refine n_ (x_as rfl rfl ?_)
                  refine z_ ?_
                  cases hm
                  exact ⟨rfl, w_ [0] (.cons rfl rfl (.cons rfl rfl (.cons rfl rfl (.cons rfl rfl (.cons rfl rfl .nil))))) (.lit rfl rfl .nil) (by decide) (hB_0 hB0)⟩
                · rw [if_neg (by rw [hb38]; decide)] at hm
                  refine c_exit ?_
                  cases hm
                  exact ⟨rfl, w_ [0] (.cons rfl rfl (.cons rfl rfl (.cons rfl rfl (.cons rfl rfl .nil)))) (.lit rfl rfl .nil) (by decide) (hB_0 hB0)⟩
              · refine Wp.seq ?_
                refine Wp.seq ?_
                refine c_reg (Y := sysA _) ?_
                refine n_ (x_as rfl rfl ?_)
                refine z_ ?_
                refine Wp.block ?_
                obtain ⟨j47, hl59, hm⟩ := of_bind hm
                refine c_loop hl59 (fun (st46 : Int × Int) => St 125 [(3, .u (.one (.ptr () 0 0 0))), (6, .u (.one (.int .i64 j21))), (8, .u (.one (.int .i64 st46.2))), (9, .u (.one (.int .i64 st30.2))), (11, .u (.one (.int .i64 st46.1)))] [(0, some ⟨(), 3, [(eFunc false x2.1)]⟩)] 1) (fun (j47 : Int) => (.exit 6, St 125 [(3, .u (.one (.ptr () 0 0 0))), (6, .u (.one (.int .i64 j21))), (8, .u (.one (.int .i64 j47))), (9, .u (.one (.int .i64 st30.2)))] [(0, some ⟨(), 3, [(eFunc false x2.1)]⟩)] 1)) (w_ [0] (.cons rfl rfl (.cons rfl rfl (.cons rfl rfl (.cons rfl rfl (.cons rfl rfl .nil))))) (.lit rfl rfl .nil) (by decide) (hB_0 hB0)) ?_ (by intro y; simp) ?_
                · intro st46 x hm
                  refine Wp.seq ?_
                  refine Wp.seq ?_
                  refine c_reg (Y := sysA _) ?_
                  refine n_ (x_mv rfl rfl ?_)
                  refine n_ (x_fap rfl F27_2 rfl rfl ?_)
                  refine n_ (x_ldp rfl T25 rfl rfl rfl rfl rfl ?_)
                  refine n_ (x_mv rfl rfl ?_)
                  obtain ⟨h48, hm⟩ := of_ite hm
                  refine n_ (x_ixb E25 rfl rfl h48 ?_)
                  refine n_ (x_fai F61_1 rfl ?_)
                  refine n_ (x_ldi T57 rfl rfl rfl ?_)
                  refine n_ (x_lnb N57 rfl fun hL49 => ?_)
                  refine n_ (x_bin T3 rfl rfl rfl ?_)
                  refine z_ ?_
                  refine c_s rfl rfl (fun hb50 => ?_) (fun hb50 => ?_)
                  · rw [if_pos (show _ = true from hb50)] at hm
                    refine c_skip ?_
                    refine Wp.seq ?_
                    refine Wp.block ?_
                    refine c_reg (Y := sysA _) ?_
                    refine n_ (x_mv rfl rfl ?_)
                    refine n_ (x_fap rfl F27_2 rfl rfl ?_)
                    refine n_ (x_ldp rfl T25 rfl rfl rfl rfl rfl ?_)
                    refine n_ (x_mv rfl rfl ?_)
                    obtain ⟨h51, hm⟩ := of_ite hm
                    refine n_ (x_ixb E25 rfl rfl h51 ?_)
                    refine n_ (x_fai F61_1 rfl ?_)
                    refine n_ (x_ldi T57 rfl rfl rfl ?_)
                    refine n_ (x_mv rfl rfl ?_)
                    obtain ⟨h52, hm⟩ := of_ite hm
                    refine n_ (x_ixb E57 rfl rfl h52 ?_)
                    refine n_ (x_ldi T53 rfl (pk_all rfl rfl) rfl ?_)
                    obtain ⟨x53, h54, hm⟩ := of_bind hm
                    refine n_ (aopK_A (x_call (v := .u (.one (.ref () 1 0 (List.length x53)))) (nobs := [(1, ⟨(), 1, List.map iL x53⟩)]) (oa' := _) (nx' := 2) rfl (a_a rfl (c_all rfl) a_n) c_n ent36 (impl_OperandsOf_sim (at_ ((at_ x2.1.blocks st30.2).insts) st46.1) h54) (by simp only [immFreeV, leavesV, leavesU, List.flatMap_cons, List.flatMap_nil, List.append_nil, List.cons_append, List.nil_append, List.all_cons, List.all_nil, immFreeL, immF_map, Bool.and_true, Bool.and_self]) (by simp only [rootV, rootU, rootLs, rootUs, List.length_map, List.map_cons, List.map_nil]) rfl rfl ?_))
                    refine n_ (x_lnr rfl N24 rfl rfl fun hL55 => ?_)
                    obtain ⟨h56, hm⟩ := of_ite hm
                    refine n_ (x_addc T2 rfl rfl h56 ?_)
                    refine n_ (x_as rfl rfl ?_)
                    refine z_ ?_
                    refine c_reg (Y := sysA _) ?_
                    refine n_ (x_mv rfl rfl ?_)
                    obtain ⟨h57, hm⟩ := of_ite hm
                    refine n_ (x_addc T3 rfl rfl h57 ?_)
                    refine n_ (x_as rfl rfl ?_)
                    refine z_ ?_
                    cases hm
                    exact ⟨rfl, w_ [0] (.cons rfl rfl (.cons rfl rfl (.cons rfl rfl (.cons rfl rfl (.cons rfl rfl .nil))))) (.lit rfl rfl .nil) (by decide) (hB_0 hB0)⟩
                  · rw [if_neg (by rw [hb50]; decide)] at hm
                    refine c_exit ?_
                    cases hm
                    exact ⟨rfl, w_ [0] (.cons rfl rfl (.cons rfl rfl (.cons rfl rfl (.cons rfl rfl .nil)))) (.lit rfl rfl .nil) (by decide) (hB_0 hB0)⟩
                · refine Wp.seq ?_
                  obtain ⟨j60, hj64, hm⟩ := of_bind hm
                  refine c_cut (St 125 [(3, .u (.one (.ptr () 0 0 0))), (6, .u (.one (.int .i64 j21))), (8, .u (.one (.int .i64 j47))), (9, .u (.one (.int .i64 st30.2))), (119, .u (.one (.bool j60)))] [(0, some ⟨(), 3, [(eFunc false x2.1)]⟩)] 1) ?_ ?_
                  · replace hm := hj64
                    refine c_reg (Y := sysA _) ?_
                    refine n_ (x_fap rfl F27_2 rfl rfl ?_)
                    refine n_ (x_ldp rfl T25 rfl rfl rfl rfl rfl ?_)
                    refine n_ (x_mv rfl rfl ?_)
                    obtain ⟨h61, hm⟩ := of_ite hm
                    refine n_ (x_ixb E25 rfl rfl h61 ?_)
                    refine n_ (x_fai F61_2 rfl ?_)
                    refine n_ (x_fai F59_0 rfl ?_)
                    refine n_ (x_ldi T2 rfl rfl rfl ?_)
                    refine n_ (x_bin T2 rfl rfl rfl ?_)
                    refine n_ (x_mv rfl rfl ?_)
                    refine g_s rfl rfl rfl (fun hb62 => ?_) (fun hb62 => ?_)
                    · rw [if_neg (by rw [hb62]; decide)] at hm
                      refine g_t rfl rfl rfl ?_
                      refine n_ (x_fap rfl F27_2 rfl rfl ?_)
                      refine g_t rfl rfl rfl ?_
                      refine n_ (x_ldp rfl T25 rfl rfl rfl rfl rfl ?_)
                      refine g_t rfl rfl rfl ?_
                      refine n_ (x_mv rfl rfl ?_)
                      refine g_t rfl rfl rfl ?_
                      obtain ⟨h63, hm⟩ := of_ite hm
                      refine n_ (x_ixb E25 rfl rfl h63 ?_)
                      refine g_t rfl rfl rfl ?_
                      refine n_ (x_fai F61_2 rfl ?_)
                      refine g_t rfl rfl rfl ?_
                      refine n_ (x_fai F59_0 rfl ?_)
                      refine g_t rfl rfl rfl ?_
                      refine n_ (x_ldi T2 rfl rfl rfl ?_)
                      refine g_t rfl rfl rfl ?_
                      refine n_ (x_bin T2 rfl rfl rfl ?_)
                      refine n_ (x_pk rfl rfl rfl ?_)
                      refine z_ ?_
                      cases hm
                      exact w_ [0] (.cons rfl rfl (.cons rfl rfl (.cons rfl rfl (.cons rfl rfl (.cons rfl rfl .nil))))) (.lit rfl rfl .nil) (by decide) (hB_0 hB0)
                    · rw [if_pos (show _ = true from hb62)] at hm
                      refine g_f rfl rfl rfl ?_
                      refine g_f rfl rfl rfl ?_
                      refine g_f rfl rfl rfl ?_
                      refine g_f rfl rfl rfl ?_
                      refine g_f rfl rfl rfl ?_
                      refine g_f rfl rfl rfl ?_
                      refine g_f rfl rfl rfl ?_
                      refine g_f rfl rfl rfl ?_
                      refine n_ (x_pk rfl rfl rfl ?_)
                      refine z_ ?_
                      cases hm
                      exact w_ [0] (.cons rfl rfl (.cons rfl rfl (.cons rfl rfl (.cons rfl rfl (.cons rfl rfl .nil))))) (.lit rfl rfl .nil) (by decide) (hB_0 hB0)
                  · refine c_s rfl rfl (fun hb65 => ?_) (fun hb65 => ?_)
                    · rw [if_pos (show _ = true from hb65)] at hm
                      refine c_reg (Y := sysA _) ?_
                      refine n_ (x_mv rfl rfl ?_)
                      obtain ⟨h66, hm⟩ := of_ite hm
                      refine n_ (x_addc T2 rfl rfl h66 ?_)
                      refine n_ (x_as rfl rfl ?_)
                      refine z_ ?_
                      refine c_reg (Y := sysA _) ?_
                      refine n_ (x_mv rfl rfl ?_)
                      obtain ⟨h67, hm⟩ := of_ite hm
                      refine n_ (x_addc T3 rfl rfl h67 ?_)
                      refine n_ (x_as rfl rfl ?_)
                      refine z_ ?_
                      cases hm
                      exact ⟨rfl, w_ [0] (.cons rfl rfl (.cons rfl rfl (.cons rfl rfl (.cons rfl rfl .nil)))) (.lit rfl rfl .nil) (by decide) (hB_0 hB0)⟩
                    · rw [if_neg (by rw [hb65]; decide)] at hm
                      refine c_skip ?_
                      refine c_reg (Y := sysA _) ?_
                      refine n_ (x_mv rfl rfl ?_)
                      obtain ⟨h68, hm⟩ := of_ite hm
                      refine n_ (x_addc T3 rfl rfl h68 ?_)
                      refine n_ (x_as rfl rfl ?_)
                      refine z_ ?_
                      cases hm
                      exact ⟨rfl, w_ [0] (.cons rfl rfl (.cons rfl rfl (.cons rfl rfl (.cons rfl rfl .nil)))) (.lit rfl rfl .nil) (by decide) (hB_0 hB0)⟩
            · rw [if_neg (by rw [hb33]; decide)] at hm
              refine c_exit ?_
              cases hm
              exact ⟨rfl, w_ [] (.cons rfl rfl (.cons rfl rfl .nil)) .nil (by decide) (hB_0 hB0)⟩
          · refine Wp.seq ?_
            refine c_reg (Y := sysA _) ?_
            refine n_ (x_mv rfl rfl ?_)
            refine n_ (x_mv rfl rfl ?_)
            refine n_ (x_bin T2 rfl rfl rfl ?_)
            refine n_ (x_as rfl rfl ?_)
            refine z_ ?_
            refine c_ret ?_
            rw [← Option.some.inj hm]
            exact ret0 (us' := [.one (.bool ((j21 == j31)))]) rfl (r_tmp rfl rfl rfl r_nil) f_done rfl rfl

end Go.Proofs.Ytmckcjoacfekcaa.AM

namespace Go.Proofs.Ytmckcjoacfekcaa.AM
open Go

theorem loop_anyN {α : Type} {body : Int → Option (Int ⊕ (α ⊕ Unit))} (n : Nat) (c : Nat → Bool) (a : Nat → α) (h1 : ∀ k : Nat, k < n → body (k : Int) = some (if c k = true then .inr (.inl (a k)) else .inl ((k : Int) + 1)))
    (h2 : body (n : Int) = some (.inr (.inr ()))) :
    (∃ k, k < n ∧ c k = true ∧ (∀ j, j < k → c j = false) ∧ loopO body 0 = some (.inl (a k))) ∨ ((∀ k, k < n → c k = false) ∧ loopO body 0 = some (.inr ())) := by
  have key : ∀ m k : Nat, k + m = n → (∃ i, k ≤ i ∧ i < n ∧ c i = true ∧ (∀ j, k ≤ j → j < i → c j = false) ∧ loopO body (k : Int) = some (.inl (a i))) ∨ ((∀ i, k ≤ i → i < n → c i = false) ∧ loopO body (k : Int) = some (.inr ())) := by
    intro m
    induction m with
    | zero =>
      intro k hk
      obtain rfl : k = n := by omega
      exact .inr ⟨fun i h1 h2 => by omega, by rw [loopO_step, h2]; rfl⟩
    | succ m ih =>
      intro k hk
      by_cases hc : c k = true
      · exact .inl ⟨k, Nat.le_refl _, by omega, hc, fun j h1 h2 => by omega, by rw [loopO_step, h1 k (by omega), if_pos hc]; rfl⟩
      · have hc' : c k = false := by simpa using hc
        have e : loopO body (k : Int) = loopO body ((k + 1 : Nat) : Int) := by
          rw [loopO_step, h1 k (by omega), if_neg hc]
          simp
        rcases ih (k + 1) (by omega) with ⟨i, p1, p2, p3, p4, p5⟩ | ⟨p1, p2⟩
        · refine .inl ⟨i, by omega, p2, p3, fun j hj hji => ?_, by rw [e]; exact p5⟩
          rcases Nat.lt_or_ge k j with h | h
          · exact p4 j (by omega) hji
          · obtain rfl : j = k := by omega
            exact hc'
        · refine .inr ⟨fun i hi hin => ?_, by rw [e]; exact p2⟩
          rcases Nat.lt_or_ge k i with h | h
          · exact p1 i (by omega) hin
          · obtain rfl : i = k := by omega
            exact hc'
  rcases key n 0 (by omega) with ⟨k, _, p2, p3, p4, p5⟩ | ⟨p1, p2⟩
  · exact .inl ⟨k, p2, p3, fun j hj => p4 j (Nat.zero_le _) hj, p5⟩
  · exact .inr ⟨fun i hi => p1 i (Nat.zero_le _) hi, p2⟩
theorem at_nat {β : Type} [Inhabited β] {xs : List β} {k : Nat} (h : k < xs.length) : at_ xs (k : Int) = xs[k] := by simp [at_, List.getD_eq_getElem?_getD, List.getElem?_eq_getElem h]
theorem loop_anyN' {α : Type} {body : Int → Option (Int ⊕ (α ⊕ Unit))} {L : Option (α ⊕ Unit)} (hB : loopO body 0 = L) (n : Nat) (c : Nat → Bool) (a : Nat → α)
    (h1 : ∀ k : Nat, k < n → body (k : Int) = some (if c k = true then .inr (.inl (a k)) else .inl ((k : Int) + 1))) (h2 : body (n : Int) = some (.inr (.inr ()))) :
    (∃ k, k < n ∧ c k = true ∧ (∀ j, j < k → c j = false) ∧ L = some (.inl (a k))) ∨ ((∀ k, k < n → c k = false) ∧ L = some (.inr ())) := by
  subst hB
  exact loop_anyN n c a h1 h2
end Go.Proofs.Ytmckcjoacfekcaa.AM

namespace Go.Proofs.Ytmckcjoacfekcaa.AM
open Go Go.WideShapes Go.ChangeShapes

/-- The form of a type of data. -/
inductive Ty : Type where
  | int (k : IntKind)
  | bool
  | str
  | sl (n b : Nat) (e : Ty)
  | st (fs : List Ty)
mutual
inductive TyP (P : Program) : TypeId → Ty → Prop
  | int {t k} : P.underlying t = some (.int k) → TyP P t (.int k)
  | bool {t} : P.underlying t = some .bool → TyP P t .bool
  | str {t} : P.underlying t = some .string → TyP P t .str
  | sl {t e n b ty} : P.underlying t = some (.slice e) → P.cellsOf e = n → P.bytesOf e = b → 0 < n → 0 < b → TyP P e ty → TyP P t (.sl n b ty)
  | st {t gs fs m} : P.underlying t = some (.struct gs) → P.cellsOf t = m → FsP P gs.toList fs 0 m → TyP P t (.st fs)
inductive FsP (P : Program) : List Field → List Ty → Nat → Nat → Prop
  | nil {m} : FsP P [] [] m m
  | cons {g gs ty tys o c m} : g.offset = o → P.cellsOf g.type = c → TyP P g.type ty → FsP P gs tys (o + c) m → FsP P (g :: gs) (ty :: tys) o m
end
def fsB (P : Program) (tb : TypeId → Ty → Bool) : List Field → List Ty → Nat → Nat → Bool
  | [], [], o, m => Nat.beq o m
  | g :: gs, ty :: tys, o, m => Nat.beq g.offset o && tb g.type ty && fsB P tb gs tys (o + P.cellsOf g.type) m
  | _, _, _, _ => false
def tyB (P : Program) : Nat → TypeId → Ty → Bool
  | 0, _, _ => false
  | _ + 1, t, .int k => match P.underlying t with
    | some (.int k') => decide (k' = k)
    | _ => false
  | _ + 1, t, .bool => match P.underlying t with
    | some .bool => true
    | _ => false
  | _ + 1, t, .str => match P.underlying t with
    | some .string => true
    | _ => false
  | f + 1, t, .sl n b e => match P.underlying t with
    | some (.slice t') => Nat.beq (P.cellsOf t') n && Nat.beq (P.bytesOf t') b && Nat.blt 0 n && Nat.blt 0 b && tyB P f t' e
    | _ => false
  | f + 1, t, .st fs => match P.underlying t with
    | some (.struct gs) => fsB P (tyB P f) gs.toList fs 0 (P.cellsOf t)
    | _ => false
theorem fsB_sound {P : Program} {tb : TypeId → Ty → Bool} (h : ∀ t ty, tb t ty = true → TyP P t ty) : ∀ {gs : List Field} {fs : List Ty} {o m : Nat}, fsB P tb gs fs o m = true → FsP P gs fs o m
  | [], [], o, m, hb => by
    have := Nat.eq_of_beq_eq_true hb
    subst this
    exact .nil
  | g :: gs, ty :: tys, o, m, hb => by
    simp only [fsB, Bool.and_eq_true] at hb
    obtain ⟨⟨h1, h2⟩, h3⟩ := hb
    exact .cons (Nat.eq_of_beq_eq_true h1) rfl (h _ _ h2) (fsB_sound h h3)
  | [], _ :: _, _, _, hb => by cases hb
  | _ :: _, [], _, _, hb => by cases hb
theorem tyB_sound {P : Program} : ∀ {f : Nat} {t : TypeId} {ty : Ty}, tyB P f t ty = true → TyP P t ty
  | 0, _, _, h => by simp [tyB] at h
  | f + 1, t, .int k, h => by
    unfold tyB at h
    split at h
    · rename_i k' hu
      have := of_decide_eq_true h
      subst this
      exact .int hu
    · cases h
  | f + 1, t, .bool, h => by
    unfold tyB at h
    split at h
    · rename_i hu; exact .bool hu
    · cases h
  | f + 1, t, .str, h => by
    unfold tyB at h
    split at h
    · rename_i hu; exact .str hu
    · cases h
  | f + 1, t, .sl n b e, h => by
    unfold tyB at h
    split at h
    · rename_i t' hu
      simp only [Bool.and_eq_true] at h
      obtain ⟨⟨⟨⟨h1, h2⟩, h3⟩, h4⟩, h5⟩ := h
      exact .sl hu (Nat.eq_of_beq_eq_true h1) (Nat.eq_of_beq_eq_true h2) (blt_lt h3) (blt_lt h4) (tyB_sound h5)
    · cases h
  | f + 1, t, .st fs, h => by
    unfold tyB at h
    split at h
    · rename_i gs hu
      exact .st hu rfl (fsB_sound (fun t ty ht => tyB_sound ht) h)
    · cases h
/-- The cells of a value of a form. -/
inductive Fits {δ : Type} : Ty → List (L δ) → Prop
  | int {k n} : (Lit.int k n).wf = true → Fits (.int k) [.int k n]
  | bool {b} : Fits .bool [.bool b]
  | str {s : ByteArray} : s.size ≤ reachBytes → Fits .str [.str s]
  | sl {n b e v rows} : rows.length * b ≤ reachBytes → (∀ r ∈ rows, Fits e r) → Fits (.sl n b e) [.bs v n rows]
  | st0 : Fits (.st []) []
  | st {t ts a b} : Fits t a → Fits (.st ts) b → Fits (.st (t :: ts)) (a ++ b)
theorem Fits.map {δ ε : Type} (g : δ → ε) : ∀ {ty : Ty} {ls : List (L δ)}, Fits ty ls → Fits ty (ls.map (mapL g)) := by
  intro ty ls h
  induction h with
  | int h => exact .int h
  | bool => exact .bool
  | str h => exact .str h
  | sl h _ ih =>
    simp only [List.map_cons, List.map_nil, mapL, mapR_eq]
    refine .sl (by simpa using h) fun r hr => ?_
    obtain ⟨r0, h0, rfl⟩ := List.mem_map.1 hr
    exact ih r0 h0
  | st0 => exact .st0
  | st _ _ h1 h2 => rw [List.map_append]; exact .st h1 h2
/-- A leaf that is only read. -/
structure Pl (w : World) (l : L Value) : Prop where
  wf : ∀ nest, wfL nest l
  ids : idsL l = []
  own : ownL l = []
  ref : ∀ ob, refOk ob l
  imm : ∀ q ∈ immL l, q.2 ≠ [] → ImmFact w q
theorem pl_int {w : World} {k n} : Pl w (.int k n) := ⟨fun _ => trivial, rfl, rfl, fun _ => trivial, fun q hq => by simp [immL] at hq⟩
theorem pl_bool {w : World} {b} : Pl w (.bool b) := ⟨fun _ => trivial, rfl, rfl, fun _ => trivial, fun q hq => by simp [immL] at hq⟩
theorem pl_str {w : World} {b} : Pl w (.str b) := ⟨fun _ => trivial, rfl, rfl, fun _ => trivial, fun q hq => by simp [immL] at hq⟩
theorem choose_rows {α : Type} {R : Nat → α → Prop} : ∀ n : Nat, (∀ i, i < n → ∃ r, R i r) → ∃ rows : List α, rows.length = n ∧ ∀ (i : Nat) r, rows[i]? = some r → R i r
  | 0, _ => ⟨[], rfl, fun i r h => by simp at h⟩
  | n + 1, h => by
    obtain ⟨rows, h1, h2⟩ := choose_rows n fun i hi => h i (by omega)
    obtain ⟨r, hr⟩ := h n (by omega)
    refine ⟨rows ++ [r], by simp [h1], fun i x hx => ?_⟩
    rcases Nat.lt_trichotomy i n with hi | hi | hi
    · rw [List.getElem?_append_left (by omega)] at hx
      exact h2 i x hx
    · subst hi
      rw [List.getElem?_append_right (by omega), h1, Nat.sub_self] at hx
      cases hx
      exact hr
    · rw [List.getElem?_eq_none (by simp; omega)] at hx
      cases hx
theorem weights_all {H : Type} {P : Program} {e : TypeId} : ∀ {ds : List (DataW H)} {i : Nat} {d : DataW H}, ds[i]? = some d → ∀ n ∈ d.weights P e, n ∈ DataW.weightsAll P e ds
  | d0 :: ds, 0, d, hd, n, hn => by
    simp only [List.getElem?_cons_zero, Option.some.injEq] at hd
    subst hd
    simp only [DataW.weightsAll, List.mem_append]
    exact .inl hn
  | d0 :: ds, i + 1, d, hd, n, hn => by
    simp only [List.getElem?_cons_succ] at hd
    simp only [DataW.weightsAll, List.mem_append]
    exact .inr (weights_all hd n hn)
theorem valR_at {n : Nat} {rows : List (List (L Value))} (hl : ∀ r ∈ rows, r.length = n) {j : Nat} {v : Value} (h : (valR rows)[j]? = some v) : ∃ r, rows[j / n]? = some r ∧ (r.map val)[j % n]? = some v ∧ 0 < n := by
  have hlt := (List.getElem?_eq_some_iff.1 h).1
  rw [valR_len hl] at hlt
  have hn : 0 < n := by
    rcases Nat.eq_zero_or_pos n with h0 | h0
    · subst h0; omega
    · exact h0
  have hi : j / n < rows.length := Nat.div_lt_of_lt_mul (by rw [Nat.mul_comm]; exact hlt)
  have hr := List.getElem?_eq_getElem hi
  have hm := Nat.mod_lt j hn
  have hlr := hl _ (List.mem_of_getElem? hr)
  have hx := List.getElem?_eq_getElem (l := rows[j / n]) (i := j % n) (by omega)
  have := valR_get hl hr hx
  refine ⟨_, hr, ?_, hn⟩
  have e : j / n * n + j % n = j := by rw [Nat.mul_comm]; exact Nat.div_add_mod j n
  rw [e] at this
  rw [List.getElem?_map, hx, ← h, this]
  rfl
section
variable {H : Type} {enc : TypeId × Value → H} {P : Program} {w : World} {base : Nat} {spare : Nat → Bool} {held : Bool}
/-- What a value reads as. -/
theorem reading : ∀ (fuel : Nat) {t : TypeId} {ty : Ty} {cs : List Value} {x : DataW H × List MemPlace}, TyP P t ty → DataW.trod enc P w base spare held fuel t cs = some x → (∀ n ∈ x.1.weights P t, n ≤ reachBytes) →
    ∃ ls : List (L Value), ls.map val = cs ∧ Fits ty ls ∧ (∀ l ∈ ls, Pl w l) ∧ (P.underlying t = P.underlying t) := by
  intro fuel
  induction fuel with
  | zero => intro t ty cs x _ h; simp [DataW.trod] at h
  | succ fuel ih =>
    intro t ty cs x hty h hw
    cases hty with
    | int hu =>
      obtain ⟨n, rfl, rfl, hwf⟩ := DataW.trod_int hu h
      exact ⟨[.int _ n], rfl, .int hwf, by simpa using pl_int, rfl⟩
    | bool hu =>
      obtain ⟨b, rfl, rfl⟩ := DataW.trod_bool hu h
      exact ⟨[.bool b], rfl, .bool, by simpa using pl_bool, rfl⟩
    | str hu =>
      obtain ⟨s, rfl, rfl, _⟩ := DataW.trod_string hu h
      refine ⟨[.str s], rfl, .str ?_, by simpa using pl_str, rfl⟩
      have := hw s.data.toList.length (by simp [DataW.weights])
      simpa using this
    | sl hu hn hb hn0 hb0 he =>
      rename_i e n b ty'
      rcases DataW.trod_slice hu h with ⟨rfl, rfl⟩ | ⟨a, len, cap, elems, rest, m, hm, rfl, rfl, hbs, hl, hm2, hlen, hel, _, _⟩
      · refine ⟨[.bs (.slice none 0 0) n []], rfl, .sl (by simp) (by simp), ?_, rfl⟩
        intro l hl
        simp only [List.mem_singleton] at hl
        subst hl
        exact ⟨fun _ => ⟨⟨none, 0, rfl, by simp, by simp [LIM], by simp⟩, by simp, by simp [wfR]⟩, rfl, rfl, fun _ => trivial, fun q hq => by simp [immL, hdrImm, immR] at hq⟩
      · obtain rfl : fuel = m := by omega
        have hlenb : (elems.length + rest.length) * b ≤ reachBytes := by
          have := hw ((elems.length + rest.length) * P.bytesOf e) (by simp [DataW.weights, hu])
          rwa [hb] at this
        obtain ⟨rows, hr1, hr2⟩ := choose_rows (R := fun i (r : List (L Value)) => (∃ c, w.cells? base (a.add (i * n)) n = some c ∧ r.map val = c) ∧ Fits ty' r ∧ (∀ l ∈ r, Pl w l)) len fun i hi => by
          have h1 := hel i hi
          have hie : i < elems.length := by omega
          rw [List.getElem?_eq_getElem hie, Option.bind_eq_some_iff, hn] at h1
          obtain ⟨c, hc, ht⟩ := h1
          obtain ⟨ls, e1, e2, e3, _⟩ := ih he ht fun k hk => hw k (by
            simp only [DataW.weights, hu, List.mem_cons, List.mem_append]
            refine .inr (.inl (weights_all (i := i) ?_ k hk))
            rw [List.getElem?_map, List.getElem?_eq_getElem hie]
            rfl)
          exact ⟨ls, ⟨c, hc, e1⟩, e2, e3⟩
        have hmem : ∀ r ∈ rows, Fits ty' r ∧ (∀ l ∈ r, Pl w l) ∧ r.length = n := fun r hr => by
          obtain ⟨i, hi⟩ := List.getElem?_of_mem hr
          obtain ⟨⟨c, hc, e1⟩, e2, e3⟩ := hr2 i r hi
          refine ⟨e2, e3, ?_⟩
          have := (World.cells?_some hc).2.1
          rw [← e1, List.length_map] at this
          exact this
        have hsp : rows ≠ [] → a = ⟨a.block, a.off, none⟩ := fun hne => by
          obtain ⟨r, hr⟩ : ∃ r, rows[0]? = some r := by
            cases rows with
            | nil => exact absurd rfl hne
            | cons r _ => exact ⟨r, rfl⟩
          obtain ⟨⟨c, hc, e1⟩, _⟩ := hr2 0 r hr
          obtain ⟨_, k1, k2⟩ := World.cells?_some hc
          have := k2 0 hn0
          rw [List.getElem?_eq_getElem (by omega), Nat.zero_mul] at this
          have h0 : (a.add 0).add 0 = a := by simp [Addr.add]
          rw [h0] at this
          have := World.cell?_spot this
          cases a
          simp only at this
          subst this
          rfl
        have hLen : rows.length ≤ LIM := by
          have h3 : len * b ≤ reachBytes := Nat.le_trans (Nat.mul_le_mul_right _ (by omega)) hlenb
          have h4 : len * 1 ≤ len * b := Nat.mul_le_mul_left _ hb0
          have h5 : reachBytes ≤ LIM := by decide
          omega
        refine ⟨[.bs (.slice (some a) len cap) n rows], rfl, .sl ?_ (fun r hr => (hmem r hr).1), ?_, rfl⟩
        · rw [hr1]
          exact Nat.le_trans (Nat.mul_le_mul_right _ (by omega)) hlenb
        · intro l hl'
          simp only [List.mem_singleton] at hl'
          subst hl'
          refine ⟨fun nest => ⟨⟨some a, cap, by rw [hr1], by omega, hLen, fun hne => ⟨a.block, a.off, by rw [← hsp hne]⟩⟩, fun r hr => (hmem r hr).2.2, ?_⟩, rfl, rfl, fun _ => trivial, fun q hq hne => ?_⟩
          · exact (wfR_iff true rows).2 fun r hr l hl => ((hmem r hr).2.1 l hl).wf true
          · simp only [immL, hdrImm, List.mem_append, List.mem_singleton] at hq
            rcases hq with rfl | hq
            · intro j v hj
              obtain ⟨r, k1, k2, _⟩ := valR_at (fun r hr => (hmem r hr).2.2) hj
              obtain ⟨⟨c, hc, e1⟩, _⟩ := hr2 _ r k1
              obtain ⟨_, k3, k4⟩ := World.cells?_some hc
              have hr0 : rows ≠ [] := fun h0 => by rw [h0] at k1; simp at k1
              have := k4 (j % n) (Nat.mod_lt _ hn0)
              rw [← e1, k2, hsp hr0, addr_add, addr_add] at this
              simp only at this ⊢
              rw [← this]
              congr 2
              have := Nat.div_add_mod j n
              rw [Nat.mul_comm] at this
              omega
            · rw [immR_eq] at hq
              obtain ⟨l, hl, hq⟩ := List.mem_flatMap.1 hq
              obtain ⟨r, hr, hl⟩ := List.mem_flatten.1 hl
              exact ((hmem r hr).2.1 l hl).imm q hq hne
    | st hu hm hfs =>
      rename_i gs fs m
      obtain ⟨xs, k, hk, rfl, hcs, hxl, hxs⟩ := DataW.trod_struct hu h
      obtain rfl : fuel = k := by omega
      rw [hm] at hcs
      have key : ∀ (gl : List Field) (fs : List Ty) (o i : Nat), FsP P gl fs o m → gs.toList.drop i = gl → o ≤ m → ∃ ls : List (L Value), ls.map val = cs.drop o ∧ Fits (.st fs) ls ∧ ∀ l ∈ ls, Pl w l := by
        intro gl
        induction gl with
        | nil =>
          intro fs o i hf _ ho
          cases hf
          exact ⟨[], by rw [List.drop_of_length_le (by omega)]; rfl, .st0, by simp⟩
        | cons g gl ihg =>
          intro fs o i hf hd ho
          cases hf with
          | cons h1 h2 h3 h4 =>
            rename_i ty1 tys c
            have hgi : gs[i]? = some g := by
              have : (gs.toList.drop i)[0]? = some g := by rw [hd]; rfl
              rw [List.getElem?_drop] at this
              simpa using this
            have h5 := hxs i g hgi
            have hi : i < xs.length := by
              rw [hxl]
              exact (Array.getElem?_eq_some_iff.1 hgi).1
            rw [List.getElem?_eq_getElem hi] at h5
            obtain ⟨ls1, a1, a2, a3, _⟩ := ih h3 h5 fun n hn => hw n (by
              simp only [DataW.weights, hu]
              refine DataW.weights_mem_each (j := i) (t := g.type) (d := (xs[i]'hi).1) ?_ ?_ n hn
              · rw [List.getElem?_map, Array.getElem?_toList, hgi]; rfl
              · rw [List.getElem?_map, List.getElem?_eq_getElem hi]; rfl)
            have hle : o + c ≤ m := by
              clear ihg
              have : ∀ {gl : List Field} {tys : List Ty} {o m : Nat}, FsP P gl tys o m → o ≤ m := by
                intro gl
                induction gl with
                | nil => intro tys o m h; cases h; omega
                | cons g gl ih =>
                  intro tys o m h
                  cases h with
                  | cons _ _ _ h => have := ih h; omega
              exact this h4
            obtain ⟨ls2, b1, b2, b3⟩ := ihg tys (o + c) (i + 1) h4 (by rw [← List.drop_drop, hd]; rfl) hle
            refine ⟨ls1 ++ ls2, ?_, .st a2 b2, fun l hl => (List.mem_append.1 hl).elim (a3 l) (b3 l)⟩
            rw [List.map_append, a1, b1, h1, h2]
            rw [← List.drop_drop]
            exact List.take_append_drop c _
      obtain ⟨ls, a1, a2, a3⟩ := key gs.toList fs 0 0 hfs rfl (Nat.zero_le _)
      exact ⟨ls, by simpa using a1, a2, a3, rfl⟩
end
end Go.Proofs.Ytmckcjoacfekcaa.AM

namespace Go.Proofs.Ytmckcjoacfekcaa.AM
open Go Go.WideShapes Go.ChangeShapes Go.RowKit

theorem dc_rows {α : Type} {ty : Ty} {enc : α → List (L Unit)} {ok : α → Prop} (hd : ∀ ls, Fits ty ls → ∃ x, ls = enc x ∧ ok x) : ∀ {rows : List (List (L Unit))}, (∀ r ∈ rows, Fits ty r) → ∃ xs : List α, rows = xs.map enc ∧ ∀ x ∈ xs, ok x
  | [], _ => ⟨[], rfl, by simp⟩
  | r :: rows, h => by
    obtain ⟨x, rfl, hx⟩ := hd r (h r (by simp))
    obtain ⟨xs, rfl, hxs⟩ := dc_rows hd (rows := rows) fun r hr => h r (by simp [hr])
    exact ⟨x :: xs, rfl, fun y hy => (List.mem_cons.1 hy).elim (fun e => e ▸ hx) (hxs y)⟩
theorem dc_list {α : Type} {n b : Nat} {ty : Ty} {enc : α → List (L Unit)} {ok : α → Prop} (hd : ∀ ls, Fits ty ls → ∃ x, ls = enc x ∧ ok x) {ls : List (L Unit)} (h : Fits (.sl n b ty) ls) :
    ∃ xs : List α, ls = lL false n enc xs ∧ xs.length * b ≤ reachBytes ∧ ∀ x ∈ xs, ok x := by
  cases h with
  | sl h1 h2 =>
    obtain ⟨xs, rfl, hxs⟩ := dc_rows hd h2
    exact ⟨xs, rfl, by simpa using h1, hxs⟩
/-- A value that is read, of one cell. -/
theorem read_one {H : Type} {enc : TypeId × Value → H} {P : Program} {w : World} {base : Nat} {spare : Nat → Bool} {held : Bool} {t : TypeId} {ty : Ty} {v : Value} {d : DataW H} {p : List MemPlace}
    (hty : TyP P t ty) (hv : v.cells = #[v]) (h : DataW.Trod enc P w base spare held t v d p) (hw : ∀ n ∈ d.weights P t, n ≤ reachBytes) :
    ∃ l : L Value, UR (.one l) v ∧ Fits ty [erL l] ∧ Pl w l := by
  obtain ⟨fuel, hf⟩ := h
  obtain ⟨ls, e1, e2, e3, _⟩ := reading fuel hty hf hw
  rw [hv] at e1
  match ls, e1, e2, e3 with
  | [l], e1, e2, e3 =>
    simp only [List.map_cons, List.map_nil, List.cons.injEq, and_true] at e1
    exact ⟨l, e1.symm, e2.map _, e3 l (by simp)⟩
/-- A call over arguments that are only read. -/
theorem enter_sim {P : Program} {f : FuncId} {W : World} {us : List (U Value)} {args : List (U Unit)} {vals : List Value} {r : V Unit} (hs : Sim P f args [] r []) (ha : us.map erU = args) (hus : All2 UR us vals) (hpl : ∀ u ∈ us, ∀ l ∈ leavesU u, Pl W l) :
    Calls P f vals.toArray W fun e W' => ∃ x rv, e = .returned x ∧ erV rv = r ∧ VR rv x ∧ Below W.heap.size W W' := by
  have htop : ∀ l ∈ tops (⟨us.map .u, [], 0⟩ : S Value), Pl W l := by
    intro l hl
    simp only [tops, obLeaves, List.flatMap_nil, List.append_nil, List.mem_flatMap, List.mem_map] at hl
    obtain ⟨_, ⟨u, hu, rfl⟩, hl⟩ := hl
    exact hpl u hu l hl
  have hown : ownS (⟨us.map .u, [], 0⟩ : S Value) = [] := by
    unfold ownS
    simp only [List.flatMap_nil, List.nil_append, List.flatMap_eq_nil_iff]
    exact fun l hl => (htop l hl).own
  refine (hs W ⟨us.map .u, [], 0⟩ us vals rfl ha hus rfl ?_ fun l hl i hi => ?_).mono fun e W' h => ?_
  · refine ⟨fun l hl => ⟨(htop l hl).wf false, (htop l hl).ref _⟩, fun p hp => by simp at hp, List.nodup_nil, fun p hp => ?_, ?_, fun p hp hne => ?_⟩
    · rw [hown] at hp; simp at hp
    · rw [hown]; exact List.nodup_nil
    · obtain ⟨l, hl, hp⟩ := List.mem_flatMap.1 hp
      exact ⟨(htop l hl).imm p hp hne, fun q hq => by rw [hown] at hq; simp at hq⟩
  · rw [(htop l hl).ids] at hi; simp at hi
  · obtain ⟨x, d', rv, h1, _, h3, _, h5, h6⟩ := h
    refine ⟨x, rv, h1, h3, h5, h6.fr.3.1, h6.fr.3.2.1, h6.fr.3.2.2, h6.fr.1, fun k hk => h6.fr.2 k hk fun ⟨p, hp, _⟩ => by rw [hown] at hp; simp at hp⟩
theorem res_bool {rv : V Value} {x : Value} {b : Bool} (h : erV rv = .u (.one (.bool b))) (hv : VR rv x) : x = .bool b := by
  cases rv with
  | u u =>
    cases u with
    | one l =>
      cases l <;> simp only [erV, mapV, mapU, mapL, V.u.injEq, U.one.injEq, reduceCtorEq] at h
      cases h
      exact hv
    | agg ls => simp [erV, mapV, mapU] at h
  | _ => simp [erV, mapV] at h
end Go.Proofs.Ytmckcjoacfekcaa.AM

namespace Go.Proofs.Ytmckcjoacfekcaa.AM
open Go
theorem inI_le {n : Int} (h1 : -9223372036854775808 ≤ n) (h2 : n ≤ 9223372036854775807) : inI n := ⟨h1, h2⟩
theorem wrap_in {n : Int} (h1 : -9223372036854775808 ≤ n) (h2 : n ≤ 9223372036854775807) : IntKind.i64.wrap n = n := IntWalk.i64_in n (by omega)
theorem at_mem {α : Type} [Inhabited α] {xs : List α} {n : Int} (h : 0 ≤ n ∧ n < (xs.length : Int)) : at_ xs n ∈ xs := List.mem_of_getElem? (at_get h)
/-- (Not by rfl: the kernel then need not compare great terms.) -/
theorem obs {α β : Type} (a : α) (f : α → Option β) : Option.bind (some a) f = f a := by
  have : ∀ o, o = some a → Option.bind o f = f a := fun o h => by subst h; rfl
  exact this _ rfl
/-- A loop with a measure that falls. -/
theorem loop_wf {σ ρ : Type} {body : σ → Option (σ ⊕ ρ)} {L : Option ρ} {s0 : σ} (hB : loopO body s0 = L) (I : σ → Prop) (m : σ → Nat) (Q : ρ → Prop)
    (h : ∀ s, I s → (∃ s', body s = some (.inl s') ∧ I s' ∧ m s' < m s) ∨ (∃ r, body s = some (.inr r) ∧ Q r)) (h0 : I s0) : ∃ r, L = some r ∧ Q r := by
  subst hB
  have key : ∀ n s, m s ≤ n → I s → ∃ r, loopO body s = some r ∧ Q r := by
    intro n
    induction n with
    | zero =>
      intro s hm hi
      rcases h s hi with ⟨s', e, hi', hlt⟩ | ⟨r, e, hq⟩
      · omega
      · exact ⟨r, by rw [loopO_step, e]; rfl, hq⟩
    | succ n ih =>
      intro s hm hi
      rcases h s hi with ⟨s', e, hi', hlt⟩ | ⟨r, e, hq⟩
      · obtain ⟨r, e2, hq⟩ := ih s' (by omega) hi'
        exact ⟨r, by rw [loopO_step, e]; exact e2, hq⟩
      · exact ⟨r, by rw [loopO_step, e]; rfl, hq⟩
  exact key _ s0 (Nat.le_refl _) h0
/-- A loop that counts from a to n, with a part that grows. -/
theorem loop_cnt {σ : Type} {ρ : Type} {body : σ → Option (σ ⊕ ρ)} {L : Option ρ} {s0 : σ} (hB : loopO body s0 = L) (st : Nat → σ) (n : Nat) (r : ρ) (e0 : s0 = st 0)
    (h : ∀ k, k < n → body (st k) = some (.inl (st (k + 1)))) (he : body (st n) = some (.inr r)) : L = some r := by
  subst hB e0
  have key : ∀ m k, k + m = n → loopO body (st k) = some r := by
    intro m
    induction m with
    | zero =>
      intro k hk
      obtain rfl : k = n := by omega
      rw [loopO_step, he]; rfl
    | succ m ih =>
      intro k hk
      rw [loopO_step, h k (by omega)]
      exact ih (k + 1) (by omega)
  exact key n 0 (by omega)
theorem dc_u8 {ls : List (L Unit)} (h : Fits (.int .u8) ls) : ∃ n, ls = iK .u8 n ∧ 0 ≤ n ∧ n ≤ 255 := by
  cases h with
  | int h =>
    refine ⟨_, rfl, ?_⟩
    simp [Lit.wf, IntKind.min, IntKind.max, IntKind.bits, IntKind.signed] at h
    exact h
end Go.Proofs.Ytmckcjoacfekcaa.AM

namespace Go.Proofs.Ytmckcjoacfekcaa.AM
open Go
set_option linter.unusedSimpArgs false
set_option linter.unusedVariables false
def okRd (r : Gl1Rd) : Prop := 0 ≤ r.p ∧ r.p ≤ (r.b.length : Int) ∧ r.b.length ≤ 140737488355328 ∧ ∀ x ∈ r.b, 0 ≤ x ∧ x ≤ 255
theorem next_ok {r : Gl1Rd} (h : okRd r) : ∃ x r', spec_l1Rd_next_m r = some (x, r') ∧ okRd r' ∧ 0 ≤ x ∧ x ≤ 255 := by
  obtain ⟨h1, h2, h3, h4⟩ := h
  unfold spec_l1Rd_next_m
  by_cases hp : r.p ≥ (r.b.length : Int)
  · rw [if_pos (by simpa using hp)]
    exact ⟨0, r, rfl, ⟨h1, h2, h3, h4⟩, by omega, by omega⟩
  · rw [if_neg (by simpa using hp), if_pos (inI_le (by omega) (by omega)), if_pos (inI_le (by simp only; omega) (by simp only; omega)), if_pos (by simp only; omega)]
    have hb := h4 (at_ r.b (r.p + 1 - 1)) (at_mem (by omega))
    refine ⟨_, _, rfl, ⟨by simp only; omega, by simp only; omega, h3, h4⟩, ?_⟩
    simp only
    rw [wrap_in (by omega) (by omega)]
    exact hb
theorem tmod_lt {a n : Int} (h : 0 ≤ a) (hn : 1 ≤ n) : 0 ≤ Int.tmod a n ∧ Int.tmod a n < n := by
  rw [Int.tmod_eq_emod_of_nonneg h]
  exact ⟨Int.emod_nonneg _ (by omega), Int.emod_lt_of_pos _ (by omega)⟩
theorem below_ok {r : Gl1Rd} (h : okRd r) (n : Int) : ∃ x r', spec_l1Rd_below_m r n = some (x, r') ∧ okRd r' ∧ 0 ≤ x ∧ (1 ≤ n → x < n) := by
  unfold spec_l1Rd_below_m
  by_cases hn : n ≤ 1
  · rw [if_pos (by simpa using hn)]
    exact ⟨0, r, rfl, h, by omega, by omega⟩
  · rw [if_neg (by simpa using hn)]
    obtain ⟨x, r', e, h', hx⟩ := next_ok h
    by_cases hn2 : n ≤ 256
    · rw [if_pos (by simpa using hn2), e]
      simp only [Option.bind_some]
      rw [if_pos (by omega)]
      exact ⟨_, _, rfl, h', (tmod_lt hx.1 (by omega)).1, fun _ => (tmod_lt hx.1 (by omega)).2⟩
    · rw [if_neg (by simpa using hn2), e]
      simp only [Option.bind_some]
      obtain ⟨y, r2, e2, h2, hy⟩ := next_ok h'
      rw [e2]
      simp only [Option.bind_some]
      rw [if_pos (by omega), wrap_in (n := x * 256) (by omega) (by omega), wrap_in (by omega) (by omega)]
      exact ⟨_, _, rfl, h2, (tmod_lt (by omega) (by omega)).1, fun _ => (tmod_lt (by omega) (by omega)).2⟩
theorem once_ok {r : Gl1Rd} (h : okRd r) (n : Int) (hn : inI (n - 1)) : ∃ x r', spec_l1Rd_once_m r n = some (x, r') ∧ okRd r' := by
  unfold spec_l1Rd_once_m
  obtain ⟨x, r', e, h', hx⟩ := below_ok h n
  rw [e]
  simp only [Option.bind_some]
  rw [if_pos hn]
  exact ⟨_, _, rfl, h'⟩
theorem word_ok {r : Gl1Rd} (h : okRd r) : ∃ x r', spec_l1Rd_word_m r = some (x, r') ∧ okRd r' := by
  unfold spec_l1Rd_word_m
  generalize hB : loopO _ _ = L
  obtain ⟨⟨r2, x⟩, e, h2⟩ := loop_wf hB (fun s => okRd s.1 ∧ 0 ≤ s.2.2 ∧ s.2.2 ≤ 8) (fun s => (8 - s.2.2).toNat) (fun s => okRd s.1) (by
    rintro ⟨r, a, i⟩ ⟨h1, h2, h3⟩
    simp only at h1 h2 h3 ⊢
    by_cases hi : i < 8
    · left
      rw [if_pos (by simpa using hi)]
      obtain ⟨x, r', e, h', hx⟩ := next_ok h1
      rw [e]
      simp only [Option.bind_some]
      rw [if_pos (inI_le (by omega) (by omega))]
      exact ⟨_, rfl, ⟨h', by simp only; omega, by simp only; omega⟩, by simp only; omega⟩
    · right
      rw [if_neg (by simpa using hi)]
      exact ⟨_, rfl, h1⟩) ⟨h, by simp only; omega, by simp only; omega⟩
  subst e
  exact ⟨_, _, rfl, h2⟩
theorem near_ok {r : Gl1Rd} (h : okRd r) (low high : Int) (h1 : ¬ high < low → inI (IntKind.i64.wrap (high - low) + 1) ∧ IntKind.u64.wrap (IntKind.i64.wrap (high - low) + 1) ≠ 0) : ∃ x r', spec_l1Rd_near_m r low high = some (x, r') ∧ okRd r' := by
  unfold spec_l1Rd_near_m
  obtain ⟨x, r', e, h', hx⟩ := below_ok h 8
  rw [e]
  simp only [Option.bind_some]
  split
  · exact ⟨_, _, rfl, h'⟩
  · split
    · exact ⟨_, _, rfl, h'⟩
    · split
      · exact ⟨_, _, rfl, h'⟩
      · rename_i hl
        obtain ⟨y, r2, e2, h2⟩ := word_ok h'
        rw [e2]
        simp only [Option.bind_some]
        have := h1 (by simpa using hl)
        rw [if_pos this.1, if_pos this.2]
        exact ⟨_, _, rfl, h2⟩
theorem off_ok {r : Gl1Rd} (h : okRd r) (low high : Int) (hl : inI (low - 1)) (hh : inI (high + 1)) (h1 : ¬ high < low → inI (IntKind.i64.wrap (high - low) + 1) ∧ IntKind.u64.wrap (IntKind.i64.wrap (high - low) + 1) ≠ 0) : ∃ x r', spec_l1Rd_off_m r low high = some (x, r') ∧ okRd r' := by
  unfold spec_l1Rd_off_m
  obtain ⟨x, r', e, h'⟩ := once_ok h 24 (inI_le (by omega) (by omega))
  rw [e]
  simp only [Option.bind_some]
  split
  · obtain ⟨y, r2, e2, h2, hy, hy2⟩ := below_ok h' 4
    have hy3 := hy2 (by omega)
    rw [e2]
    simp only [Option.bind_some]
    rw [if_pos ⟨hy, by simpa using hy3⟩]
    exact ⟨_, _, rfl, h2⟩
  · obtain ⟨y, r2, e2, h2⟩ := near_ok h' low high h1
    rw [e2]
    exact ⟨_, _, rfl, h2⟩
theorem open_ok {code : List Int} (hl : code.length ≤ 140737488355328) (h : ∀ x ∈ code, 0 ≤ x ∧ x ≤ 255) : okRd (spec_l1Open_m code) := ⟨Int.le_refl _, by simp only [spec_l1Open_m]; omega, hl, h⟩
end Go.Proofs.Ytmckcjoacfekcaa.AM

namespace Go.Proofs.Ytmckcjoacfekcaa.AM
open Go
def Run {β : Type} (o : Option β) (Q : β → Prop) : Prop := ∃ y, o = some y ∧ Q y
theorem Run.mk {β : Type} {y : β} {Q : β → Prop} (h : Q y) : Run (some y) Q := ⟨y, rfl, h⟩
theorem Run.bind {α β : Type} {o : Option α} {F : α → Option β} {R : α → Prop} {Q : β → Prop} (h : Run o R) (H : ∀ a, R a → Run (F a) Q) : Run (Option.bind o F) Q := by
  obtain ⟨a, e, ha⟩ := h
  rw [e, obs]
  exact H a ha
theorem Run.yes {β : Type} {c : Prop} [Decidable c] {a b : Option β} {Q : β → Prop} (hc : c) (h : Run a Q) : Run (if c then a else b) Q := by rw [if_pos hc]; exact h
theorem Run.no {β : Type} {c : Prop} [Decidable c] {a b : Option β} {Q : β → Prop} (hc : ¬ c) (h : Run b Q) : Run (if c then a else b) Q := by rw [if_neg hc]; exact h
theorem Run.if {β : Type} {c : Prop} [Decidable c] {a b : Option β} {Q : β → Prop} (h1 : c → Run a Q) (h2 : ¬ c → Run b Q) : Run (if c then a else b) Q := by
  by_cases h : c
  · exact .yes h (h1 h)
  · exact .no h (h2 h)
theorem Run.mono {β : Type} {o : Option β} {Q Q' : β → Prop} (h : Run o Q) (hq : ∀ y, Q y → Q' y) : Run o Q' := by
  obtain ⟨y, e, h⟩ := h
  exact ⟨y, e, hq y h⟩
def LoopQ {σ ρ : Type} (I : σ → Prop) (m : σ → Nat) (n : Nat) (Q : ρ → Prop) : σ ⊕ ρ → Prop
  | .inl s => I s ∧ m s < n
  | .inr r => Q r
theorem Run.nx {σ ρ : Type} {I : σ → Prop} {m : σ → Nat} {n : Nat} {Q : ρ → Prop} {s : σ} (h : I s ∧ m s < n) : Run (some (.inl s : σ ⊕ ρ)) (LoopQ I m n Q) := ⟨_, rfl, h⟩
theorem Run.out {σ ρ : Type} {I : σ → Prop} {m : σ → Nat} {n : Nat} {Q : ρ → Prop} {r : ρ} (h : Q r) : Run (some (.inr r : σ ⊕ ρ)) (LoopQ I m n Q) := ⟨_, rfl, h⟩
theorem Run.loop {σ ρ : Type} {body : σ → Option (σ ⊕ ρ)} {s0 : σ} {Q : ρ → Prop} (I : σ → Prop) (m : σ → Nat) (h0 : I s0) (h : ∀ s, I s → Run (body s) (LoopQ I m (m s) Q)) : Run (loopO body s0) Q := by
  refine loop_wf rfl I m Q (fun s hs => ?_) h0
  obtain ⟨x, e, hx⟩ := h s hs
  cases x with
  | inl s' => exact .inl ⟨s', e, hx⟩
  | inr r => exact .inr ⟨r, e, hx⟩
end Go.Proofs.Ytmckcjoacfekcaa.AM

namespace Go.Proofs.Ytmckcjoacfekcaa.AM
open Go
set_option linter.unusedSimpArgs false
set_option linter.unusedVariables false
abbrev KM : Nat := 1000000
def isW (w : Int) : Prop := w = 1 ∨ w = 8 ∨ w = 16 ∨ w = 32
theorem LIM_eq : LIM = 140737488355328 := rfl
theorem below_run {r : Gl1Rd} (h : okRd r) (n : Int) : Run (spec_l1Rd_below_m r n) (fun y => okRd y.2 ∧ 0 ≤ y.1 ∧ (1 ≤ n → y.1 < n)) := by
  obtain ⟨x, r', e, h1, h2⟩ := below_ok h n
  exact ⟨_, e, h1, h2⟩
theorem once_run {r : Gl1Rd} (h : okRd r) {n : Int} (hn : inI (n - 1)) : Run (spec_l1Rd_once_m r n) (fun y => okRd y.2) := by
  obtain ⟨x, r', e, h1⟩ := once_ok h n hn
  exact ⟨_, e, h1⟩
theorem word_run {r : Gl1Rd} (h : okRd r) : Run (spec_l1Rd_word_m r) (fun y => okRd y.2) := by
  obtain ⟨x, r', e, h1⟩ := word_ok h
  exact ⟨_, e, h1⟩
theorem off_run {r : Gl1Rd} (h : okRd r) {low high : Int} (hl : inI (low - 1)) (hh : inI (high + 1)) (h1 : ¬ high < low → inI (IntKind.i64.wrap (high - low) + 1) ∧ IntKind.u64.wrap (IntKind.i64.wrap (high - low) + 1) ≠ 0) : Run (spec_l1Rd_off_m r low high) (fun y => okRd y.2) := by
  obtain ⟨x, r', e, h1⟩ := off_ok h low high hl hh h1
  exact ⟨_, e, h1⟩
theorem width_run {r : Gl1Rd} (h : okRd r) : Run (spec_l1Rd_width_m r) (fun y => okRd y.2 ∧ isW y.1) := by
  unfold spec_l1Rd_width_m
  refine Run.bind (below_run h 4) ?_
  rintro ⟨x, r'⟩ ⟨h1, h2, h3⟩
  have h3 := h3 (by omega)
  refine Run.yes ⟨h2, by simpa using h3⟩ (Run.mk ⟨h1, ?_⟩)
  have : x = 0 ∨ x = 1 ∨ x = 2 ∨ x = 3 := by simp only at h2 h3; omega
  rcases this with rfl | rfl | rfl | rfl <;> simp [isW, at_]
theorem value_run {r : Gl1Rd} (h : okRd r) {w : Int} (hw : isW w) : Run (spec_l1Rd_value_m r w) (fun y => okRd y.2) := by
  unfold spec_l1Rd_value_m
  have h1 : 0 ≤ IntKind.u64.wrap w := by rcases hw with rfl | rfl | rfl | rfl <;> decide
  have h2 : inI ((IntKind.i64.wrap (1 * 2 ^ min (Int.toNat (IntKind.u64.wrap w)) (IntKind.bits .i64))) - 1) := by rcases hw with rfl | rfl | rfl | rfl <;> exact inI_le (by decide) (by decide)
  have h3 : IntKind.i64.wrap (1 * 2 ^ min (Int.toNat (IntKind.u64.wrap w)) (IntKind.bits .i64)) ≠ 0 := by rcases hw with rfl | rfl | rfl | rfl <;> decide
  refine Run.yes h1 (Run.bind (below_run h 7) ?_)
  rintro ⟨x, r'⟩ ⟨g1, _, _⟩
  refine Run.if (fun _ => Run.mk g1) (fun _ => Run.if (fun _ => Run.mk g1) (fun _ => Run.if (fun _ => Run.yes h2 (Run.mk g1)) (fun _ => Run.if (fun _ => Run.mk g1) (fun _ => Run.bind (word_run g1) ?_))))
  rintro ⟨y, r2⟩ g2
  exact Run.yes h3 (Run.mk g2)
/-- What tells out or stores gives nothing. -/
def okI (i : GInst) : Prop := i.w = 0 ∨ (i.op_ ≠ 24 ∧ i.op_ ≠ 25)
def sz (b : GBlock) : Nat := b.phis.length + b.insts.length
def sumz (bs : List GBlock) : Nat := (bs.map sz).sum
def cnt (f : GFunc) : Nat := f.params.length + sumz f.blocks
/-- What an instruction names. -/
def opsI (i : GInst) : List Int :=
  if (1 ≤ i.op_ ∧ i.op_ ≤ 17) ∨ i.op_ = 24 then [i.a, i.b]
  else if (18 ≤ i.op_ ∧ i.op_ ≤ 20) ∨ i.op_ = 23 ∨ i.op_ = 25 ∨ i.op_ = 27 then [i.a]
  else if i.op_ = 22 then [i.a, i.b, i.c]
  else if i.op_ = 26 then i.args else []
def inN (n : Int) (l : List Int) : Prop := ∀ x ∈ l, 0 ≤ x ∧ x < n
theorem inN.mono {n m : Int} {l : List Int} (h : inN n l) (hm : n ≤ m) : inN m l := fun x hx => ⟨(h x hx).1, by have := (h x hx).2; omega⟩
def okIn (n : Int) (i : GInst) : Prop := okI i ∧ inN n (opsI i) ∧ i.args.length ≤ 10
def okPn (n : Int) (p : GPhi) : Prop := inN n p.ins ∧ p.ins.length ≤ 10
def okT (n : Int) (t : GTerm) : Prop := t.kind = 1 ∨ t.kind = 3 → 0 ≤ t.a ∧ t.a < n
structure okB (n : Int) (ps : List GPhi) (is : List GInst) : Prop where
  ps : ∀ p ∈ ps, okPn n p
  is : ∀ i ∈ is, okIn n i
theorem okB.mono {n m : Int} {ps : List GPhi} {is : List GInst} (h : okB n ps is) (hm : n ≤ m) : okB m ps is :=
  ⟨fun p hp => ⟨(h.ps p hp).1.mono hm, (h.ps p hp).2⟩, fun i hi => ⟨(h.is i hi).1, (h.is i hi).2.1.mono hm, (h.is i hi).2.2⟩⟩
theorem okT.mono {n m : Int} {t : GTerm} (h : okT n t) (hm : n ≤ m) : okT m t := fun ht => ⟨(h ht).1, by have := (h ht).2; omega⟩
def okBl (n : Int) (b : GBlock) : Prop := okB n b.phis b.insts ∧ okT n b.term
theorem okBl.mono {n m : Int} {b : GBlock} (h : okBl n b) (hm : n ≤ m) : okBl m b := ⟨h.1.mono hm, h.2.mono hm⟩
/-- What grows is small; d: what is not numbered yet. -/
structure okGd (d : Int) (k : Nat) (g : Gl2G) : Prop where
  ids : g.ids.length ≤ k
  ws : g.ws.length = g.ids.length
  n0 : 0 ≤ g.next
  n1 : g.next ≤ (k : Int)
  insts : g.b.insts.length ≤ k
  phis : g.b.phis.length ≤ k
  blocks : g.f.blocks.length ≤ k
  params : g.f.params.length ≤ k
  pw : ∀ w ∈ g.f.params, isW w
  ret : isW g.f.ret
  rows : ∀ b ∈ g.f.blocks, b.phis.length ≤ k ∧ b.insts.length ≤ k
  cur : okB (g.next + d) g.b.phis g.b.insts
  okbs : ∀ b ∈ g.f.blocks, okBl (g.next + d) b
  idsIn : inN g.next g.ids
  nx : g.next + d = (g.f.params.length : Int) + sumz g.f.blocks + g.b.phis.length + g.b.insts.length
abbrev okG (k : Nat) (g : Gl2G) : Prop := okGd 0 k g
theorem okGd.mono {d : Int} {k k' : Nat} {g : Gl2G} (h : okGd d k g) (hk : k ≤ k') : okGd d k' g :=
  ⟨Nat.le_trans h.ids hk, h.ws, h.n0, by have := h.n1; omega, Nat.le_trans h.insts hk, Nat.le_trans h.phis hk, Nat.le_trans h.blocks hk, Nat.le_trans h.params hk, h.pw, h.ret, fun b hb => ⟨Nat.le_trans (h.rows b hb).1 hk, Nat.le_trans (h.rows b hb).2 hk⟩, h.cur, h.okbs, h.idsIn, h.nx⟩
/-- The same function, the same phis. -/
def Sm (g g' : Gl2G) : Prop := g'.f = g.f ∧ g'.b.phis = g.b.phis
theorem Sm.trans {a b c : Gl2G} (h : Sm a b) (h' : Sm b c) : Sm a c := ⟨h'.1.trans h.1, h'.2.trans h.2⟩
theorem Sm.refl (a : Gl2G) : Sm a a := ⟨rfl, rfl⟩
structure okP (rets : List Int) (pars : List (List Int)) : Prop where
  len : pars.length = rets.length
  small : rets.length ≤ 10
  rw_ : ∀ w ∈ rets, isW w
  rows : ∀ l ∈ pars, l.length ≤ 10 ∧ ∀ w ∈ l, isW w
section
variable {k : Nat} {g : Gl2G} {gr : Gl1Rd} {rets : List Int} {pars : List (List Int)}
theorem add_run (h : okGd 1 k g) (hk : k ≤ KM) (w : Int) : Run (spec_l2G_add_m g gr rets pars w) (fun y => okG (k + 1) y.2.1 ∧ y.2.2 = gr ∧ y.2.1.f = g.f ∧ y.2.1.b = g.b ∧ y.1 = g.next ∧ y.2.1.next = g.next + 1) := by
  have hL := LIM_eq
  obtain ⟨h1, h2, h3, h4, h5, h6, h7, h8, h9, h10, h11, h12, h13, h14, h15⟩ := h
  unfold KM at hk
  unfold spec_l2G_add_m
  refine Run.bind (R := fun _ => True) (Run.yes (by simp only [List.length_nil]; omega) (Run.yes (by simp only [List.nil_append, List.length_singleton]; omega) (Run.mk trivial))) (fun _ _ => ?_)
  refine Run.yes (by simp only [List.length_nil]; omega) (Run.yes (by simp only [List.nil_append, List.length_singleton]; omega) (Run.yes (inI_le (by simp only; omega) (by simp only; omega)) (Run.yes (inI_le (by simp only; omega) (by simp only; omega)) (Run.mk ⟨?_, rfl, rfl, rfl, by simp only; omega, by simp only⟩))))
  refine ⟨by simp; omega, by simp [h2], by simp only; omega, by simp only; omega, by simp only; omega, by simp only; omega, by simp only; omega, by simp only; omega, h9, h10, fun b hb => ⟨by have := (h11 b hb).1; omega, by have := (h11 b hb).2; omega⟩, by simpa using h12, by simpa using h13, fun x hx => ?_, by simp only; omega⟩
  simp only [List.nil_append, List.mem_append, List.mem_singleton] at hx
  simp only
  rcases hx with hx | rfl
  · have := h14 x hx
    omega
  · omega
theorem put_run (h : okG k g) (hr : okRd gr) (hk : k + 1 ≤ KM) (i : GInst) (hi : okIn g.next i) : Run (spec_l2G_put_m g gr rets pars i) (fun y => okG (k + 2) y.2.1 ∧ okRd y.2.2 ∧ Sm g y.2.1 ∧ (spec_l2Width_m i ≠ 0 → 0 ≤ y.1 ∧ y.1 < y.2.1.next) ∧ g.next ≤ y.2.1.next) := by
  have hL := LIM_eq
  have h0 := h
  obtain ⟨h1, h2, h3, h4, h5, h6, h7, h8, h9, h10, h11, h12, h13, h14, h15⟩ := h
  unfold KM at hk
  have h12' : okB (g.next + 1) g.b.phis (g.b.insts ++ [i]) := by
    refine ⟨fun p hp => (h12.mono (by omega)).ps p hp, fun j hj => ?_⟩
    rcases List.mem_append.1 hj with hj | hj
    · exact (h12.mono (by omega)).is j hj
    · simp only [List.mem_singleton] at hj
      subst hj
      exact ⟨hi.1, hi.2.1.mono (by omega), hi.2.2⟩
  have h13' : ∀ b ∈ g.f.blocks, okBl (g.next + 1) b := fun b hb => (h13 b hb).mono (by omega)
  unfold spec_l2G_put_m
  refine Run.yes (by simp only [List.length_singleton]; omega) (Run.if (fun hw => Run.yes (inI_le (by omega) (by omega)) (Run.mk ⟨?_, hr, ⟨rfl, rfl⟩, fun hn => absurd (by simpa using hw) hn, by simp only; omega⟩)) (fun _ => ?_))
  · exact ⟨by simp only; omega, h2, by simp only; omega, by simp only; omega, by simp; omega, by simp only; omega, by simp only; omega, by simp only; omega, h9, h10, fun b hb => ⟨by have := (h11 b hb).1; omega, by have := (h11 b hb).2; omega⟩, by simpa using h12', by simpa using h13', h14.mono (by simp only; omega), by simp; omega⟩
  · refine Run.bind (add_run (k := k + 1) ?_ (by unfold KM; omega) _) ?_
    · exact ⟨by simp only; omega, h2, by simp only; omega, by simp only; omega, by simp; omega, by simp only; omega, by simp only; omega, by simp only; omega, h9, h10, fun b hb => ⟨by have := (h11 b hb).1; omega, by have := (h11 b hb).2; omega⟩, h12', h13', h14, by simp; omega⟩
    · rintro ⟨x, g', r'⟩ ⟨g1, rfl, g3, g4, g5, g6⟩
      simp only at g5 g6
      exact Run.mk ⟨g1, hr, ⟨g3, by simp only at g4 ⊢; rw [g4]⟩, fun _ => by simp only; omega, by simp only; omega⟩
theorem pick_run (h : okG k g) (hr : okRd gr) (hk : k + 1 ≤ KM) {w : Int} (hw : isW w) : Run (spec_l2G_pick_m g gr rets pars w) (fun y => okG (k + 2) y.2.1 ∧ okRd y.2.2 ∧ Sm g y.2.1 ∧ 0 ≤ y.1 ∧ y.1 < y.2.1.next ∧ g.next ≤ y.2.1.next) := by
  have hL := LIM_eq
  have h1 := h.ids
  have h2 := h.ws
  have hk' := hk
  unfold KM at hk
  unfold spec_l2G_pick_m
  refine Run.bind (R := fun l => l.length ≤ k ∧ inN g.next l) (Run.loop (fun s => 0 ≤ s.2 ∧ s.2 ≤ (g.ids.length : Int) ∧ (s.1.length : Int) ≤ s.2 ∧ inN g.next s.1) (fun s => (g.ids.length - s.2).toNat) ⟨Int.le_refl _, by omega, by simp, by simp [inN]⟩ ?_) ?_
  · rintro ⟨l, i⟩ ⟨a1, a2, a3, a4⟩
    simp only at a1 a2 a3 a4 ⊢
    refine Run.if (fun hi => ?_) (fun hi => Run.out ⟨by omega, a4⟩)
    have hi : i < (g.ids.length : Int) := by simpa using hi
    refine Run.yes (by omega) (Run.if (fun _ => Run.yes (by omega) (Run.yes (by simp only [List.length_singleton]; omega) (Run.yes (inI_le (by omega) (by omega)) (Run.nx ?_)))) (fun _ => Run.yes (inI_le (by omega) (by omega)) (Run.nx ?_)))
    · refine ⟨⟨by simp only; omega, by simp only; omega, by simp; omega, fun x hx => ?_⟩, by simp only; omega⟩
      rcases List.mem_append.1 hx with hx | hx
      · exact a4 x hx
      · simp only [List.mem_singleton] at hx
        subst hx
        exact h.idsIn _ (at_mem (by omega))
    · exact ⟨⟨by simp only; omega, by simp only; omega, by simp only; omega, a4⟩, by simp only; omega⟩
  rintro fit ⟨hf, hfi⟩
  refine Run.bind (R := fun y => okRd y.1 ∧ (y.2 = false → fit ≠ [])) (Run.if (fun _ => Run.mk ⟨hr, fun h => by cases h⟩) (fun hn => Run.bind (once_run hr (inI_le (by omega) (by omega))) ?_)) ?_
  · rintro ⟨b, r'⟩ g1
    exact Run.mk ⟨g1, fun _ e => hn (by simp [e])⟩
  rintro ⟨r', b⟩ ⟨g1, g2⟩
  simp only at g1 g2 ⊢
  refine Run.if (fun _ => Run.bind (value_run g1 hw) ?_) (fun hb => Run.bind (below_run g1 _) ?_)
  · rintro ⟨x, r2⟩ g3
    have e1 : 0 ≤ IntKind.u64.wrap w := by rcases hw with rfl | rfl | rfl | rfl <;> decide
    have e3 : IntKind.i64.wrap (1 * 2 ^ min (Int.toNat (IntKind.u64.wrap w)) (IntKind.bits .i64)) ≠ 0 := by rcases hw with rfl | rfl | rfl | rfl <;> decide
    refine Run.yes e1 (Run.yes e3 (Run.bind (put_run h g3 hk' _ ⟨.inr ⟨by simp, by simp⟩, by simp [inN, opsI], by simp⟩) ?_))
    rintro ⟨x, g', r3⟩ ⟨g4, g5, g6, g7, g8⟩
    have g9 := g7 (by rcases hw with rfl | rfl | rfl | rfl <;> simp [spec_l2Width_m, spec_l1In_m])
    exact Run.mk ⟨g4, g5, g6, g9.1, g9.2, g8⟩
  · rintro ⟨x, r2⟩ ⟨g3, g4, _⟩
    have hne : fit ≠ [] := g2 (by simpa using hb)
    have hp : 0 < fit.length := List.length_pos_iff.2 hne
    simp only at g3 g4 ⊢
    generalize hz : (if decide (x ≥ (fit.length : Int)) = true then (fit.length : Int) - 1 else x) = z
    have hx : 0 ≤ z ∧ z < (fit.length : Int) := by
      subst hz
      split
      · omega
      · rename_i hx
        have hx : ¬ x ≥ (fit.length : Int) := by simpa using hx
        omega
    exact Run.yes hx (Run.mk ⟨h.mono (by omega), g3, Sm.refl _, (hfi _ (at_mem hx)).1, (hfi _ (at_mem hx)).2, Int.le_refl _⟩)
theorem sumz_snoc (bs : List GBlock) (b : GBlock) : sumz (bs ++ [b]) = sumz bs + sz b := by simp [sumz]
theorem close_run (h : okG k g) (hr : okRd gr) (hk : k ≤ KM) (t : GTerm) (ht : okT g.next t) : Run (spec_l2G_close_m g gr rets pars t) (fun y => okG (k + 1) y.1 ∧ okRd y.2 ∧ y.1.f.blocks = g.f.blocks ++ [⟨g.b.phis, g.b.insts, t⟩] ∧ y.1.f.params = g.f.params ∧ y.1.b.phis = [] ∧ y.1.next = g.next ∧ y.1.b.insts = []) := by
  have hL := LIM_eq
  obtain ⟨h1, h2, h3, h4, h5, h6, h7, h8, h9, h10, h11, h12, h13, h14, h15⟩ := h
  unfold KM at hk
  unfold spec_l2G_close_m
  refine Run.yes (by omega) (Run.mk ⟨?_, hr, rfl, rfl, rfl, rfl, rfl⟩)
  refine ⟨by simp only; omega, h2, by simp only; omega, by simp only; omega, by simp, by simp, by simp; omega, by simp only; omega, h9, h10, fun b hb => ?_, ⟨by simp, by simp⟩, fun b hb => ?_, h14, ?_⟩
  · rcases List.mem_append.1 hb with hb | hb
    · exact ⟨by have := (h11 b hb).1; omega, by have := (h11 b hb).2; omega⟩
    · simp only [List.mem_singleton] at hb
      subst hb
      exact ⟨by simp only; omega, by simp only; omega⟩
  · rcases List.mem_append.1 hb with hb | hb
    · exact h13 b hb
    · simp only [List.mem_singleton] at hb
      subst hb
      exact ⟨h12, by simpa using ht⟩
  · rw [sumz_snoc]
    simp only [sz, List.length_nil]
    omega
theorem phi_run (h : okG k g) (hr : okRd gr) (hk : k + 1 ≤ KM) (w : Int) (ins : List Int) (hi : inN g.next ins) (hi2 : ins.length ≤ 10) : Run (spec_l2G_phi_m g gr rets pars w ins) (fun y => okG (k + 2) y.2.1 ∧ okRd y.2.2 ∧ y.2.1.f = g.f ∧ y.2.1.b.phis = g.b.phis ++ [⟨w, ins⟩] ∧ 0 ≤ y.1 ∧ y.1 < y.2.1.next ∧ g.next ≤ y.2.1.next) := by
  have hL := LIM_eq
  obtain ⟨h1, h2, h3, h4, h5, h6, h7, h8, h9, h10, h11, h12, h13, h14, h15⟩ := h
  unfold KM at hk
  unfold spec_l2G_phi_m
  refine Run.yes (by omega) (Run.bind (add_run (k := k + 1) ?_ (by unfold KM; omega) _) ?_)
  · refine ⟨by simp only; omega, h2, by simp only; omega, by simp only; omega, by simp only; omega, by simp; omega, by simp only; omega, by simp only; omega, h9, h10, fun b hb => ⟨by have := (h11 b hb).1; omega, by have := (h11 b hb).2; omega⟩, ⟨fun p hp => ?_, (h12.mono (by simp only; omega)).is⟩, fun b hb => (h13 b hb).mono (by simp only; omega), h14, by simp; omega⟩
    rcases List.mem_append.1 hp with hp | hp
    · exact (h12.mono (by simp only; omega)).ps p hp
    · simp only [List.mem_singleton] at hp
      subst hp
      exact ⟨hi.mono (by simp only; omega), hi2⟩
  · rintro ⟨x, g', r'⟩ ⟨g1, rfl, g3, g4, g5, g6⟩
    simp only at g5 g6
    exact Run.mk ⟨g1, hr, g3, by simp only at g4 ⊢; rw [g4], by simp only; omega, by simp only; omega, by simp only; omega⟩
theorem call_run (h : okG k g) (hr : okRd gr) (hp : okP rets pars) (hk : k + 30 ≤ KM) : Run (spec_l2G_call_m g gr rets pars) (fun y => okG (k + 30) y.1 ∧ okRd y.2 ∧ Sm g y.1 ∧ g.next ≤ y.1.next) := by
  have hL := LIM_eq
  have hl := hp.len
  have hs := hp.small
  unfold KM at hk
  unfold spec_l2G_call_m
  refine Run.if (fun _ => Run.mk ⟨h.mono (by omega), hr, Sm.refl _, Int.le_refl _⟩) (fun hn => Run.bind (below_run hr _) ?_)
  have hn : ¬ (rets.length : Int) = 0 := by simpa using hn
  rintro ⟨c, r1⟩ ⟨g1, g2, g3⟩
  have g3 := g3 (by omega)
  simp only at g1 g2 g3 ⊢
  have hc : 0 ≤ c ∧ c < (pars.length : Int) := by omega
  have hrow := hp.rows _ (at_mem hc)
  refine Run.bind (R := fun y => okG (k + 20) y.1 ∧ okRd y.2.1 ∧ Sm g y.1 ∧ y.2.2.length ≤ 10 ∧ g.next ≤ y.1.next ∧ inN y.1.next y.2.2) (Run.loop (fun s => okG (k + 2 * s.2.2.2.toNat) s.1 ∧ okRd s.2.1 ∧ Sm g s.1 ∧ 0 ≤ s.2.2.2 ∧ s.2.2.2 ≤ ((at_ pars c).length : Int) ∧ (s.2.2.1.length : Int) = s.2.2.2 ∧ g.next ≤ s.1.next ∧ inN s.1.next s.2.2.1) (fun s => ((at_ pars c).length - s.2.2.2).toNat) ⟨h, g1, Sm.refl _, Int.le_refl _, by simp only; omega, rfl, Int.le_refl _, by simp [inN]⟩ ?_) ?_
  · rintro ⟨ga, ra, l, i⟩ ⟨b1, b2, b3, b4, b5, b6, b7, b8⟩
    simp only at b1 b2 b3 b4 b5 b6 b7 b8 ⊢
    have hrl := hrow.1
    refine Run.yes hc (Run.if (fun hi => ?_) (fun hi => Run.out ⟨b1.mono (by omega), b2, b3, by simp only; omega, b7, b8⟩))
    have hi : i < ((at_ pars c).length : Int) := by simpa using hi
    refine Run.yes hc (Run.yes ⟨b4, hi⟩ (Run.bind (pick_run b1 b2 (by unfold KM; omega) (hrow.2 _ (at_mem ⟨b4, hi⟩))) ?_))
    rintro ⟨x, gb, rb⟩ ⟨c1, c2, c3, c4, c5, c6⟩
    simp only at c4 c5 c6
    refine Run.yes (by simp only [List.length_singleton]; omega) (Run.yes (inI_le (by omega) (by omega)) (Run.nx ⟨⟨c1.mono (by simp only; omega), c2, b3.trans c3, by simp only; omega, by simp only; omega, by simp; omega, by simp only; omega, fun z hz => ?_⟩, by simp only; omega⟩))
    rcases List.mem_append.1 hz with hz | hz
    · exact b8.mono c6 z hz
    · simp only [List.mem_singleton] at hz
      subst hz
      exact ⟨c4, c5⟩
  · rintro ⟨ga, ra, l⟩ ⟨b1, b2, b3, b4, b5, b6⟩
    simp only at b1 b2 b3 b4 b5 b6 ⊢
    refine Run.yes ⟨g2, g3⟩ (Run.bind (put_run b1 b2 (by unfold KM; omega) _ ⟨.inr ⟨by simp, by simp⟩, by simpa [opsI] using b6, b4⟩) ?_)
    rintro ⟨x, gb, rb⟩ ⟨c1, c2, c3, c4, c5⟩
    exact Run.mk ⟨c1.mono (by omega), c2, b3.trans c3, (by (try simp only at *) <;> omega)⟩
theorem some_run (h : okG k g) (hr : okRd gr) (hp : okP rets pars) {n : Int} (hn : n ≤ 10) (hk : k + 400 ≤ KM) : Run (spec_l2G_some_m g gr rets pars n) (fun y => okG (k + 400) y.1 ∧ okRd y.2 ∧ Sm g y.1 ∧ g.next ≤ y.1.next) := by
  unfold KM at hk
  unfold spec_l2G_some_m
  refine Run.bind (R := fun (y : Gl2G × Gl1Rd) => okG (k + 400) y.1 ∧ okRd y.2 ∧ Sm g y.1 ∧ g.next ≤ y.1.next) (Run.loop (fun s => okG (k + 30 * s.2.2.toNat) s.1 ∧ okRd s.2.1 ∧ Sm g s.1 ∧ 0 ≤ s.2.2 ∧ s.2.2 ≤ 10 ∧ g.next ≤ s.1.next) (fun s => (10 - s.2.2).toNat) ⟨h, hr, Sm.refl _, by simp only; omega, by simp only; omega, Int.le_refl _⟩ ?_) (fun y hy => Run.mk hy)
  rintro ⟨ga, ra, i⟩ ⟨b1, b2, b3, b4, b5, b6⟩
  simp only at b1 b2 b3 b4 b5 b6 ⊢
  refine Run.if (fun hi => ?_) (fun hi => Run.out ⟨b1.mono (by omega), b2, b3, b6⟩)
  have hi : i < n := by simp only [Bool.and_eq_true, decide_eq_true_eq] at hi; exact hi.1
  refine Run.bind (width_run b2) ?_
  rintro ⟨w, r1⟩ ⟨c1, c2⟩
  refine Run.bind (below_run c1 14) ?_
  rintro ⟨x, r2⟩ ⟨d1, d2, d3⟩
  simp only at c1 c2 d1 d2 d3 ⊢
  have fin : ∀ {m : Nat} {ga' : Gl2G} {ra' : Gl1Rd}, okG m ga' → okRd ra' → Sm ga ga' → ga.next ≤ ga'.next → m ≤ k + 30 * i.toNat + 30 → Run (if inI (i + 1) then some (Sum.inl (ga', ra', i + 1) : (Gl2G × Gl1Rd × Int) ⊕ (Gl2G × Gl1Rd)) else none)
      (LoopQ (fun s => okG (k + 30 * s.2.2.toNat) s.1 ∧ okRd s.2.1 ∧ Sm g s.1 ∧ 0 ≤ s.2.2 ∧ s.2.2 ≤ 10 ∧ g.next ≤ s.1.next) (fun s => (10 - s.2.2).toNat) ((10 - i).toNat) (fun r => okG (k + 400) r.1 ∧ okRd r.2 ∧ Sm g r.1 ∧ g.next ≤ r.1.next)) := fun k1 k2 k3 k5 k4 =>
    Run.yes (inI_le (by omega) (by omega)) (Run.nx ⟨⟨k1.mono (by simp only; omega), k2, b3.trans k3, by simp only; omega, by simp only; omega, by simp only; omega⟩, by simp only; omega⟩)
  refine Run.if (fun _ => ?_) (fun _ => Run.if (fun _ => ?_) (fun _ => Run.if (fun _ => ?_) (fun _ => Run.if (fun _ => ?_) (fun _ => Run.if (fun _ => ?_) (fun _ => Run.if (fun _ => ?_) (fun _ => Run.if (fun _ => ?_) (fun _ => Run.if (fun _ => ?_) (fun _ => Run.if (fun _ => ?_) (fun _ => ?_)))))))))
  · refine Run.bind (value_run d1 c2) ?_
    rintro ⟨v, r3⟩ e1
    refine Run.bind (put_run b1 e1 (by unfold KM; omega) _ ⟨.inr ⟨by simp, by simp⟩, by intro z hz; simp [opsI] at hz <;> (try simp only at *) <;> omega, by simp⟩) ?_
    rintro ⟨y, g4, r4⟩ ⟨f1, f2, f3, f4, f5⟩
    exact fin f1 f2 f3 (by (try simp only at *) <;> omega) (by omega)
  · refine Run.bind (pick_run b1 d1 (by unfold KM; omega) (.inl rfl)) ?_
    rintro ⟨y, g3, r3⟩ ⟨e1, e2, e3, e4, e5, e6⟩
    refine Run.bind (pick_run e1 e2 (by unfold KM; omega) c2) ?_
    rintro ⟨y, g4, r4⟩ ⟨f1, f2, f3, f4, f5, f6⟩
    refine Run.bind (pick_run f1 f2 (by unfold KM; omega) c2) ?_
    rintro ⟨y, g5, r5⟩ ⟨a1, a2, a3, a4, a5, a6⟩
    refine Run.bind (put_run a1 a2 (by unfold KM; omega) _ ⟨.inr ⟨by simp, by simp⟩, by intro z hz; simp [opsI] at hz <;> (try simp only at *) <;> omega, by simp⟩) ?_
    rintro ⟨y, g6, r6⟩ ⟨q1, q2, q3, q4, q5⟩
    exact fin q1 q2 (((e3.trans f3).trans a3).trans q3) (by (try simp only at *) <;> omega) (by omega)
  · refine Run.bind (pick_run b1 d1 (by unfold KM; omega) (.inr (.inl rfl))) ?_
    rintro ⟨y, g3, r3⟩ ⟨e1, e2, e3, e4, e5, e6⟩
    refine Run.bind (R := fun y => okG (k + 30 * i.toNat + 2 + 2) y.1 ∧ okRd y.2 ∧ Sm ga y.1 ∧ ga.next ≤ y.1.next) (Run.bind (below_run e2 2) ?_) ?_
    · rintro ⟨y1, r4⟩ ⟨f1, f2, f3⟩
      have f3 := f3 (by omega)
      refine Run.yes ⟨f2, by simpa using f3⟩ (Run.bind (below_run f1 2) ?_)
      rintro ⟨y2, r5⟩ ⟨a1, a2, a3⟩
      have a3 := a3 (by omega)
      refine Run.yes ⟨a2, by simpa using a3⟩ (Run.bind (put_run e1 a1 (by unfold KM; omega) _ ⟨.inr (by have : y1 = 0 ∨ y1 = 1 := (by simp only at f2 f3; omega); rcases this with rfl | rfl <;> simp [at_]), by have : y1 = 0 ∨ y1 = 1 := (by simp only at f2 f3; omega); rcases this with rfl | rfl <;> (intro z hz; simp [opsI, at_] at hz <;> (try simp only at *) <;> omega), by simp⟩) ?_)
      rintro ⟨y3, g6, r6⟩ ⟨q1, q2, q3, q4, q5⟩
      exact Run.mk ⟨q1, q2, e3.trans q3, (by (try simp only at *) <;> omega)⟩
    · rintro ⟨g7, r7⟩ ⟨q1, q2, q3, q4⟩
      exact fin q1 q2 q3 (by (try simp only at *) <;> omega) (by omega)
  · refine Run.bind (pick_run b1 d1 (by unfold KM; omega) (.inr (.inr (.inr rfl)))) ?_
    rintro ⟨y, g3, r3⟩ ⟨e1, e2, e3, e4, e5, e6⟩
    refine Run.bind (below_run e2 3) ?_
    rintro ⟨y1, r4⟩ ⟨f1, f2, f3⟩
    have f3 := f3 (by omega)
    refine Run.yes ⟨f2, by simpa using f3⟩ (Run.bind (put_run e1 f1 (by unfold KM; omega) _ ⟨.inr ⟨by simp, by simp⟩, by intro z hz; simp [opsI] at hz <;> (try simp only at *) <;> omega, by simp⟩) ?_)
    rintro ⟨y3, g6, r6⟩ ⟨q1, q2, q3, q4, q5⟩
    exact fin q1 q2 (e3.trans q3) (by (try simp only at *) <;> omega) (by omega)
  · refine Run.bind (below_run d1 34) ?_
    rintro ⟨y1, r4⟩ ⟨f1, f2, f3⟩
    refine Run.bind (put_run b1 f1 (by unfold KM; omega) _ ⟨.inr ⟨by simp, by simp⟩, by intro z hz; simp [opsI] at hz <;> (try simp only at *) <;> omega, by simp⟩) ?_
    rintro ⟨y3, g6, r6⟩ ⟨q1, q2, q3, q4, q5⟩
    have q4 := q4 (by simp [spec_l2Width_m, spec_l1In_m, spec_ResultWidth_m, spec_WidthOk_m])
    refine Run.bind (put_run q1 q2 (by unfold KM; omega) _ ⟨.inr ⟨by simp, by simp⟩, by intro z hz; simp [opsI] at hz <;> (try simp only at *) <;> omega, by simp⟩) ?_
    rintro ⟨y4, g7, r7⟩ ⟨e1, e2, e3, e4, e5⟩
    exact fin e1 e2 (q3.trans e3) (by (try simp only at *) <;> omega) (by omega)
  · refine Run.bind (below_run d1 33) ?_
    rintro ⟨y1, r4⟩ ⟨f1, f2, f3⟩
    refine Run.bind (put_run b1 f1 (by unfold KM; omega) _ ⟨.inr ⟨by simp, by simp⟩, by intro z hz; simp [opsI] at hz <;> (try simp only at *) <;> omega, by simp⟩) ?_
    rintro ⟨y3, g6, r6⟩ ⟨q1, q2, q3, q4, q5⟩
    have q4 := q4 (by simp [spec_l2Width_m, spec_l1In_m, spec_ResultWidth_m, spec_WidthOk_m])
    refine Run.bind (pick_run q1 q2 (by unfold KM; omega) (.inr (.inl rfl))) ?_
    rintro ⟨y5, g8, r8⟩ ⟨a1, a2, a3, a4, a5, a6⟩
    refine Run.bind (put_run a1 a2 (by unfold KM; omega) _ ⟨.inl rfl, by intro z hz; simp [opsI] at hz <;> (try simp only at *) <;> omega, by simp⟩) ?_
    rintro ⟨y4, g7, r7⟩ ⟨e1, e2, e3, e4, e5⟩
    exact fin e1 e2 ((q3.trans a3).trans e3) (by (try simp only at *) <;> omega) (by omega)
  · refine Run.bind (pick_run b1 d1 (by unfold KM; omega) c2) ?_
    rintro ⟨y, g3, r3⟩ ⟨e1, e2, e3, e4, e5, e6⟩
    refine Run.bind (put_run e1 e2 (by unfold KM; omega) _ ⟨.inl rfl, by intro z hz; simp [opsI] at hz <;> (try simp only at *) <;> omega, by simp⟩) ?_
    rintro ⟨y3, g6, r6⟩ ⟨q1, q2, q3, q4, q5⟩
    exact fin q1 q2 (e3.trans q3) (by (try simp only at *) <;> omega) (by omega)
  · refine Run.bind (pick_run b1 d1 (by unfold KM; omega) c2) ?_
    rintro ⟨y, g3, r3⟩ ⟨e1, e2, e3, e4, e5, e6⟩
    refine Run.bind (put_run e1 e2 (by unfold KM; omega) _ ⟨.inr ⟨by simp, by simp⟩, by intro z hz; simp [opsI] at hz <;> (try simp only at *) <;> omega, by simp⟩) ?_
    rintro ⟨y3, g6, r6⟩ ⟨q1, q2, q3, q4, q5⟩
    exact fin q1 q2 (e3.trans q3) (by (try simp only at *) <;> omega) (by omega)
  · refine Run.bind (call_run b1 d1 hp (by unfold KM; omega)) ?_
    rintro ⟨g6, r6⟩ ⟨q1, q2, q3, q4⟩
    exact fin q1 q2 q3 (by (try simp only at *) <;> omega) (by omega)
  · refine Run.bind (pick_run b1 d1 (by unfold KM; omega) c2) ?_
    rintro ⟨y, g3, r3⟩ ⟨e1, e2, e3, e4, e5, e6⟩
    refine Run.bind (pick_run e1 e2 (by unfold KM; omega) c2) ?_
    rintro ⟨y, g4, r4⟩ ⟨f1, f2, f3, f4, f5, f6⟩
    refine Run.bind (below_run f2 17) ?_
    rintro ⟨y1, r5⟩ ⟨a1, a2, a3⟩
    have a3 := a3 (by omega)
    simp only at a1 a2 a3 ⊢
    refine Run.yes (inI_le (by omega) (by omega)) (Run.bind (put_run f1 a1 (by unfold KM; omega) _ ⟨.inr ⟨by simp only; omega, by simp only; omega⟩, by intro z hz; simp only [opsI] at hz; rw [if_pos (.inl ⟨by omega, by omega⟩)] at hz; simp at hz; (try simp only at *); omega, by simp⟩) ?_)
    rintro ⟨y3, g6, r6⟩ ⟨q1, q2, q3, q4, q5⟩
    exact fin q1 q2 ((e3.trans f3).trans q3) (by (try simp only at *) <;> omega) (by omega)
theorem ends_run (h : okG k g) (hr : okRd gr) (hk : k + 10 ≤ KM) : Run (spec_l2G_ends_m g gr rets pars) (fun y => okG (k + 10) y.1 ∧ okRd y.2 ∧ y.1.f.params = g.f.params ∧ 0 < y.1.f.blocks.length ∧ y.1.b.phis = [] ∧ y.1.b.insts = []) := by
  unfold KM at hk
  unfold spec_l2G_ends_m
  refine Run.bind (once_run hr (inI_le (by omega) (by omega))) ?_
  rintro ⟨b, r1⟩ e1
  refine Run.if (fun _ => Run.bind (close_run h e1 (by unfold KM; omega) _ (by intro ht; simp at ht)) ?_) (fun _ => Run.bind (pick_run h e1 (by unfold KM; omega) h.ret) ?_)
  · rintro ⟨g2, r2⟩ ⟨a1, a2, a5, a4, a6, a7, a8⟩
    exact Run.mk ⟨a1.mono (by omega), a2, a4, by simp only at a5 ⊢; rw [a5]; simp, a6, a8⟩
  · rintro ⟨y, g2, r2⟩ ⟨a1, a2, a3, a4, a5, a6⟩
    refine Run.bind (close_run a1 a2 (by unfold KM; omega) _ (fun _ => ⟨a4, a5⟩)) ?_
    rintro ⟨g3, r3⟩ ⟨b1, b2, b5, b4, b6, b7, b8⟩
    exact Run.mk ⟨b1.mono (by omega), b2, b4.trans (congrArg GFunc.params a3.1), by simp only at b5 ⊢; rw [b5]; simp, b6, b8⟩
theorem okG.put {ids ws : List Int} {k' : Nat} {g' : Gl2G} (h : okG k g) (h' : okG k' g') (hk : k ≤ k') (hn : g.next ≤ g'.next) : okG k' ({ f := g'.f, b := g'.b, next := g'.next, ids := g.ids, ws := g.ws } : Gl2G) :=
  ⟨Nat.le_trans h.ids hk, h.ws, h'.n0, h'.n1, h'.insts, h'.phis, h'.blocks, h'.params, h'.pw, h'.ret, h'.rows, h'.cur, h'.okbs, h.idsIn.mono hn, h'.nx⟩
theorem fork_run (h : okG k g) (hr : okRd gr) (hp : okP rets pars) (hk : k + 1000 ≤ KM) : Run (spec_l2G_fork_m g gr rets pars) (fun y => okG (k + 1000) y.1 ∧ okRd y.2 ∧ y.1.f.params = g.f.params ∧ g.next ≤ y.1.next) := by
  unfold KM at hk
  unfold spec_l2G_fork_m
  refine Run.bind (pick_run h hr (by unfold KM; omega) (.inl rfl)) ?_
  rintro ⟨c, g1, r1⟩ ⟨a1, a2, a3, a4, a5, a6⟩
  refine Run.bind (close_run a1 a2 (by unfold KM; omega) _ (fun _ => ⟨a4, a5⟩)) ?_
  rintro ⟨g2, r2⟩ ⟨b1, b2, _, b4, _, b6, _⟩
  refine Run.bind (below_run b2 3) ?_
  rintro ⟨n1, r3⟩ ⟨c1, c2, c3⟩
  have c3 := c3 (by omega)
  refine Run.bind (some_run b1 c1 hp (by simp only at c3 ⊢; omega) (by unfold KM; omega)) ?_
  rintro ⟨g4, r4⟩ ⟨d1, d2, d3, d4⟩
  refine Run.bind (width_run d2) ?_
  rintro ⟨w, r5⟩ ⟨e1, e2⟩
  refine Run.bind (pick_run d1 e1 (by unfold KM; omega) e2) ?_
  rintro ⟨x6, g6, r6⟩ ⟨f1, f2, f3, f4, f5, f6⟩
  refine Run.bind (pick_run f1 f2 (by unfold KM; omega) (.inr (.inl rfl))) ?_
  rintro ⟨x7, g7, r7⟩ ⟨p1, p2, p3, p4, p5, p6⟩
  refine Run.bind (close_run p1 p2 (by unfold KM; omega) _ (by intro ht; simp at ht)) ?_
  rintro ⟨g8, r8⟩ ⟨q1, q2, _, q4, _, q6, _⟩
  refine Run.bind (below_run q2 3) ?_
  rintro ⟨n2, r9⟩ ⟨s1, s2, s3⟩
  have s3 := s3 (by omega)
  refine Run.bind (some_run (b1.put (ids := []) (ws := []) q1 (by omega) (by (try simp only at *) <;> omega)) s1 hp (by simp only at s3 ⊢; omega) (by unfold KM; omega)) ?_
  rintro ⟨g10, r10⟩ ⟨t1, t2, t3, t4⟩
  refine Run.bind (pick_run t1 t2 (by unfold KM; omega) e2) ?_
  rintro ⟨x11, g11, r11⟩ ⟨u1, u2, u3, u4, u5, u6⟩
  refine Run.bind (pick_run u1 u2 (by unfold KM; omega) (.inr (.inl rfl))) ?_
  rintro ⟨x12, g12, r12⟩ ⟨v1, v2, v3, v4, v5, v6⟩
  refine Run.bind (close_run v1 v2 (by unfold KM; omega) _ (by intro ht; simp at ht)) ?_
  rintro ⟨g13, r13⟩ ⟨w1, w2, _, w4, _, w6, _⟩
  refine Run.bind (phi_run (b1.put (ids := []) (ws := []) w1 (by omega) (by (try simp only at *) <;> omega)) w2 (by unfold KM; omega) _ _ (by intro z hz; simp at hz; (try simp only at *) <;> omega) (by simp)) ?_
  rintro ⟨x14, g14, r14⟩ ⟨y1, y2, y3, y4, y5, y6, y7⟩
  refine Run.bind (phi_run y1 y2 (by unfold KM; omega) _ _ (by intro z hz; simp at hz; (try simp only at *) <;> omega) (by simp)) ?_
  rintro ⟨x15, g15, r15⟩ ⟨z1, z2, z3, z4, z5, z6, z7⟩
  refine Run.mk ⟨z1.mono (by omega), z2, ?_, (by (try simp only at *) <;> omega)⟩
  have e1 := congrArg GFunc.params a3.1
  have e2 := congrArg GFunc.params d3.1
  have e3 := congrArg GFunc.params f3.1
  have e4' := congrArg GFunc.params p3.1
  have e5' := congrArg GFunc.params t3.1
  have e6' := congrArg GFunc.params u3.1
  have e7 := congrArg GFunc.params v3.1
  have e8 := congrArg GFunc.params y3
  have e9 := congrArg GFunc.params z3
  simp only at e1 e2 e3 e4' e5' e6' e7 e8 e9 b4 q4 w4 ⊢
  rw [e9, e8, w4, e7, e6', e5', q4, e4', e3, e2, b4, e1]
theorem at_mid (l : List GBlock) (a b c : GBlock) : at_ (((l ++ [a]) ++ [b]) ++ [c]) ((l.length : Int) + 1) = b := by
  have e : ((l.length : Int) + 1) = ((l.length + 1 : Nat) : Int) := by omega
  rw [e, at_nat (by simp)]
  simp [List.getElem_append]
theorem at_set_self {α : Type} [Inhabited α] {xs : List α} {n : Int} (h : 0 ≤ n ∧ n < (xs.length : Int)) (x : α) : at_ (xs.set n.toNat x) n = x := by
  obtain ⟨m, rfl⟩ := Int.eq_ofNat_of_zero_le h.1
  rw [at_nat (by simp; omega)]
  simp
theorem sumz_set {bs : List GBlock} {n : Int} (h : 0 ≤ n ∧ n < (bs.length : Int)) {x : GBlock} (hx : sz x = sz (at_ bs n)) : sumz (bs.set n.toNat x) = sumz bs := by
  obtain ⟨m, rfl⟩ := Int.eq_ofNat_of_zero_le h.1
  have hm : m < bs.length := by omega
  rw [at_nat hm] at hx
  simp only [Int.toNat_natCast, sumz]
  clear h
  induction bs generalizing m with
  | nil => simp at hm
  | cons b bs ih =>
    cases m with
    | zero => simp at hx; simp [hx]
    | succ m =>
      simp only [List.set_cons_succ, List.map_cons, List.sum_cons]
      rw [ih m (by simpa using hm) (by simpa using hx)]
theorem loop_run (h : okG k g) (hr : okRd gr) (hp : okP rets pars) (hk : k + 1000 ≤ KM) : Run (spec_l2G_loop_m g gr rets pars) (fun y => okG (k + 1000) y.1 ∧ okRd y.2 ∧ y.1.f.params = g.f.params ∧ g.next ≤ y.1.next) := by
  unfold KM at hk
  unfold spec_l2G_loop_m
  refine Run.bind (below_run hr 5) ?_
  rintro ⟨x1, r1⟩ ⟨a1, _, _⟩
  refine Run.bind (put_run h a1 (by unfold KM; omega) _ ⟨.inr ⟨by simp, by simp⟩, by intro z hz; simp [opsI] at hz <;> (try simp only at *) <;> omega, by simp⟩) ?_
  rintro ⟨x2, g2, r2⟩ ⟨b1, b2, b3, b4, b5⟩
  have b4 := b4 (by simp [spec_l2Width_m, spec_l1In_m, spec_ResultWidth_m, spec_WidthOk_m])
  refine Run.bind (width_run b2) ?_
  rintro ⟨w, r3⟩ ⟨c1, c2⟩
  refine Run.bind (pick_run b1 c1 (by unfold KM; omega) c2) ?_
  rintro ⟨x4, g4, r4⟩ ⟨d1, d2, d3, d4, d5, d6⟩
  refine Run.bind (close_run d1 d2 (by unfold KM; omega) _ (by intro ht; simp at ht)) ?_
  rintro ⟨g5, r5⟩ ⟨e1, e2, e3, e4, e5, e6, _⟩
  refine Run.bind (phi_run e1 e2 (by unfold KM; omega) _ _ (by intro z hz; simp at hz; (try simp only at *) <;> omega) (by simp)) ?_
  rintro ⟨x6, g6, r6⟩ ⟨f1, f2, f3, f4, f5, f6, f7⟩
  refine Run.bind (phi_run f1 f2 (by unfold KM; omega) _ _ (by intro z hz; simp at hz; (try simp only at *) <;> omega) (by simp)) ?_
  rintro ⟨x7, g7, r7⟩ ⟨p1, p2, p3, p4, p5, p6, p7⟩
  refine Run.bind (put_run p1 p2 (by unfold KM; omega) _ ⟨.inr ⟨by simp, by simp⟩, by intro z hz; simp [opsI] at hz <;> (try simp only at *) <;> omega, by simp⟩) ?_
  rintro ⟨x8, g8, r8⟩ ⟨q1, q2, q3, q4, q5⟩
  have q4 := q4 (by simp [spec_l2Width_m, spec_l1In_m, spec_ResultWidth_m, spec_WidthOk_m])
  refine Run.bind (put_run q1 q2 (by unfold KM; omega) _ ⟨.inr ⟨by simp, by simp⟩, by intro z hz; simp [opsI] at hz <;> (try simp only at *) <;> omega, by simp⟩) ?_
  rintro ⟨x9, g9, r9⟩ ⟨s1, s2, s3, s4, s5⟩
  have s4 := s4 (by simp [spec_l2Width_m, spec_l1In_m, spec_ResultWidth_m, spec_WidthOk_m])
  refine Run.bind (close_run s1 s2 (by unfold KM; omega) _ (fun _ => s4)) ?_
  rintro ⟨g10, r10⟩ ⟨t1, t2, t3, t4, t5, t6, _⟩
  refine Run.bind (put_run t1 t2 (by unfold KM; omega) _ ⟨.inr ⟨by simp, by simp⟩, by intro z hz; simp [opsI] at hz <;> (try simp only at *) <;> omega, by simp⟩) ?_
  rintro ⟨x11, g11, r11⟩ ⟨u1, u2, u3, u4, u5⟩
  have u4 := u4 (by simp [spec_l2Width_m, spec_l1In_m, spec_ResultWidth_m, spec_WidthOk_m])
  refine Run.bind (put_run u1 u2 (by unfold KM; omega) _ ⟨.inr ⟨by simp, by simp⟩, by intro z hz; simp [opsI] at hz <;> (try simp only at *) <;> omega, by simp⟩) ?_
  rintro ⟨x12, g12, r12⟩ ⟨v1, v2, v3, v4, v5⟩
  have v4 := v4 (by simp [spec_l2Width_m, spec_l1In_m, spec_ResultWidth_m, spec_WidthOk_m])
  refine Run.bind (below_run v2 3) ?_
  rintro ⟨n13, r13⟩ ⟨w1, w2, w3⟩
  have w3 := w3 (by omega)
  refine Run.bind (some_run v1 w1 hp (by simp only at w3 ⊢; omega) (by unfold KM; omega)) ?_
  rintro ⟨g14, r14⟩ ⟨y1, y2, y3, y4⟩
  refine Run.bind (pick_run y1 y2 (by unfold KM; omega) c2) ?_
  rintro ⟨x15, g15, r15⟩ ⟨z1, z2, z3, z4, z5, z6⟩
  refine Run.bind (R := fun (y : Gl2G × Gl1Rd × Int) => okG (k + 500) y.1 ∧ okRd y.2.1 ∧ Sm g15 y.1 ∧ 0 ≤ y.2.2 ∧ y.2.2 < y.1.next ∧ g15.next ≤ y.1.next) (Run.if (fun _ => Run.bind (put_run z1 z2 (by unfold KM; omega) _ ⟨.inr ⟨by simp, by simp⟩, by intro z hz; simp [opsI] at hz <;> (try simp only at *) <;> omega, by simp⟩) ?_) (fun _ => Run.mk ⟨z1.mono (by omega), z2, Sm.refl _, z4, z5, Int.le_refl _⟩)) ?_
  · rintro ⟨x16, g16, r16⟩ ⟨j1, j2, j3, j4, j5⟩
    have j4 := j4 (by rcases c2 with h | h | h | h <;> simp only at h <;> simp [h, spec_l2Width_m, spec_l1In_m, spec_ResultWidth_m, spec_WidthOk_m])
    exact Run.mk ⟨j1.mono (by omega), j2, j3, j4.1, j4.2, j5⟩
  rintro ⟨g16, r16, x16⟩ ⟨j1, j2, j3, j4, j5, j6⟩
  refine Run.bind (close_run j1 j2 (by unfold KM; omega) _ (by intro ht; simp at ht)) ?_
  rintro ⟨g17, r17⟩ ⟨k1, k2, k3, k4, k5, k6, _⟩
  simp only at *
  have hb10 : g10.f.blocks = (g.f.blocks ++ [⟨g4.b.phis, g4.b.insts, { kind := 2, a := 0, x := (g.f.blocks.length : Int) + 1, y := 0 }⟩]) ++ [⟨[⟨8, [x2, 0]⟩, ⟨w, [x4, 0]⟩], g9.b.insts, { kind := 3, a := x9, x := (g.f.blocks.length : Int) + 2, y := (g.f.blocks.length : Int) + 3 }⟩] := by
    rw [t3, s3.1, q3.1, p3, f3, e3, d3.1, b3.1, s3.2, q3.2, p4, f4, e5]
    rfl
  have hb17 : g17.f.blocks = (((g.f.blocks ++ [⟨g4.b.phis, g4.b.insts, { kind := 2, a := 0, x := (g.f.blocks.length : Int) + 1, y := 0 }⟩]) ++ [⟨[⟨8, [x2, 0]⟩, ⟨w, [x4, 0]⟩], g9.b.insts, { kind := 3, a := x9, x := (g.f.blocks.length : Int) + 2, y := (g.f.blocks.length : Int) + 3 }⟩]) ++ [⟨g16.b.phis, g16.b.insts, { kind := 2, a := 0, x := (g.f.blocks.length : Int) + 1, y := 0 }⟩]) := by
    rw [k3, j3.1, z3.1, y3.1, v3.1, u3.1, hb10]
  have hat : at_ g17.f.blocks ((g.f.blocks.length : Int) + 1) = ⟨[⟨8, [x2, 0]⟩, ⟨w, [x4, 0]⟩], g9.b.insts, { kind := 3, a := x9, x := (g.f.blocks.length : Int) + 2, y := (g.f.blocks.length : Int) + 3 }⟩ := by rw [hb17]; exact at_mid _ _ _ _
  have hlt : 0 ≤ (g.f.blocks.length : Int) + 1 ∧ (g.f.blocks.length : Int) + 1 < (g17.f.blocks.length : Int) := by rw [hb17]; simp; omega
  have hpar : g17.f.params = g.f.params := by
    rw [k4, j3.1, z3.1, y3.1, v3.1, u3.1, t4, s3.1, q3.1, p3, f3, e4, d3.1, b3.1]
  have hi9 := s1.insts
  have hid := t1.ids
  have hws := t1.ws
  have hidn := t1.idsIn
  obtain ⟨h1, h2, h3, h4, h5, h6, h7, h8, h9, h10, h11, h12, h13, h14, h15⟩ := k1
  have hold := h13 _ (at_mem hlt)
  rw [hat] at hold
  simp only [hat]
  refine Run.yes hlt (Run.yes (by simp) (Run.yes (by simp [at_]) (Run.yes (by simpa using hlt) ?_)))
  simp only [at_set_self hlt]
  refine Run.yes (by simp) (Run.yes (by simp [at_]) (Run.mk ⟨?_, k2, ?_, ?_⟩))
  rotate_left
  · exact hpar
  · simp only
    omega
  refine ⟨by simp only; omega, hws, by simp only; omega, by simp only; omega, by simp only; omega, by simp only; omega, by simp; omega, by simp only; omega, h9, h10, fun b hb => ?_, h12, fun b hb => ?_, hidn.mono (by simp only; omega), ?_⟩
  · rcases List.mem_or_eq_of_mem_set hb with hb | rfl
    · rcases List.mem_or_eq_of_mem_set hb with hb | rfl
      · exact ⟨by have := (h11 b hb).1; omega, by have := (h11 b hb).2; omega⟩
      · exact ⟨by simp, by simp only; omega⟩
    · exact ⟨by simp, by simp only; omega⟩
  · rcases List.mem_or_eq_of_mem_set hb with hb | rfl
    · rcases List.mem_or_eq_of_mem_set hb with hb | rfl
      · exact h13 b hb
      · refine ⟨⟨?_, hold.1.is⟩, hold.2⟩
        simp [okPn, inN, at_]
        omega
    · refine ⟨⟨?_, hold.1.is⟩, hold.2⟩
      simp [okPn, inN, at_]
      omega
  · rw [List.set_set, sumz_set hlt (by rw [hat]; simp [sz])]
    exact h15
end
/-- A drawn function is small. -/
structure okFn (f : GFunc) : Prop where
  okbs : ∀ b ∈ f.blocks, okBl (cnt f) b
  params : f.params.length ≤ 10
  pw : ∀ w ∈ f.params, isW w
  ret : isW f.ret
  blocks : f.blocks.length ≤ 100000
  ne : 0 < f.blocks.length
  rows : ∀ b ∈ f.blocks, b.phis.length ≤ 100000 ∧ b.insts.length ≤ 100000
theorem fn_run {r : Gl1Rd} {rets : List Int} {pars : List (List Int)} (hr : okRd r) (hp : okP rets pars) : Run (spec_l1Rd_fn_m r rets pars) (fun y => okFn y.1 ∧ okRd y.2) := by
  have hL := LIM_eq
  unfold spec_l1Rd_fn_m
  refine Run.bind (width_run hr) ?_
  rintro ⟨w, r1⟩ ⟨a1, a2⟩
  refine Run.bind (below_run a1 3) ?_
  rintro ⟨n, r2⟩ ⟨b1, b2, b3⟩
  have b3 := b3 (by omega)
  simp only at a1 a2 b1 b2 b3 ⊢
  refine Run.bind (R := fun y => okRd y.1 ∧ okG 10 y.2) (Run.loop (fun s => okRd s.1 ∧ okG (2 * (n - s.2.2).toNat) s.2.1 ∧ 0 ≤ s.2.2 ∧ s.2.2 ≤ n) (fun s => s.2.2.toNat) ⟨b1, ?_, b2, Int.le_refl _⟩ ?_) ?_
  · exact ⟨by simp, rfl, Int.le_refl _, by simp only; omega, by simp, by simp, by simp, by simp, by simp, a2, by simp, ⟨by simp, by simp⟩, by simp, by simp [inN], by simp [sumz]⟩
  · rintro ⟨ra, ga, i⟩ ⟨c1, c2, c3, c4⟩
    simp only at c1 c2 c3 c4 ⊢
    refine Run.if (fun hi => ?_) (fun hi => Run.out ⟨c1, c2.mono (by omega)⟩)
    have hi : i > 0 := by simpa using hi
    refine Run.bind (width_run c1) ?_
    rintro ⟨v, rb⟩ ⟨d1, d2⟩
    have hcp := c2.params
    refine Run.yes (by simp only [List.length_singleton]; omega) (Run.bind (add_run (k := 2 * (n - i).toNat + 1) ?_ (by unfold KM; omega) _) ?_)
    · obtain ⟨h1, h2, h3, h4, h5, h6, h7, h8, h9, h10, h11, h12, h13, h14, h15⟩ := c2
      refine ⟨by simp only; omega, h2, by simp only; omega, by simp only; omega, by simp only; omega, by simp only; omega, by simp only; omega, by simp; omega, fun x hx => ?_, h10, fun b hb => ⟨by have := (h11 b hb).1; omega, by have := (h11 b hb).2; omega⟩, h12.mono (by simp only; omega), fun b hb => (h13 b hb).mono (by simp only; omega), h14, by simp; omega⟩
      rcases List.mem_append.1 hx with hx | hx
      · exact h9 x hx
      · simp only [List.mem_singleton] at hx
        subst hx
        exact d2
    · rintro ⟨x, gb, rc⟩ ⟨e1, rfl, _, _, _, _⟩
      exact Run.yes (inI_le (by omega) (by omega)) (Run.nx ⟨⟨d1, e1.mono (by simp only; omega), by simp only; omega, by simp only; omega⟩, by simp only; omega⟩)
  rintro ⟨r3, g3⟩ ⟨c1, c2⟩
  have hpl := c2.params
  have hpw := c2.pw
  simp only at hpl hpw c1 c2 ⊢
  refine Run.bind (below_run c1 5) ?_
  rintro ⟨n4, r4⟩ ⟨d1, d2, d3⟩
  have d3 := d3 (by omega)
  simp only at d1 d2 d3 ⊢
  refine Run.yes (inI_le (by omega) (by omega)) (Run.bind (some_run c2 d1 hp (by omega) (by unfold KM; omega)) ?_)
  rintro ⟨g5, r5⟩ ⟨e1, e2, e3, _⟩
  have q5 := congrArg GFunc.params e3.1
  simp only at q5
  refine Run.bind (R := fun y => okG 5000 y.2 ∧ okRd y.1 ∧ y.2.f.params = g3.f.params) (Run.bind (below_run e2 4) ?_) ?_
  · rintro ⟨n6, r6⟩ ⟨f1, f2, f3⟩
    refine Run.if (fun _ => Run.bind (fork_run e1 f1 hp (by unfold KM; omega)) ?_) (fun _ => Run.if (fun _ => Run.bind (loop_run e1 f1 hp (by unfold KM; omega)) ?_) (fun _ => Run.if (fun _ => Run.bind (fork_run e1 f1 hp (by unfold KM; omega)) ?_) (fun _ => Run.mk ⟨e1.mono (by omega), f1, q5⟩)))
    · rintro ⟨g7, r7⟩ ⟨p1, p2, p3, _⟩
      exact Run.mk ⟨p1.mono (by omega), p2, p3.trans q5⟩
    · rintro ⟨g7, r7⟩ ⟨p1, p2, p3, _⟩
      exact Run.mk ⟨p1.mono (by omega), p2, p3.trans q5⟩
    · rintro ⟨g7, r7⟩ ⟨p1, p2, p3, _⟩
      refine Run.bind (below_run p2 3) ?_
      rintro ⟨n8, r8⟩ ⟨s1, s2, s3⟩
      have s3 := s3 (by omega)
      refine Run.bind (some_run p1 s1 hp (by simp only at s3 ⊢; omega) (by unfold KM; omega)) ?_
      rintro ⟨g9, r9⟩ ⟨t1, t2, t3, _⟩
      refine Run.bind (loop_run t1 t2 hp (by unfold KM; omega)) ?_
      rintro ⟨g10, r10⟩ ⟨u1, u2, u3, _⟩
      exact Run.mk ⟨u1.mono (by omega), u2, u3.trans ((congrArg GFunc.params t3.1).trans (p3.trans q5))⟩
  rintro ⟨r11, g11⟩ ⟨p1, p2, p3⟩
  refine Run.bind (below_run p2 3) ?_
  rintro ⟨n12, r12⟩ ⟨s1, s2, s3⟩
  have s3 := s3 (by omega)
  refine Run.bind (some_run p1 s1 hp (by simp only at s3 ⊢; omega) (by unfold KM; omega)) ?_
  rintro ⟨g13, r13⟩ ⟨t1, t2, t3, _⟩
  refine Run.bind (ends_run t1 t2 (by unfold KM; omega)) ?_
  rintro ⟨g14, r14⟩ ⟨u1, u2, u3, u4, u5, u6⟩
  have q : g14.f.params = g3.f.params := u3.trans ((congrArg GFunc.params t3.1).trans p3)
  have hc : g14.next = (cnt g14.f : Int) := by
    have := u1.nx
    simp only at u5 u6 this
    rw [u5, u6] at this
    simp only [List.length_nil] at this
    unfold cnt
    omega
  have hb : ∀ b ∈ g14.f.blocks, okBl (cnt g14.f) b := fun b hb => (u1.okbs b hb).mono (by simp only; omega)
  refine Run.mk ⟨⟨hb, ?_, ?_, u1.ret, Nat.le_trans u1.blocks (by omega), u4, fun b hb => ⟨Nat.le_trans (u1.rows b hb).1 (by omega), Nat.le_trans (u1.rows b hb).2 (by omega)⟩⟩, u2⟩
  · simp only
    rw [q]
    exact hpl
  · simp only
    rw [q]
    exact hpw
end Go.Proofs.Ytmckcjoacfekcaa.AM

namespace Go.Proofs.Ytmckcjoacfekcaa.AM
open Go
set_option linter.unusedSimpArgs false
set_option linter.unusedVariables false
def pre (f : GFunc) (k : Nat) : Nat := f.params.length + sumz (f.blocks.take k)
theorem pre_succ {f : GFunc} {k : Nat} (h : k < f.blocks.length) : pre f (k + 1) = pre f k + sz (at_ f.blocks (k : Int)) := by
  unfold pre sumz
  rw [at_nat h, List.take_add_one, List.getElem?_eq_getElem h, List.map_append, List.sum_append]
  simp only [Option.toList, List.map_cons, List.map_nil, List.sum_cons, List.sum_nil]
  omega
theorem sumz_le {bs : List GBlock} {n : Nat} (h : ∀ b ∈ bs, sz b ≤ n) : sumz bs ≤ bs.length * n := by
  induction bs with
  | nil => simp [sumz]
  | cons b bs ih =>
    have h1 := ih (fun c hc => h c (List.mem_cons_of_mem _ hc))
    have h2 := h b (List.mem_cons_self ..)
    unfold sumz at h1 ⊢
    simp only [List.map_cons, List.sum_cons, List.length_cons, Nat.add_mul]
    omega
theorem okFn.szle {f : GFunc} (h : okFn f) : ∀ b ∈ f.blocks, sz b ≤ 200000 := fun b hb => by
  have := h.rows b hb
  unfold sz
  omega
theorem okFn.pre_le {f : GFunc} (h : okFn f) (k : Nat) : pre f k ≤ 100000000000 := by
  have h1 := sumz_le (bs := f.blocks.take k) (n := 200000) (fun b hb => h.szle b (List.mem_of_mem_take hb))
  have h2 := h.blocks
  have h3 := h.params
  have h4 : (f.blocks.take k).length ≤ 100000 := by rw [List.length_take]; omega
  have h5 : (f.blocks.take k).length * 200000 ≤ 100000 * 200000 := Nat.mul_le_mul_right _ h4
  unfold pre
  omega
theorem pre_all (f : GFunc) : pre f f.blocks.length = cnt f := by
  unfold pre cnt
  rw [List.take_length]
theorem spec_count {f : GFunc} (h : okFn f) : spec_CountOf_m f = some (cnt f : Int) := by
  unfold spec_CountOf_m
  generalize hB : loopO _ _ = L
  have hb := h.blocks
  rw [loop_cnt hB (fun k => ((pre f k : Int), (k : Int))) f.blocks.length (cnt f : Int) ?_ ?_ ?_]
  · rfl
  · simp [pre, sumz]
  · intro k hk
    have h0 : 0 ≤ (k : Int) ∧ (k : Int) < (f.blocks.length : Int) := by omega
    have h1 := h.rows _ (at_mem h0)
    have h2 := h.pre_le k
    have e : ((at_ f.blocks (k : Int)).phis.length : Int) + ((at_ f.blocks (k : Int)).insts.length : Int) = (sz (at_ f.blocks (k : Int)) : Int) := by simp [sz]
    have h3 := h.szle _ (at_mem h0)
    simp only
    rw [if_pos (by simp; omega), if_pos h0, if_pos h0, if_pos (inI_le (by omega) (by omega)), e, wrap_in (n := (sz _ : Int)) (by omega) (by omega), wrap_in (by omega) (by omega), pre_succ hk]
    simp
  · simp only
    rw [if_neg (by simp), pre_all]
theorem impl_count {f : GFunc} (h : okFn f) : impl_CountOf_m f = some (cnt f : Int) := by
  unfold impl_CountOf_m
  generalize hB : loopO _ _ = L
  have hb := h.blocks
  rw [loop_cnt hB (fun k => ((k : Int), (pre f k : Int))) f.blocks.length (cnt f : Int) ?_ ?_ ?_]
  · rfl
  · simp [pre, sumz]
  · intro k hk
    have h0 : 0 ≤ (k : Int) ∧ (k : Int) < (f.blocks.length : Int) := by omega
    have h1 := h.rows _ (at_mem h0)
    have h2 := h.pre_le k
    have e : ((at_ f.blocks (k : Int)).phis.length : Int) + ((at_ f.blocks (k : Int)).insts.length : Int) = (sz (at_ f.blocks (k : Int)) : Int) := by simp [sz]
    have h3 := h.szle _ (at_mem h0)
    simp only
    rw [if_pos (by simp; omega), if_pos h0, e, if_pos (inI_le (by omega) (by omega)), if_pos (inI_le (by omega) (by omega)), pre_succ hk]
    simp
  · simp only
    rw [if_neg (by simp), pre_all]
/-- A function of a drawn module. -/
structure okF (f : GFunc) : Prop where
  ok : okFn f
  nb : f.blocks.length ≤ 10
  nv : cnt f ≤ 60
theorem okF_small : okF { params := ([] : List Int), ret := 8, blocks := [({ phis := ([] : List GPhi), insts := [({ op_ := 21, w := 8, a := 0, b := 0, c := 0, imm := 7, args := ([] : List Int) } : GInst)], term := (({ kind := 1, a := 0, x := 0, y := 0 } : GTerm)) } : GBlock)] } := by
  refine ⟨⟨?_, by simp, by simp, .inr (.inl rfl), by simp, by simp, by simp⟩, by simp, by simp [cnt, sumz, sz]⟩
  intro b hb
  simp only [List.mem_singleton] at hb
  subst hb
  refine ⟨⟨by simp, fun i hi => ?_⟩, fun _ => by simp [cnt, sumz, sz]⟩
  simp only [List.mem_singleton] at hi
  subst hi
  exact ⟨.inr ⟨by simp, by simp⟩, by simp [inN, opsI], by simp⟩
theorem module_run {r : Gl1Rd} (hr : okRd r) : Run (spec_l1Rd_module_m r) (fun y => okRd y.2 ∧ 0 < y.1.funcs.length ∧ y.1.funcs.length ≤ 2 ∧ ∀ f ∈ y.1.funcs, okF f) := by
  have hL := LIM_eq
  unfold spec_l1Rd_module_m
  refine Run.bind (below_run hr 2) ?_
  rintro ⟨n, r1⟩ ⟨a1, a2, a3⟩
  have a3 := a3 (by omega)
  simp only at a1 a2 a3 ⊢
  refine Run.yes (inI_le (by omega) (by omega)) (Run.bind (R := fun y => okRd y.1 ∧ 0 < y.2.length ∧ y.2.length ≤ 2 ∧ ∀ f ∈ y.2, okF f) (Run.loop (fun s => okRd s.1 ∧ ((s.2.1.length : Int) + s.2.2.2.2 = 1 + n) ∧ 0 ≤ s.2.2.2.2 ∧ s.2.2.1.length = s.2.1.length ∧ okP s.2.2.1 s.2.2.2.1 ∧ ∀ f ∈ s.2.1, okF f) (fun s => s.2.2.2.2.toNat) ⟨a1, by simp, by simp only; omega, rfl, ⟨rfl, by simp, by simp, by simp⟩, by simp⟩ ?_) ?_)
  · rintro ⟨ra, fs, rets, pars, i⟩ ⟨b1, b2, b3, b4, b5, b6⟩
    simp only at b1 b2 b3 b4 b5 b6 ⊢
    refine Run.if (fun hi => ?_) (fun hi => Run.out ⟨b1, ?_, ?_, b6⟩)
    · have hi : i > 0 := by simpa using hi
      refine Run.bind (fn_run b1 b5) ?_
      rintro ⟨f, rb⟩ ⟨c1, c2⟩
      simp only at c1 c2 ⊢
      refine Run.bind (R := okF) (Run.bind (R := fun b => b = false → okF f) (Run.bind (R := fun x => x = (cnt f : Int)) ⟨_, spec_count c1, rfl⟩ ?_) ?_) ?_
      · rintro x rfl
        refine Run.if (fun _ => Run.mk (fun h => by cases h)) (fun hx => Run.mk (fun h => ?_))
        have hx : ¬ (cnt f : Int) > 60 := by simpa using hx
        have h : ¬ (f.blocks.length : Int) > 10 := by simpa using h
        exact ⟨c1, by omega, by omega⟩
      · intro b hb
        refine Run.if (fun _ => Run.mk okF_small) (fun h => Run.mk (hb (by simpa using h)))
      · intro g hg
        have hp := b5.len
        refine Run.yes (by simp only [List.length_singleton]; omega) (Run.yes (by simp only [List.length_singleton]; omega) (Run.yes (by simp only [List.length_singleton]; omega) (Run.yes (inI_le (by omega) (by omega)) (Run.nx ⟨⟨c2, by simp; omega, by simp only; omega, by simp; omega, ⟨by simp; omega, by simp; omega, ?_, ?_⟩, ?_⟩, by simp only; omega⟩))))
        · intro w hw
          rcases List.mem_append.1 hw with hw | hw
          · exact b5.rw_ w hw
          · simp only [List.mem_singleton] at hw
            subst hw
            exact hg.ok.ret
        · intro w hw
          rcases List.mem_append.1 hw with hw | hw
          · exact b5.rows w hw
          · simp only [List.mem_singleton] at hw
            subst hw
            exact ⟨hg.ok.params, hg.ok.pw⟩
        · intro w hw
          rcases List.mem_append.1 hw with hw | hw
          · exact b6 w hw
          · simp only [List.mem_singleton] at hw
            subst hw
            exact hg
    · have hi : ¬ i > 0 := by simpa using hi
      simp only; omega
    · have hi : ¬ i > 0 := by simpa using hi
      simp only; omega
  · rintro ⟨r2, fs⟩ ⟨b1, b2, b3, b4⟩
    exact Run.mk ⟨b1, b2, b3, b4⟩
end Go.Proofs.Ytmckcjoacfekcaa.AM

namespace Go.Proofs.Ytmckcjoacfekcaa.AM
open Go
set_option linter.unusedSimpArgs false
set_option linter.unusedVariables false
theorem wrap_le (k : Int) : IntKind.i64.wrap k ≤ 9223372036854775807 := by
  have h1 := Int.emod_lt_of_pos k (show (0 : Int) < 18446744073709551616 by omega)
  have e : IntKind.i64.wrap k = if (true && decide (k % 18446744073709551616 ≥ 9223372036854775808)) = true then k % 18446744073709551616 - 18446744073709551616 else k % 18446744073709551616 := rfl
  rw [e]
  by_cases h : k % 18446744073709551616 ≥ 9223372036854775808
  · rw [if_pos (by simpa using h)]; omega
  · rw [if_neg (by simpa using h)]; omega
theorem near_le {r : Gl1Rd} {low high : Int} {y : Int × Gl1Rd} (h : spec_l1Rd_near_m r low high = some y) (h1 : low ≤ 9223372036854775807) (h2 : high ≤ 9223372036854775807) : y.1 ≤ 9223372036854775807 := by
  unfold spec_l1Rd_near_m at h
  cases e : spec_l1Rd_below_m r 8 with
  | none => rw [e] at h; cases h
  | some x =>
    rw [e, obs] at h
    split at h
    · cases h; exact h1
    · split at h
      · cases h; exact h2
      · split at h
        · cases h; exact h1
        · cases e2 : spec_l1Rd_word_m x.2 with
          | none => rw [e2] at h; cases h
          | some w =>
            rw [e2, obs] at h
            split at h
            · split at h
              · cases h; exact wrap_le _
              · cases h
            · cases h
theorem off_le {r : Gl1Rd} {low high : Int} {y : Int × Gl1Rd} (h : spec_l1Rd_off_m r low high = some y) (h1 : low ≤ 9223372036854775807) (h2 : high ≤ 9223372036854775806) : y.1 ≤ 9223372036854775807 := by
  unfold spec_l1Rd_off_m at h
  cases e : spec_l1Rd_once_m r 24 with
  | none => rw [e] at h; cases h
  | some x =>
    rw [e, obs] at h
    split at h
    · split at h
      · split at h
        · cases e2 : spec_l1Rd_below_m x.2 4 with
          | none => rw [e2] at h; cases h
          | some w =>
            rw [e2, obs] at h
            split at h
            · rename_i hw
              have hm := at_mem hw
              cases h
              simp only [List.mem_cons, List.not_mem_nil, or_false] at hm
              simp only
              omega
            · cases h
        · cases h
      · cases h
    · cases e2 : spec_l1Rd_near_m x.2 low high with
      | none => rw [e2] at h; cases h
      | some w =>
        rw [e2, obs] at h
        cases h
        exact near_le e2 h1 (by omega)
theorem off_run' {r : Gl1Rd} (h : okRd r) {low high : Int} (hl : -1000000 ≤ low) (hlh : low ≤ high) (hh : high ≤ 1000000) : Run (spec_l1Rd_off_m r low high) (fun y => okRd y.2 ∧ y.1 ≤ 9223372036854775807) := by
  obtain ⟨y, e, hy⟩ := off_run h (low := low) (high := high) (inI_le (by omega) (by omega)) (inI_le (by omega) (by omega)) (fun _ => by
    rw [wrap_in (by omega) (by omega)]
    refine ⟨inI_le (by omega) (by omega), ?_⟩
    have hk : IntKind.u64.wrap (high - low + 1) = high - low + 1 := IntWalk.u64_in _ (by omega)
    omega)
  exact ⟨y, e, hy, off_le e (by omega) (by omega)⟩
theorem drawType_run {code : List Int} (hl : code.length ≤ 140737488355328) (hb : ∀ x ∈ code, 0 ≤ x ∧ x ≤ 255) : Run (spec_DrawTypeOf_m code) (fun y => okF y.1 ∧ y.2 ≤ 9223372036854775807) := by
  unfold spec_DrawTypeOf_m
  refine Run.bind (module_run (open_ok hl hb)) ?_
  rintro ⟨m, r⟩ ⟨h1, h2, h3, h4⟩
  simp only at h1 h2 h3 h4 ⊢
  have h0 : (0 : Int) ≤ 0 ∧ 0 < (m.funcs.length : Int) := by omega
  refine Run.yes h0 (Run.bind (R := fun y => y ≤ 9223372036854775807) (Run.bind (off_run' h1 (by omega) (by omega) (by omega)) (fun y hy => Run.mk hy.2)) (fun y hy => Run.mk ⟨h4 _ (at_mem h0), hy⟩))
end Go.Proofs.Ytmckcjoacfekcaa.AM

namespace Go.Proofs.Ytmckcjoacfekcaa.AM
open Go
set_option linter.unusedSimpArgs false
set_option linter.unusedVariables false
theorem take_flat {α : Type} [Inhabited α] {β : Type} (xs : List α) (f : α → List β) {k : Nat} (h : k < xs.length) : (xs.take (k + 1)).flatMap f = (xs.take k).flatMap f ++ f (at_ xs (k : Int)) := by
  rw [at_nat h, List.take_add_one, List.getElem?_eq_getElem h, List.flatMap_append]
  simp
theorem flat_len {α β : Type} {xs : List α} {f : α → List β} {n : Nat} (h : ∀ x ∈ xs, (f x).length ≤ n) : (xs.flatMap f).length ≤ xs.length * n := by
  induction xs with
  | nil => simp
  | cons x xs ih =>
    have h1 := ih (fun y hy => h y (List.mem_cons_of_mem _ hy))
    have h2 := h x (List.mem_cons_self ..)
    simp only [List.flatMap_cons, List.length_append, List.length_cons, Nat.add_mul]
    omega
theorem flat_take_len {α β : Type} {xs : List α} {f : α → List β} {n m : Nat} (h : ∀ x ∈ xs, (f x).length ≤ n) (hm : xs.length ≤ m) (k : Nat) : ((xs.take k).flatMap f).length ≤ m * n := by
  refine Nat.le_trans (flat_len (n := n) fun x hx => h x (List.mem_of_mem_take hx)) (Nat.mul_le_mul_right _ ?_)
  rw [List.length_take]
  omega
theorem impl_ops {i : GInst} (h : i.args.length ≤ 10) : impl_OperandsOf_m i = some (opsI i) := by
  have hL := LIM_eq
  unfold impl_OperandsOf_m opsI impl_isBinary_m impl_isCast_m impl_within_m slices_Clone_int64_int64_m
  by_cases h1 : (1 ≤ i.op_ ∧ i.op_ ≤ 17) ∨ i.op_ = 24
  · rw [if_pos (by simpa using h1), if_pos h1]
  · rw [if_neg (by simpa using h1), if_neg h1]
    by_cases h2 : (18 ≤ i.op_ ∧ i.op_ ≤ 20) ∨ i.op_ = 23 ∨ i.op_ = 25 ∨ i.op_ = 27
    · rw [if_pos (by simpa using h2), if_pos h2]
    · rw [if_neg (by simpa using h2), if_neg h2]
      by_cases h3 : i.op_ = 22
      · rw [if_pos (by simpa using h3), if_pos h3]
      · rw [if_neg (by simpa using h3), if_neg h3]
        by_cases h4 : i.op_ = 26
        · rw [if_pos (by simpa using h4), if_pos h4, if_pos (by simp only [List.length_nil]; omega)]
          rfl
        · rw [if_neg (by simpa using h4), if_neg h4]
theorem spec_ops {i : GInst} (h : i.args.length ≤ 10) : spec_l2Operands_m i = some (opsI i) := by
  have hL := LIM_eq
  unfold spec_l2Operands_m opsI spec_l1In_m spec_l1Copy_m
  by_cases h1 : (1 ≤ i.op_ ∧ i.op_ ≤ 17) ∨ i.op_ = 24
  · rw [if_pos (by simpa using h1), if_pos h1]
  · rw [if_neg (by simpa using h1), if_neg h1]
    by_cases h2 : (18 ≤ i.op_ ∧ i.op_ ≤ 20) ∨ i.op_ = 23 ∨ i.op_ = 25 ∨ i.op_ = 27
    · rw [if_pos (by simpa using h2), if_pos h2]
    · rw [if_neg (by simpa using h2), if_neg h2]
      by_cases h3 : i.op_ = 22
      · rw [if_pos (by simpa using h3), if_pos h3]
      · rw [if_neg (by simpa using h3), if_neg h3]
        by_cases h4 : i.op_ = 26
        · rw [if_pos (by simpa using h4), if_pos h4, if_pos (by simp only [List.length_nil]; omega)]
          rfl
        · rw [if_neg (by simpa using h4), if_neg h4]
theorem ops_len {i : GInst} (h : i.args.length ≤ 10) : (opsI i).length ≤ 10 := by
  unfold opsI
  split
  · simp
  · split
    · simp
    · split
      · simp
      · split
        · exact h
        · simp
def endL (t : GTerm) : List Int := if t.kind = 1 ∨ t.kind = 3 then [t.a] else []
def namedB (b : GBlock) : List Int := b.phis.flatMap (·.ins) ++ b.insts.flatMap opsI ++ endL b.term
theorem end_names (t : GTerm) : impl_endNames_m t = endL t := by
  unfold impl_endNames_m endL
  by_cases h : t.kind = 1 ∨ t.kind = 3
  · rw [if_pos (by simpa using h), if_pos h]
  · rw [if_neg (by simpa using h), if_neg h]
theorem end_len (t : GTerm) : (endL t).length ≤ 1 := by
  unfold endL
  split <;> simp
/-- A block that is small. -/
structure smB (b : GBlock) : Prop where
  np : b.phis.length ≤ 60
  ni : b.insts.length ≤ 60
  ps : ∀ p ∈ b.phis, p.ins.length ≤ 10
  is : ∀ i ∈ b.insts, i.args.length ≤ 10
theorem smB.nm {b : GBlock} (h : smB b) : (namedB b).length ≤ 1201 := by
  have h1 := flat_take_len (f := fun p : GPhi => p.ins) h.ps h.np b.phis.length
  have h2 := flat_take_len (f := opsI) (fun i hi => ops_len (h.is i hi)) h.ni b.insts.length
  rw [List.take_length] at h1 h2
  have h3 := end_len b.term
  simp only [namedB, List.length_append]
  omega
theorem named_ok {b : GBlock} (h : smB b) : impl_namedBy_m b = some (namedB b) := by
  have hL := LIM_eq
  have hp := h.np
  have hi := h.ni
  unfold impl_namedBy_m
  generalize hB : loopO _ _ = L
  rw [loop_cnt hB (fun k => ((b.phis.take k).flatMap (·.ins), (k : Int))) b.phis.length (b.phis.flatMap (·.ins)) ?_ ?_ ?_, obs]
  · generalize hB2 : loopO _ _ = L2
    rw [loop_cnt hB2 (fun k => (b.phis.flatMap (·.ins) ++ (b.insts.take k).flatMap opsI, (k : Int))) b.insts.length (b.phis.flatMap (·.ins) ++ b.insts.flatMap opsI) ?_ ?_ ?_, obs, end_names]
    · have := h.nm
      simp only [namedB, List.length_append] at this
      rw [if_pos (by simp only [List.length_append]; omega)]
      rfl
    · simp
    · intro k hk
      have h0 : 0 ≤ (k : Int) ∧ (k : Int) < (b.insts.length : Int) := by omega
      have h1 := flat_take_len (f := fun p : GPhi => p.ins) h.ps h.np b.phis.length
      rw [List.take_length] at h1
      have h2 := flat_take_len (f := opsI) (fun i hi => ops_len (h.is i hi)) h.ni k
      have h3 := ops_len (h.is _ (at_mem h0))
      simp only
      rw [if_pos (by simp; omega), if_pos h0, impl_ops (h.is _ (at_mem h0)), obs, if_pos (by simp only [List.length_append]; omega), if_pos (inI_le (by omega) (by omega)), take_flat _ _ hk, List.append_assoc]
      simp
    · simp only
      rw [if_neg (by simp), List.take_length]
  · simp
  · intro k hk
    have h0 : 0 ≤ (k : Int) ∧ (k : Int) < (b.phis.length : Int) := by omega
    have h2 := flat_take_len (f := fun p : GPhi => p.ins) h.ps h.np k
    have h3 := h.ps _ (at_mem h0)
    simp only
    rw [if_pos (by simp; omega), if_pos h0, if_pos (by omega), if_pos (inI_le (by omega) (by omega)), take_flat _ _ hk]
    simp
  · simp only
    rw [if_neg (by simp), List.take_length]
theorem take_count (l : List Int) (id : Int) {k : Nat} (h : k < l.length) : (l.take (k + 1)).count id = (l.take k).count id + (if (at_ l (k : Int) == id) = true then 1 else 0) := by
  rw [at_nat h, List.take_add_one, List.getElem?_eq_getElem h, List.count_append]
  simp [List.count_singleton]
theorem take_count_le (l : List Int) (id : Int) (k : Nat) : (l.take k).count id ≤ l.length := Nat.le_trans List.count_le_length (by rw [List.length_take]; omega)
def all (f : GFunc) : List Int := f.blocks.flatMap namedB
/-- A function that is small. -/
structure smF (f : GFunc) : Prop where
  nb : f.blocks.length ≤ 10
  bs : ∀ b ∈ f.blocks, smB b
theorem smF.len {f : GFunc} (h : smF f) (k : Nat) : ((f.blocks.take k).flatMap namedB).length ≤ 10 * 1201 := flat_take_len (fun b hb => (h.bs b hb).nm) h.nb k
theorem smF.cnt {f : GFunc} (h : smF f) (k : Nat) (id : Int) : ((f.blocks.take k).flatMap namedB).count id ≤ 10 * 1201 := Nat.le_trans List.count_le_length (h.len k)
theorem impl_uses {f : GFunc} (h : smF f) (id : Int) : impl_Uses_m f id = some ((all f).count id : Int) := by
  unfold impl_Uses_m
  have hb := h.nb
  generalize hB : loopO _ _ = L
  rw [loop_cnt hB (fun k => ((k : Int), (((f.blocks.take k).flatMap namedB).count id : Int))) f.blocks.length ((all f).count id : Int) ?_ ?_ ?_]
  · rfl
  · simp
  · intro k hk
    have h0 : 0 ≤ (k : Int) ∧ (k : Int) < (f.blocks.length : Int) := by omega
    have hs := h.bs _ (at_mem h0)
    have h1 := h.cnt k id
    have h2 := hs.nm
    simp only
    rw [if_pos (by simp; omega), if_pos h0, named_ok hs, obs]
    generalize hn : namedB (at_ f.blocks (k : Int)) = x at h2
    generalize hB2 : loopO _ _ = L2
    rw [loop_cnt hB2 (fun j => ((j : Int), (((f.blocks.take k).flatMap namedB).count id : Int) + ((x.take j).count id : Int))) x.length ((((f.blocks.take k).flatMap namedB).count id : Int) + (x.count id : Int)) ?_ ?_ ?_, obs, if_pos (inI_le (by omega) (by omega)), take_flat _ _ hk, List.count_append, hn]
    · simp
    · simp
    · intro j hj
      have h3 : 0 ≤ (j : Int) ∧ (j : Int) < (x.length : Int) := by omega
      have h4 := take_count_le x id j
      simp only
      rw [if_pos (by simp; omega), if_pos h3, take_count _ _ hj]
      by_cases he : (at_ x (j : Int) == id) = true
      · rw [if_pos he, if_pos (inI_le (by omega) (by omega)), if_pos (inI_le (by omega) (by omega)), if_pos he]
        simp [Int.add_assoc]
      · rw [if_neg he, if_pos (inI_le (by omega) (by omega)), if_neg he]
        simp
    · simp only
      rw [if_neg (by simp), List.take_length]
  · simp only
    rw [if_neg (by simp), List.take_length]
    rfl
theorem spec_count4 {l : List Int} (hl : l.length ≤ 100000) (id : Int) : spec_l4Count_m l id = some (l.count id : Int) := by
  unfold spec_l4Count_m
  generalize hB : loopO _ _ = L
  rw [loop_cnt hB (fun j => (((l.take j).count id : Int), (j : Int))) l.length (l.count id : Int) ?_ ?_ ?_]
  · rfl
  · simp
  · intro j hj
    have h3 : 0 ≤ (j : Int) ∧ (j : Int) < (l.length : Int) := by omega
    have h4 := take_count_le l id j
    have h5 : 0 ≤ spec_l1Bit_m (at_ l (j : Int) == id) ∧ spec_l1Bit_m (at_ l (j : Int) == id) ≤ 1 := by unfold spec_l1Bit_m; split <;> omega
    simp only
    rw [if_pos (by simp; omega), if_pos h3, if_pos (inI_le (by omega) (by omega)), take_count _ _ hj, wrap_in (by omega) (by omega)]
    unfold spec_l1Bit_m
    split <;> simp
  · simp only
    rw [if_neg (by simp), List.take_length]
theorem spec_uses {f : GFunc} (h : smF f) (id : Int) : spec_Uses_m f id = some ((all f).count id : Int) := by
  unfold spec_Uses_m
  have hb := h.nb
  generalize hB : loopO _ _ = L
  rw [loop_cnt hB (fun k => ((((f.blocks.take k).flatMap namedB).count id : Int), (k : Int))) f.blocks.length ((all f).count id : Int) ?_ ?_ ?_]
  · rfl
  · simp
  · intro k hk
    have h0 : 0 ≤ (k : Int) ∧ (k : Int) < (f.blocks.length : Int) := by omega
    have hs := h.bs _ (at_mem h0)
    have hp := hs.np
    have hi := hs.ni
    have h1 := h.cnt k id
    have h2 := hs.nm
    simp only
    rw [if_pos (by simp; omega), if_pos h0]
    rw [take_flat _ _ hk, List.count_append]
    generalize at_ f.blocks (k : Int) = b at hs hp hi h2 ⊢
    generalize ((f.blocks.take k).flatMap namedB).count id = c at h1 ⊢
    have hc1 : ∀ j, ((b.phis.take j).flatMap (·.ins)).count id ≤ 60 * 10 := fun j => Nat.le_trans List.count_le_length (flat_take_len (f := fun p : GPhi => p.ins) hs.ps hs.np j)
    have hc2 : ∀ j, ((b.insts.take j).flatMap opsI).count id ≤ 60 * 10 := fun j => Nat.le_trans List.count_le_length (flat_take_len (f := opsI) (fun i hi => ops_len (hs.is i hi)) hs.ni j)
    have hc3 := hc1 b.phis.length
    have hc4 := hc2 b.insts.length
    rw [List.take_length] at hc3 hc4
    generalize hB2 : loopO _ _ = L2
    rw [loop_cnt hB2 (fun j => ((c : Int) + (((b.phis.take j).flatMap (·.ins)).count id : Int), (j : Int))) b.phis.length ((c : Int) + ((b.phis.flatMap (·.ins)).count id : Int)) ?_ ?_ ?_, obs]
    · generalize hB3 : loopO _ _ = L3
      rw [loop_cnt hB3 (fun j => ((c : Int) + ((b.phis.flatMap (·.ins)).count id : Int) + (((b.insts.take j).flatMap opsI).count id : Int), (j : Int))) b.insts.length ((c : Int) + ((b.phis.flatMap (·.ins)).count id : Int) + ((b.insts.flatMap opsI).count id : Int)) ?_ ?_ ?_, obs]
      · rw [if_pos (inI_le (by omega) (by omega))]
        have h5 : ∀ x : Bool, 0 ≤ spec_l1Bit_m x ∧ spec_l1Bit_m x ≤ 1 := fun x => by unfold spec_l1Bit_m; split <;> omega
        have h6 := h5 (b.term.a == id)
        have h7 := h5 false
        rw [wrap_in (by omega) (by omega), wrap_in (by omega) (by omega)]
        have e : (if (b.term.kind == 1) = true then (c : Int) + ((b.phis.flatMap (·.ins)).count id : Int) + ((b.insts.flatMap opsI).count id : Int) + spec_l1Bit_m (b.term.a == id) else if (b.term.kind == 3) = true then (c : Int) + ((b.phis.flatMap (·.ins)).count id : Int) + ((b.insts.flatMap opsI).count id : Int) + spec_l1Bit_m (b.term.a == id) else (c : Int) + ((b.phis.flatMap (·.ins)).count id : Int) + ((b.insts.flatMap opsI).count id : Int) + spec_l1Bit_m false) = ((c + (namedB b).count id : Nat) : Int) := by
          simp only [namedB, List.count_append, endL, spec_l1Bit_m]
          by_cases k1 : b.term.kind = 1
          · rw [if_pos (by simpa using k1), if_pos (show b.term.kind = 1 ∨ b.term.kind = 3 from .inl k1)]
            by_cases k2 : b.term.a = id <;> simp [k2, List.count_singleton] <;> omega
          · rw [if_neg (by simpa using k1)]
            by_cases k3 : b.term.kind = 3
            · rw [if_pos (by simpa using k3), if_pos (show b.term.kind = 1 ∨ b.term.kind = 3 from .inr k3)]
              by_cases k2 : b.term.a = id <;> simp [k2, List.count_singleton] <;> omega
            · rw [if_neg (by simpa using k3), if_neg (show ¬ (b.term.kind = 1 ∨ b.term.kind = 3) by omega)]
              simp
              omega
        rw [e]
        simp
      · simp
      · intro j hj
        have h3 : 0 ≤ (j : Int) ∧ (j : Int) < (b.insts.length : Int) := by omega
        have h4 := hc2 j
        have h5 := ops_len (hs.is _ (at_mem h3))
        have h6 := List.count_le_length (a := id) (l := opsI (at_ b.insts (j : Int)))
        simp only
        rw [if_pos (by simp; omega), if_pos h3, spec_ops (hs.is _ (at_mem h3)), obs, spec_count4 (by omega), obs, if_pos (inI_le (by omega) (by omega)), wrap_in (by omega) (by omega), take_flat _ _ hj, List.count_append]
        simp [Int.add_assoc]
      · simp only
        rw [if_neg (by simp), List.take_length]
    · simp
    · intro j hj
      have h3 : 0 ≤ (j : Int) ∧ (j : Int) < (b.phis.length : Int) := by omega
      have h4 := hc1 j
      have h5 := hs.ps _ (at_mem h3)
      have h6 := List.count_le_length (a := id) (l := (at_ b.phis (j : Int)).ins)
      simp only
      rw [if_pos (by simp; omega), if_pos h3, spec_count4 (by omega), obs, if_pos (inI_le (by omega) (by omega)), wrap_in (by omega) (by omega), take_flat _ _ hj, List.count_append]
      simp [Int.add_assoc]
    · simp only
      rw [if_neg (by simp), List.take_length]
  · simp only
    rw [if_neg (by simp), List.take_length]
    rfl
theorem below_count (l : List Int) (k : Nat) : l.countP (fun x => decide (x < ((k + 1 : Nat) : Int))) = l.countP (fun x => decide (x < (k : Int))) + l.count (k : Int) := by
  induction l with
  | nil => rfl
  | cons x l ih =>
    simp only [List.countP_cons, List.count_cons, ih, decide_eq_true_eq, beq_iff_eq]
    split <;> split <;> split <;> omega
theorem countP_none {l : List Int} (h : ∀ x ∈ l, 0 ≤ x) : l.countP (fun x => decide (x < ((0 : Nat) : Int))) = 0 := by
  rw [List.countP_eq_zero]
  intro x hx
  have := h x hx
  simp
  omega
theorem countP_all {l : List Int} {n : Nat} (h : ∀ x ∈ l, x < (n : Int)) : l.countP (fun x => decide (x < (n : Int))) = l.length := by
  rw [List.countP_eq_length]
  intro x hx
  simpa using h x hx
end Go.Proofs.Ytmckcjoacfekcaa.AM

namespace Go.Proofs.Ytmckcjoacfekcaa.AM
open Go
set_option linter.unusedSimpArgs false
set_option linter.unusedVariables false
theorem sameInts_ok (a : List Int) (ha : a.length ≤ 140737488355328) : laws_sameInts_m a a = some true := by
  unfold laws_sameInts_m
  rw [if_neg (by simp)]
  generalize hB : loopO _ (0 : Int) = L
  have K := loop_anyN' hB a.length (fun _ => false) (fun _ => ()) (by
    intro k hk
    rw [if_pos (by simpa using hk), if_pos (by omega), if_pos (by omega), if_neg (by simp), if_pos (inI_le (by omega) (by omega)), if_neg (by simp)]) (by rw [if_neg (by simp)])
  rcases K with ⟨k, _, h1, _⟩ | ⟨_, rfl⟩
  · cases h1
  · rfl
theorem sz_le_sum {bs : List GBlock} {b : GBlock} (h : b ∈ bs) : sz b ≤ sumz bs := by
  induction bs with
  | nil => cases h
  | cons c bs ih =>
    simp only [sumz, List.map_cons, List.sum_cons]
    rcases List.mem_cons.1 h with rfl | h
    · omega
    · have := ih h
      unfold sumz at this
      omega
theorem okF.sm {f : GFunc} (h : okF f) : smF f := by
  refine ⟨h.nb, fun b hb => ?_⟩
  have h1 := sz_le_sum hb
  have h2 := h.nv
  unfold cnt at h2
  unfold sz at h1
  exact ⟨by omega, by omega, fun p hp => ((h.ok.okbs b hb).1.ps p hp).2, fun i hi => ((h.ok.okbs b hb).1.is i hi).2.2⟩
theorem okF.all {f : GFunc} (h : okF f) : ∀ x ∈ all f, 0 ≤ x ∧ x < (cnt f : Int) := by
  intro x hx
  simp only [AM.all, List.mem_flatMap] at hx
  obtain ⟨b, hb, hx⟩ := hx
  have hk := h.ok.okbs b hb
  simp only [namedB, List.mem_append, List.mem_flatMap] at hx
  rcases hx with (⟨p, hp, hx⟩ | ⟨i, hi, hx⟩) | hx
  · exact (hk.1.ps p hp).1 x hx
  · exact (hk.1.is i hi).2.1 x hx
  · unfold endL at hx
    split at hx
    · rename_i ht
      simp only [List.mem_singleton] at hx
      subst hx
      exact hk.2 ht
    · cases hx
theorem drawUses_run {code : List Int} (hl : code.length ≤ 140737488355328) (hb : ∀ x ∈ code, 0 ≤ x ∧ x ≤ 255) : Run (spec_DrawUses_m code) (fun y => okF y.1 ∧ y.2 ≤ 9223372036854775807) := by
  unfold spec_DrawUses_m
  exact Run.bind (drawType_run hl hb) (fun y hy => Run.mk hy)
theorem drawOps_run {code : List Int} (hl : code.length ≤ 140737488355328) (hb : ∀ x ∈ code, 0 ≤ x ∧ x ≤ 255) : Run (spec_DrawOperandsOf_m code) (fun i => i.args.length ≤ 10) := by
  unfold spec_DrawOperandsOf_m
  refine Run.bind (module_run (open_ok hl hb)) ?_
  rintro ⟨m, r⟩ ⟨h1, h2, h3, h4⟩
  simp only at h1 h2 h3 h4 ⊢
  have h0 : (0 : Int) ≤ 0 ∧ 0 < (m.funcs.length : Int) := by omega
  have hf := h4 _ (at_mem h0)
  refine Run.yes h0 (Run.bind (R := fun y => okRd y.1 ∧ ∀ i ∈ y.2.insts, i.args.length ≤ 10) (Run.bind (below_run h1 _) ?_) ?_)
  · rintro ⟨x, r1⟩ ⟨a1, a2, a3⟩
    have hne := hf.ok.ne
    have a3 := a3 (by omega)
    refine Run.yes ⟨a2, a3⟩ (Run.mk ⟨a1, fun i hi => ?_⟩)
    exact ((hf.ok.okbs _ (at_mem ⟨a2, a3⟩)).1.is i hi).2.2
  · rintro ⟨r1, b⟩ ⟨b1, b2⟩
    simp only at b1 b2 ⊢
    refine Run.bind (R := fun y => okRd y.1 ∧ (y.2 = false → b.insts ≠ [])) (Run.if (fun _ => Run.mk ⟨b1, fun h => by cases h⟩) (fun hn => Run.bind (once_run b1 (inI_le (by omega) (by omega))) ?_)) ?_
    · rintro ⟨x, r2⟩ c1
      exact Run.mk ⟨c1, fun _ e => hn (by simp [e])⟩
    · rintro ⟨r2, c⟩ ⟨d1, d2⟩
      simp only at d1 d2 ⊢
      refine Run.if (fun _ => Run.bind (off_run' d1 (by omega) (by omega) (by omega)) (fun y _ => Run.mk (by simp))) (fun hc => Run.bind (R := fun i => i.args.length ≤ 10) (Run.bind (below_run d1 _) ?_) (fun i hi => Run.mk hi))
      rintro ⟨x, r3⟩ ⟨e1, e2, e3⟩
      have hne : b.insts ≠ [] := d2 (by simpa using hc)
      have hp : 0 < b.insts.length := List.length_pos_iff.2 hne
      have e3 := e3 (by omega)
      exact Run.yes ⟨e2, e3⟩ (Run.mk (b2 _ (at_mem ⟨e2, e3⟩)))
theorem law_FnUses (code : List Int) (hl : code.length ≤ 140737488355328) (hb : ∀ x ∈ code, 0 ≤ x ∧ x ≤ 255) : laws_FnUses_m code = some true := by
  unfold laws_FnUses_m
  split
  · rfl
  · obtain ⟨⟨f, id⟩, e, h, hid⟩ := drawUses_run hl hb
    obtain ⟨x, ex, hx⟩ := drawOps_run hl hb
    simp only at h hid
    have hs := h.sm
    have hc := h.nv
    have hall := h.all
    have hlen := hs.len f.blocks.length
    rw [List.take_length] at hlen
    have hlen : (AM.all f).length ≤ 10 * 1201 := hlen
    have hox := ops_len hx
    rw [e, obs, ex, obs]
    simp only
    rw [impl_uses hs, obs, spec_uses hs, obs, if_neg (by simp), impl_ops hx, obs]
    have es : spec_OperandsOf_m x = some (opsI x) := by
      unfold spec_OperandsOf_m
      rw [spec_ops hx]
      rfl
    rw [es, obs, sameInts_ok _ (by omega), obs, obs, if_neg (by simp)]
    generalize hB : loopO _ _ = L
    rw [loop_cnt hB (fun k => (((AM.all f).countP (fun x => decide (x < (k : Int))) : Int), (k : Int))) (cnt f) ((AM.all f).length : Int) ?_ ?_ ?_, obs]
    · generalize hB2 : loopO _ _ = L2
      rw [loop_cnt hB2 (fun k => ((((f.blocks.take k).flatMap namedB).length : Int), (k : Int))) f.blocks.length ((AM.all f).length : Int) ?_ ?_ ?_, obs]
      · simp
      · simp
      · intro k hk
        have hk' := hs.nb
        have h0 : 0 ≤ (k : Int) ∧ (k : Int) < (f.blocks.length : Int) := by omega
        have hsb := hs.bs _ (at_mem h0)
        have h1 := hs.len k
        have hp := hsb.np
        have hi := hsb.ni
        have h2 := hsb.nm
        simp only
        rw [if_pos (by simp; omega)]
        simp only [if_pos h0]
        rw [take_flat _ _ hk, List.length_append]
        generalize at_ f.blocks (k : Int) = b at hsb hp hi h2 ⊢
        generalize ((f.blocks.take k).flatMap namedB).length = c at h1 ⊢
        have hc1 := fun j => flat_take_len (f := fun p : GPhi => p.ins) hsb.ps hsb.np j
        have hc2 := fun j => flat_take_len (f := opsI) (fun i hi => ops_len (hsb.is i hi)) hsb.ni j
        have hc3 := hc1 b.phis.length
        have hc4 := hc2 b.insts.length
        rw [List.take_length] at hc3 hc4
        generalize hB3 : loopO _ _ = L3
        rw [loop_cnt hB3 (fun j => ((j : Int), (c : Int) + (((b.phis.take j).flatMap (·.ins)).length : Int))) b.phis.length ((c : Int) + ((b.phis.flatMap (·.ins)).length : Int)) ?_ ?_ ?_, obs]
        · generalize hB4 : loopO _ _ = L4
          rw [loop_cnt hB4 (fun j => ((j : Int), (c : Int) + ((b.phis.flatMap (·.ins)).length : Int) + (((b.insts.take j).flatMap opsI).length : Int))) b.insts.length ((c : Int) + ((b.phis.flatMap (·.ins)).length : Int) + ((b.insts.flatMap opsI).length : Int)) ?_ ?_ ?_, obs]
          · simp only [namedB, List.length_append, endL]
            by_cases k1 : b.term.kind = 1
            · rw [if_pos (by simpa using k1), obs, if_pos rfl, if_pos (inI_le (by omega) (by omega)), if_pos (inI_le (by omega) (by omega)), if_pos (show b.term.kind = 1 ∨ b.term.kind = 3 from .inl k1)]
              simp [Int.add_assoc]
            · rw [if_neg (by simpa using k1), obs]
              by_cases k3 : b.term.kind = 3
              · rw [if_pos (by simpa using k3), if_pos (inI_le (by omega) (by omega)), if_pos (inI_le (by omega) (by omega)), if_pos (show b.term.kind = 1 ∨ b.term.kind = 3 from .inr k3)]
                simp [Int.add_assoc]
              · rw [if_neg (by simpa using k3), if_pos (inI_le (by omega) (by omega)), if_neg (show ¬ (b.term.kind = 1 ∨ b.term.kind = 3) by omega)]
                simp [Int.add_assoc]
          · simp
          · intro j hj
            have h3 : 0 ≤ (j : Int) ∧ (j : Int) < (b.insts.length : Int) := by omega
            have h4 := hc2 j
            have h5 := ops_len (hsb.is _ (at_mem h3))
            simp only
            rw [if_pos (by simp; omega), if_pos h3, impl_ops (hsb.is _ (at_mem h3)), obs, if_pos (inI_le (by omega) (by omega)), if_pos (inI_le (by omega) (by omega)), take_flat _ _ hj, List.length_append]
            simp [Int.add_assoc]
          · simp only
            rw [if_neg (by simp), List.take_length]
        · simp
        · intro j hj
          have h3 : 0 ≤ (j : Int) ∧ (j : Int) < (b.phis.length : Int) := by omega
          have h4 := hc1 j
          have h5 := hsb.ps _ (at_mem h3)
          simp only
          rw [if_pos (by simp; omega), if_pos h3, if_pos (inI_le (by omega) (by omega)), if_pos (inI_le (by omega) (by omega)), take_flat _ _ hj, List.length_append]
          simp [Int.add_assoc]
        · simp only
          rw [if_neg (by simp), List.take_length]
      · simp only
        rw [if_neg (by simp), List.take_length]
        rfl
    · rw [countP_none (fun x hx => (hall x hx).1)]
      rfl
    · intro k hk
      have h1 : (AM.all f).countP (fun x => decide (x < (k : Int))) ≤ (AM.all f).length := List.countP_le_length
      have h2 : (AM.all f).count (k : Int) ≤ (AM.all f).length := List.count_le_length
      simp only
      rw [impl_count h.ok, obs, if_pos (by simp; omega), impl_uses hs, obs, if_pos (inI_le (by omega) (by omega)), wrap_in (by omega) (by omega), below_count]
      simp
    · simp only
      rw [impl_count h.ok, obs, if_neg (by simp), countP_all (fun x hx => (hall x hx).2)]
end Go.Proofs.Ytmckcjoacfekcaa.AM
