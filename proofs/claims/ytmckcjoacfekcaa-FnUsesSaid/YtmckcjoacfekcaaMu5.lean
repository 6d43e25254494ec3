import Derived.Test.YtmckcjoacfekcaaMu4
set_option linter.unusedVariables false
set_option linter.unusedSimpArgs false
namespace Go.Proofs.Ytmckcjoacfekcaa.AM
open Go
set_option linter.unusedSimpArgs false
set_option linter.unusedVariables false
/-- (*spec.l2G).loop -/
noncomputable def spec_l2G_loop_m (g : Gl2G) (gr : Gl1Rd) (grets : List Int) (gpars : List (List Int)) : Option (Gl2G × Gl1Rd) :=
  (Option.bind (spec_l1Rd_below_m gr 5) fun x2 =>
    (Option.bind (spec_l2G_put_m g x2.2 grets gpars (({ op_ := 21, w := 8, a := 0, b := 0, c := 0, imm := x2.1, args := ([] : List Int) } : GInst))) fun x4 =>
      (Option.bind (spec_l1Rd_width_m x4.2.2) fun x6 =>
        (Option.bind (spec_l2G_pick_m x4.2.1 x6.2 grets gpars x6.1) fun x8 =>
          (Option.bind (spec_l2G_close_m x8.2.1 x8.2.2 grets gpars (({ kind := 2, a := 0, x := ((List.length g.f.blocks : Int)) + 1, y := 0 } : GTerm))) fun x10 =>
            (Option.bind (spec_l2G_phi_m x10.1 x10.2 grets gpars 8 ([x4.1, 0])) fun x12 =>
              (Option.bind (spec_l2G_phi_m x12.2.1 x12.2.2 grets gpars x6.1 ([x8.1, 0])) fun x14 =>
                (Option.bind (spec_l2G_put_m x14.2.1 x14.2.2 grets gpars (({ op_ := 21, w := 8, a := 0, b := 0, c := 0, imm := 0, args := ([] : List Int) } : GInst))) fun x16 =>
                  (Option.bind (spec_l2G_put_m x16.2.1 x16.2.2 grets gpars (({ op_ := 15, w := 8, a := x12.1, b := x16.1, c := 0, imm := 0, args := ([] : List Int) } : GInst))) fun x18 =>
                    (Option.bind (spec_l2G_close_m x18.2.1 x18.2.2 grets gpars (({ kind := 3, a := x18.1, x := ((List.length g.f.blocks : Int)) + 2, y := ((List.length g.f.blocks : Int)) + 3 } : GTerm))) fun x20 =>
                      (Option.bind (spec_l2G_put_m x20.1 x20.2 grets gpars (({ op_ := 21, w := 8, a := 0, b := 0, c := 0, imm := 1, args := ([] : List Int) } : GInst))) fun x22 =>
                        (Option.bind (spec_l2G_put_m x22.2.1 x22.2.2 grets gpars (({ op_ := 2, w := 8, a := x12.1, b := x22.1, c := 0, imm := 0, args := ([] : List Int) } : GInst))) fun x24 =>
                        (Option.bind (spec_l1Rd_below_m x24.2.2 3) fun x26 =>
                        (Option.bind (spec_l2G_some_m x24.2.1 x26.2 grets gpars x26.1) fun x28 =>
                        (Option.bind (spec_l2G_pick_m x28.1 x28.2 grets gpars x6.1) fun x30 =>
                        (Option.bind ((if (x30.1 == x14.1) = true then
                        (Option.bind (spec_l2G_put_m x30.2.1 x30.2.2 grets gpars (({ op_ := 1, w := x6.1, a := x14.1, b := x8.1, c := 0, imm := 0, args := ([] : List Int) } : GInst))) fun x34 =>
                        (some ((x34.2.1, x34.2.2, x34.1))))
                        else
                        (some ((x30.2.1, x30.2.2, x30.1))))) fun (j32 : Gl2G × Gl1Rd × Int) =>
                        (Option.bind (spec_l2G_close_m j32.1 j32.2.1 grets gpars (({ kind := 2, a := 0, x := ((List.length g.f.blocks : Int)) + 1, y := 0 } : GTerm))) fun x37 =>
                        (if 0 ≤ (((List.length g.f.blocks : Int)) + 1) ∧ (((List.length g.f.blocks : Int)) + 1) < (List.length x37.1.f.blocks : Int) then
                        (if (0 : Int) ≤ 0 ∧ 0 < (List.length ((at_ x37.1.f.blocks (((List.length g.f.blocks : Int)) + 1)).phis) : Int) then
                        (if (0 : Int) ≤ 1 ∧ 1 < (List.length ((at_ ((at_ x37.1.f.blocks (((List.length g.f.blocks : Int)) + 1)).phis) 0).ins) : Int) then
                        (if 0 ≤ (((List.length g.f.blocks : Int)) + 1) ∧ (((List.length g.f.blocks : Int)) + 1) < (List.length (List.set x37.1.f.blocks (Int.toNat (((List.length g.f.blocks : Int)) + 1)) (({ phis := List.set ((at_ x37.1.f.blocks (((List.length g.f.blocks : Int)) + 1)).phis) (Int.toNat 0) (({ w := (at_ ((at_ x37.1.f.blocks (((List.length g.f.blocks : Int)) + 1)).phis) 0).w, ins := List.set ((at_ ((at_ x37.1.f.blocks (((List.length g.f.blocks : Int)) + 1)).phis) 0).ins) (Int.toNat 1) x24.1 } : GPhi)), insts := (at_ x37.1.f.blocks (((List.length g.f.blocks : Int)) + 1)).insts, term := ((at_ x37.1.f.blocks (((List.length g.f.blocks : Int)) + 1)).term) } : GBlock))) : Int) then
                        (if (0 : Int) ≤ 1 ∧ 1 < (List.length ((at_ (List.set x37.1.f.blocks (Int.toNat (((List.length g.f.blocks : Int)) + 1)) (({ phis := List.set ((at_ x37.1.f.blocks (((List.length g.f.blocks : Int)) + 1)).phis) (Int.toNat 0) (({ w := (at_ ((at_ x37.1.f.blocks (((List.length g.f.blocks : Int)) + 1)).phis) 0).w, ins := List.set ((at_ ((at_ x37.1.f.blocks (((List.length g.f.blocks : Int)) + 1)).phis) 0).ins) (Int.toNat 1) x24.1 } : GPhi)), insts := (at_ x37.1.f.blocks (((List.length g.f.blocks : Int)) + 1)).insts, term := ((at_ x37.1.f.blocks (((List.length g.f.blocks : Int)) + 1)).term) } : GBlock))) (((List.length g.f.blocks : Int)) + 1)).phis) : Int) then
                        (if (0 : Int) ≤ 1 ∧ 1 < (List.length ((at_ ((at_ (List.set x37.1.f.blocks (Int.toNat (((List.length g.f.blocks : Int)) + 1)) (({ phis := List.set ((at_ x37.1.f.blocks (((List.length g.f.blocks : Int)) + 1)).phis) (Int.toNat 0) (({ w := (at_ ((at_ x37.1.f.blocks (((List.length g.f.blocks : Int)) + 1)).phis) 0).w, ins := List.set ((at_ ((at_ x37.1.f.blocks (((List.length g.f.blocks : Int)) + 1)).phis) 0).ins) (Int.toNat 1) x24.1 } : GPhi)), insts := (at_ x37.1.f.blocks (((List.length g.f.blocks : Int)) + 1)).insts, term := ((at_ x37.1.f.blocks (((List.length g.f.blocks : Int)) + 1)).term) } : GBlock))) (((List.length g.f.blocks : Int)) + 1)).phis) 1).ins) : Int) then
                        (some ((({ f := ({ params := x37.1.f.params, ret := x37.1.f.ret, blocks := List.set (List.set x37.1.f.blocks (Int.toNat (((List.length g.f.blocks : Int)) + 1)) (({ phis := List.set ((at_ x37.1.f.blocks (((List.length g.f.blocks : Int)) + 1)).phis) (Int.toNat 0) (({ w := (at_ ((at_ x37.1.f.blocks (((List.length g.f.blocks : Int)) + 1)).phis) 0).w, ins := List.set ((at_ ((at_ x37.1.f.blocks (((List.length g.f.blocks : Int)) + 1)).phis) 0).ins) (Int.toNat 1) x24.1 } : GPhi)), insts := (at_ x37.1.f.blocks (((List.length g.f.blocks : Int)) + 1)).insts, term := ((at_ x37.1.f.blocks (((List.length g.f.blocks : Int)) + 1)).term) } : GBlock))) (Int.toNat (((List.length g.f.blocks : Int)) + 1)) (({ phis := List.set ((at_ (List.set x37.1.f.blocks (Int.toNat (((List.length g.f.blocks : Int)) + 1)) (({ phis := List.set ((at_ x37.1.f.blocks (((List.length g.f.blocks : Int)) + 1)).phis) (Int.toNat 0) (({ w := (at_ ((at_ x37.1.f.blocks (((List.length g.f.blocks : Int)) + 1)).phis) 0).w, ins := List.set ((at_ ((at_ x37.1.f.blocks (((List.length g.f.blocks : Int)) + 1)).phis) 0).ins) (Int.toNat 1) x24.1 } : GPhi)), insts := (at_ x37.1.f.blocks (((List.length g.f.blocks : Int)) + 1)).insts, term := ((at_ x37.1.f.blocks (((List.length g.f.blocks : Int)) + 1)).term) } : GBlock))) (((List.length g.f.blocks : Int)) + 1)).phis) (Int.toNat 1) (({ w := (at_ ((at_ (List.set x37.1.f.blocks (Int.toNat (((List.length g.f.blocks : Int)) + 1)) (({ phis := List.set ((at_ x37.1.f.blocks (((List.length g.f.blocks : Int)) + 1)).phis) (Int.toNat 0) (({ w := (at_ ((at_ x37.1.f.blocks (((List.length g.f.blocks : Int)) + 1)).phis) 0).w, ins := List.set ((at_ ((at_ x37.1.f.blocks (((List.length g.f.blocks : Int)) + 1)).phis) 0).ins) (Int.toNat 1) x24.1 } : GPhi)), insts := (at_ x37.1.f.blocks (((List.length g.f.blocks : Int)) + 1)).insts, term := ((at_ x37.1.f.blocks (((List.length g.f.blocks : Int)) + 1)).term) } : GBlock))) (((List.length g.f.blocks : Int)) + 1)).phis) 1).w, ins := List.set ((at_ ((at_ (List.set x37.1.f.blocks (Int.toNat (((List.length g.f.blocks : Int)) + 1)) (({ phis := List.set ((at_ x37.1.f.blocks (((List.length g.f.blocks : Int)) + 1)).phis) (Int.toNat 0) (({ w := (at_ ((at_ x37.1.f.blocks (((List.length g.f.blocks : Int)) + 1)).phis) 0).w, ins := List.set ((at_ ((at_ x37.1.f.blocks (((List.length g.f.blocks : Int)) + 1)).phis) 0).ins) (Int.toNat 1) x24.1 } : GPhi)), insts := (at_ x37.1.f.blocks (((List.length g.f.blocks : Int)) + 1)).insts, term := ((at_ x37.1.f.blocks (((List.length g.f.blocks : Int)) + 1)).term) } : GBlock))) (((List.length g.f.blocks : Int)) + 1)).phis) 1).ins) (Int.toNat 1) j32.2.2 } : GPhi)), insts := (at_ (List.set x37.1.f.blocks (Int.toNat (((List.length g.f.blocks : Int)) + 1)) (({ phis := List.set ((at_ x37.1.f.blocks (((List.length g.f.blocks : Int)) + 1)).phis) (Int.toNat 0) (({ w := (at_ ((at_ x37.1.f.blocks (((List.length g.f.blocks : Int)) + 1)).phis) 0).w, ins := List.set ((at_ ((at_ x37.1.f.blocks (((List.length g.f.blocks : Int)) + 1)).phis) 0).ins) (Int.toNat 1) x24.1 } : GPhi)), insts := (at_ x37.1.f.blocks (((List.length g.f.blocks : Int)) + 1)).insts, term := ((at_ x37.1.f.blocks (((List.length g.f.blocks : Int)) + 1)).term) } : GBlock))) (((List.length g.f.blocks : Int)) + 1)).insts, term := ((at_ (List.set x37.1.f.blocks (Int.toNat (((List.length g.f.blocks : Int)) + 1)) (({ phis := List.set ((at_ x37.1.f.blocks (((List.length g.f.blocks : Int)) + 1)).phis) (Int.toNat 0) (({ w := (at_ ((at_ x37.1.f.blocks (((List.length g.f.blocks : Int)) + 1)).phis) 0).w, ins := List.set ((at_ ((at_ x37.1.f.blocks (((List.length g.f.blocks : Int)) + 1)).phis) 0).ins) (Int.toNat 1) x24.1 } : GPhi)), insts := (at_ x37.1.f.blocks (((List.length g.f.blocks : Int)) + 1)).insts, term := ((at_ x37.1.f.blocks (((List.length g.f.blocks : Int)) + 1)).term) } : GBlock))) (((List.length g.f.blocks : Int)) + 1)).term) } : GBlock)) } : GFunc), b := x37.1.b, next := x37.1.next, ids := x20.1.ids, ws := x20.1.ws } : Gl2G), x37.2)))
                        else none)
                        else none)
                        else none)
                        else none)
                        else none)
                        else none))))))))))))))))))
set_option maxHeartbeats 8000000 in
set_option maxRecDepth 100000 in
theorem spec_l2G_loop_sim (g : Gl2G) (gr : Gl1Rd) (grets : List Int) (gpars : List (List Int)) {r : Gl2G × Gl1Rd} (hm : spec_l2G_loop_m g gr grets gpars = some r) : Sim Try.prog 123 [.one (.ptr () 0 0 0)] [⟨(), 15, [hl2G (.ptr () 1 0 0) (.ref () 2 0 (List.length grets)) (.ref () 3 0 (List.length gpars)) g]⟩, ⟨(), 2, [el1Rd false gr]⟩, ⟨(), 1, List.map iL grets⟩, ⟨(), 1, List.map (lL false 1 iL) gpars⟩] (.tup []) [⟨(), 15, [hl2G (.ptr () 1 0 0) (.ref () 2 0 (List.length grets)) (.ref () 3 0 (List.length gpars)) r.1]⟩, ⟨(), 2, [el1Rd false r.2]⟩, ⟨(), 1, List.map iL grets⟩, ⟨(), 1, List.map (lL false 1 iL) gpars⟩] := by
  refine sim_st (N := 145) (k0 := 4) Try.func123 rfl rfl rfl rfl (rs := []) rfl rfl (by simp only [hl2G, List.all_cons, List.all_nil, knows_map, Bool.and_true, Bool.true_and] <;> rfl) fun B hB0 => ?_
  unfold spec_l2G_loop_m at hm
  refine Wp.seq ?_
  refine c_regS ?_
  refine o_run (Y := sysA _) 4 ?_
  refine n_ (x_mv rfl rfl ?_)
  refine n_ (x_ncp rfl rfl rfl ?_)
  refine n_ (x_fap rfl F135_1 rfl rfl ?_)
  refine n_ (x_fap rfl F27_2 rfl rfl ?_)
  refine z_ ?_
  refine WpO.ghb (f_op (rows' := [[.ptr () 1 0 0, .os () 1 (List.map iL g.f.params), .int .i64 g.f.ret, .ref () 4 0 (List.length g.f.blocks), .os () 2 (List.map (ePhi true) g.b.phis), .os () 7 (List.map (eInst false) g.b.insts), .int .i64 g.b.term.kind, .int .i64 g.b.term.a, .int .i64 g.b.term.x, .int .i64 g.b.term.y, .int .i64 g.next, .bs () 1 (List.map iL g.ids), .bs () 1 (List.map iL g.ws), .ref () 2 0 (List.length grets), .ref () 3 0 (List.length gpars)]]) 0 0 3 rfl rfl rfl (by simp) rfl) ?_
  refine o_run (Y := sysA _) 3 ?_
  refine n_ (x_ldp rfl T25 rfl rfl rfl rfl rfl ?_)
  refine n_ (x_lnr rfl N25 rfl rfl fun hL1 => ?_)
  refine n_ (x_as rfl rfl ?_)
  refine z_ ?_
  refine o_end ?_
  refine Wp.seq ?_
  refine Wp.ghb _ (f_cl (rows2 := List.map (eBlock true) g.f.blocks) (rows' := [[.ptr () 1 0 0, .os () 1 (List.map iL g.f.params), .int .i64 g.f.ret, .os () 6 (List.map (eBlock true) g.f.blocks), .os () 2 (List.map (ePhi true) g.b.phis), .os () 7 (List.map (eInst false) g.b.insts), .int .i64 g.b.term.kind, .int .i64 g.b.term.a, .int .i64 g.b.term.x, .int .i64 g.b.term.y, .int .i64 g.next, .bs () 1 (List.map iL g.ids), .bs () 1 (List.map iL g.ws), .ref () 2 0 (List.length grets), .ref () 3 0 (List.length gpars)]]) 0 4 0 3 rfl rfl rfl (nest_map (enc := eBlock true) (g.f.blocks)) rfl rfl (by simp) rfl) ?_
  refine c_regS ?_
  refine o_run (Y := sysA _) 7 ?_
  refine n_ (x_mv rfl rfl ?_)
  refine n_ (x_mv rfl rfl ?_)
  refine n_ (x_ncp rfl rfl rfl ?_)
  refine n_ (x_fap rfl F135_0 rfl rfl ?_)
  refine n_ (x_ldp rfl T64 rfl rfl rfl rfl rfl ?_)
  obtain ⟨x2, h3, hm⟩ := of_bind hm
  refine n_ (x_cg (v := .u (.one (.int .i64 x2.1))) (nobs := []) (oa' := _) (nx' := 5) (cs := []) (obs := [⟨(), 2, [el1Rd false gr]⟩]) [1] false rfl (by decide) (h_c rfl h_n) rfl (g_1 (l := .ptr () 0 0 0) rfl rfl rfl (g_1 (l := .int .i64 5) rfl rfl rfl g_n)) rfl rfl ent76 (spec_l1Rd_below_sim gr 5 h3) (.inl rfl) rfl rfl rfl rfl ?_)
  refine n_ (x_bu (cells := [.int .i64 21, .int .i64 8, .int .i64 0, .int .i64 0, .int .i64 0, .int .i64 x2.1, .nl]) T53 rfl rfl rfl ?_)
  refine z_ ?_
  refine WpO.ghb (f_nb (u' := .agg [.int .i64 21, .int .i64 8, .int .i64 0, .int .i64 0, .int .i64 0, .int .i64 x2.1, .bs () 1 (List.map iL (([] : List Int)))]) 27 6 1 rfl rfl rfl rfl) ?_
  refine o_run (Y := sysA _) 2 ?_
  obtain ⟨x4, h5, hm⟩ := of_bind hm
  refine n_ (x_cg (v := .u (.one (.int .i64 x4.1))) (nobs := []) (oa' := _) (nx' := 5) (cs := []) (obs := [⟨(), 15, [hl2G (.ptr () 1 0 0) (.ref () 2 0 (List.length grets)) (.ref () 3 0 (List.length gpars)) g]⟩, ⟨(), 2, [el1Rd false x2.2]⟩, ⟨(), 1, List.map iL grets⟩, ⟨(), 1, List.map (lL false 1 iL) gpars⟩]) [0, 1, 2, 3] false rfl (by decide) (h_c rfl (h_c rfl (h_c (hrow rfl) (h_c (hrow rfl) h_n)))) (by simp only [hl2G, List.all_cons, List.all_nil, knows_map, Bool.and_true, Bool.true_and] <;> rfl) (g_1 (l := .ptr () 0 0 0) rfl rfl rfl (g_a (ls := eInst false (({ op_ := 21, w := 8, a := 0, b := 0, c := 0, imm := x2.1, args := ([] : List Int) } : GInst))) rfl rfl rfl g_n)) rfl rfl ent129 (spec_l2G_put_sim g x2.2 grets gpars (({ op_ := 21, w := 8, a := 0, b := 0, c := 0, imm := x2.1, args := ([] : List Int) } : GInst)) h5) (.inl rfl) rfl rfl (by simp only [hl2G, oaG, List.drop_succ_cons, List.drop_zero, List.drop_nil, List.take_succ_cons, List.take_zero, List.take_nil, List.length_cons, List.length_nil, List.map_cons, List.map_nil, List.zipIdx_nil, List.zip_cons_cons, List.zip_nil_right, updO, pushO, ren_map] <;> rfl) rfl ?_)
  refine n_ (x_as rfl rfl ?_)
  refine z_ ?_
  refine o_end ?_
  refine Wp.seq ?_
  refine c_reg (Y := sysA _) ?_
  refine n_ (x_mv rfl rfl ?_)
  refine n_ (x_ncp rfl rfl rfl ?_)
  refine n_ (x_fap rfl F135_0 rfl rfl ?_)
  refine n_ (x_ldp rfl T64 rfl rfl rfl rfl rfl ?_)
  obtain ⟨x6, h7, hm⟩ := of_bind hm
  refine n_ (x_cg (v := .u (.one (.int .i64 x6.1))) (nobs := []) (oa' := _) (nx' := 5) (cs := []) (obs := [⟨(), 2, [el1Rd false x4.2.2]⟩]) [1] false rfl (by decide) (h_c rfl h_n) rfl (g_1 (l := .ptr () 0 0 0) rfl rfl rfl g_n) rfl rfl ent119 (spec_l1Rd_width_sim x4.2.2 h7) (.inl rfl) rfl rfl rfl rfl ?_)
  refine n_ (x_as rfl rfl ?_)
  refine z_ ?_
  refine Wp.seq ?_
  refine c_reg (Y := sysA _) ?_
  refine n_ (x_mv rfl rfl ?_)
  refine n_ (x_mv rfl rfl ?_)
  obtain ⟨x8, h9, hm⟩ := of_bind hm
  refine n_ (x_cg (v := .u (.one (.int .i64 x8.1))) (nobs := []) (oa' := _) (nx' := 5) (cs := []) (obs := [⟨(), 15, [hl2G (.ptr () 1 0 0) (.ref () 2 0 (List.length grets)) (.ref () 3 0 (List.length gpars)) x4.2.1]⟩, ⟨(), 2, [el1Rd false x6.2]⟩, ⟨(), 1, List.map iL grets⟩, ⟨(), 1, List.map (lL false 1 iL) gpars⟩]) [0, 1, 2, 3] false rfl (by decide) (h_c rfl (h_c rfl (h_c (hrow rfl) (h_c (hrow rfl) h_n)))) (by simp only [hl2G, List.all_cons, List.all_nil, knows_map, Bool.and_true, Bool.true_and] <;> rfl) (g_1 (l := .ptr () 0 0 0) rfl rfl rfl (g_1 (l := .int .i64 x6.1) rfl rfl rfl g_n)) rfl rfl ent131 (spec_l2G_pick_sim x4.2.1 x6.2 grets gpars x6.1 h9) (.inl rfl) rfl rfl (by simp only [hl2G, oaG, List.drop_succ_cons, List.drop_zero, List.drop_nil, List.take_succ_cons, List.take_zero, List.take_nil, List.length_cons, List.length_nil, List.map_cons, List.map_nil, List.zipIdx_nil, List.zip_cons_cons, List.zip_nil_right, updO, pushO, ren_map] <;> rfl) rfl ?_)
  refine n_ (x_as rfl rfl ?_)
  refine z_ ?_
  refine Wp.seq ?_
  refine c_reg (Y := sysA _) ?_
  refine n_ (x_mv rfl rfl ?_)
  refine n_ (x_mv rfl rfl ?_)
  refine n_ (x_addc T2 rfl rfl (by unfold inI; omega) ?_)
  refine n_ (x_bu (cells := (eTerm (({ kind := 2, a := 0, x := ((List.length g.f.blocks : Int)) + 1, y := 0 } : GTerm)))) T59 rfl rfl rfl ?_)
  obtain ⟨x10, h11, hm⟩ := of_bind hm
  refine n_ (x_cg (v := .tup []) (nobs := []) (oa' := _) (nx' := 5) (cs := []) (obs := [⟨(), 15, [hl2G (.ptr () 1 0 0) (.ref () 2 0 (List.length grets)) (.ref () 3 0 (List.length gpars)) x8.2.1]⟩, ⟨(), 2, [el1Rd false x8.2.2]⟩, ⟨(), 1, List.map iL grets⟩, ⟨(), 1, List.map (lL false 1 iL) gpars⟩]) [0, 1, 2, 3] false rfl (by decide) (h_c rfl (h_c rfl (h_c (hrow rfl) (h_c (hrow rfl) h_n)))) (by simp only [hl2G, List.all_cons, List.all_nil, knows_map, Bool.and_true, Bool.true_and] <;> rfl) (g_1 (l := .ptr () 0 0 0) rfl rfl rfl (g_a (ls := eTerm (({ kind := 2, a := 0, x := ((List.length g.f.blocks : Int)) + 1, y := 0 } : GTerm))) rfl rfl rfl g_n)) rfl rfl ent133 (spec_l2G_close_sim x8.2.1 x8.2.2 grets gpars (({ kind := 2, a := 0, x := ((List.length g.f.blocks : Int)) + 1, y := 0 } : GTerm)) h11) (.inl rfl) rfl rfl (by simp only [hl2G, oaG, List.drop_succ_cons, List.drop_zero, List.drop_nil, List.take_succ_cons, List.take_zero, List.take_nil, List.length_cons, List.length_nil, List.map_cons, List.map_nil, List.zipIdx_nil, List.zip_cons_cons, List.zip_nil_right, updO, pushO, ren_map] <;> rfl) rfl ?_)
  refine z_ ?_
  refine Wp.seq ?_
  refine c_reg (Y := sysA _) ?_
  refine n_ (x_mv rfl rfl ?_)
  refine n_ (x_mv rfl rfl ?_)
  refine n_ (x_bsm (enc := iL) ([x4.1, 0]) A24 rfl rfl rfl rfl ?_)
  obtain ⟨x12, h13, hm⟩ := of_bind hm
  refine n_ (x_co (v := .u (.one (.int .i64 x12.1))) (nobs := []) (oa' := _) (nx' := 6) (cs := []) (obs := [⟨(), 15, [hl2G (.ptr () 1 0 0) (.ref () 2 0 (List.length grets)) (.ref () 3 0 (List.length gpars)) x10.1]⟩, ⟨(), 2, [el1Rd false x10.2]⟩, ⟨(), 1, List.map iL grets⟩, ⟨(), 1, List.map (lL false 1 iL) gpars⟩]) [0, 1, 2, 3] [5] rfl (by decide) (h_c rfl (h_c rfl (h_c (hrow rfl) (h_c (hrow rfl) h_n)))) (by simp only [hl2G, List.all_cons, List.all_nil, knows_map, Bool.and_true, Bool.true_and] <;> rfl) (q_1 (l := .ptr () 0 0 0) rfl rfl rfl (q_1 (l := .int .i64 8) rfl rfl rfl (q_o (enc := iL) (ys := [x4.1, 0]) rfl rfl (by simp) q_n))) rfl rfl ent134 (spec_l2G_phi_sim x10.1 x10.2 grets gpars 8 ([x4.1, 0]) h13) rfl rfl (by simp only [hl2G, oaG, List.drop_succ_cons, List.drop_zero, List.drop_nil, List.take_succ_cons, List.take_zero, List.take_nil, List.length_cons, List.length_nil, List.map_cons, List.map_nil, List.zipIdx_nil, List.zip_cons_cons, List.zip_nil_right, updO, pushO, ren_map] <;> rfl) rfl ?_)
  refine n_ (x_as rfl rfl ?_)
  refine z_ ?_
  refine Wp.seq ?_
  refine c_reg (Y := sysA _) ?_
  refine n_ (x_mv rfl rfl ?_)
  refine n_ (x_mv rfl rfl ?_)
  refine n_ (x_mv rfl rfl ?_)
  refine n_ (x_bsm (enc := iL) ([x8.1, 0]) A24 rfl rfl rfl rfl ?_)
  obtain ⟨x14, h15, hm⟩ := of_bind hm
  refine n_ (x_co (v := .u (.one (.int .i64 x14.1))) (nobs := []) (oa' := _) (nx' := 7) (cs := []) (obs := [⟨(), 15, [hl2G (.ptr () 1 0 0) (.ref () 2 0 (List.length grets)) (.ref () 3 0 (List.length gpars)) x12.2.1]⟩, ⟨(), 2, [el1Rd false x12.2.2]⟩, ⟨(), 1, List.map iL grets⟩, ⟨(), 1, List.map (lL false 1 iL) gpars⟩]) [0, 1, 2, 3] [6] rfl (by decide) (h_c rfl (h_c rfl (h_c (hrow rfl) (h_c (hrow rfl) h_n)))) (by simp only [hl2G, List.all_cons, List.all_nil, knows_map, Bool.and_true, Bool.true_and] <;> rfl) (q_1 (l := .ptr () 0 0 0) rfl rfl rfl (q_1 (l := .int .i64 x6.1) rfl rfl rfl (q_o (enc := iL) (ys := [x8.1, 0]) rfl rfl (by simp) q_n))) rfl rfl ent134 (spec_l2G_phi_sim x12.2.1 x12.2.2 grets gpars x6.1 ([x8.1, 0]) h15) rfl rfl (by simp only [hl2G, oaG, List.drop_succ_cons, List.drop_zero, List.drop_nil, List.take_succ_cons, List.take_zero, List.take_nil, List.length_cons, List.length_nil, List.map_cons, List.map_nil, List.zipIdx_nil, List.zip_cons_cons, List.zip_nil_right, updO, pushO, ren_map] <;> rfl) rfl ?_)
  refine n_ (x_as rfl rfl ?_)
  refine z_ ?_
  refine Wp.seq ?_
  refine c_regS ?_
  refine o_run (Y := sysA _) 2 ?_
  refine n_ (x_mv rfl rfl ?_)
  refine n_ (x_bu (cells := [.int .i64 21, .int .i64 8, .int .i64 0, .int .i64 0, .int .i64 0, .int .i64 0, .nl]) T53 rfl rfl rfl ?_)
  refine z_ ?_
  refine WpO.ghb (f_nb (u' := .agg [.int .i64 21, .int .i64 8, .int .i64 0, .int .i64 0, .int .i64 0, .int .i64 0, .bs () 1 (List.map iL (([] : List Int)))]) 52 6 1 rfl rfl rfl rfl) ?_
  refine o_run (Y := sysA _) 2 ?_
  obtain ⟨x16, h17, hm⟩ := of_bind hm
  refine n_ (x_cg (v := .u (.one (.int .i64 x16.1))) (nobs := []) (oa' := _) (nx' := 7) (cs := []) (obs := [⟨(), 15, [hl2G (.ptr () 1 0 0) (.ref () 2 0 (List.length grets)) (.ref () 3 0 (List.length gpars)) x14.2.1]⟩, ⟨(), 2, [el1Rd false x14.2.2]⟩, ⟨(), 1, List.map iL grets⟩, ⟨(), 1, List.map (lL false 1 iL) gpars⟩]) [0, 1, 2, 3] false rfl (by decide) (h_c rfl (h_c rfl (h_c (hrow rfl) (h_c (hrow rfl) h_n)))) (by simp only [hl2G, List.all_cons, List.all_nil, knows_map, Bool.and_true, Bool.true_and] <;> rfl) (g_1 (l := .ptr () 0 0 0) rfl rfl rfl (g_a (ls := eInst false (({ op_ := 21, w := 8, a := 0, b := 0, c := 0, imm := 0, args := ([] : List Int) } : GInst))) rfl rfl rfl g_n)) rfl rfl ent129 (spec_l2G_put_sim x14.2.1 x14.2.2 grets gpars (({ op_ := 21, w := 8, a := 0, b := 0, c := 0, imm := 0, args := ([] : List Int) } : GInst)) h17) (.inl rfl) rfl rfl (by simp only [hl2G, oaG, List.drop_succ_cons, List.drop_zero, List.drop_nil, List.take_succ_cons, List.take_zero, List.take_nil, List.length_cons, List.length_nil, List.map_cons, List.map_nil, List.zipIdx_nil, List.zip_cons_cons, List.zip_nil_right, updO, pushO, ren_map] <;> rfl) rfl ?_)
  refine n_ (x_as rfl rfl ?_)
  refine z_ ?_
  refine o_end ?_
  refine Wp.seq ?_
  refine c_regS ?_
  refine o_run (Y := sysA _) 4 ?_
  refine n_ (x_mv rfl rfl ?_)
  refine n_ (x_mv rfl rfl ?_)
  refine n_ (x_mv rfl rfl ?_)
  refine n_ (x_bu (cells := [.int .i64 15, .int .i64 8, .int .i64 x12.1, .int .i64 x16.1, .int .i64 0, .int .i64 0, .nl]) T53 rfl rfl rfl ?_)
  refine z_ ?_
  refine WpO.ghb (f_nb (u' := .agg [.int .i64 15, .int .i64 8, .int .i64 x12.1, .int .i64 x16.1, .int .i64 0, .int .i64 0, .bs () 1 (List.map iL (([] : List Int)))]) 57 6 1 rfl rfl rfl rfl) ?_
  refine o_run (Y := sysA _) 2 ?_
  obtain ⟨x18, h19, hm⟩ := of_bind hm
  refine n_ (x_cg (v := .u (.one (.int .i64 x18.1))) (nobs := []) (oa' := _) (nx' := 7) (cs := []) (obs := [⟨(), 15, [hl2G (.ptr () 1 0 0) (.ref () 2 0 (List.length grets)) (.ref () 3 0 (List.length gpars)) x16.2.1]⟩, ⟨(), 2, [el1Rd false x16.2.2]⟩, ⟨(), 1, List.map iL grets⟩, ⟨(), 1, List.map (lL false 1 iL) gpars⟩]) [0, 1, 2, 3] false rfl (by decide) (h_c rfl (h_c rfl (h_c (hrow rfl) (h_c (hrow rfl) h_n)))) (by simp only [hl2G, List.all_cons, List.all_nil, knows_map, Bool.and_true, Bool.true_and] <;> rfl) (g_1 (l := .ptr () 0 0 0) rfl rfl rfl (g_a (ls := eInst false (({ op_ := 15, w := 8, a := x12.1, b := x16.1, c := 0, imm := 0, args := ([] : List Int) } : GInst))) rfl rfl rfl g_n)) rfl rfl ent129 (spec_l2G_put_sim x16.2.1 x16.2.2 grets gpars (({ op_ := 15, w := 8, a := x12.1, b := x16.1, c := 0, imm := 0, args := ([] : List Int) } : GInst)) h19) (.inl rfl) rfl rfl (by simp only [hl2G, oaG, List.drop_succ_cons, List.drop_zero, List.drop_nil, List.take_succ_cons, List.take_zero, List.take_nil, List.length_cons, List.length_nil, List.map_cons, List.map_nil, List.zipIdx_nil, List.zip_cons_cons, List.zip_nil_right, updO, pushO, ren_map] <;> rfl) rfl ?_)
  refine n_ (x_as rfl rfl ?_)
  refine z_ ?_
  refine o_end ?_
  refine Wp.seq ?_
  refine c_reg (Y := sysA _) ?_
  refine n_ (x_mv rfl rfl ?_)
  refine n_ (x_mv rfl rfl ?_)
  refine n_ (x_mv rfl rfl ?_)
  refine n_ (x_addc T2 rfl rfl (by unfold inI; omega) ?_)
  refine n_ (x_mv rfl rfl ?_)
  refine n_ (x_addc T2 rfl rfl (by unfold inI; omega) ?_)
  refine n_ (x_bu (cells := (eTerm (({ kind := 3, a := x18.1, x := ((List.length g.f.blocks : Int)) + 2, y := ((List.length g.f.blocks : Int)) + 3 } : GTerm)))) T59 rfl rfl rfl ?_)
  obtain ⟨x20, h21, hm⟩ := of_bind hm
  refine n_ (x_cg (v := .tup []) (nobs := []) (oa' := _) (nx' := 7) (cs := []) (obs := [⟨(), 15, [hl2G (.ptr () 1 0 0) (.ref () 2 0 (List.length grets)) (.ref () 3 0 (List.length gpars)) x18.2.1]⟩, ⟨(), 2, [el1Rd false x18.2.2]⟩, ⟨(), 1, List.map iL grets⟩, ⟨(), 1, List.map (lL false 1 iL) gpars⟩]) [0, 1, 2, 3] false rfl (by decide) (h_c rfl (h_c rfl (h_c (hrow rfl) (h_c (hrow rfl) h_n)))) (by simp only [hl2G, List.all_cons, List.all_nil, knows_map, Bool.and_true, Bool.true_and] <;> rfl) (g_1 (l := .ptr () 0 0 0) rfl rfl rfl (g_a (ls := eTerm (({ kind := 3, a := x18.1, x := ((List.length g.f.blocks : Int)) + 2, y := ((List.length g.f.blocks : Int)) + 3 } : GTerm))) rfl rfl rfl g_n)) rfl rfl ent133 (spec_l2G_close_sim x18.2.1 x18.2.2 grets gpars (({ kind := 3, a := x18.1, x := ((List.length g.f.blocks : Int)) + 2, y := ((List.length g.f.blocks : Int)) + 3 } : GTerm)) h21) (.inl rfl) rfl rfl (by simp only [hl2G, oaG, List.drop_succ_cons, List.drop_zero, List.drop_nil, List.take_succ_cons, List.take_zero, List.take_nil, List.length_cons, List.length_nil, List.map_cons, List.map_nil, List.zipIdx_nil, List.zip_cons_cons, List.zip_nil_right, updO, pushO, ren_map] <;> rfl) rfl ?_)
  refine z_ ?_
  refine Wp.seq ?_
  refine c_reg (Y := sysA _) ?_
  refine n_ (x_mv rfl rfl ?_)
  refine n_ (x_ncp rfl rfl rfl ?_)
  refine n_ (x_fap rfl F135_4 rfl rfl ?_)
  refine n_ (x_ldp rfl T24 rfl rfl rfl rfl rfl ?_)
  refine n_ (x_as rfl rfl ?_)
  refine z_ ?_
  refine Wp.seq ?_
  refine c_reg (Y := sysA _) ?_
  refine n_ (x_mv rfl rfl ?_)
  refine n_ (x_ncp rfl rfl rfl ?_)
  refine n_ (x_fap rfl F135_5 rfl rfl ?_)
  refine n_ (x_ldp rfl T24 rfl rfl rfl rfl rfl ?_)
  refine n_ (x_as rfl rfl ?_)
  refine z_ ?_
  refine Wp.seq ?_
  refine c_regS ?_
  refine o_run (Y := sysA _) 2 ?_
  refine n_ (x_mv rfl rfl ?_)
  refine n_ (x_bu (cells := [.int .i64 21, .int .i64 8, .int .i64 0, .int .i64 0, .int .i64 0, .int .i64 1, .nl]) T53 rfl rfl rfl ?_)
  refine z_ ?_
  refine WpO.ghb (f_nb (u' := .agg [.int .i64 21, .int .i64 8, .int .i64 0, .int .i64 0, .int .i64 0, .int .i64 1, .bs () 1 (List.map iL (([] : List Int)))]) 76 6 1 rfl rfl rfl rfl) ?_
  refine o_run (Y := sysA _) 2 ?_
  obtain ⟨x22, h23, hm⟩ := of_bind hm
  refine n_ (x_cg (v := .u (.one (.int .i64 x22.1))) (nobs := []) (oa' := _) (nx' := 7) (cs := []) (obs := [⟨(), 15, [hl2G (.ptr () 1 0 0) (.ref () 2 0 (List.length grets)) (.ref () 3 0 (List.length gpars)) x20.1]⟩, ⟨(), 2, [el1Rd false x20.2]⟩, ⟨(), 1, List.map iL grets⟩, ⟨(), 1, List.map (lL false 1 iL) gpars⟩]) [0, 1, 2, 3] false rfl (by decide) (h_c rfl (h_c rfl (h_c (hrow rfl) (h_c (hrow rfl) h_n)))) (by simp only [hl2G, List.all_cons, List.all_nil, knows_map, Bool.and_true, Bool.true_and] <;> rfl) (g_1 (l := .ptr () 0 0 0) rfl rfl rfl (g_a (ls := eInst false (({ op_ := 21, w := 8, a := 0, b := 0, c := 0, imm := 1, args := ([] : List Int) } : GInst))) rfl rfl rfl g_n)) rfl rfl ent129 (spec_l2G_put_sim x20.1 x20.2 grets gpars (({ op_ := 21, w := 8, a := 0, b := 0, c := 0, imm := 1, args := ([] : List Int) } : GInst)) h23) (.inl rfl) rfl rfl (by simp only [hl2G, oaG, List.drop_succ_cons, List.drop_zero, List.drop_nil, List.take_succ_cons, List.take_zero, List.take_nil, List.length_cons, List.length_nil, List.map_cons, List.map_nil, List.zipIdx_nil, List.zip_cons_cons, List.zip_nil_right, updO, pushO, ren_map] <;> rfl) rfl ?_)
  refine n_ (x_as rfl rfl ?_)
  refine z_ ?_
  refine o_end ?_
  refine Wp.seq ?_
  refine c_regS ?_
  refine o_run (Y := sysA _) 4 ?_
  refine n_ (x_mv rfl rfl ?_)
  refine n_ (x_mv rfl rfl ?_)
  refine n_ (x_mv rfl rfl ?_)
  refine n_ (x_bu (cells := [.int .i64 2, .int .i64 8, .int .i64 x12.1, .int .i64 x22.1, .int .i64 0, .int .i64 0, .nl]) T53 rfl rfl rfl ?_)
  refine z_ ?_
  refine WpO.ghb (f_nb (u' := .agg [.int .i64 2, .int .i64 8, .int .i64 x12.1, .int .i64 x22.1, .int .i64 0, .int .i64 0, .bs () 1 (List.map iL (([] : List Int)))]) 81 6 1 rfl rfl rfl rfl) ?_
  refine o_run (Y := sysA _) 2 ?_
  obtain ⟨x24, h25, hm⟩ := of_bind hm
  refine n_ (x_cg (v := .u (.one (.int .i64 x24.1))) (nobs := []) (oa' := _) (nx' := 7) (cs := []) (obs := [⟨(), 15, [hl2G (.ptr () 1 0 0) (.ref () 2 0 (List.length grets)) (.ref () 3 0 (List.length gpars)) x22.2.1]⟩, ⟨(), 2, [el1Rd false x22.2.2]⟩, ⟨(), 1, List.map iL grets⟩, ⟨(), 1, List.map (lL false 1 iL) gpars⟩]) [0, 1, 2, 3] false rfl (by decide) (h_c rfl (h_c rfl (h_c (hrow rfl) (h_c (hrow rfl) h_n)))) (by simp only [hl2G, List.all_cons, List.all_nil, knows_map, Bool.and_true, Bool.true_and] <;> rfl) (g_1 (l := .ptr () 0 0 0) rfl rfl rfl (g_a (ls := eInst false (({ op_ := 2, w := 8, a := x12.1, b := x22.1, c := 0, imm := 0, args := ([] : List Int) } : GInst))) rfl rfl rfl g_n)) rfl rfl ent129 (spec_l2G_put_sim x22.2.1 x22.2.2 grets gpars (({ op_ := 2, w := 8, a := x12.1, b := x22.1, c := 0, imm := 0, args := ([] : List Int) } : GInst)) h25) (.inl rfl) rfl rfl (by simp only [hl2G, oaG, List.drop_succ_cons, List.drop_zero, List.drop_nil, List.take_succ_cons, List.take_zero, List.take_nil, List.length_cons, List.length_nil, List.map_cons, List.map_nil, List.zipIdx_nil, List.zip_cons_cons, List.zip_nil_right, updO, pushO, ren_map] <;> rfl) rfl ?_)
  refine n_ (x_as rfl rfl ?_)
  refine z_ ?_
  refine o_end ?_
  refine Wp.seq ?_
  refine c_reg (Y := sysA _) ?_
  refine n_ (x_mv rfl rfl ?_)
  refine n_ (x_mv rfl rfl ?_)
  refine n_ (x_ncp rfl rfl rfl ?_)
  refine n_ (x_fap rfl F135_0 rfl rfl ?_)
  refine n_ (x_ldp rfl T64 rfl rfl rfl rfl rfl ?_)
  obtain ⟨x26, h27, hm⟩ := of_bind hm
  refine n_ (x_cg (v := .u (.one (.int .i64 x26.1))) (nobs := []) (oa' := _) (nx' := 7) (cs := []) (obs := [⟨(), 2, [el1Rd false x24.2.2]⟩]) [1] false rfl (by decide) (h_c rfl h_n) rfl (g_1 (l := .ptr () 0 0 0) rfl rfl rfl (g_1 (l := .int .i64 3) rfl rfl rfl g_n)) rfl rfl ent76 (spec_l1Rd_below_sim x24.2.2 3 h27) (.inl rfl) rfl rfl rfl rfl ?_)
  obtain ⟨x28, h29, hm⟩ := of_bind hm
  refine n_ (x_cg (v := .tup []) (nobs := []) (oa' := _) (nx' := 7) (cs := []) (obs := [⟨(), 15, [hl2G (.ptr () 1 0 0) (.ref () 2 0 (List.length grets)) (.ref () 3 0 (List.length gpars)) x24.2.1]⟩, ⟨(), 2, [el1Rd false x26.2]⟩, ⟨(), 1, List.map iL grets⟩, ⟨(), 1, List.map (lL false 1 iL) gpars⟩]) [0, 1, 2, 3] false rfl (by decide) (h_c rfl (h_c rfl (h_c (hrow rfl) (h_c (hrow rfl) h_n)))) (by simp only [hl2G, List.all_cons, List.all_nil, knows_map, Bool.and_true, Bool.true_and] <;> rfl) (g_1 (l := .ptr () 0 0 0) rfl rfl rfl (g_1 (l := .int .i64 x26.1) rfl rfl rfl g_n)) rfl rfl ent121 (spec_l2G_some_sim x24.2.1 x26.2 grets gpars x26.1 h29) (.inl rfl) rfl rfl (by simp only [hl2G, oaG, List.drop_succ_cons, List.drop_zero, List.drop_nil, List.take_succ_cons, List.take_zero, List.take_nil, List.length_cons, List.length_nil, List.map_cons, List.map_nil, List.zipIdx_nil, List.zip_cons_cons, List.zip_nil_right, updO, pushO, ren_map] <;> rfl) rfl ?_)
  refine z_ ?_
  refine Wp.seq ?_
  refine c_reg (Y := sysA _) ?_
  refine n_ (x_mv rfl rfl ?_)
  refine n_ (x_mv rfl rfl ?_)
  obtain ⟨x30, h31, hm⟩ := of_bind hm
  refine n_ (x_cg (v := .u (.one (.int .i64 x30.1))) (nobs := []) (oa' := _) (nx' := 7) (cs := []) (obs := [⟨(), 15, [hl2G (.ptr () 1 0 0) (.ref () 2 0 (List.length grets)) (.ref () 3 0 (List.length gpars)) x28.1]⟩, ⟨(), 2, [el1Rd false x28.2]⟩, ⟨(), 1, List.map iL grets⟩, ⟨(), 1, List.map (lL false 1 iL) gpars⟩]) [0, 1, 2, 3] false rfl (by decide) (h_c rfl (h_c rfl (h_c (hrow rfl) (h_c (hrow rfl) h_n)))) (by simp only [hl2G, List.all_cons, List.all_nil, knows_map, Bool.and_true, Bool.true_and] <;> rfl) (g_1 (l := .ptr () 0 0 0) rfl rfl rfl (g_1 (l := .int .i64 x6.1) rfl rfl rfl g_n)) rfl rfl ent131 (spec_l2G_pick_sim x28.1 x28.2 grets gpars x6.1 h31) (.inl rfl) rfl rfl (by simp only [hl2G, oaG, List.drop_succ_cons, List.drop_zero, List.drop_nil, List.take_succ_cons, List.take_zero, List.take_nil, List.length_cons, List.length_nil, List.map_cons, List.map_nil, List.zipIdx_nil, List.zip_cons_cons, List.zip_nil_right, updO, pushO, ren_map] <;> rfl) rfl ?_)
  refine n_ (x_as rfl rfl ?_)
  refine z_ ?_
  refine Wp.seq ?_
  obtain ⟨j32, hj36, hm⟩ := of_bind hm
  refine c_cut (St 145 [(0, .u (.one (.ptr () 0 0 0))), (2, .u (.one (.int .i64 ((List.length g.f.blocks : Int))))), (10, .u (.one (.bs () 1 (List.map iL x20.1.ids)))), (11, .u (.one (.bs () 1 (List.map iL x20.1.ws)))), (13, .u (.one (.int .i64 x24.1))), (14, .u (.one (.int .i64 j32.2.2)))] [(0, some ⟨(), 15, [[.ptr () 1 0 0, .os () 1 (List.map iL j32.1.f.params), .int .i64 j32.1.f.ret, .os () 6 (List.map (eBlock true) j32.1.f.blocks), .os () 2 (List.map (ePhi true) j32.1.b.phis), .os () 7 (List.map (eInst false) j32.1.b.insts), .int .i64 j32.1.b.term.kind, .int .i64 j32.1.b.term.a, .int .i64 j32.1.b.term.x, .int .i64 j32.1.b.term.y, .int .i64 j32.1.next, .bs () 1 (List.map iL j32.1.ids), .bs () 1 (List.map iL j32.1.ws), .ref () 2 0 (List.length grets), .ref () 3 0 (List.length gpars)]]⟩), (1, some ⟨(), 2, [(el1Rd false j32.2.1)]⟩), (2, some ⟨(), 1, List.map iL grets⟩), (3, some ⟨(), 1, List.map (lL false 1 iL) gpars⟩)] 4) ?_ ?_
  · replace hm := hj36
    refine Wp.seq ?_
    refine c_reg (Y := sysA _) ?_
    refine n_ (x_mv rfl rfl ?_)
    refine n_ (x_mv rfl rfl ?_)
    refine n_ (x_bin T2 rfl rfl rfl ?_)
    refine z_ ?_
    refine c_s rfl rfl (fun hb33 => ?_) (fun hb33 => ?_)
    · rw [if_pos (show _ = true from hb33)] at hm
      refine c_regS ?_
      refine o_run (Y := sysA _) 5 ?_
      refine n_ (x_mv rfl rfl ?_)
      refine n_ (x_mv rfl rfl ?_)
      refine n_ (x_mv rfl rfl ?_)
      refine n_ (x_mv rfl rfl ?_)
      refine n_ (x_bu (cells := [.int .i64 1, .int .i64 x6.1, .int .i64 x14.1, .int .i64 x8.1, .int .i64 0, .int .i64 0, .nl]) T53 rfl rfl rfl ?_)
      refine z_ ?_
      refine WpO.ghb (f_nb (u' := .agg [.int .i64 1, .int .i64 x6.1, .int .i64 x14.1, .int .i64 x8.1, .int .i64 0, .int .i64 0, .bs () 1 (List.map iL (([] : List Int)))]) 100 6 1 rfl rfl rfl rfl) ?_
      refine o_run (Y := sysA _) 2 ?_
      obtain ⟨x34, h35, hm⟩ := of_bind hm
      refine n_ (x_cg (v := .u (.one (.int .i64 x34.1))) (nobs := []) (oa' := _) (nx' := 7) (cs := []) (obs := [⟨(), 15, [hl2G (.ptr () 1 0 0) (.ref () 2 0 (List.length grets)) (.ref () 3 0 (List.length gpars)) x30.2.1]⟩, ⟨(), 2, [el1Rd false x30.2.2]⟩, ⟨(), 1, List.map iL grets⟩, ⟨(), 1, List.map (lL false 1 iL) gpars⟩]) [0, 1, 2, 3] false rfl (by decide) (h_c rfl (h_c rfl (h_c (hrow rfl) (h_c (hrow rfl) h_n)))) (by simp only [hl2G, List.all_cons, List.all_nil, knows_map, Bool.and_true, Bool.true_and] <;> rfl) (g_1 (l := .ptr () 0 0 0) rfl rfl rfl (g_a (ls := eInst false (({ op_ := 1, w := x6.1, a := x14.1, b := x8.1, c := 0, imm := 0, args := ([] : List Int) } : GInst))) rfl rfl rfl g_n)) rfl rfl ent129 (spec_l2G_put_sim x30.2.1 x30.2.2 grets gpars (({ op_ := 1, w := x6.1, a := x14.1, b := x8.1, c := 0, imm := 0, args := ([] : List Int) } : GInst)) h35) (.inl rfl) rfl rfl (by simp only [hl2G, oaG, List.drop_succ_cons, List.drop_zero, List.drop_nil, List.take_succ_cons, List.take_zero, List.take_nil, List.length_cons, List.length_nil, List.map_cons, List.map_nil, List.zipIdx_nil, List.zip_cons_cons, List.zip_nil_right, updO, pushO, ren_map] <;> rfl) rfl ?_)
      refine n_ (x_as rfl rfl ?_)
      refine z_ ?_
      refine o_end ?_
      cases hm
      exact w_ [0, 1, 2, 3] (.cons rfl rfl (.cons rfl rfl (.cons rfl rfl (.cons rfl rfl (.cons rfl rfl (.cons rfl rfl .nil)))))) (.lit rfl rfl (.lit rfl rfl (.map rfl (.map rfl .nil)))) (by decide) (hB_n 4 hB0 rfl)
    · rw [if_neg (by rw [hb33]; decide)] at hm
      refine c_skip ?_
      cases hm
      exact w_ [0, 1, 2, 3] (.cons rfl rfl (.cons rfl rfl (.cons rfl rfl (.cons rfl rfl (.cons rfl rfl (.cons rfl rfl .nil)))))) (.lit rfl rfl (.lit rfl rfl (.map rfl (.map rfl .nil)))) (by decide) (hB_n 4 hB0 rfl)
  · refine Wp.seq ?_
    refine c_reg (Y := sysA _) ?_
    refine n_ (x_mv rfl rfl ?_)
    refine n_ (x_mv rfl rfl ?_)
    refine n_ (x_addc T2 rfl rfl (by unfold inI; omega) ?_)
    refine n_ (x_bu (cells := (eTerm (({ kind := 2, a := 0, x := ((List.length g.f.blocks : Int)) + 1, y := 0 } : GTerm)))) T59 rfl rfl rfl ?_)
    obtain ⟨x37, h38, hm⟩ := of_bind hm
    refine n_ (x_cg (v := .tup []) (nobs := []) (oa' := _) (nx' := 4) (cs := []) (obs := [⟨(), 15, [hl2G (.ptr () 1 0 0) (.ref () 2 0 (List.length grets)) (.ref () 3 0 (List.length gpars)) j32.1]⟩, ⟨(), 2, [el1Rd false j32.2.1]⟩, ⟨(), 1, List.map iL grets⟩, ⟨(), 1, List.map (lL false 1 iL) gpars⟩]) [0, 1, 2, 3] false rfl (by decide) (h_c rfl (h_c rfl (h_c (hrow rfl) (h_c (hrow rfl) h_n)))) (by simp only [hl2G, List.all_cons, List.all_nil, knows_map, Bool.and_true, Bool.true_and] <;> rfl) (g_1 (l := .ptr () 0 0 0) rfl rfl rfl (g_a (ls := eTerm (({ kind := 2, a := 0, x := ((List.length g.f.blocks : Int)) + 1, y := 0 } : GTerm))) rfl rfl rfl g_n)) rfl rfl ent133 (spec_l2G_close_sim j32.1 j32.2.1 grets gpars (({ kind := 2, a := 0, x := ((List.length g.f.blocks : Int)) + 1, y := 0 } : GTerm)) h38) (.inl rfl) rfl rfl (by simp only [hl2G, oaG, List.drop_succ_cons, List.drop_zero, List.drop_nil, List.take_succ_cons, List.take_zero, List.take_nil, List.length_cons, List.length_nil, List.map_cons, List.map_nil, List.zipIdx_nil, List.zip_cons_cons, List.zip_nil_right, updO, pushO, ren_map] <;> rfl) rfl ?_)
    refine z_ ?_
    refine Wp.seq ?_
    refine c_regS ?_
    refine o_run (Y := sysA _) 4 ?_
    refine n_ (x_mv rfl rfl ?_)
    refine n_ (x_ncp rfl rfl rfl ?_)
    refine n_ (x_fap rfl F135_1 rfl rfl ?_)
    refine n_ (x_fap rfl F27_2 rfl rfl ?_)
    refine z_ ?_
    refine WpO.ghb (f_op (rows' := [[.ptr () 1 0 0, .os () 1 (List.map iL x37.1.f.params), .int .i64 x37.1.f.ret, .ref () 4 0 (List.length x37.1.f.blocks), .os () 2 (List.map (ePhi true) x37.1.b.phis), .os () 7 (List.map (eInst false) x37.1.b.insts), .int .i64 x37.1.b.term.kind, .int .i64 x37.1.b.term.a, .int .i64 x37.1.b.term.x, .int .i64 x37.1.b.term.y, .int .i64 x37.1.next, .bs () 1 (List.map iL x37.1.ids), .bs () 1 (List.map iL x37.1.ws), .ref () 2 0 (List.length grets), .ref () 3 0 (List.length gpars)]]) 0 0 3 rfl rfl rfl (by simp) rfl) ?_
    refine o_run (Y := sysA _) 5 ?_
    refine n_ (x_ldp rfl T25 rfl rfl rfl rfl rfl ?_)
    refine n_ (x_mv rfl rfl ?_)
    refine n_ (x_addc T2 rfl rfl (by unfold inI; omega) ?_)
    obtain ⟨h39, hm⟩ := of_ite hm
    refine n_ (x_ix0 rfl E25 rfl rfl rfl h39 ?_)
    refine n_ (x_fap rfl F61_0 rfl rfl ?_)
    refine z_ ?_
    refine WpO.ghb (f_op (rows' := List.set (List.map (eBlock true) x37.1.f.blocks) (Int.toNat (((List.length g.f.blocks : Int)) + 1)) [.ref () 5 0 (List.length ((at_ x37.1.f.blocks (((List.length g.f.blocks : Int)) + 1)).phis)), .os () 7 (List.map (eInst false) ((at_ x37.1.f.blocks (((List.length g.f.blocks : Int)) + 1)).insts)), .int .i64 (((at_ x37.1.f.blocks (((List.length g.f.blocks : Int)) + 1)).term).kind), .int .i64 (((at_ x37.1.f.blocks (((List.length g.f.blocks : Int)) + 1)).term).a), .int .i64 (((at_ x37.1.f.blocks (((List.length g.f.blocks : Int)) + 1)).term).x), .int .i64 (((at_ x37.1.f.blocks (((List.length g.f.blocks : Int)) + 1)).term).y)]) 4 (Int.toNat (((List.length g.f.blocks : Int)) + 1)) 0 rfl (map_get h39) rfl (by simp) rfl) ?_
    refine o_run (Y := sysA _) 3 ?_
    refine n_ (x_ldp rfl T56 rfl rfl (set_get h39) rfl rfl ?_)
    obtain ⟨h40, hm⟩ := of_ite hm
    refine n_ (x_ix0 rfl E56 rfl rfl rfl h40 ?_)
    refine n_ (x_fap rfl F63_1 rfl rfl ?_)
    refine z_ ?_
    refine WpO.ghb (f_op (rows' := List.set (List.map (ePhi true) ((at_ x37.1.f.blocks (((List.length g.f.blocks : Int)) + 1)).phis)) (Int.toNat 0) [.int .i64 ((at_ ((at_ x37.1.f.blocks (((List.length g.f.blocks : Int)) + 1)).phis) 0).w), .ref () 6 0 (List.length ((at_ ((at_ x37.1.f.blocks (((List.length g.f.blocks : Int)) + 1)).phis) 0).ins))]) 5 (Int.toNat 0) 1 rfl (map_get h40) rfl (by simp) rfl) ?_
    refine o_run (Y := sysA _) 4 ?_
    refine n_ (x_ldp rfl T24 rfl rfl (set_get h40) rfl rfl ?_)
    refine n_ (x_mv rfl rfl ?_)
    obtain ⟨h41, hm⟩ := of_ite hm
    refine n_ (x_ix0 rfl E24 rfl rfl rfl h41 ?_)
    refine n_ (x_stn x24.1 T2 rfl rfl rfl h41 rfl rfl rfl rfl ?_)
    refine z_ ?_
    refine WpO.ghb (f_cl (rows2 := List.map iL (List.set ((at_ ((at_ x37.1.f.blocks (((List.length g.f.blocks : Int)) + 1)).phis) 0).ins) (Int.toNat 1) x24.1)) (rows' := List.map (ePhi true) (List.set ((at_ x37.1.f.blocks (((List.length g.f.blocks : Int)) + 1)).phis) (Int.toNat 0) (({ w := (at_ ((at_ x37.1.f.blocks (((List.length g.f.blocks : Int)) + 1)).phis) 0).w, ins := List.set ((at_ ((at_ x37.1.f.blocks (((List.length g.f.blocks : Int)) + 1)).phis) 0).ins) (Int.toNat 1) x24.1 } : GPhi)))) 5 6 (Int.toNat 0) 1 rfl rfl rfl (nest_map (enc := iL) (List.set ((at_ ((at_ x37.1.f.blocks (((List.length g.f.blocks : Int)) + 1)).phis) 0).ins) (Int.toNat 1) x24.1)) (set_get h40) rfl (by simp) (set_map2 rfl)) ?_
    refine WpO.ghb (f_cl (rows2 := List.map (ePhi true) (List.set ((at_ x37.1.f.blocks (((List.length g.f.blocks : Int)) + 1)).phis) (Int.toNat 0) (({ w := (at_ ((at_ x37.1.f.blocks (((List.length g.f.blocks : Int)) + 1)).phis) 0).w, ins := List.set ((at_ ((at_ x37.1.f.blocks (((List.length g.f.blocks : Int)) + 1)).phis) 0).ins) (Int.toNat 1) x24.1 } : GPhi)))) (rows' := List.map (eBlock true) (List.set x37.1.f.blocks (Int.toNat (((List.length g.f.blocks : Int)) + 1)) (({ phis := List.set ((at_ x37.1.f.blocks (((List.length g.f.blocks : Int)) + 1)).phis) (Int.toNat 0) (({ w := (at_ ((at_ x37.1.f.blocks (((List.length g.f.blocks : Int)) + 1)).phis) 0).w, ins := List.set ((at_ ((at_ x37.1.f.blocks (((List.length g.f.blocks : Int)) + 1)).phis) 0).ins) (Int.toNat 1) x24.1 } : GPhi)), insts := (at_ x37.1.f.blocks (((List.length g.f.blocks : Int)) + 1)).insts, term := ((at_ x37.1.f.blocks (((List.length g.f.blocks : Int)) + 1)).term) } : GBlock)))) 4 5 (Int.toNat (((List.length g.f.blocks : Int)) + 1)) 0 rfl rfl rfl (nest_map (enc := ePhi true) (List.set ((at_ x37.1.f.blocks (((List.length g.f.blocks : Int)) + 1)).phis) (Int.toNat 0) (({ w := (at_ ((at_ x37.1.f.blocks (((List.length g.f.blocks : Int)) + 1)).phis) 0).w, ins := List.set ((at_ ((at_ x37.1.f.blocks (((List.length g.f.blocks : Int)) + 1)).phis) 0).ins) (Int.toNat 1) x24.1 } : GPhi)))) (set_get h39) rfl (by simp) (set_map2 rfl)) ?_
    refine o_end ?_
    refine Wp.seq ?_
    refine Wp.ghb _ (f_cl (rows2 := List.map (eBlock true) (List.set x37.1.f.blocks (Int.toNat (((List.length g.f.blocks : Int)) + 1)) (({ phis := List.set ((at_ x37.1.f.blocks (((List.length g.f.blocks : Int)) + 1)).phis) (Int.toNat 0) (({ w := (at_ ((at_ x37.1.f.blocks (((List.length g.f.blocks : Int)) + 1)).phis) 0).w, ins := List.set ((at_ ((at_ x37.1.f.blocks (((List.length g.f.blocks : Int)) + 1)).phis) 0).ins) (Int.toNat 1) x24.1 } : GPhi)), insts := (at_ x37.1.f.blocks (((List.length g.f.blocks : Int)) + 1)).insts, term := ((at_ x37.1.f.blocks (((List.length g.f.blocks : Int)) + 1)).term) } : GBlock)))) (rows' := [[.ptr () 1 0 0, .os () 1 (List.map iL x37.1.f.params), .int .i64 x37.1.f.ret, .os () 6 (List.map (eBlock true) (List.set x37.1.f.blocks (Int.toNat (((List.length g.f.blocks : Int)) + 1)) (({ phis := List.set ((at_ x37.1.f.blocks (((List.length g.f.blocks : Int)) + 1)).phis) (Int.toNat 0) (({ w := (at_ ((at_ x37.1.f.blocks (((List.length g.f.blocks : Int)) + 1)).phis) 0).w, ins := List.set ((at_ ((at_ x37.1.f.blocks (((List.length g.f.blocks : Int)) + 1)).phis) 0).ins) (Int.toNat 1) x24.1 } : GPhi)), insts := (at_ x37.1.f.blocks (((List.length g.f.blocks : Int)) + 1)).insts, term := ((at_ x37.1.f.blocks (((List.length g.f.blocks : Int)) + 1)).term) } : GBlock)))), .os () 2 (List.map (ePhi true) x37.1.b.phis), .os () 7 (List.map (eInst false) x37.1.b.insts), .int .i64 x37.1.b.term.kind, .int .i64 x37.1.b.term.a, .int .i64 x37.1.b.term.x, .int .i64 x37.1.b.term.y, .int .i64 x37.1.next, .bs () 1 (List.map iL x37.1.ids), .bs () 1 (List.map iL x37.1.ws), .ref () 2 0 (List.length grets), .ref () 3 0 (List.length gpars)]]) 0 4 0 3 rfl rfl rfl (nest_map (enc := eBlock true) (List.set x37.1.f.blocks (Int.toNat (((List.length g.f.blocks : Int)) + 1)) (({ phis := List.set ((at_ x37.1.f.blocks (((List.length g.f.blocks : Int)) + 1)).phis) (Int.toNat 0) (({ w := (at_ ((at_ x37.1.f.blocks (((List.length g.f.blocks : Int)) + 1)).phis) 0).w, ins := List.set ((at_ ((at_ x37.1.f.blocks (((List.length g.f.blocks : Int)) + 1)).phis) 0).ins) (Int.toNat 1) x24.1 } : GPhi)), insts := (at_ x37.1.f.blocks (((List.length g.f.blocks : Int)) + 1)).insts, term := ((at_ x37.1.f.blocks (((List.length g.f.blocks : Int)) + 1)).term) } : GBlock)))) rfl rfl (by simp) rfl) ?_
    refine c_regS ?_
    refine o_run (Y := sysA _) 4 ?_
    refine n_ (x_mv rfl rfl ?_)
    refine n_ (x_ncp rfl rfl rfl ?_)
    refine n_ (x_fap rfl F135_1 rfl rfl ?_)
    refine n_ (x_fap rfl F27_2 rfl rfl ?_)
    refine z_ ?_
    refine WpO.ghb (f_op (rows' := [[.ptr () 1 0 0, .os () 1 (List.map iL x37.1.f.params), .int .i64 x37.1.f.ret, .ref () 7 0 (List.length (List.set x37.1.f.blocks (Int.toNat (((List.length g.f.blocks : Int)) + 1)) (({ phis := List.set ((at_ x37.1.f.blocks (((List.length g.f.blocks : Int)) + 1)).phis) (Int.toNat 0) (({ w := (at_ ((at_ x37.1.f.blocks (((List.length g.f.blocks : Int)) + 1)).phis) 0).w, ins := List.set ((at_ ((at_ x37.1.f.blocks (((List.length g.f.blocks : Int)) + 1)).phis) 0).ins) (Int.toNat 1) x24.1 } : GPhi)), insts := (at_ x37.1.f.blocks (((List.length g.f.blocks : Int)) + 1)).insts, term := ((at_ x37.1.f.blocks (((List.length g.f.blocks : Int)) + 1)).term) } : GBlock)))), .os () 2 (List.map (ePhi true) x37.1.b.phis), .os () 7 (List.map (eInst false) x37.1.b.insts), .int .i64 x37.1.b.term.kind, .int .i64 x37.1.b.term.a, .int .i64 x37.1.b.term.x, .int .i64 x37.1.b.term.y, .int .i64 x37.1.next, .bs () 1 (List.map iL x37.1.ids), .bs () 1 (List.map iL x37.1.ws), .ref () 2 0 (List.length grets), .ref () 3 0 (List.length gpars)]]) 0 0 3 rfl rfl rfl (by simp) rfl) ?_
    refine o_run (Y := sysA _) 5 ?_
    refine n_ (x_ldp rfl T25 rfl rfl rfl rfl rfl ?_)
    refine n_ (x_mv rfl rfl ?_)
    refine n_ (x_addc T2 rfl rfl (by unfold inI; omega) ?_)
    obtain ⟨h42, hm⟩ := of_ite hm
    refine n_ (x_ix0 rfl E25 rfl rfl rfl h42 ?_)
    refine n_ (x_fap rfl F61_0 rfl rfl ?_)
    refine z_ ?_
    refine WpO.ghb (f_op (rows' := List.set (List.map (eBlock true) (List.set x37.1.f.blocks (Int.toNat (((List.length g.f.blocks : Int)) + 1)) (({ phis := List.set ((at_ x37.1.f.blocks (((List.length g.f.blocks : Int)) + 1)).phis) (Int.toNat 0) (({ w := (at_ ((at_ x37.1.f.blocks (((List.length g.f.blocks : Int)) + 1)).phis) 0).w, ins := List.set ((at_ ((at_ x37.1.f.blocks (((List.length g.f.blocks : Int)) + 1)).phis) 0).ins) (Int.toNat 1) x24.1 } : GPhi)), insts := (at_ x37.1.f.blocks (((List.length g.f.blocks : Int)) + 1)).insts, term := ((at_ x37.1.f.blocks (((List.length g.f.blocks : Int)) + 1)).term) } : GBlock)))) (Int.toNat (((List.length g.f.blocks : Int)) + 1)) [.ref () 8 0 (List.length ((at_ (List.set x37.1.f.blocks (Int.toNat (((List.length g.f.blocks : Int)) + 1)) (({ phis := List.set ((at_ x37.1.f.blocks (((List.length g.f.blocks : Int)) + 1)).phis) (Int.toNat 0) (({ w := (at_ ((at_ x37.1.f.blocks (((List.length g.f.blocks : Int)) + 1)).phis) 0).w, ins := List.set ((at_ ((at_ x37.1.f.blocks (((List.length g.f.blocks : Int)) + 1)).phis) 0).ins) (Int.toNat 1) x24.1 } : GPhi)), insts := (at_ x37.1.f.blocks (((List.length g.f.blocks : Int)) + 1)).insts, term := ((at_ x37.1.f.blocks (((List.length g.f.blocks : Int)) + 1)).term) } : GBlock))) (((List.length g.f.blocks : Int)) + 1)).phis)), .os () 7 (List.map (eInst false) ((at_ (List.set x37.1.f.blocks (Int.toNat (((List.length g.f.blocks : Int)) + 1)) (({ phis := List.set ((at_ x37.1.f.blocks (((List.length g.f.blocks : Int)) + 1)).phis) (Int.toNat 0) (({ w := (at_ ((at_ x37.1.f.blocks (((List.length g.f.blocks : Int)) + 1)).phis) 0).w, ins := List.set ((at_ ((at_ x37.1.f.blocks (((List.length g.f.blocks : Int)) + 1)).phis) 0).ins) (Int.toNat 1) x24.1 } : GPhi)), insts := (at_ x37.1.f.blocks (((List.length g.f.blocks : Int)) + 1)).insts, term := ((at_ x37.1.f.blocks (((List.length g.f.blocks : Int)) + 1)).term) } : GBlock))) (((List.length g.f.blocks : Int)) + 1)).insts)), .int .i64 (((at_ (List.set x37.1.f.blocks (Int.toNat (((List.length g.f.blocks : Int)) + 1)) (({ phis := List.set ((at_ x37.1.f.blocks (((List.length g.f.blocks : Int)) + 1)).phis) (Int.toNat 0) (({ w := (at_ ((at_ x37.1.f.blocks (((List.length g.f.blocks : Int)) + 1)).phis) 0).w, ins := List.set ((at_ ((at_ x37.1.f.blocks (((List.length g.f.blocks : Int)) + 1)).phis) 0).ins) (Int.toNat 1) x24.1 } : GPhi)), insts := (at_ x37.1.f.blocks (((List.length g.f.blocks : Int)) + 1)).insts, term := ((at_ x37.1.f.blocks (((List.length g.f.blocks : Int)) + 1)).term) } : GBlock))) (((List.length g.f.blocks : Int)) + 1)).term).kind), .int .i64 (((at_ (List.set x37.1.f.blocks (Int.toNat (((List.length g.f.blocks : Int)) + 1)) (({ phis := List.set ((at_ x37.1.f.blocks (((List.length g.f.blocks : Int)) + 1)).phis) (Int.toNat 0) (({ w := (at_ ((at_ x37.1.f.blocks (((List.length g.f.blocks : Int)) + 1)).phis) 0).w, ins := List.set ((at_ ((at_ x37.1.f.blocks (((List.length g.f.blocks : Int)) + 1)).phis) 0).ins) (Int.toNat 1) x24.1 } : GPhi)), insts := (at_ x37.1.f.blocks (((List.length g.f.blocks : Int)) + 1)).insts, term := ((at_ x37.1.f.blocks (((List.length g.f.blocks : Int)) + 1)).term) } : GBlock))) (((List.length g.f.blocks : Int)) + 1)).term).a), .int .i64 (((at_ (List.set x37.1.f.blocks (Int.toNat (((List.length g.f.blocks : Int)) + 1)) (({ phis := List.set ((at_ x37.1.f.blocks (((List.length g.f.blocks : Int)) + 1)).phis) (Int.toNat 0) (({ w := (at_ ((at_ x37.1.f.blocks (((List.length g.f.blocks : Int)) + 1)).phis) 0).w, ins := List.set ((at_ ((at_ x37.1.f.blocks (((List.length g.f.blocks : Int)) + 1)).phis) 0).ins) (Int.toNat 1) x24.1 } : GPhi)), insts := (at_ x37.1.f.blocks (((List.length g.f.blocks : Int)) + 1)).insts, term := ((at_ x37.1.f.blocks (((List.length g.f.blocks : Int)) + 1)).term) } : GBlock))) (((List.length g.f.blocks : Int)) + 1)).term).x), .int .i64 (((at_ (List.set x37.1.f.blocks (Int.toNat (((List.length g.f.blocks : Int)) + 1)) (({ phis := List.set ((at_ x37.1.f.blocks (((List.length g.f.blocks : Int)) + 1)).phis) (Int.toNat 0) (({ w := (at_ ((at_ x37.1.f.blocks (((List.length g.f.blocks : Int)) + 1)).phis) 0).w, ins := List.set ((at_ ((at_ x37.1.f.blocks (((List.length g.f.blocks : Int)) + 1)).phis) 0).ins) (Int.toNat 1) x24.1 } : GPhi)), insts := (at_ x37.1.f.blocks (((List.length g.f.blocks : Int)) + 1)).insts, term := ((at_ x37.1.f.blocks (((List.length g.f.blocks : Int)) + 1)).term) } : GBlock))) (((List.length g.f.blocks : Int)) + 1)).term).y)]) 7 (Int.toNat (((List.length g.f.blocks : Int)) + 1)) 0 rfl (map_get h42) rfl (by simp) rfl) ?_
    refine o_run (Y := sysA _) 3 ?_
    refine n_ (x_ldp rfl T56 rfl rfl (set_get h42) rfl rfl ?_)
    obtain ⟨h43, hm⟩ := of_ite hm
    refine n_ (x_ix0 rfl E56 rfl rfl rfl h43 ?_)
    refine n_ (x_fap rfl F63_1 rfl rfl ?_)
    refine z_ ?_
    refine WpO.ghb (f_op (rows' := List.set (List.map (ePhi true) ((at_ (List.set x37.1.f.blocks (Int.toNat (((List.length g.f.blocks : Int)) + 1)) (({ phis := List.set ((at_ x37.1.f.blocks (((List.length g.f.blocks : Int)) + 1)).phis) (Int.toNat 0) (({ w := (at_ ((at_ x37.1.f.blocks (((List.length g.f.blocks : Int)) + 1)).phis) 0).w, ins := List.set ((at_ ((at_ x37.1.f.blocks (((List.length g.f.blocks : Int)) + 1)).phis) 0).ins) (Int.toNat 1) x24.1 } : GPhi)), insts := (at_ x37.1.f.blocks (((List.length g.f.blocks : Int)) + 1)).insts, term := ((at_ x37.1.f.blocks (((List.length g.f.blocks : Int)) + 1)).term) } : GBlock))) (((List.length g.f.blocks : Int)) + 1)).phis)) (Int.toNat 1) [.int .i64 ((at_ ((at_ (List.set x37.1.f.blocks (Int.toNat (((List.length g.f.blocks : Int)) + 1)) (({ phis := List.set ((at_ x37.1.f.blocks (((List.length g.f.blocks : Int)) + 1)).phis) (Int.toNat 0) (({ w := (at_ ((at_ x37.1.f.blocks (((List.length g.f.blocks : Int)) + 1)).phis) 0).w, ins := List.set ((at_ ((at_ x37.1.f.blocks (((List.length g.f.blocks : Int)) + 1)).phis) 0).ins) (Int.toNat 1) x24.1 } : GPhi)), insts := (at_ x37.1.f.blocks (((List.length g.f.blocks : Int)) + 1)).insts, term := ((at_ x37.1.f.blocks (((List.length g.f.blocks : Int)) + 1)).term) } : GBlock))) (((List.length g.f.blocks : Int)) + 1)).phis) 1).w), .ref () 9 0 (List.length ((at_ ((at_ (List.set x37.1.f.blocks (Int.toNat (((List.length g.f.blocks : Int)) + 1)) (({ phis := List.set ((at_ x37.1.f.blocks (((List.length g.f.blocks : Int)) + 1)).phis) (Int.toNat 0) (({ w := (at_ ((at_ x37.1.f.blocks (((List.length g.f.blocks : Int)) + 1)).phis) 0).w, ins := List.set ((at_ ((at_ x37.1.f.blocks (((List.length g.f.blocks : Int)) + 1)).phis) 0).ins) (Int.toNat 1) x24.1 } : GPhi)), insts := (at_ x37.1.f.blocks (((List.length g.f.blocks : Int)) + 1)).insts, term := ((at_ x37.1.f.blocks (((List.length g.f.blocks : Int)) + 1)).term) } : GBlock))) (((List.length g.f.blocks : Int)) + 1)).phis) 1).ins))]) 8 (Int.toNat 1) 1 rfl (map_get h43) rfl (by simp) rfl) ?_
    refine o_run (Y := sysA _) 4 ?_
    refine n_ (x_ldp rfl T24 rfl rfl (set_get h43) rfl rfl ?_)
    refine n_ (x_mv rfl rfl ?_)
    obtain ⟨h44, hm⟩ := of_ite hm
    refine n_ (x_ix0 rfl E24 rfl rfl rfl h44 ?_)
    refine n_ (x_stn j32.2.2 T2 rfl rfl rfl h44 rfl rfl rfl rfl ?_)
    refine z_ ?_
    refine WpO.ghb (f_cl (rows2 := List.map iL (List.set ((at_ ((at_ (List.set x37.1.f.blocks (Int.toNat (((List.length g.f.blocks : Int)) + 1)) (({ phis := List.set ((at_ x37.1.f.blocks (((List.length g.f.blocks : Int)) + 1)).phis) (Int.toNat 0) (({ w := (at_ ((at_ x37.1.f.blocks (((List.length g.f.blocks : Int)) + 1)).phis) 0).w, ins := List.set ((at_ ((at_ x37.1.f.blocks (((List.length g.f.blocks : Int)) + 1)).phis) 0).ins) (Int.toNat 1) x24.1 } : GPhi)), insts := (at_ x37.1.f.blocks (((List.length g.f.blocks : Int)) + 1)).insts, term := ((at_ x37.1.f.blocks (((List.length g.f.blocks : Int)) + 1)).term) } : GBlock))) (((List.length g.f.blocks : Int)) + 1)).phis) 1).ins) (Int.toNat 1) j32.2.2)) (rows' := List.map (ePhi true) (List.set ((at_ (List.set x37.1.f.blocks (Int.toNat (((List.length g.f.blocks : Int)) + 1)) (({ phis := List.set ((at_ x37.1.f.blocks (((List.length g.f.blocks : Int)) + 1)).phis) (Int.toNat 0) (({ w := (at_ ((at_ x37.1.f.blocks (((List.length g.f.blocks : Int)) + 1)).phis) 0).w, ins := List.set ((at_ ((at_ x37.1.f.blocks (((List.length g.f.blocks : Int)) + 1)).phis) 0).ins) (Int.toNat 1) x24.1 } : GPhi)), insts := (at_ x37.1.f.blocks (((List.length g.f.blocks : Int)) + 1)).insts, term := ((at_ x37.1.f.blocks (((List.length g.f.blocks : Int)) + 1)).term) } : GBlock))) (((List.length g.f.blocks : Int)) + 1)).phis) (Int.toNat 1) (({ w := (at_ ((at_ (List.set x37.1.f.blocks (Int.toNat (((List.length g.f.blocks : Int)) + 1)) (({ phis := List.set ((at_ x37.1.f.blocks (((List.length g.f.blocks : Int)) + 1)).phis) (Int.toNat 0) (({ w := (at_ ((at_ x37.1.f.blocks (((List.length g.f.blocks : Int)) + 1)).phis) 0).w, ins := List.set ((at_ ((at_ x37.1.f.blocks (((List.length g.f.blocks : Int)) + 1)).phis) 0).ins) (Int.toNat 1) x24.1 } : GPhi)), insts := (at_ x37.1.f.blocks (((List.length g.f.blocks : Int)) + 1)).insts, term := ((at_ x37.1.f.blocks (((List.length g.f.blocks : Int)) + 1)).term) } : GBlock))) (((List.length g.f.blocks : Int)) + 1)).phis) 1).w, ins := List.set ((at_ ((at_ (List.set x37.1.f.blocks (Int.toNat (((List.length g.f.blocks : Int)) + 1)) (({ phis := List.set ((at_ x37.1.f.blocks (((List.length g.f.blocks : Int)) + 1)).phis) (Int.toNat 0) (({ w := (at_ ((at_ x37.1.f.blocks (((List.length g.f.blocks : Int)) + 1)).phis) 0).w, ins := List.set ((at_ ((at_ x37.1.f.blocks (((List.length g.f.blocks : Int)) + 1)).phis) 0).ins) (Int.toNat 1) x24.1 } : GPhi)), insts := (at_ x37.1.f.blocks (((List.length g.f.blocks : Int)) + 1)).insts, term := ((at_ x37.1.f.blocks (((List.length g.f.blocks : Int)) + 1)).term) } : GBlock))) (((List.length g.f.blocks : Int)) + 1)).phis) 1).ins) (Int.toNat 1) j32.2.2 } : GPhi)))) 8 9 (Int.toNat 1) 1 rfl rfl rfl (nest_map (enc := iL) (List.set ((at_ ((at_ (List.set x37.1.f.blocks (Int.toNat (((List.length g.f.blocks : Int)) + 1)) (({ phis := List.set ((at_ x37.1.f.blocks (((List.length g.f.blocks : Int)) + 1)).phis) (Int.toNat 0) (({ w := (at_ ((at_ x37.1.f.blocks (((List.length g.f.blocks : Int)) + 1)).phis) 0).w, ins := List.set ((at_ ((at_ x37.1.f.blocks (((List.length g.f.blocks : Int)) + 1)).phis) 0).ins) (Int.toNat 1) x24.1 } : GPhi)), insts := (at_ x37.1.f.blocks (((List.length g.f.blocks : Int)) + 1)).insts, term := ((at_ x37.1.f.blocks (((List.length g.f.blocks : Int)) + 1)).term) } : GBlock))) (((List.length g.f.blocks : Int)) + 1)).phis) 1).ins) (Int.toNat 1) j32.2.2)) (set_get h43) rfl (by simp) (set_map2 rfl)) ?_
    refine WpO.ghb (f_cl (rows2 := List.map (ePhi true) (List.set ((at_ (List.set x37.1.f.blocks (Int.toNat (((List.length g.f.blocks : Int)) + 1)) (({ phis := List.set ((at_ x37.1.f.blocks (((List.length g.f.blocks : Int)) + 1)).phis) (Int.toNat 0) (({ w := (at_ ((at_ x37.1.f.blocks (((List.length g.f.blocks : Int)) + 1)).phis) 0).w, ins := List.set ((at_ ((at_ x37.1.f.blocks (((List.length g.f.blocks : Int)) + 1)).phis) 0).ins) (Int.toNat 1) x24.1 } : GPhi)), insts := (at_ x37.1.f.blocks (((List.length g.f.blocks : Int)) + 1)).insts, term := ((at_ x37.1.f.blocks (((List.length g.f.blocks : Int)) + 1)).term) } : GBlock))) (((List.length g.f.blocks : Int)) + 1)).phis) (Int.toNat 1) (({ w := (at_ ((at_ (List.set x37.1.f.blocks (Int.toNat (((List.length g.f.blocks : Int)) + 1)) (({ phis := List.set ((at_ x37.1.f.blocks (((List.length g.f.blocks : Int)) + 1)).phis) (Int.toNat 0) (({ w := (at_ ((at_ x37.1.f.blocks (((List.length g.f.blocks : Int)) + 1)).phis) 0).w, ins := List.set ((at_ ((at_ x37.1.f.blocks (((List.length g.f.blocks : Int)) + 1)).phis) 0).ins) (Int.toNat 1) x24.1 } : GPhi)), insts := (at_ x37.1.f.blocks (((List.length g.f.blocks : Int)) + 1)).insts, term := ((at_ x37.1.f.blocks (((List.length g.f.blocks : Int)) + 1)).term) } : GBlock))) (((List.length g.f.blocks : Int)) + 1)).phis) 1).w, ins := List.set ((at_ ((at_ (List.set x37.1.f.blocks (Int.toNat (((List.length g.f.blocks : Int)) + 1)) (({ phis := List.set ((at_ x37.1.f.blocks (((List.length g.f.blocks : Int)) + 1)).phis) (Int.toNat 0) (({ w := (at_ ((at_ x37.1.f.blocks (((List.length g.f.blocks : Int)) + 1)).phis) 0).w, ins := List.set ((at_ ((at_ x37.1.f.blocks (((List.length g.f.blocks : Int)) + 1)).phis) 0).ins) (Int.toNat 1) x24.1 } : GPhi)), insts := (at_ x37.1.f.blocks (((List.length g.f.blocks : Int)) + 1)).insts, term := ((at_ x37.1.f.blocks (((List.length g.f.blocks : Int)) + 1)).term) } : GBlock))) (((List.length g.f.blocks : Int)) + 1)).phis) 1).ins) (Int.toNat 1) j32.2.2 } : GPhi)))) (rows' := List.map (eBlock true) (List.set (List.set x37.1.f.blocks (Int.toNat (((List.length g.f.blocks : Int)) + 1)) (({ phis := List.set ((at_ x37.1.f.blocks (((List.length g.f.blocks : Int)) + 1)).phis) (Int.toNat 0) (({ w := (at_ ((at_ x37.1.f.blocks (((List.length g.f.blocks : Int)) + 1)).phis) 0).w, ins := List.set ((at_ ((at_ x37.1.f.blocks (((List.length g.f.blocks : Int)) + 1)).phis) 0).ins) (Int.toNat 1) x24.1 } : GPhi)), insts := (at_ x37.1.f.blocks (((List.length g.f.blocks : Int)) + 1)).insts, term := ((at_ x37.1.f.blocks (((List.length g.f.blocks : Int)) + 1)).term) } : GBlock))) (Int.toNat (((List.length g.f.blocks : Int)) + 1)) (({ phis := List.set ((at_ (List.set x37.1.f.blocks (Int.toNat (((List.length g.f.blocks : Int)) + 1)) (({ phis := List.set ((at_ x37.1.f.blocks (((List.length g.f.blocks : Int)) + 1)).phis) (Int.toNat 0) (({ w := (at_ ((at_ x37.1.f.blocks (((List.length g.f.blocks : Int)) + 1)).phis) 0).w, ins := List.set ((at_ ((at_ x37.1.f.blocks (((List.length g.f.blocks : Int)) + 1)).phis) 0).ins) (Int.toNat 1) x24.1 } : GPhi)), insts := (at_ x37.1.f.blocks (((List.length g.f.blocks : Int)) + 1)).insts, term := ((at_ x37.1.f.blocks (((List.length g.f.blocks : Int)) + 1)).term) } : GBlock))) (((List.length g.f.blocks : Int)) + 1)).phis) (Int.toNat 1) (({ w := (at_ ((at_ (List.set x37.1.f.blocks (Int.toNat (((List.length g.f.blocks : Int)) + 1)) (({ phis := List.set ((at_ x37.1.f.blocks (((List.length g.f.blocks : Int)) + 1)).phis) (Int.toNat 0) (({ w := (at_ ((at_ x37.1.f.blocks (((List.length g.f.blocks : Int)) + 1)).phis) 0).w, ins := List.set ((at_ ((at_ x37.1.f.blocks (((List.length g.f.blocks : Int)) + 1)).phis) 0).ins) (Int.toNat 1) x24.1 } : GPhi)), insts := (at_ x37.1.f.blocks (((List.length g.f.blocks : Int)) + 1)).insts, term := ((at_ x37.1.f.blocks (((List.length g.f.blocks : Int)) + 1)).term) } : GBlock))) (((List.length g.f.blocks : Int)) + 1)).phis) 1).w, ins := List.set ((at_ ((at_ (List.set x37.1.f.blocks (Int.toNat (((List.length g.f.blocks : Int)) + 1)) (({ phis := List.set ((at_ x37.1.f.blocks (((List.length g.f.blocks : Int)) + 1)).phis) (Int.toNat 0) (({ w := (at_ ((at_ x37.1.f.blocks (((List.length g.f.blocks : Int)) + 1)).phis) 0).w, ins := List.set ((at_ ((at_ x37.1.f.blocks (((List.length g.f.blocks : Int)) + 1)).phis) 0).ins) (Int.toNat 1) x24.1 } : GPhi)), insts := (at_ x37.1.f.blocks (((List.length g.f.blocks : Int)) + 1)).insts, term := ((at_ x37.1.f.blocks (((List.length g.f.blocks : Int)) + 1)).term) } : GBlock))) (((List.length g.f.blocks : Int)) + 1)).phis) 1).ins) (Int.toNat 1) j32.2.2 } : GPhi)), insts := (at_ (List.set x37.1.f.blocks (Int.toNat (((List.length g.f.blocks : Int)) + 1)) (({ phis := List.set ((at_ x37.1.f.blocks (((List.length g.f.blocks : Int)) + 1)).phis) (Int.toNat 0) (({ w := (at_ ((at_ x37.1.f.blocks (((List.length g.f.blocks : Int)) + 1)).phis) 0).w, ins := List.set ((at_ ((at_ x37.1.f.blocks (((List.length g.f.blocks : Int)) + 1)).phis) 0).ins) (Int.toNat 1) x24.1 } : GPhi)), insts := (at_ x37.1.f.blocks (((List.length g.f.blocks : Int)) + 1)).insts, term := ((at_ x37.1.f.blocks (((List.length g.f.blocks : Int)) + 1)).term) } : GBlock))) (((List.length g.f.blocks : Int)) + 1)).insts, term := ((at_ (List.set x37.1.f.blocks (Int.toNat (((List.length g.f.blocks : Int)) + 1)) (({ phis := List.set ((at_ x37.1.f.blocks (((List.length g.f.blocks : Int)) + 1)).phis) (Int.toNat 0) (({ w := (at_ ((at_ x37.1.f.blocks (((List.length g.f.blocks : Int)) + 1)).phis) 0).w, ins := List.set ((at_ ((at_ x37.1.f.blocks (((List.length g.f.blocks : Int)) + 1)).phis) 0).ins) (Int.toNat 1) x24.1 } : GPhi)), insts := (at_ x37.1.f.blocks (((List.length g.f.blocks : Int)) + 1)).insts, term := ((at_ x37.1.f.blocks (((List.length g.f.blocks : Int)) + 1)).term) } : GBlock))) (((List.length g.f.blocks : Int)) + 1)).term) } : GBlock)))) 7 8 (Int.toNat (((List.length g.f.blocks : Int)) + 1)) 0 rfl rfl rfl (nest_map (enc := ePhi true) (List.set ((at_ (List.set x37.1.f.blocks (Int.toNat (((List.length g.f.blocks : Int)) + 1)) (({ phis := List.set ((at_ x37.1.f.blocks (((List.length g.f.blocks : Int)) + 1)).phis) (Int.toNat 0) (({ w := (at_ ((at_ x37.1.f.blocks (((List.length g.f.blocks : Int)) + 1)).phis) 0).w, ins := List.set ((at_ ((at_ x37.1.f.blocks (((List.length g.f.blocks : Int)) + 1)).phis) 0).ins) (Int.toNat 1) x24.1 } : GPhi)), insts := (at_ x37.1.f.blocks (((List.length g.f.blocks : Int)) + 1)).insts, term := ((at_ x37.1.f.blocks (((List.length g.f.blocks : Int)) + 1)).term) } : GBlock))) (((List.length g.f.blocks : Int)) + 1)).phis) (Int.toNat 1) (({ w := (at_ ((at_ (List.set x37.1.f.blocks (Int.toNat (((List.length g.f.blocks : Int)) + 1)) (({ phis := List.set ((at_ x37.1.f.blocks (((List.length g.f.blocks : Int)) + 1)).phis) (Int.toNat 0) (({ w := (at_ ((at_ x37.1.f.blocks (((List.length g.f.blocks : Int)) + 1)).phis) 0).w, ins := List.set ((at_ ((at_ x37.1.f.blocks (((List.length g.f.blocks : Int)) + 1)).phis) 0).ins) (Int.toNat 1) x24.1 } : GPhi)), insts := (at_ x37.1.f.blocks (((List.length g.f.blocks : Int)) + 1)).insts, term := ((at_ x37.1.f.blocks (((List.length g.f.blocks : Int)) + 1)).term) } : GBlock))) (((List.length g.f.blocks : Int)) + 1)).phis) 1).w, ins := List.set ((at_ ((at_ (List.set x37.1.f.blocks (Int.toNat (((List.length g.f.blocks : Int)) + 1)) (({ phis := List.set ((at_ x37.1.f.blocks (((List.length g.f.blocks : Int)) + 1)).phis) (Int.toNat 0) (({ w := (at_ ((at_ x37.1.f.blocks (((List.length g.f.blocks : Int)) + 1)).phis) 0).w, ins := List.set ((at_ ((at_ x37.1.f.blocks (((List.length g.f.blocks : Int)) + 1)).phis) 0).ins) (Int.toNat 1) x24.1 } : GPhi)), insts := (at_ x37.1.f.blocks (((List.length g.f.blocks : Int)) + 1)).insts, term := ((at_ x37.1.f.blocks (((List.length g.f.blocks : Int)) + 1)).term) } : GBlock))) (((List.length g.f.blocks : Int)) + 1)).phis) 1).ins) (Int.toNat 1) j32.2.2 } : GPhi)))) (set_get h42) rfl (by simp) (set_map2 rfl)) ?_
    refine o_end ?_
    refine Wp.seq ?_
    refine Wp.ghb _ (f_cl (rows2 := List.map (eBlock true) (List.set (List.set x37.1.f.blocks (Int.toNat (((List.length g.f.blocks : Int)) + 1)) (({ phis := List.set ((at_ x37.1.f.blocks (((List.length g.f.blocks : Int)) + 1)).phis) (Int.toNat 0) (({ w := (at_ ((at_ x37.1.f.blocks (((List.length g.f.blocks : Int)) + 1)).phis) 0).w, ins := List.set ((at_ ((at_ x37.1.f.blocks (((List.length g.f.blocks : Int)) + 1)).phis) 0).ins) (Int.toNat 1) x24.1 } : GPhi)), insts := (at_ x37.1.f.blocks (((List.length g.f.blocks : Int)) + 1)).insts, term := ((at_ x37.1.f.blocks (((List.length g.f.blocks : Int)) + 1)).term) } : GBlock))) (Int.toNat (((List.length g.f.blocks : Int)) + 1)) (({ phis := List.set ((at_ (List.set x37.1.f.blocks (Int.toNat (((List.length g.f.blocks : Int)) + 1)) (({ phis := List.set ((at_ x37.1.f.blocks (((List.length g.f.blocks : Int)) + 1)).phis) (Int.toNat 0) (({ w := (at_ ((at_ x37.1.f.blocks (((List.length g.f.blocks : Int)) + 1)).phis) 0).w, ins := List.set ((at_ ((at_ x37.1.f.blocks (((List.length g.f.blocks : Int)) + 1)).phis) 0).ins) (Int.toNat 1) x24.1 } : GPhi)), insts := (at_ x37.1.f.blocks (((List.length g.f.blocks : Int)) + 1)).insts, term := ((at_ x37.1.f.blocks (((List.length g.f.blocks : Int)) + 1)).term) } : GBlock))) (((List.length g.f.blocks : Int)) + 1)).phis) (Int.toNat 1) (({ w := (at_ ((at_ (List.set x37.1.f.blocks (Int.toNat (((List.length g.f.blocks : Int)) + 1)) (({ phis := List.set ((at_ x37.1.f.blocks (((List.length g.f.blocks : Int)) + 1)).phis) (Int.toNat 0) (({ w := (at_ ((at_ x37.1.f.blocks (((List.length g.f.blocks : Int)) + 1)).phis) 0).w, ins := List.set ((at_ ((at_ x37.1.f.blocks (((List.length g.f.blocks : Int)) + 1)).phis) 0).ins) (Int.toNat 1) x24.1 } : GPhi)), insts := (at_ x37.1.f.blocks (((List.length g.f.blocks : Int)) + 1)).insts, term := ((at_ x37.1.f.blocks (((List.length g.f.blocks : Int)) + 1)).term) } : GBlock))) (((List.length g.f.blocks : Int)) + 1)).phis) 1).w, ins := List.set ((at_ ((at_ (List.set x37.1.f.blocks (Int.toNat (((List.length g.f.blocks : Int)) + 1)) (({ phis := List.set ((at_ x37.1.f.blocks (((List.length g.f.blocks : Int)) + 1)).phis) (Int.toNat 0) (({ w := (at_ ((at_ x37.1.f.blocks (((List.length g.f.blocks : Int)) + 1)).phis) 0).w, ins := List.set ((at_ ((at_ x37.1.f.blocks (((List.length g.f.blocks : Int)) + 1)).phis) 0).ins) (Int.toNat 1) x24.1 } : GPhi)), insts := (at_ x37.1.f.blocks (((List.length g.f.blocks : Int)) + 1)).insts, term := ((at_ x37.1.f.blocks (((List.length g.f.blocks : Int)) + 1)).term) } : GBlock))) (((List.length g.f.blocks : Int)) + 1)).phis) 1).ins) (Int.toNat 1) j32.2.2 } : GPhi)), insts := (at_ (List.set x37.1.f.blocks (Int.toNat (((List.length g.f.blocks : Int)) + 1)) (({ phis := List.set ((at_ x37.1.f.blocks (((List.length g.f.blocks : Int)) + 1)).phis) (Int.toNat 0) (({ w := (at_ ((at_ x37.1.f.blocks (((List.length g.f.blocks : Int)) + 1)).phis) 0).w, ins := List.set ((at_ ((at_ x37.1.f.blocks (((List.length g.f.blocks : Int)) + 1)).phis) 0).ins) (Int.toNat 1) x24.1 } : GPhi)), insts := (at_ x37.1.f.blocks (((List.length g.f.blocks : Int)) + 1)).insts, term := ((at_ x37.1.f.blocks (((List.length g.f.blocks : Int)) + 1)).term) } : GBlock))) (((List.length g.f.blocks : Int)) + 1)).insts, term := ((at_ (List.set x37.1.f.blocks (Int.toNat (((List.length g.f.blocks : Int)) + 1)) (({ phis := List.set ((at_ x37.1.f.blocks (((List.length g.f.blocks : Int)) + 1)).phis) (Int.toNat 0) (({ w := (at_ ((at_ x37.1.f.blocks (((List.length g.f.blocks : Int)) + 1)).phis) 0).w, ins := List.set ((at_ ((at_ x37.1.f.blocks (((List.length g.f.blocks : Int)) + 1)).phis) 0).ins) (Int.toNat 1) x24.1 } : GPhi)), insts := (at_ x37.1.f.blocks (((List.length g.f.blocks : Int)) + 1)).insts, term := ((at_ x37.1.f.blocks (((List.length g.f.blocks : Int)) + 1)).term) } : GBlock))) (((List.length g.f.blocks : Int)) + 1)).term) } : GBlock)))) (rows' := [[.ptr () 1 0 0, .os () 1 (List.map iL x37.1.f.params), .int .i64 x37.1.f.ret, .os () 6 (List.map (eBlock true) (List.set (List.set x37.1.f.blocks (Int.toNat (((List.length g.f.blocks : Int)) + 1)) (({ phis := List.set ((at_ x37.1.f.blocks (((List.length g.f.blocks : Int)) + 1)).phis) (Int.toNat 0) (({ w := (at_ ((at_ x37.1.f.blocks (((List.length g.f.blocks : Int)) + 1)).phis) 0).w, ins := List.set ((at_ ((at_ x37.1.f.blocks (((List.length g.f.blocks : Int)) + 1)).phis) 0).ins) (Int.toNat 1) x24.1 } : GPhi)), insts := (at_ x37.1.f.blocks (((List.length g.f.blocks : Int)) + 1)).insts, term := ((at_ x37.1.f.blocks (((List.length g.f.blocks : Int)) + 1)).term) } : GBlock))) (Int.toNat (((List.length g.f.blocks : Int)) + 1)) (({ phis := List.set ((at_ (List.set x37.1.f.blocks (Int.toNat (((List.length g.f.blocks : Int)) + 1)) (({ phis := List.set ((at_ x37.1.f.blocks (((List.length g.f.blocks : Int)) + 1)).phis) (Int.toNat 0) (({ w := (at_ ((at_ x37.1.f.blocks (((List.length g.f.blocks : Int)) + 1)).phis) 0).w, ins := List.set ((at_ ((at_ x37.1.f.blocks (((List.length g.f.blocks : Int)) + 1)).phis) 0).ins) (Int.toNat 1) x24.1 } : GPhi)), insts := (at_ x37.1.f.blocks (((List.length g.f.blocks : Int)) + 1)).insts, term := ((at_ x37.1.f.blocks (((List.length g.f.blocks : Int)) + 1)).term) } : GBlock))) (((List.length g.f.blocks : Int)) + 1)).phis) (Int.toNat 1) (({ w := (at_ ((at_ (List.set x37.1.f.blocks (Int.toNat (((List.length g.f.blocks : Int)) + 1)) (({ phis := List.set ((at_ x37.1.f.blocks (((List.length g.f.blocks : Int)) + 1)).phis) (Int.toNat 0) (({ w := (at_ ((at_ x37.1.f.blocks (((List.length g.f.blocks : Int)) + 1)).phis) 0).w, ins := List.set ((at_ ((at_ x37.1.f.blocks (((List.length g.f.blocks : Int)) + 1)).phis) 0).ins) (Int.toNat 1) x24.1 } : GPhi)), insts := (at_ x37.1.f.blocks (((List.length g.f.blocks : Int)) + 1)).insts, term := ((at_ x37.1.f.blocks (((List.length g.f.blocks : Int)) + 1)).term) } : GBlock))) (((List.length g.f.blocks : Int)) + 1)).phis) 1).w, ins := List.set ((at_ ((at_ (List.set x37.1.f.blocks (Int.toNat (((List.length g.f.blocks : Int)) + 1)) (({ phis := List.set ((at_ x37.1.f.blocks (((List.length g.f.blocks : Int)) + 1)).phis) (Int.toNat 0) (({ w := (at_ ((at_ x37.1.f.blocks (((List.length g.f.blocks : Int)) + 1)).phis) 0).w, ins := List.set ((at_ ((at_ x37.1.f.blocks (((List.length g.f.blocks : Int)) + 1)).phis) 0).ins) (Int.toNat 1) x24.1 } : GPhi)), insts := (at_ x37.1.f.blocks (((List.length g.f.blocks : Int)) + 1)).insts, term := ((at_ x37.1.f.blocks (((List.length g.f.blocks : Int)) + 1)).term) } : GBlock))) (((List.length g.f.blocks : Int)) + 1)).phis) 1).ins) (Int.toNat 1) j32.2.2 } : GPhi)), insts := (at_ (List.set x37.1.f.blocks (Int.toNat (((List.length g.f.blocks : Int)) + 1)) (({ phis := List.set ((at_ x37.1.f.blocks (((List.length g.f.blocks : Int)) + 1)).phis) (Int.toNat 0) (({ w := (at_ ((at_ x37.1.f.blocks (((List.length g.f.blocks : Int)) + 1)).phis) 0).w, ins := List.set ((at_ ((at_ x37.1.f.blocks (((List.length g.f.blocks : Int)) + 1)).phis) 0).ins) (Int.toNat 1) x24.1 } : GPhi)), insts := (at_ x37.1.f.blocks (((List.length g.f.blocks : Int)) + 1)).insts, term := ((at_ x37.1.f.blocks (((List.length g.f.blocks : Int)) + 1)).term) } : GBlock))) (((List.length g.f.blocks : Int)) + 1)).insts, term := ((at_ (List.set x37.1.f.blocks (Int.toNat (((List.length g.f.blocks : Int)) + 1)) (({ phis := List.set ((at_ x37.1.f.blocks (((List.length g.f.blocks : Int)) + 1)).phis) (Int.toNat 0) (({ w := (at_ ((at_ x37.1.f.blocks (((List.length g.f.blocks : Int)) + 1)).phis) 0).w, ins := List.set ((at_ ((at_ x37.1.f.blocks (((List.length g.f.blocks : Int)) + 1)).phis) 0).ins) (Int.toNat 1) x24.1 } : GPhi)), insts := (at_ x37.1.f.blocks (((List.length g.f.blocks : Int)) + 1)).insts, term := ((at_ x37.1.f.blocks (((List.length g.f.blocks : Int)) + 1)).term) } : GBlock))) (((List.length g.f.blocks : Int)) + 1)).term) } : GBlock)))), .os () 2 (List.map (ePhi true) x37.1.b.phis), .os () 7 (List.map (eInst false) x37.1.b.insts), .int .i64 x37.1.b.term.kind, .int .i64 x37.1.b.term.a, .int .i64 x37.1.b.term.x, .int .i64 x37.1.b.term.y, .int .i64 x37.1.next, .bs () 1 (List.map iL x37.1.ids), .bs () 1 (List.map iL x37.1.ws), .ref () 2 0 (List.length grets), .ref () 3 0 (List.length gpars)]]) 0 7 0 3 rfl rfl rfl (nest_map (enc := eBlock true) (List.set (List.set x37.1.f.blocks (Int.toNat (((List.length g.f.blocks : Int)) + 1)) (({ phis := List.set ((at_ x37.1.f.blocks (((List.length g.f.blocks : Int)) + 1)).phis) (Int.toNat 0) (({ w := (at_ ((at_ x37.1.f.blocks (((List.length g.f.blocks : Int)) + 1)).phis) 0).w, ins := List.set ((at_ ((at_ x37.1.f.blocks (((List.length g.f.blocks : Int)) + 1)).phis) 0).ins) (Int.toNat 1) x24.1 } : GPhi)), insts := (at_ x37.1.f.blocks (((List.length g.f.blocks : Int)) + 1)).insts, term := ((at_ x37.1.f.blocks (((List.length g.f.blocks : Int)) + 1)).term) } : GBlock))) (Int.toNat (((List.length g.f.blocks : Int)) + 1)) (({ phis := List.set ((at_ (List.set x37.1.f.blocks (Int.toNat (((List.length g.f.blocks : Int)) + 1)) (({ phis := List.set ((at_ x37.1.f.blocks (((List.length g.f.blocks : Int)) + 1)).phis) (Int.toNat 0) (({ w := (at_ ((at_ x37.1.f.blocks (((List.length g.f.blocks : Int)) + 1)).phis) 0).w, ins := List.set ((at_ ((at_ x37.1.f.blocks (((List.length g.f.blocks : Int)) + 1)).phis) 0).ins) (Int.toNat 1) x24.1 } : GPhi)), insts := (at_ x37.1.f.blocks (((List.length g.f.blocks : Int)) + 1)).insts, term := ((at_ x37.1.f.blocks (((List.length g.f.blocks : Int)) + 1)).term) } : GBlock))) (((List.length g.f.blocks : Int)) + 1)).phis) (Int.toNat 1) (({ w := (at_ ((at_ (List.set x37.1.f.blocks (Int.toNat (((List.length g.f.blocks : Int)) + 1)) (({ phis := List.set ((at_ x37.1.f.blocks (((List.length g.f.blocks : Int)) + 1)).phis) (Int.toNat 0) (({ w := (at_ ((at_ x37.1.f.blocks (((List.length g.f.blocks : Int)) + 1)).phis) 0).w, ins := List.set ((at_ ((at_ x37.1.f.blocks (((List.length g.f.blocks : Int)) + 1)).phis) 0).ins) (Int.toNat 1) x24.1 } : GPhi)), insts := (at_ x37.1.f.blocks (((List.length g.f.blocks : Int)) + 1)).insts, term := ((at_ x37.1.f.blocks (((List.length g.f.blocks : Int)) + 1)).term) } : GBlock))) (((List.length g.f.blocks : Int)) + 1)).phis) 1).w, ins := List.set ((at_ ((at_ (List.set x37.1.f.blocks (Int.toNat (((List.length g.f.blocks : Int)) + 1)) (({ phis := List.set ((at_ x37.1.f.blocks (((List.length g.f.blocks : Int)) + 1)).phis) (Int.toNat 0) (({ w := (at_ ((at_ x37.1.f.blocks (((List.length g.f.blocks : Int)) + 1)).phis) 0).w, ins := List.set ((at_ ((at_ x37.1.f.blocks (((List.length g.f.blocks : Int)) + 1)).phis) 0).ins) (Int.toNat 1) x24.1 } : GPhi)), insts := (at_ x37.1.f.blocks (((List.length g.f.blocks : Int)) + 1)).insts, term := ((at_ x37.1.f.blocks (((List.length g.f.blocks : Int)) + 1)).term) } : GBlock))) (((List.length g.f.blocks : Int)) + 1)).phis) 1).ins) (Int.toNat 1) j32.2.2 } : GPhi)), insts := (at_ (List.set x37.1.f.blocks (Int.toNat (((List.length g.f.blocks : Int)) + 1)) (({ phis := List.set ((at_ x37.1.f.blocks (((List.length g.f.blocks : Int)) + 1)).phis) (Int.toNat 0) (({ w := (at_ ((at_ x37.1.f.blocks (((List.length g.f.blocks : Int)) + 1)).phis) 0).w, ins := List.set ((at_ ((at_ x37.1.f.blocks (((List.length g.f.blocks : Int)) + 1)).phis) 0).ins) (Int.toNat 1) x24.1 } : GPhi)), insts := (at_ x37.1.f.blocks (((List.length g.f.blocks : Int)) + 1)).insts, term := ((at_ x37.1.f.blocks (((List.length g.f.blocks : Int)) + 1)).term) } : GBlock))) (((List.length g.f.blocks : Int)) + 1)).insts, term := ((at_ (List.set x37.1.f.blocks (Int.toNat (((List.length g.f.blocks : Int)) + 1)) (({ phis := List.set ((at_ x37.1.f.blocks (((List.length g.f.blocks : Int)) + 1)).phis) (Int.toNat 0) (({ w := (at_ ((at_ x37.1.f.blocks (((List.length g.f.blocks : Int)) + 1)).phis) 0).w, ins := List.set ((at_ ((at_ x37.1.f.blocks (((List.length g.f.blocks : Int)) + 1)).phis) 0).ins) (Int.toNat 1) x24.1 } : GPhi)), insts := (at_ x37.1.f.blocks (((List.length g.f.blocks : Int)) + 1)).insts, term := ((at_ x37.1.f.blocks (((List.length g.f.blocks : Int)) + 1)).term) } : GBlock))) (((List.length g.f.blocks : Int)) + 1)).term) } : GBlock)))) rfl rfl (by simp) rfl) ?_
    refine c_reg (Y := sysA _) ?_
    refine n_ (x_mv rfl rfl ?_)
    refine n_ (x_mv rfl rfl ?_)
    refine n_ (x_ncp rfl rfl rfl ?_)
    refine n_ (x_fap rfl F135_4 rfl rfl ?_)
    refine n_ (x_st T24 (rows := [[.ptr () 1 0 0, .os () 1 (List.map iL x37.1.f.params), .int .i64 x37.1.f.ret, .os () 6 (List.map (eBlock true) (List.set (List.set x37.1.f.blocks (Int.toNat (((List.length g.f.blocks : Int)) + 1)) (({ phis := List.set ((at_ x37.1.f.blocks (((List.length g.f.blocks : Int)) + 1)).phis) (Int.toNat 0) (({ w := (at_ ((at_ x37.1.f.blocks (((List.length g.f.blocks : Int)) + 1)).phis) 0).w, ins := List.set ((at_ ((at_ x37.1.f.blocks (((List.length g.f.blocks : Int)) + 1)).phis) 0).ins) (Int.toNat 1) x24.1 } : GPhi)), insts := (at_ x37.1.f.blocks (((List.length g.f.blocks : Int)) + 1)).insts, term := ((at_ x37.1.f.blocks (((List.length g.f.blocks : Int)) + 1)).term) } : GBlock))) (Int.toNat (((List.length g.f.blocks : Int)) + 1)) (({ phis := List.set ((at_ (List.set x37.1.f.blocks (Int.toNat (((List.length g.f.blocks : Int)) + 1)) (({ phis := List.set ((at_ x37.1.f.blocks (((List.length g.f.blocks : Int)) + 1)).phis) (Int.toNat 0) (({ w := (at_ ((at_ x37.1.f.blocks (((List.length g.f.blocks : Int)) + 1)).phis) 0).w, ins := List.set ((at_ ((at_ x37.1.f.blocks (((List.length g.f.blocks : Int)) + 1)).phis) 0).ins) (Int.toNat 1) x24.1 } : GPhi)), insts := (at_ x37.1.f.blocks (((List.length g.f.blocks : Int)) + 1)).insts, term := ((at_ x37.1.f.blocks (((List.length g.f.blocks : Int)) + 1)).term) } : GBlock))) (((List.length g.f.blocks : Int)) + 1)).phis) (Int.toNat 1) (({ w := (at_ ((at_ (List.set x37.1.f.blocks (Int.toNat (((List.length g.f.blocks : Int)) + 1)) (({ phis := List.set ((at_ x37.1.f.blocks (((List.length g.f.blocks : Int)) + 1)).phis) (Int.toNat 0) (({ w := (at_ ((at_ x37.1.f.blocks (((List.length g.f.blocks : Int)) + 1)).phis) 0).w, ins := List.set ((at_ ((at_ x37.1.f.blocks (((List.length g.f.blocks : Int)) + 1)).phis) 0).ins) (Int.toNat 1) x24.1 } : GPhi)), insts := (at_ x37.1.f.blocks (((List.length g.f.blocks : Int)) + 1)).insts, term := ((at_ x37.1.f.blocks (((List.length g.f.blocks : Int)) + 1)).term) } : GBlock))) (((List.length g.f.blocks : Int)) + 1)).phis) 1).w, ins := List.set ((at_ ((at_ (List.set x37.1.f.blocks (Int.toNat (((List.length g.f.blocks : Int)) + 1)) (({ phis := List.set ((at_ x37.1.f.blocks (((List.length g.f.blocks : Int)) + 1)).phis) (Int.toNat 0) (({ w := (at_ ((at_ x37.1.f.blocks (((List.length g.f.blocks : Int)) + 1)).phis) 0).w, ins := List.set ((at_ ((at_ x37.1.f.blocks (((List.length g.f.blocks : Int)) + 1)).phis) 0).ins) (Int.toNat 1) x24.1 } : GPhi)), insts := (at_ x37.1.f.blocks (((List.length g.f.blocks : Int)) + 1)).insts, term := ((at_ x37.1.f.blocks (((List.length g.f.blocks : Int)) + 1)).term) } : GBlock))) (((List.length g.f.blocks : Int)) + 1)).phis) 1).ins) (Int.toNat 1) j32.2.2 } : GPhi)), insts := (at_ (List.set x37.1.f.blocks (Int.toNat (((List.length g.f.blocks : Int)) + 1)) (({ phis := List.set ((at_ x37.1.f.blocks (((List.length g.f.blocks : Int)) + 1)).phis) (Int.toNat 0) (({ w := (at_ ((at_ x37.1.f.blocks (((List.length g.f.blocks : Int)) + 1)).phis) 0).w, ins := List.set ((at_ ((at_ x37.1.f.blocks (((List.length g.f.blocks : Int)) + 1)).phis) 0).ins) (Int.toNat 1) x24.1 } : GPhi)), insts := (at_ x37.1.f.blocks (((List.length g.f.blocks : Int)) + 1)).insts, term := ((at_ x37.1.f.blocks (((List.length g.f.blocks : Int)) + 1)).term) } : GBlock))) (((List.length g.f.blocks : Int)) + 1)).insts, term := ((at_ (List.set x37.1.f.blocks (Int.toNat (((List.length g.f.blocks : Int)) + 1)) (({ phis := List.set ((at_ x37.1.f.blocks (((List.length g.f.blocks : Int)) + 1)).phis) (Int.toNat 0) (({ w := (at_ ((at_ x37.1.f.blocks (((List.length g.f.blocks : Int)) + 1)).phis) 0).w, ins := List.set ((at_ ((at_ x37.1.f.blocks (((List.length g.f.blocks : Int)) + 1)).phis) 0).ins) (Int.toNat 1) x24.1 } : GPhi)), insts := (at_ x37.1.f.blocks (((List.length g.f.blocks : Int)) + 1)).insts, term := ((at_ x37.1.f.blocks (((List.length g.f.blocks : Int)) + 1)).term) } : GBlock))) (((List.length g.f.blocks : Int)) + 1)).term) } : GBlock)))), .os () 2 (List.map (ePhi true) x37.1.b.phis), .os () 7 (List.map (eInst false) x37.1.b.insts), .int .i64 x37.1.b.term.kind, .int .i64 x37.1.b.term.a, .int .i64 x37.1.b.term.x, .int .i64 x37.1.b.term.y, .int .i64 x37.1.next, .bs () 1 (List.map iL x20.1.ids), .bs () 1 (List.map iL x37.1.ws), .ref () 2 0 (List.length grets), .ref () 3 0 (List.length gpars)]]) rfl rfl rfl rfl rfl rfl rfl rfl ?_)
    refine z_ ?_
    refine c_reg (Y := sysA _) ?_
    refine n_ (x_mv rfl rfl ?_)
    refine n_ (x_mv rfl rfl ?_)
    refine n_ (x_ncp rfl rfl rfl ?_)
    refine n_ (x_fap rfl F135_5 rfl rfl ?_)
    refine n_ (x_st T24 (rows := [[.ptr () 1 0 0, .os () 1 (List.map iL x37.1.f.params), .int .i64 x37.1.f.ret, .os () 6 (List.map (eBlock true) (List.set (List.set x37.1.f.blocks (Int.toNat (((List.length g.f.blocks : Int)) + 1)) (({ phis := List.set ((at_ x37.1.f.blocks (((List.length g.f.blocks : Int)) + 1)).phis) (Int.toNat 0) (({ w := (at_ ((at_ x37.1.f.blocks (((List.length g.f.blocks : Int)) + 1)).phis) 0).w, ins := List.set ((at_ ((at_ x37.1.f.blocks (((List.length g.f.blocks : Int)) + 1)).phis) 0).ins) (Int.toNat 1) x24.1 } : GPhi)), insts := (at_ x37.1.f.blocks (((List.length g.f.blocks : Int)) + 1)).insts, term := ((at_ x37.1.f.blocks (((List.length g.f.blocks : Int)) + 1)).term) } : GBlock))) (Int.toNat (((List.length g.f.blocks : Int)) + 1)) (({ phis := List.set ((at_ (List.set x37.1.f.blocks (Int.toNat (((List.length g.f.blocks : Int)) + 1)) (({ phis := List.set ((at_ x37.1.f.blocks (((List.length g.f.blocks : Int)) + 1)).phis) (Int.toNat 0) (({ w := (at_ ((at_ x37.1.f.blocks (((List.length g.f.blocks : Int)) + 1)).phis) 0).w, ins := List.set ((at_ ((at_ x37.1.f.blocks (((List.length g.f.blocks : Int)) + 1)).phis) 0).ins) (Int.toNat 1) x24.1 } : GPhi)), insts := (at_ x37.1.f.blocks (((List.length g.f.blocks : Int)) + 1)).insts, term := ((at_ x37.1.f.blocks (((List.length g.f.blocks : Int)) + 1)).term) } : GBlock))) (((List.length g.f.blocks : Int)) + 1)).phis) (Int.toNat 1) (({ w := (at_ ((at_ (List.set x37.1.f.blocks (Int.toNat (((List.length g.f.blocks : Int)) + 1)) (({ phis := List.set ((at_ x37.1.f.blocks (((List.length g.f.blocks : Int)) + 1)).phis) (Int.toNat 0) (({ w := (at_ ((at_ x37.1.f.blocks (((List.length g.f.blocks : Int)) + 1)).phis) 0).w, ins := List.set ((at_ ((at_ x37.1.f.blocks (((List.length g.f.blocks : Int)) + 1)).phis) 0).ins) (Int.toNat 1) x24.1 } : GPhi)), insts := (at_ x37.1.f.blocks (((List.length g.f.blocks : Int)) + 1)).insts, term := ((at_ x37.1.f.blocks (((List.length g.f.blocks : Int)) + 1)).term) } : GBlock))) (((List.length g.f.blocks : Int)) + 1)).phis) 1).w, ins := List.set ((at_ ((at_ (List.set x37.1.f.blocks (Int.toNat (((List.length g.f.blocks : Int)) + 1)) (({ phis := List.set ((at_ x37.1.f.blocks (((List.length g.f.blocks : Int)) + 1)).phis) (Int.toNat 0) (({ w := (at_ ((at_ x37.1.f.blocks (((List.length g.f.blocks : Int)) + 1)).phis) 0).w, ins := List.set ((at_ ((at_ x37.1.f.blocks (((List.length g.f.blocks : Int)) + 1)).phis) 0).ins) (Int.toNat 1) x24.1 } : GPhi)), insts := (at_ x37.1.f.blocks (((List.length g.f.blocks : Int)) + 1)).insts, term := ((at_ x37.1.f.blocks (((List.length g.f.blocks : Int)) + 1)).term) } : GBlock))) (((List.length g.f.blocks : Int)) + 1)).phis) 1).ins) (Int.toNat 1) j32.2.2 } : GPhi)), insts := (at_ (List.set x37.1.f.blocks (Int.toNat (((List.length g.f.blocks : Int)) + 1)) (({ phis := List.set ((at_ x37.1.f.blocks (((List.length g.f.blocks : Int)) + 1)).phis) (Int.toNat 0) (({ w := (at_ ((at_ x37.1.f.blocks (((List.length g.f.blocks : Int)) + 1)).phis) 0).w, ins := List.set ((at_ ((at_ x37.1.f.blocks (((List.length g.f.blocks : Int)) + 1)).phis) 0).ins) (Int.toNat 1) x24.1 } : GPhi)), insts := (at_ x37.1.f.blocks (((List.length g.f.blocks : Int)) + 1)).insts, term := ((at_ x37.1.f.blocks (((List.length g.f.blocks : Int)) + 1)).term) } : GBlock))) (((List.length g.f.blocks : Int)) + 1)).insts, term := ((at_ (List.set x37.1.f.blocks (Int.toNat (((List.length g.f.blocks : Int)) + 1)) (({ phis := List.set ((at_ x37.1.f.blocks (((List.length g.f.blocks : Int)) + 1)).phis) (Int.toNat 0) (({ w := (at_ ((at_ x37.1.f.blocks (((List.length g.f.blocks : Int)) + 1)).phis) 0).w, ins := List.set ((at_ ((at_ x37.1.f.blocks (((List.length g.f.blocks : Int)) + 1)).phis) 0).ins) (Int.toNat 1) x24.1 } : GPhi)), insts := (at_ x37.1.f.blocks (((List.length g.f.blocks : Int)) + 1)).insts, term := ((at_ x37.1.f.blocks (((List.length g.f.blocks : Int)) + 1)).term) } : GBlock))) (((List.length g.f.blocks : Int)) + 1)).term) } : GBlock)))), .os () 2 (List.map (ePhi true) x37.1.b.phis), .os () 7 (List.map (eInst false) x37.1.b.insts), .int .i64 x37.1.b.term.kind, .int .i64 x37.1.b.term.a, .int .i64 x37.1.b.term.x, .int .i64 x37.1.b.term.y, .int .i64 x37.1.next, .bs () 1 (List.map iL x20.1.ids), .bs () 1 (List.map iL x20.1.ws), .ref () 2 0 (List.length grets), .ref () 3 0 (List.length gpars)]]) rfl rfl rfl rfl rfl rfl rfl rfl ?_)
    refine z_ ?_
    rw [← Option.some.inj hm]
    exact retG (us' := []) (obs' := [⟨(), 15, [hl2G (.ptr () 1 0 0) (.ref () 2 0 (List.length grets)) (.ref () 3 0 (List.length gpars)) (({ f := ({ params := x37.1.f.params, ret := x37.1.f.ret, blocks := List.set (List.set x37.1.f.blocks (Int.toNat (((List.length g.f.blocks : Int)) + 1)) (({ phis := List.set ((at_ x37.1.f.blocks (((List.length g.f.blocks : Int)) + 1)).phis) (Int.toNat 0) (({ w := (at_ ((at_ x37.1.f.blocks (((List.length g.f.blocks : Int)) + 1)).phis) 0).w, ins := List.set ((at_ ((at_ x37.1.f.blocks (((List.length g.f.blocks : Int)) + 1)).phis) 0).ins) (Int.toNat 1) x24.1 } : GPhi)), insts := (at_ x37.1.f.blocks (((List.length g.f.blocks : Int)) + 1)).insts, term := ((at_ x37.1.f.blocks (((List.length g.f.blocks : Int)) + 1)).term) } : GBlock))) (Int.toNat (((List.length g.f.blocks : Int)) + 1)) (({ phis := List.set ((at_ (List.set x37.1.f.blocks (Int.toNat (((List.length g.f.blocks : Int)) + 1)) (({ phis := List.set ((at_ x37.1.f.blocks (((List.length g.f.blocks : Int)) + 1)).phis) (Int.toNat 0) (({ w := (at_ ((at_ x37.1.f.blocks (((List.length g.f.blocks : Int)) + 1)).phis) 0).w, ins := List.set ((at_ ((at_ x37.1.f.blocks (((List.length g.f.blocks : Int)) + 1)).phis) 0).ins) (Int.toNat 1) x24.1 } : GPhi)), insts := (at_ x37.1.f.blocks (((List.length g.f.blocks : Int)) + 1)).insts, term := ((at_ x37.1.f.blocks (((List.length g.f.blocks : Int)) + 1)).term) } : GBlock))) (((List.length g.f.blocks : Int)) + 1)).phis) (Int.toNat 1) (({ w := (at_ ((at_ (List.set x37.1.f.blocks (Int.toNat (((List.length g.f.blocks : Int)) + 1)) (({ phis := List.set ((at_ x37.1.f.blocks (((List.length g.f.blocks : Int)) + 1)).phis) (Int.toNat 0) (({ w := (at_ ((at_ x37.1.f.blocks (((List.length g.f.blocks : Int)) + 1)).phis) 0).w, ins := List.set ((at_ ((at_ x37.1.f.blocks (((List.length g.f.blocks : Int)) + 1)).phis) 0).ins) (Int.toNat 1) x24.1 } : GPhi)), insts := (at_ x37.1.f.blocks (((List.length g.f.blocks : Int)) + 1)).insts, term := ((at_ x37.1.f.blocks (((List.length g.f.blocks : Int)) + 1)).term) } : GBlock))) (((List.length g.f.blocks : Int)) + 1)).phis) 1).w, ins := List.set ((at_ ((at_ (List.set x37.1.f.blocks (Int.toNat (((List.length g.f.blocks : Int)) + 1)) (({ phis := List.set ((at_ x37.1.f.blocks (((List.length g.f.blocks : Int)) + 1)).phis) (Int.toNat 0) (({ w := (at_ ((at_ x37.1.f.blocks (((List.length g.f.blocks : Int)) + 1)).phis) 0).w, ins := List.set ((at_ ((at_ x37.1.f.blocks (((List.length g.f.blocks : Int)) + 1)).phis) 0).ins) (Int.toNat 1) x24.1 } : GPhi)), insts := (at_ x37.1.f.blocks (((List.length g.f.blocks : Int)) + 1)).insts, term := ((at_ x37.1.f.blocks (((List.length g.f.blocks : Int)) + 1)).term) } : GBlock))) (((List.length g.f.blocks : Int)) + 1)).phis) 1).ins) (Int.toNat 1) j32.2.2 } : GPhi)), insts := (at_ (List.set x37.1.f.blocks (Int.toNat (((List.length g.f.blocks : Int)) + 1)) (({ phis := List.set ((at_ x37.1.f.blocks (((List.length g.f.blocks : Int)) + 1)).phis) (Int.toNat 0) (({ w := (at_ ((at_ x37.1.f.blocks (((List.length g.f.blocks : Int)) + 1)).phis) 0).w, ins := List.set ((at_ ((at_ x37.1.f.blocks (((List.length g.f.blocks : Int)) + 1)).phis) 0).ins) (Int.toNat 1) x24.1 } : GPhi)), insts := (at_ x37.1.f.blocks (((List.length g.f.blocks : Int)) + 1)).insts, term := ((at_ x37.1.f.blocks (((List.length g.f.blocks : Int)) + 1)).term) } : GBlock))) (((List.length g.f.blocks : Int)) + 1)).insts, term := ((at_ (List.set x37.1.f.blocks (Int.toNat (((List.length g.f.blocks : Int)) + 1)) (({ phis := List.set ((at_ x37.1.f.blocks (((List.length g.f.blocks : Int)) + 1)).phis) (Int.toNat 0) (({ w := (at_ ((at_ x37.1.f.blocks (((List.length g.f.blocks : Int)) + 1)).phis) 0).w, ins := List.set ((at_ ((at_ x37.1.f.blocks (((List.length g.f.blocks : Int)) + 1)).phis) 0).ins) (Int.toNat 1) x24.1 } : GPhi)), insts := (at_ x37.1.f.blocks (((List.length g.f.blocks : Int)) + 1)).insts, term := ((at_ x37.1.f.blocks (((List.length g.f.blocks : Int)) + 1)).term) } : GBlock))) (((List.length g.f.blocks : Int)) + 1)).term) } : GBlock)) } : GFunc), b := x37.1.b, next := x37.1.next, ids := x20.1.ids, ws := x20.1.ws } : Gl2G))]⟩, ⟨(), 2, [el1Rd false x37.2]⟩, ⟨(), 1, List.map iL grets⟩, ⟨(), 1, List.map (lL false 1 iL) gpars⟩]) rfl r_nil (f_end [0, 1, 2, 3] rfl (h_c rfl (h_c rfl (h_c (hrow rfl) (h_c (hrow rfl) h_n)))) (by decide) rfl (by simp only [hl2G, List.all_cons, List.all_nil, knows_map, Bool.and_true, Bool.true_and] <;> rfl) hB0 rfl rfl) rfl rfl rfl rfl (by simp only [hl2G, List.all_cons, List.all_nil, knows_map, Bool.and_true, Bool.true_and] <;> rfl)

/-- (*spec.l2G).ends -/
noncomputable def spec_l2G_ends_m (g : Gl2G) (gr : Gl1Rd) (grets : List Int) (gpars : List (List Int)) : Option (Gl2G × Gl1Rd) :=
  (Option.bind (spec_l1Rd_once_m gr 14) fun x1 =>
    (if x1.1 = true then
      (Option.bind (spec_l2G_close_m g x1.2 grets gpars (({ kind := 4, a := 0, x := 0, y := 0 } : GTerm))) fun x4 =>
        (some ((x4.1, x4.2))))
      else
      (Option.bind (spec_l2G_pick_m g x1.2 grets gpars g.f.ret) fun x6 =>
        (Option.bind (spec_l2G_close_m x6.2.1 x6.2.2 grets gpars (({ kind := 1, a := x6.1, x := 0, y := 0 } : GTerm))) fun x8 =>
          (some ((x8.1, x8.2)))))))
set_option maxHeartbeats 8000000 in
set_option maxRecDepth 100000 in
theorem spec_l2G_ends_sim (g : Gl2G) (gr : Gl1Rd) (grets : List Int) (gpars : List (List Int)) {r : Gl2G × Gl1Rd} (hm : spec_l2G_ends_m g gr grets gpars = some r) : Sim Try.prog 124 [.one (.ptr () 0 0 0)] [⟨(), 15, [hl2G (.ptr () 1 0 0) (.ref () 2 0 (List.length grets)) (.ref () 3 0 (List.length gpars)) g]⟩, ⟨(), 2, [el1Rd false gr]⟩, ⟨(), 1, List.map iL grets⟩, ⟨(), 1, List.map (lL false 1 iL) gpars⟩] (.tup []) [⟨(), 15, [hl2G (.ptr () 1 0 0) (.ref () 2 0 (List.length grets)) (.ref () 3 0 (List.length gpars)) r.1]⟩, ⟨(), 2, [el1Rd false r.2]⟩, ⟨(), 1, List.map iL grets⟩, ⟨(), 1, List.map (lL false 1 iL) gpars⟩] := by
  refine sim_st (N := 22) (k0 := 4) Try.func124 rfl rfl rfl rfl (rs := []) rfl rfl (by simp only [hl2G, List.all_cons, List.all_nil, knows_map, Bool.and_true, Bool.true_and] <;> rfl) fun B hB0 => ?_
  unfold spec_l2G_ends_m at hm
  refine Wp.seq ?_
  refine Wp.seq ?_
  refine c_reg (Y := sysA _) ?_
  refine n_ (x_mv rfl rfl ?_)
  refine n_ (x_ncp rfl rfl rfl ?_)
  refine n_ (x_fap rfl F135_0 rfl rfl ?_)
  refine n_ (x_ldp rfl T64 rfl rfl rfl rfl rfl ?_)
  obtain ⟨x1, h2, hm⟩ := of_bind hm
  refine n_ (x_cg (v := .u (.one (.bool x1.1))) (nobs := []) (oa' := _) (nx' := 4) (cs := []) (obs := [⟨(), 2, [el1Rd false gr]⟩]) [1] false rfl (by decide) (h_c rfl h_n) rfl (g_1 (l := .ptr () 0 0 0) rfl rfl rfl (g_1 (l := .int .i64 14) rfl rfl rfl g_n)) rfl rfl ent77 (spec_l1Rd_once_sim gr 14 h2) (.inl rfl) rfl rfl rfl rfl ?_)
  refine z_ ?_
  refine c_s rfl rfl (fun hb3 => ?_) (fun hb3 => ?_)
  · rw [if_pos (show _ = true from hb3)] at hm
    refine Wp.seq ?_
    refine c_reg (Y := sysA _) ?_
    refine n_ (x_mv rfl rfl ?_)
    refine n_ (x_bu (cells := (eTerm (({ kind := 4, a := 0, x := 0, y := 0 } : GTerm)))) T59 rfl rfl rfl ?_)
    obtain ⟨x4, h5, hm⟩ := of_bind hm
    refine n_ (x_cg (v := .tup []) (nobs := []) (oa' := _) (nx' := 4) (cs := []) (obs := [⟨(), 15, [hl2G (.ptr () 1 0 0) (.ref () 2 0 (List.length grets)) (.ref () 3 0 (List.length gpars)) g]⟩, ⟨(), 2, [el1Rd false x1.2]⟩, ⟨(), 1, List.map iL grets⟩, ⟨(), 1, List.map (lL false 1 iL) gpars⟩]) [0, 1, 2, 3] false rfl (by decide) (h_c rfl (h_c rfl (h_c (hrow rfl) (h_c (hrow rfl) h_n)))) (by simp only [hl2G, List.all_cons, List.all_nil, knows_map, Bool.and_true, Bool.true_and] <;> rfl) (g_1 (l := .ptr () 0 0 0) rfl rfl rfl (g_a (ls := eTerm (({ kind := 4, a := 0, x := 0, y := 0 } : GTerm))) rfl rfl rfl g_n)) rfl rfl ent133 (spec_l2G_close_sim g x1.2 grets gpars (({ kind := 4, a := 0, x := 0, y := 0 } : GTerm)) h5) (.inl rfl) rfl rfl (by simp only [hl2G, oaG, List.drop_succ_cons, List.drop_zero, List.drop_nil, List.take_succ_cons, List.take_zero, List.take_nil, List.length_cons, List.length_nil, List.map_cons, List.map_nil, List.zipIdx_nil, List.zip_cons_cons, List.zip_nil_right, updO, pushO, ren_map] <;> rfl) rfl ?_)
    refine z_ ?_
    refine c_ret ?_
    rw [← Option.some.inj hm]
    exact retG (us' := []) (obs' := [⟨(), 15, [hl2G (.ptr () 1 0 0) (.ref () 2 0 (List.length grets)) (.ref () 3 0 (List.length gpars)) x4.1]⟩, ⟨(), 2, [el1Rd false x4.2]⟩, ⟨(), 1, List.map iL grets⟩, ⟨(), 1, List.map (lL false 1 iL) gpars⟩]) rfl r_nil (f_end [0, 1, 2, 3] rfl (h_c rfl (h_c rfl (h_c (hrow rfl) (h_c (hrow rfl) h_n)))) (by decide) rfl (by simp only [hl2G, List.all_cons, List.all_nil, knows_map, Bool.and_true, Bool.true_and] <;> rfl) hB0 rfl rfl) rfl rfl rfl rfl (by simp only [hl2G, List.all_cons, List.all_nil, knows_map, Bool.and_true, Bool.true_and] <;> rfl)
  · rw [if_neg (by rw [hb3]; decide)] at hm
    refine c_skip ?_
    refine Wp.seq ?_
    refine c_reg (Y := sysA _) ?_
    refine n_ (x_mv rfl rfl ?_)
    refine n_ (x_mv rfl rfl ?_)
    refine n_ (x_ncp rfl rfl rfl ?_)
    refine n_ (x_fap rfl F135_1 rfl rfl ?_)
    refine n_ (x_fap rfl F27_1 rfl rfl ?_)
    refine n_ (x_ldp rfl T2 rfl rfl rfl rfl rfl ?_)
    obtain ⟨x6, h7, hm⟩ := of_bind hm
    refine n_ (x_cg (v := .u (.one (.int .i64 x6.1))) (nobs := []) (oa' := _) (nx' := 4) (cs := []) (obs := [⟨(), 15, [hl2G (.ptr () 1 0 0) (.ref () 2 0 (List.length grets)) (.ref () 3 0 (List.length gpars)) g]⟩, ⟨(), 2, [el1Rd false x1.2]⟩, ⟨(), 1, List.map iL grets⟩, ⟨(), 1, List.map (lL false 1 iL) gpars⟩]) [0, 1, 2, 3] false rfl (by decide) (h_c rfl (h_c rfl (h_c (hrow rfl) (h_c (hrow rfl) h_n)))) (by simp only [hl2G, List.all_cons, List.all_nil, knows_map, Bool.and_true, Bool.true_and] <;> rfl) (g_1 (l := .ptr () 0 0 0) rfl rfl rfl (g_1 (l := .int .i64 g.f.ret) rfl rfl rfl g_n)) rfl rfl ent131 (spec_l2G_pick_sim g x1.2 grets gpars g.f.ret h7) (.inl rfl) rfl rfl (by simp only [hl2G, oaG, List.drop_succ_cons, List.drop_zero, List.drop_nil, List.take_succ_cons, List.take_zero, List.take_nil, List.length_cons, List.length_nil, List.map_cons, List.map_nil, List.zipIdx_nil, List.zip_cons_cons, List.zip_nil_right, updO, pushO, ren_map] <;> rfl) rfl ?_)
    refine n_ (x_as rfl rfl ?_)
    refine z_ ?_
    refine c_reg (Y := sysA _) ?_
    refine n_ (x_mv rfl rfl ?_)
    refine n_ (x_mv rfl rfl ?_)
    refine n_ (x_bu (cells := (eTerm (({ kind := 1, a := x6.1, x := 0, y := 0 } : GTerm)))) T59 rfl rfl rfl ?_)
    obtain ⟨x8, h9, hm⟩ := of_bind hm
    refine n_ (x_cg (v := .tup []) (nobs := []) (oa' := _) (nx' := 4) (cs := []) (obs := [⟨(), 15, [hl2G (.ptr () 1 0 0) (.ref () 2 0 (List.length grets)) (.ref () 3 0 (List.length gpars)) x6.2.1]⟩, ⟨(), 2, [el1Rd false x6.2.2]⟩, ⟨(), 1, List.map iL grets⟩, ⟨(), 1, List.map (lL false 1 iL) gpars⟩]) [0, 1, 2, 3] false rfl (by decide) (h_c rfl (h_c rfl (h_c (hrow rfl) (h_c (hrow rfl) h_n)))) (by simp only [hl2G, List.all_cons, List.all_nil, knows_map, Bool.and_true, Bool.true_and] <;> rfl) (g_1 (l := .ptr () 0 0 0) rfl rfl rfl (g_a (ls := eTerm (({ kind := 1, a := x6.1, x := 0, y := 0 } : GTerm))) rfl rfl rfl g_n)) rfl rfl ent133 (spec_l2G_close_sim x6.2.1 x6.2.2 grets gpars (({ kind := 1, a := x6.1, x := 0, y := 0 } : GTerm)) h9) (.inl rfl) rfl rfl (by simp only [hl2G, oaG, List.drop_succ_cons, List.drop_zero, List.drop_nil, List.take_succ_cons, List.take_zero, List.take_nil, List.length_cons, List.length_nil, List.map_cons, List.map_nil, List.zipIdx_nil, List.zip_cons_cons, List.zip_nil_right, updO, pushO, ren_map] <;> rfl) rfl ?_)
    refine z_ ?_
    rw [← Option.some.inj hm]
    exact retG (us' := []) (obs' := [⟨(), 15, [hl2G (.ptr () 1 0 0) (.ref () 2 0 (List.length grets)) (.ref () 3 0 (List.length gpars)) x8.1]⟩, ⟨(), 2, [el1Rd false x8.2]⟩, ⟨(), 1, List.map iL grets⟩, ⟨(), 1, List.map (lL false 1 iL) gpars⟩]) rfl r_nil (f_end [0, 1, 2, 3] rfl (h_c rfl (h_c rfl (h_c (hrow rfl) (h_c (hrow rfl) h_n)))) (by decide) rfl (by simp only [hl2G, List.all_cons, List.all_nil, knows_map, Bool.and_true, Bool.true_and] <;> rfl) hB0 rfl rfl) rfl rfl rfl rfl (by simp only [hl2G, List.all_cons, List.all_nil, knows_map, Bool.and_true, Bool.true_and] <;> rfl)

/-- (*spec.l1Rd).fn -/
noncomputable def spec_l1Rd_fn_m (vr : Gl1Rd) (rets : List Int) (pars : List (List Int)) : Option (GFunc × Gl1Rd) :=
  (Option.bind (spec_l1Rd_width_m vr) fun x1 =>
    (Option.bind (spec_l1Rd_below_m x1.2 3) fun x3 =>
      (Option.bind (loopO (fun (st5 : Gl1Rd × Gl2G × Int) =>
            ((if decide (st5.2.2 > 0) = true then
                (Option.bind (spec_l1Rd_width_m st5.1) fun x8 =>
                  (if (List.length st5.2.1.f.params + List.length ([x8.1])) * 8 ≤ 140737488355328 ∧ List.length st5.2.1.f.params + List.length ([x8.1]) ≤ LIM then
                    (Option.bind (spec_l2G_add_m (({ f := ({ params := st5.2.1.f.params ++ ([x8.1]), ret := st5.2.1.f.ret, blocks := st5.2.1.f.blocks } : GFunc), b := st5.2.1.b, next := st5.2.1.next, ids := st5.2.1.ids, ws := st5.2.1.ws } : Gl2G)) x8.2 rets pars x8.1) fun x11 =>
                      (if inI (st5.2.2 - 1) then
                        (some (Sum.inl ((x11.2.2, x11.2.1, st5.2.2 - 1))))
                        else none))
                    else none))
                else
                (some (Sum.inr (((st5.1, st5.2.1)))))) : Option ((Gl1Rd × Gl2G × Int) ⊕ ((Gl1Rd × Gl2G))))) (x3.2, ({ f := ({ params := ([] : List Int), ret := x1.1, blocks := ([] : List GBlock) } : GFunc), b := ({ phis := ([] : List GPhi), insts := ([] : List GInst), term := ({ kind := 0, a := 0, x := 0, y := 0 } : GTerm) } : GBlock), next := 0, ids := ([] : List Int), ws := ([] : List Int) } : Gl2G), x3.1)) fun (j6 : Gl1Rd × Gl2G) =>
        (Option.bind (spec_l1Rd_below_m j6.1 5) fun x16 =>
          (if inI (1 + x16.1) then
            (Option.bind (spec_l2G_some_m j6.2 x16.2 rets pars (1 + x16.1)) fun x19 =>
              (Option.bind ((Option.bind (spec_l1Rd_below_m x19.2 4) fun x22 =>
                    (if (x22.1 == 0) = true then
                      (Option.bind (spec_l2G_fork_m x19.1 x22.2 rets pars) fun x25 =>
                        (some ((x25.2, x25.1))))
                      else
                      (if (x22.1 == 1) = true then
                        (Option.bind (spec_l2G_loop_m x19.1 x22.2 rets pars) fun x28 =>
                        (some ((x28.2, x28.1))))
                        else
                        (if (x22.1 == 2) = true then
                        (Option.bind (spec_l2G_fork_m x19.1 x22.2 rets pars) fun x31 =>
                        (Option.bind (spec_l1Rd_below_m x31.2 3) fun x33 =>
                        (Option.bind (spec_l2G_some_m x31.1 x33.2 rets pars x33.1) fun x35 =>
                        (Option.bind (spec_l2G_loop_m x35.1 x35.2 rets pars) fun x37 =>
                        (some ((x37.2, x37.1)))))))
                        else
                        (some ((x22.2, x19.1)))))))) fun (j21 : Gl1Rd × Gl2G) =>
                (Option.bind (spec_l1Rd_below_m j21.1 3) fun x40 =>
                  (Option.bind (spec_l2G_some_m j21.2 x40.2 rets pars x40.1) fun x42 =>
                    (Option.bind (spec_l2G_ends_m x42.1 x42.2 rets pars) fun x44 =>
                      (some ((({ params := x44.1.f.params, ret := x44.1.f.ret, blocks := x44.1.f.blocks } : GFunc), x44.2))))))))
            else none)))))
set_option maxHeartbeats 8000000 in
set_option maxRecDepth 100000 in
theorem spec_l1Rd_fn_sim (vr : Gl1Rd) (rets : List Int) (pars : List (List Int)) {r : GFunc × Gl1Rd} (hm : spec_l1Rd_fn_m vr rets pars = some r) : Sim Try.prog 107 [.one (.ptr () 0 0 0), .one (.ref () 1 0 (List.length rets)), .one (.ref () 2 0 (List.length pars))] [⟨(), 2, [el1Rd false vr]⟩, ⟨(), 1, List.map iL rets⟩, ⟨(), 1, List.map (lL false 1 iL) pars⟩] (.u (.agg (eFunc false r.1))) [⟨(), 2, [el1Rd false r.2]⟩, ⟨(), 1, List.map iL rets⟩, ⟨(), 1, List.map (lL false 1 iL) pars⟩] := by
  refine sim_st (N := 79) (k0 := 3) Try.func107 rfl rfl rfl rfl (rs := [.cell 6 27]) rfl rfl (by simp only [hl2G, List.all_cons, List.all_nil, knows_map, Bool.and_true, Bool.true_and] <;> rfl) fun B hB0 => ?_
  unfold spec_l1Rd_fn_m at hm
  refine Wp.seq ?_
  refine c_reg (Y := sysA _) ?_
  refine n_ (x_al T27 (r := [.nl, .int .i64 0, .nl]) rfl rfl ?_)
  refine z_ ?_
  refine Wp.seq ?_
  refine c_regS ?_
  refine o_run (Y := sysA _) 4 ?_
  refine n_ (x_mv rfl rfl ?_)
  refine n_ (x_mv rfl rfl ?_)
  refine n_ (x_mv rfl rfl ?_)
  refine n_ (x_bu (cells := [.ptr () 0 0 0, .nl, .int .i64 0, .nl, .nl, .nl, .int .i64 0, .int .i64 0, .int .i64 0, .int .i64 0, .int .i64 0, .nl, .nl, .ref () 1 0 (List.length rets), .ref () 2 0 (List.length pars)]) T135 rfl rfl rfl ?_)
  refine z_ ?_
  refine WpO.ghb (f_nb (u' := .agg [.ptr () 0 0 0, .nl, .int .i64 0, .nl, .nl, .nl, .int .i64 0, .int .i64 0, .int .i64 0, .int .i64 0, .int .i64 0, .bs () 1 (List.map iL (([] : List Int))), .nl, .ref () 1 0 (List.length rets), .ref () 2 0 (List.length pars)]) 13 11 1 rfl rfl rfl rfl) ?_
  refine WpO.ghb (f_nb (u' := .agg [.ptr () 0 0 0, .nl, .int .i64 0, .nl, .nl, .nl, .int .i64 0, .int .i64 0, .int .i64 0, .int .i64 0, .int .i64 0, .bs () 1 (List.map iL (([] : List Int))), .bs () 1 (List.map iL (([] : List Int))), .ref () 1 0 (List.length rets), .ref () 2 0 (List.length pars)]) 13 12 1 rfl rfl rfl rfl) ?_
  refine o_run (Y := sysA _) 2 ?_
  refine n_ (x_bx rfl rfl rfl rfl ?_)
  refine n_ (x_as rfl rfl ?_)
  refine z_ ?_
  refine o_end ?_
  refine Wp.seq ?_
  refine Wp.ghb _ (f_nlc (rows' := [[.ptr () 0 0 0, .ref () 5 0 0, .int .i64 0, .nl, .nl, .nl, .int .i64 0, .int .i64 0, .int .i64 0, .int .i64 0, .int .i64 0, .bs () 1 (List.map iL (([] : List Int))), .bs () 1 (List.map iL (([] : List Int))), .ref () 1 0 (List.length rets), .ref () 2 0 (List.length pars)]]) 4 0 1 1 rfl rfl rfl rfl) ?_
  refine Wp.ghb _ (f_cl (rows2 := List.map iL (([] : List Int))) (rows' := [[.ptr () 0 0 0, .os () 1 (List.map iL (([] : List Int))), .int .i64 0, .nl, .nl, .nl, .int .i64 0, .int .i64 0, .int .i64 0, .int .i64 0, .int .i64 0, .bs () 1 (List.map iL (([] : List Int))), .bs () 1 (List.map iL (([] : List Int))), .ref () 1 0 (List.length rets), .ref () 2 0 (List.length pars)]]) 4 5 0 1 rfl rfl rfl (nest_map (enc := iL) (([] : List Int))) rfl rfl (by simp) rfl) ?_
  refine Wp.ghb _ (f_nlc (rows' := [[.ptr () 0 0 0, .os () 1 (List.map iL (([] : List Int))), .int .i64 0, .ref () 6 0 0, .nl, .nl, .int .i64 0, .int .i64 0, .int .i64 0, .int .i64 0, .int .i64 0, .bs () 1 (List.map iL (([] : List Int))), .bs () 1 (List.map iL (([] : List Int))), .ref () 1 0 (List.length rets), .ref () 2 0 (List.length pars)]]) 4 0 3 6 rfl rfl rfl rfl) ?_
  refine Wp.ghb _ (f_cl (rows2 := List.map (eBlock true) (([] : List GBlock))) (rows' := [[.ptr () 0 0 0, .os () 1 (List.map iL (([] : List Int))), .int .i64 0, .os () 6 (List.map (eBlock true) (([] : List GBlock))), .nl, .nl, .int .i64 0, .int .i64 0, .int .i64 0, .int .i64 0, .int .i64 0, .bs () 1 (List.map iL (([] : List Int))), .bs () 1 (List.map iL (([] : List Int))), .ref () 1 0 (List.length rets), .ref () 2 0 (List.length pars)]]) 4 6 0 3 rfl rfl rfl (nest_map (enc := eBlock true) (([] : List GBlock))) rfl rfl (by simp) rfl) ?_
  refine Wp.ghb _ (f_nlc (rows' := [[.ptr () 0 0 0, .os () 1 (List.map iL (([] : List Int))), .int .i64 0, .os () 6 (List.map (eBlock true) (([] : List GBlock))), .ref () 7 0 0, .nl, .int .i64 0, .int .i64 0, .int .i64 0, .int .i64 0, .int .i64 0, .bs () 1 (List.map iL (([] : List Int))), .bs () 1 (List.map iL (([] : List Int))), .ref () 1 0 (List.length rets), .ref () 2 0 (List.length pars)]]) 4 0 4 2 rfl rfl rfl rfl) ?_
  refine Wp.ghb _ (f_cl (rows2 := List.map (ePhi true) (([] : List GPhi))) (rows' := [[.ptr () 0 0 0, .os () 1 (List.map iL (([] : List Int))), .int .i64 0, .os () 6 (List.map (eBlock true) (([] : List GBlock))), .os () 2 (List.map (ePhi true) (([] : List GPhi))), .nl, .int .i64 0, .int .i64 0, .int .i64 0, .int .i64 0, .int .i64 0, .bs () 1 (List.map iL (([] : List Int))), .bs () 1 (List.map iL (([] : List Int))), .ref () 1 0 (List.length rets), .ref () 2 0 (List.length pars)]]) 4 7 0 4 rfl rfl rfl (nest_map (enc := ePhi true) (([] : List GPhi))) rfl rfl (by simp) rfl) ?_
  refine Wp.ghb _ (f_nlc (rows' := [[.ptr () 0 0 0, .os () 1 (List.map iL (([] : List Int))), .int .i64 0, .os () 6 (List.map (eBlock true) (([] : List GBlock))), .os () 2 (List.map (ePhi true) (([] : List GPhi))), .ref () 8 0 0, .int .i64 0, .int .i64 0, .int .i64 0, .int .i64 0, .int .i64 0, .bs () 1 (List.map iL (([] : List Int))), .bs () 1 (List.map iL (([] : List Int))), .ref () 1 0 (List.length rets), .ref () 2 0 (List.length pars)]]) 4 0 5 7 rfl rfl rfl rfl) ?_
  refine Wp.ghb _ (f_cl (rows2 := List.map (eInst false) (([] : List GInst))) (rows' := [[.ptr () 0 0 0, .os () 1 (List.map iL (([] : List Int))), .int .i64 0, .os () 6 (List.map (eBlock true) (([] : List GBlock))), .os () 2 (List.map (ePhi true) (([] : List GPhi))), .os () 7 (List.map (eInst false) (([] : List GInst))), .int .i64 0, .int .i64 0, .int .i64 0, .int .i64 0, .int .i64 0, .bs () 1 (List.map iL (([] : List Int))), .bs () 1 (List.map iL (([] : List Int))), .ref () 1 0 (List.length rets), .ref () 2 0 (List.length pars)]]) 4 8 0 5 rfl rfl rfl (nest_map (enc := eInst false) (([] : List GInst))) rfl rfl (by simp) rfl) ?_
  refine c_reg (Y := sysA _) ?_
  refine n_ (x_mv rfl rfl ?_)
  refine n_ (x_mv rfl rfl ?_)
  obtain ⟨x1, h2, hm⟩ := of_bind hm
  refine n_ (x_cg (v := .u (.one (.int .i64 x1.1))) (nobs := []) (oa' := _) (nx' := 9) (cs := []) (obs := [⟨(), 2, [el1Rd false vr]⟩]) [0] false rfl (by decide) (h_c rfl h_n) rfl (g_1 (l := .ptr () 0 0 0) rfl rfl rfl g_n) rfl rfl ent119 (spec_l1Rd_width_sim vr h2) (.inl rfl) rfl rfl rfl rfl ?_)
  refine n_ (x_ncp rfl rfl rfl ?_)
  refine n_ (x_fap rfl F135_1 rfl rfl ?_)
  refine n_ (x_fap rfl F27_1 rfl rfl ?_)
  refine n_ (x_st T2 (rows := [[.ptr () 0 0 0, .os () 1 (List.map iL (([] : List Int))), .int .i64 x1.1, .os () 6 (List.map (eBlock true) (([] : List GBlock))), .os () 2 (List.map (ePhi true) (([] : List GPhi))), .os () 7 (List.map (eInst false) (([] : List GInst))), .int .i64 0, .int .i64 0, .int .i64 0, .int .i64 0, .int .i64 0, .bs () 1 (List.map iL (([] : List Int))), .bs () 1 (List.map iL (([] : List Int))), .ref () 1 0 (List.length rets), .ref () 2 0 (List.length pars)]]) rfl rfl rfl rfl rfl rfl rfl rfl ?_)
  refine z_ ?_
  refine Wp.seq ?_
  refine Wp.seq ?_
  refine c_reg (Y := sysA _) ?_
  refine n_ (x_mv rfl rfl ?_)
  obtain ⟨x3, h4, hm⟩ := of_bind hm
  refine n_ (x_cg (v := .u (.one (.int .i64 x3.1))) (nobs := []) (oa' := _) (nx' := 9) (cs := []) (obs := [⟨(), 2, [el1Rd false x1.2]⟩]) [0] false rfl (by decide) (h_c rfl h_n) rfl (g_1 (l := .ptr () 0 0 0) rfl rfl rfl (g_1 (l := .int .i64 3) rfl rfl rfl g_n)) rfl rfl ent76 (spec_l1Rd_below_sim x1.2 3 h4) (.inl rfl) rfl rfl rfl rfl ?_)
  refine n_ (x_as rfl rfl ?_)
  refine z_ ?_
  refine Wp.block ?_
  obtain ⟨j6, hl15, hm⟩ := of_bind hm
  refine c_loop hl15 (fun (st5 : Gl1Rd × Gl2G × Int) => St 79 [(0, .u (.one (.ptr () 0 0 0))), (6, .u (.one (.ptr () 3 0 0))), (7, .u (.one (.ptr () 4 0 0))), (8, .u (.one (.int .i64 st5.2.2)))] [(0, some ⟨(), 2, [(el1Rd false st5.1)]⟩), (1, some ⟨(), 1, List.map iL rets⟩), (2, some ⟨(), 1, List.map (lL false 1 iL) pars⟩), (3, some ⟨(), 3, [[.nl, .int .i64 0, .nl]]⟩), (4, some ⟨(), 15, [[.ptr () 0 0 0, .os () 1 (List.map iL st5.2.1.f.params), .int .i64 st5.2.1.f.ret, .os () 6 (List.map (eBlock true) st5.2.1.f.blocks), .os () 2 (List.map (ePhi true) st5.2.1.b.phis), .os () 7 (List.map (eInst false) st5.2.1.b.insts), .int .i64 st5.2.1.b.term.kind, .int .i64 st5.2.1.b.term.a, .int .i64 st5.2.1.b.term.x, .int .i64 st5.2.1.b.term.y, .int .i64 st5.2.1.next, .bs () 1 (List.map iL st5.2.1.ids), .bs () 1 (List.map iL st5.2.1.ws), .ref () 1 0 (List.length rets), .ref () 2 0 (List.length pars)]]⟩)] 5) (fun (j6 : Gl1Rd × Gl2G) => (.exit 0, St 79 [(0, .u (.one (.ptr () 0 0 0))), (6, .u (.one (.ptr () 3 0 0))), (7, .u (.one (.ptr () 4 0 0)))] [(0, some ⟨(), 2, [(el1Rd false j6.1)]⟩), (1, some ⟨(), 1, List.map iL rets⟩), (2, some ⟨(), 1, List.map (lL false 1 iL) pars⟩), (3, some ⟨(), 3, [[.nl, .int .i64 0, .nl]]⟩), (4, some ⟨(), 15, [[.ptr () 0 0 0, .os () 1 (List.map iL j6.2.f.params), .int .i64 j6.2.f.ret, .os () 6 (List.map (eBlock true) j6.2.f.blocks), .os () 2 (List.map (ePhi true) j6.2.b.phis), .os () 7 (List.map (eInst false) j6.2.b.insts), .int .i64 j6.2.b.term.kind, .int .i64 j6.2.b.term.a, .int .i64 j6.2.b.term.x, .int .i64 j6.2.b.term.y, .int .i64 j6.2.next, .bs () 1 (List.map iL j6.2.ids), .bs () 1 (List.map iL j6.2.ws), .ref () 1 0 (List.length rets), .ref () 2 0 (List.length pars)]]⟩)] 5)) (w_ [0, 1, 2, 3, 4] (.cons rfl rfl (.cons rfl rfl (.cons rfl rfl (.cons rfl rfl .nil)))) (.lit rfl rfl (.map rfl (.map rfl (.lit rfl rfl (.lit rfl rfl .nil))))) (by decide) (hB_n 3 hB0 rfl)) ?_ (by intro y; simp) ?_
  · intro st5 x hm
    refine Wp.seq ?_
    refine Wp.seq ?_
    refine c_reg (Y := sysA _) ?_
    refine n_ (x_mv rfl rfl ?_)
    refine n_ (x_bin T3 rfl rfl rfl ?_)
    refine z_ ?_
    refine c_s rfl rfl (fun hb7 => ?_) (fun hb7 => ?_)
    · rw [if_pos (show _ = true from hb7)] at hm
      refine c_skip ?_
      refine Wp.seq ?_
      refine Wp.block ?_
      refine Wp.seq ?_
      refine c_reg (Y := sysA _) ?_
      refine n_ (x_mv rfl rfl ?_)
      obtain ⟨x8, h9, hm⟩ := of_bind hm
      refine n_ (x_cg (v := .u (.one (.int .i64 x8.1))) (nobs := []) (oa' := _) (nx' := 5) (cs := []) (obs := [⟨(), 2, [el1Rd false st5.1]⟩]) [0] false rfl (by decide) (h_c rfl h_n) rfl (g_1 (l := .ptr () 0 0 0) rfl rfl rfl g_n) rfl rfl ent119 (spec_l1Rd_width_sim st5.1 h9) (.inl rfl) rfl rfl rfl rfl ?_)
      refine n_ (x_as rfl rfl ?_)
      refine z_ ?_
      refine Wp.seq ?_
      refine c_regS ?_
      refine o_run (Y := sysA _) 5 ?_
      refine n_ (x_mv rfl rfl ?_)
      refine n_ (x_mv rfl rfl ?_)
      refine n_ (x_ncp rfl rfl rfl ?_)
      refine n_ (x_fap rfl F135_1 rfl rfl ?_)
      refine n_ (x_fap rfl F27_0 rfl rfl ?_)
      refine z_ ?_
      refine WpO.ghb (f_op (rows' := [[.ptr () 0 0 0, .ref () 5 0 (List.length st5.2.1.f.params), .int .i64 st5.2.1.f.ret, .os () 6 (List.map (eBlock true) st5.2.1.f.blocks), .os () 2 (List.map (ePhi true) st5.2.1.b.phis), .os () 7 (List.map (eInst false) st5.2.1.b.insts), .int .i64 st5.2.1.b.term.kind, .int .i64 st5.2.1.b.term.a, .int .i64 st5.2.1.b.term.x, .int .i64 st5.2.1.b.term.y, .int .i64 st5.2.1.next, .bs () 1 (List.map iL st5.2.1.ids), .bs () 1 (List.map iL st5.2.1.ws), .ref () 1 0 (List.length rets), .ref () 2 0 (List.length pars)]]) 4 0 1 rfl rfl rfl (by simp) rfl) ?_
      refine o_run (Y := sysA _) 8 ?_
      refine n_ (x_ldp rfl T24 rfl rfl rfl rfl rfl ?_)
      refine n_ (x_mv rfl rfl ?_)
      refine n_ (x_bsm (enc := iL) ([x8.1]) A24 rfl rfl rfl rfl ?_)
      obtain ⟨h10, hm⟩ := of_ite hm
      refine n_ (x_apr (enc := iL) (xs := st5.2.1.f.params) (ys := [x8.1]) A24 N24 (encB_N _) rfl rfl rfl (argR_r rfl) h10 ?_)
      refine n_ (x_ncp rfl rfl rfl ?_)
      refine n_ (x_fap rfl F135_1 rfl rfl ?_)
      refine n_ (x_fap rfl F27_0 rfl rfl ?_)
      refine n_ (x_st T24 (rows := [[.ptr () 0 0 0, .ref () 7 0 (List.length (st5.2.1.f.params ++ ([x8.1]))), .int .i64 st5.2.1.f.ret, .os () 6 (List.map (eBlock true) st5.2.1.f.blocks), .os () 2 (List.map (ePhi true) st5.2.1.b.phis), .os () 7 (List.map (eInst false) st5.2.1.b.insts), .int .i64 st5.2.1.b.term.kind, .int .i64 st5.2.1.b.term.a, .int .i64 st5.2.1.b.term.x, .int .i64 st5.2.1.b.term.y, .int .i64 st5.2.1.next, .bs () 1 (List.map iL st5.2.1.ids), .bs () 1 (List.map iL st5.2.1.ws), .ref () 1 0 (List.length rets), .ref () 2 0 (List.length pars)]]) rfl rfl rfl rfl rfl rfl rfl rfl ?_)
      refine z_ ?_
      refine o_end ?_
      refine Wp.ghb _ (f_cl (rows2 := List.map iL (st5.2.1.f.params ++ ([x8.1]))) (rows' := [[.ptr () 0 0 0, .os () 1 (List.map iL (st5.2.1.f.params ++ ([x8.1]))), .int .i64 st5.2.1.f.ret, .os () 6 (List.map (eBlock true) st5.2.1.f.blocks), .os () 2 (List.map (ePhi true) st5.2.1.b.phis), .os () 7 (List.map (eInst false) st5.2.1.b.insts), .int .i64 st5.2.1.b.term.kind, .int .i64 st5.2.1.b.term.a, .int .i64 st5.2.1.b.term.x, .int .i64 st5.2.1.b.term.y, .int .i64 st5.2.1.next, .bs () 1 (List.map iL st5.2.1.ids), .bs () 1 (List.map iL st5.2.1.ws), .ref () 1 0 (List.length rets), .ref () 2 0 (List.length pars)]]) 4 7 0 1 rfl rfl rfl (nest_map (enc := iL) (st5.2.1.f.params ++ ([x8.1]))) rfl rfl (by simp) rfl) ?_
      refine c_reg (Y := sysA _) ?_
      refine n_ (x_mv rfl rfl ?_)
      refine n_ (x_mv rfl rfl ?_)
      obtain ⟨x11, h12, hm⟩ := of_bind hm
      refine n_ (x_cg (v := .u (.one (.int .i64 x11.1))) (nobs := []) (oa' := _) (nx' := 8) (cs := []) (obs := [⟨(), 15, [hl2G (.ptr () 1 0 0) (.ref () 2 0 (List.length rets)) (.ref () 3 0 (List.length pars)) (({ f := ({ params := st5.2.1.f.params ++ ([x8.1]), ret := st5.2.1.f.ret, blocks := st5.2.1.f.blocks } : GFunc), b := st5.2.1.b, next := st5.2.1.next, ids := st5.2.1.ids, ws := st5.2.1.ws } : Gl2G))]⟩, ⟨(), 2, [el1Rd false x8.2]⟩, ⟨(), 1, List.map iL rets⟩, ⟨(), 1, List.map (lL false 1 iL) pars⟩]) [4, 0, 1, 2] false rfl (by decide) (h_c rfl (h_c rfl (h_c (hrow rfl) (h_c (hrow rfl) h_n)))) (by simp only [hl2G, List.all_cons, List.all_nil, knows_map, Bool.and_true, Bool.true_and] <;> rfl) (g_1 (l := .ptr () 0 0 0) rfl rfl rfl (g_1 (l := .int .i64 x8.1) rfl rfl rfl g_n)) rfl rfl ent120 (spec_l2G_add_sim (({ f := ({ params := st5.2.1.f.params ++ ([x8.1]), ret := st5.2.1.f.ret, blocks := st5.2.1.f.blocks } : GFunc), b := st5.2.1.b, next := st5.2.1.next, ids := st5.2.1.ids, ws := st5.2.1.ws } : Gl2G)) x8.2 rets pars x8.1 h12) (.inl rfl) rfl rfl (by simp only [hl2G, oaG, List.drop_succ_cons, List.drop_zero, List.drop_nil, List.take_succ_cons, List.take_zero, List.take_nil, List.length_cons, List.length_nil, List.map_cons, List.map_nil, List.zipIdx_nil, List.zip_cons_cons, List.zip_nil_right, updO, pushO, ren_map] <;> rfl) rfl ?_)
      refine z_ ?_
      refine c_reg (Y := sysA _) ?_
      refine n_ (x_mv rfl rfl ?_)
      obtain ⟨h13, hm⟩ := of_ite hm
      refine n_ (x_subc T3 rfl rfl h13 ?_)
      refine n_ (x_as rfl rfl ?_)
      refine z_ ?_
      cases hm
      exact ⟨rfl, w_ [0, 1, 2, 3, 4] (.cons rfl rfl (.cons rfl rfl (.cons rfl rfl (.cons rfl rfl .nil)))) (.lit rfl rfl (.map rfl (.map rfl (.lit rfl rfl (.lit rfl rfl .nil))))) (by decide) (hB_n 3 hB0 rfl)⟩
    · rw [if_neg (by rw [hb7]; decide)] at hm
      refine c_exit ?_
      cases hm
      exact ⟨rfl, w_ [0, 1, 2, 3, 4] (.cons rfl rfl (.cons rfl rfl (.cons rfl rfl .nil))) (.lit rfl rfl (.map rfl (.map rfl (.lit rfl rfl (.lit rfl rfl .nil))))) (by decide) (hB_n 3 hB0 rfl)⟩
  · refine Wp.seq ?_
    refine c_reg (Y := sysA _) ?_
    refine n_ (x_mv rfl rfl ?_)
    refine n_ (x_mv rfl rfl ?_)
    obtain ⟨x16, h17, hm⟩ := of_bind hm
    refine n_ (x_cg (v := .u (.one (.int .i64 x16.1))) (nobs := []) (oa' := _) (nx' := 5) (cs := []) (obs := [⟨(), 2, [el1Rd false j6.1]⟩]) [0] false rfl (by decide) (h_c rfl h_n) rfl (g_1 (l := .ptr () 0 0 0) rfl rfl rfl (g_1 (l := .int .i64 5) rfl rfl rfl g_n)) rfl rfl ent76 (spec_l1Rd_below_sim j6.1 5 h17) (.inl rfl) rfl rfl rfl rfl ?_)
    obtain ⟨h18, hm⟩ := of_ite hm
    refine n_ (x_addc T3 rfl rfl h18 ?_)
    obtain ⟨x19, h20, hm⟩ := of_bind hm
    refine n_ (x_cg (v := .tup []) (nobs := []) (oa' := _) (nx' := 5) (cs := []) (obs := [⟨(), 15, [hl2G (.ptr () 1 0 0) (.ref () 2 0 (List.length rets)) (.ref () 3 0 (List.length pars)) j6.2]⟩, ⟨(), 2, [el1Rd false x16.2]⟩, ⟨(), 1, List.map iL rets⟩, ⟨(), 1, List.map (lL false 1 iL) pars⟩]) [4, 0, 1, 2] false rfl (by decide) (h_c rfl (h_c rfl (h_c (hrow rfl) (h_c (hrow rfl) h_n)))) (by simp only [hl2G, List.all_cons, List.all_nil, knows_map, Bool.and_true, Bool.true_and] <;> rfl) (g_1 (l := .ptr () 0 0 0) rfl rfl rfl (g_1 (l := .int .i64 (1 + x16.1)) rfl rfl rfl g_n)) rfl rfl ent121 (spec_l2G_some_sim j6.2 x16.2 rets pars (1 + x16.1) h20) (.inl rfl) rfl rfl (by simp only [hl2G, oaG, List.drop_succ_cons, List.drop_zero, List.drop_nil, List.take_succ_cons, List.take_zero, List.take_nil, List.length_cons, List.length_nil, List.map_cons, List.map_nil, List.zipIdx_nil, List.zip_cons_cons, List.zip_nil_right, updO, pushO, ren_map] <;> rfl) rfl ?_)
    refine z_ ?_
    refine Wp.seq ?_
    obtain ⟨j21, hj39, hm⟩ := of_bind hm
    refine c_cut (St 79 [(0, .u (.one (.ptr () 0 0 0))), (6, .u (.one (.ptr () 3 0 0))), (7, .u (.one (.ptr () 4 0 0)))] [(0, some ⟨(), 2, [(el1Rd false j21.1)]⟩), (1, some ⟨(), 1, List.map iL rets⟩), (2, some ⟨(), 1, List.map (lL false 1 iL) pars⟩), (3, some ⟨(), 3, [[.nl, .int .i64 0, .nl]]⟩), (4, some ⟨(), 15, [[.ptr () 0 0 0, .os () 1 (List.map iL j21.2.f.params), .int .i64 j21.2.f.ret, .os () 6 (List.map (eBlock true) j21.2.f.blocks), .os () 2 (List.map (ePhi true) j21.2.b.phis), .os () 7 (List.map (eInst false) j21.2.b.insts), .int .i64 j21.2.b.term.kind, .int .i64 j21.2.b.term.a, .int .i64 j21.2.b.term.x, .int .i64 j21.2.b.term.y, .int .i64 j21.2.next, .bs () 1 (List.map iL j21.2.ids), .bs () 1 (List.map iL j21.2.ws), .ref () 1 0 (List.length rets), .ref () 2 0 (List.length pars)]]⟩)] 5) ?_ ?_
    · replace hm := hj39
      refine Wp.seq ?_
      refine c_reg (Y := sysA _) ?_
      refine n_ (x_mv rfl rfl ?_)
      obtain ⟨x22, h23, hm⟩ := of_bind hm
      refine n_ (x_cg (v := .u (.one (.int .i64 x22.1))) (nobs := []) (oa' := _) (nx' := 5) (cs := []) (obs := [⟨(), 2, [el1Rd false x19.2]⟩]) [0] false rfl (by decide) (h_c rfl h_n) rfl (g_1 (l := .ptr () 0 0 0) rfl rfl rfl (g_1 (l := .int .i64 4) rfl rfl rfl g_n)) rfl rfl ent76 (spec_l1Rd_below_sim x19.2 4 h23) (.inl rfl) rfl rfl rfl rfl ?_)
      refine z_ ?_
      refine Wp.block ?_
      refine Wp.seq ?_
      refine c_reg (Y := sysA _) ?_
      refine n_ (x_bin T3 rfl rfl rfl ?_)
      refine n_ (x_as rfl rfl ?_)
      refine z_ ?_
      refine c_s rfl rfl (fun hb24 => ?_) (fun hb24 => ?_)
      · rw [if_pos (show _ = true from hb24)] at hm
        refine c_reg (Y := sysA _) ?_
        refine n_ (x_mv rfl rfl ?_)
        obtain ⟨x25, h26, hm⟩ := of_bind hm
        refine n_ (x_cg (v := .tup []) (nobs := []) (oa' := _) (nx' := 5) (cs := []) (obs := [⟨(), 15, [hl2G (.ptr () 1 0 0) (.ref () 2 0 (List.length rets)) (.ref () 3 0 (List.length pars)) x19.1]⟩, ⟨(), 2, [el1Rd false x22.2]⟩, ⟨(), 1, List.map iL rets⟩, ⟨(), 1, List.map (lL false 1 iL) pars⟩]) [4, 0, 1, 2] false rfl (by decide) (h_c rfl (h_c rfl (h_c (hrow rfl) (h_c (hrow rfl) h_n)))) (by simp only [hl2G, List.all_cons, List.all_nil, knows_map, Bool.and_true, Bool.true_and] <;> rfl) (g_1 (l := .ptr () 0 0 0) rfl rfl rfl g_n) rfl rfl ent122 (spec_l2G_fork_sim x19.1 x22.2 rets pars h26) (.inl rfl) rfl rfl (by simp only [hl2G, oaG, List.drop_succ_cons, List.drop_zero, List.drop_nil, List.take_succ_cons, List.take_zero, List.take_nil, List.length_cons, List.length_nil, List.map_cons, List.map_nil, List.zipIdx_nil, List.zip_cons_cons, List.zip_nil_right, updO, pushO, ren_map] <;> rfl) rfl ?_)
        refine z_ ?_
        cases hm
        exact w_ [0, 1, 2, 3, 4] (.cons rfl rfl (.cons rfl rfl (.cons rfl rfl .nil))) (.lit rfl rfl (.map rfl (.map rfl (.lit rfl rfl (.lit rfl rfl .nil))))) (by decide) (hB_n 3 hB0 rfl)
      · rw [if_neg (by rw [hb24]; decide)] at hm
        refine Wp.seq ?_
        refine c_reg (Y := sysA _) ?_
        refine n_ (x_bin T3 rfl rfl rfl ?_)
        refine n_ (x_as rfl rfl ?_)
        refine z_ ?_
        refine c_s rfl rfl (fun hb27 => ?_) (fun hb27 => ?_)
        · rw [if_pos (show _ = true from hb27)] at hm
          refine c_reg (Y := sysA _) ?_
          refine n_ (x_mv rfl rfl ?_)
          obtain ⟨x28, h29, hm⟩ := of_bind hm
          refine n_ (x_cg (v := .tup []) (nobs := []) (oa' := _) (nx' := 5) (cs := []) (obs := [⟨(), 15, [hl2G (.ptr () 1 0 0) (.ref () 2 0 (List.length rets)) (.ref () 3 0 (List.length pars)) x19.1]⟩, ⟨(), 2, [el1Rd false x22.2]⟩, ⟨(), 1, List.map iL rets⟩, ⟨(), 1, List.map (lL false 1 iL) pars⟩]) [4, 0, 1, 2] false rfl (by decide) (h_c rfl (h_c rfl (h_c (hrow rfl) (h_c (hrow rfl) h_n)))) (by simp only [hl2G, List.all_cons, List.all_nil, knows_map, Bool.and_true, Bool.true_and] <;> rfl) (g_1 (l := .ptr () 0 0 0) rfl rfl rfl g_n) rfl rfl ent123 (spec_l2G_loop_sim x19.1 x22.2 rets pars h29) (.inl rfl) rfl rfl (by simp only [hl2G, oaG, List.drop_succ_cons, List.drop_zero, List.drop_nil, List.take_succ_cons, List.take_zero, List.take_nil, List.length_cons, List.length_nil, List.map_cons, List.map_nil, List.zipIdx_nil, List.zip_cons_cons, List.zip_nil_right, updO, pushO, ren_map] <;> rfl) rfl ?_)
          refine z_ ?_
          cases hm
          exact w_ [0, 1, 2, 3, 4] (.cons rfl rfl (.cons rfl rfl (.cons rfl rfl .nil))) (.lit rfl rfl (.map rfl (.map rfl (.lit rfl rfl (.lit rfl rfl .nil))))) (by decide) (hB_n 3 hB0 rfl)
        · rw [if_neg (by rw [hb27]; decide)] at hm
          refine Wp.seq ?_
          refine c_reg (Y := sysA _) ?_
          refine n_ (x_bin T3 rfl rfl rfl ?_)
          refine n_ (x_as rfl rfl ?_)
          refine z_ ?_
          refine c_s rfl rfl (fun hb30 => ?_) (fun hb30 => ?_)
          · rw [if_pos (show _ = true from hb30)] at hm
            refine Wp.seq ?_
            refine c_reg (Y := sysA _) ?_
            refine n_ (x_mv rfl rfl ?_)
            obtain ⟨x31, h32, hm⟩ := of_bind hm
            refine n_ (x_cg (v := .tup []) (nobs := []) (oa' := _) (nx' := 5) (cs := []) (obs := [⟨(), 15, [hl2G (.ptr () 1 0 0) (.ref () 2 0 (List.length rets)) (.ref () 3 0 (List.length pars)) x19.1]⟩, ⟨(), 2, [el1Rd false x22.2]⟩, ⟨(), 1, List.map iL rets⟩, ⟨(), 1, List.map (lL false 1 iL) pars⟩]) [4, 0, 1, 2] false rfl (by decide) (h_c rfl (h_c rfl (h_c (hrow rfl) (h_c (hrow rfl) h_n)))) (by simp only [hl2G, List.all_cons, List.all_nil, knows_map, Bool.and_true, Bool.true_and] <;> rfl) (g_1 (l := .ptr () 0 0 0) rfl rfl rfl g_n) rfl rfl ent122 (spec_l2G_fork_sim x19.1 x22.2 rets pars h32) (.inl rfl) rfl rfl (by simp only [hl2G, oaG, List.drop_succ_cons, List.drop_zero, List.drop_nil, List.take_succ_cons, List.take_zero, List.take_nil, List.length_cons, List.length_nil, List.map_cons, List.map_nil, List.zipIdx_nil, List.zip_cons_cons, List.zip_nil_right, updO, pushO, ren_map] <;> rfl) rfl ?_)
            refine z_ ?_
            refine Wp.seq ?_
            refine c_reg (Y := sysA _) ?_
            refine n_ (x_mv rfl rfl ?_)
            refine n_ (x_mv rfl rfl ?_)
            obtain ⟨x33, h34, hm⟩ := of_bind hm
            refine n_ (x_cg (v := .u (.one (.int .i64 x33.1))) (nobs := []) (oa' := _) (nx' := 5) (cs := []) (obs := [⟨(), 2, [el1Rd false x31.2]⟩]) [0] false rfl (by decide) (h_c rfl h_n) rfl (g_1 (l := .ptr () 0 0 0) rfl rfl rfl (g_1 (l := .int .i64 3) rfl rfl rfl g_n)) rfl rfl ent76 (spec_l1Rd_below_sim x31.2 3 h34) (.inl rfl) rfl rfl rfl rfl ?_)
            obtain ⟨x35, h36, hm⟩ := of_bind hm
            refine n_ (x_cg (v := .tup []) (nobs := []) (oa' := _) (nx' := 5) (cs := []) (obs := [⟨(), 15, [hl2G (.ptr () 1 0 0) (.ref () 2 0 (List.length rets)) (.ref () 3 0 (List.length pars)) x31.1]⟩, ⟨(), 2, [el1Rd false x33.2]⟩, ⟨(), 1, List.map iL rets⟩, ⟨(), 1, List.map (lL false 1 iL) pars⟩]) [4, 0, 1, 2] false rfl (by decide) (h_c rfl (h_c rfl (h_c (hrow rfl) (h_c (hrow rfl) h_n)))) (by simp only [hl2G, List.all_cons, List.all_nil, knows_map, Bool.and_true, Bool.true_and] <;> rfl) (g_1 (l := .ptr () 0 0 0) rfl rfl rfl (g_1 (l := .int .i64 x33.1) rfl rfl rfl g_n)) rfl rfl ent121 (spec_l2G_some_sim x31.1 x33.2 rets pars x33.1 h36) (.inl rfl) rfl rfl (by simp only [hl2G, oaG, List.drop_succ_cons, List.drop_zero, List.drop_nil, List.take_succ_cons, List.take_zero, List.take_nil, List.length_cons, List.length_nil, List.map_cons, List.map_nil, List.zipIdx_nil, List.zip_cons_cons, List.zip_nil_right, updO, pushO, ren_map] <;> rfl) rfl ?_)
            refine z_ ?_
            refine c_reg (Y := sysA _) ?_
            refine n_ (x_mv rfl rfl ?_)
            obtain ⟨x37, h38, hm⟩ := of_bind hm
            refine n_ (x_cg (v := .tup []) (nobs := []) (oa' := _) (nx' := 5) (cs := []) (obs := [⟨(), 15, [hl2G (.ptr () 1 0 0) (.ref () 2 0 (List.length rets)) (.ref () 3 0 (List.length pars)) x35.1]⟩, ⟨(), 2, [el1Rd false x35.2]⟩, ⟨(), 1, List.map iL rets⟩, ⟨(), 1, List.map (lL false 1 iL) pars⟩]) [4, 0, 1, 2] false rfl (by decide) (h_c rfl (h_c rfl (h_c (hrow rfl) (h_c (hrow rfl) h_n)))) (by simp only [hl2G, List.all_cons, List.all_nil, knows_map, Bool.and_true, Bool.true_and] <;> rfl) (g_1 (l := .ptr () 0 0 0) rfl rfl rfl g_n) rfl rfl ent123 (spec_l2G_loop_sim x35.1 x35.2 rets pars h38) (.inl rfl) rfl rfl (by simp only [hl2G, oaG, List.drop_succ_cons, List.drop_zero, List.drop_nil, List.take_succ_cons, List.take_zero, List.take_nil, List.length_cons, List.length_nil, List.map_cons, List.map_nil, List.zipIdx_nil, List.zip_cons_cons, List.zip_nil_right, updO, pushO, ren_map] <;> rfl) rfl ?_)
            refine z_ ?_
            cases hm
            exact w_ [0, 1, 2, 3, 4] (.cons rfl rfl (.cons rfl rfl (.cons rfl rfl .nil))) (.lit rfl rfl (.map rfl (.map rfl (.lit rfl rfl (.lit rfl rfl .nil))))) (by decide) (hB_n 3 hB0 rfl)
          · rw [if_neg (by rw [hb30]; decide)] at hm
            refine c_skip ?_
            cases hm
            exact w_ [0, 1, 2, 3, 4] (.cons rfl rfl (.cons rfl rfl (.cons rfl rfl .nil))) (.lit rfl rfl (.map rfl (.map rfl (.lit rfl rfl (.lit rfl rfl .nil))))) (by decide) (hB_n 3 hB0 rfl)
    · refine Wp.seq ?_
      refine c_reg (Y := sysA _) ?_
      refine n_ (x_mv rfl rfl ?_)
      refine n_ (x_mv rfl rfl ?_)
      obtain ⟨x40, h41, hm⟩ := of_bind hm
      refine n_ (x_cg (v := .u (.one (.int .i64 x40.1))) (nobs := []) (oa' := _) (nx' := 5) (cs := []) (obs := [⟨(), 2, [el1Rd false j21.1]⟩]) [0] false rfl (by decide) (h_c rfl h_n) rfl (g_1 (l := .ptr () 0 0 0) rfl rfl rfl (g_1 (l := .int .i64 3) rfl rfl rfl g_n)) rfl rfl ent76 (spec_l1Rd_below_sim j21.1 3 h41) (.inl rfl) rfl rfl rfl rfl ?_)
      obtain ⟨x42, h43, hm⟩ := of_bind hm
      refine n_ (x_cg (v := .tup []) (nobs := []) (oa' := _) (nx' := 5) (cs := []) (obs := [⟨(), 15, [hl2G (.ptr () 1 0 0) (.ref () 2 0 (List.length rets)) (.ref () 3 0 (List.length pars)) j21.2]⟩, ⟨(), 2, [el1Rd false x40.2]⟩, ⟨(), 1, List.map iL rets⟩, ⟨(), 1, List.map (lL false 1 iL) pars⟩]) [4, 0, 1, 2] false rfl (by decide) (h_c rfl (h_c rfl (h_c (hrow rfl) (h_c (hrow rfl) h_n)))) (by simp only [hl2G, List.all_cons, List.all_nil, knows_map, Bool.and_true, Bool.true_and] <;> rfl) (g_1 (l := .ptr () 0 0 0) rfl rfl rfl (g_1 (l := .int .i64 x40.1) rfl rfl rfl g_n)) rfl rfl ent121 (spec_l2G_some_sim j21.2 x40.2 rets pars x40.1 h43) (.inl rfl) rfl rfl (by simp only [hl2G, oaG, List.drop_succ_cons, List.drop_zero, List.drop_nil, List.take_succ_cons, List.take_zero, List.take_nil, List.length_cons, List.length_nil, List.map_cons, List.map_nil, List.zipIdx_nil, List.zip_cons_cons, List.zip_nil_right, updO, pushO, ren_map] <;> rfl) rfl ?_)
      refine z_ ?_
      refine Wp.seq ?_
      refine c_reg (Y := sysA _) ?_
      refine n_ (x_mv rfl rfl ?_)
      obtain ⟨x44, h45, hm⟩ := of_bind hm
      refine n_ (x_cg (v := .tup []) (nobs := []) (oa' := _) (nx' := 5) (cs := []) (obs := [⟨(), 15, [hl2G (.ptr () 1 0 0) (.ref () 2 0 (List.length rets)) (.ref () 3 0 (List.length pars)) x42.1]⟩, ⟨(), 2, [el1Rd false x42.2]⟩, ⟨(), 1, List.map iL rets⟩, ⟨(), 1, List.map (lL false 1 iL) pars⟩]) [4, 0, 1, 2] false rfl (by decide) (h_c rfl (h_c rfl (h_c (hrow rfl) (h_c (hrow rfl) h_n)))) (by simp only [hl2G, List.all_cons, List.all_nil, knows_map, Bool.and_true, Bool.true_and] <;> rfl) (g_1 (l := .ptr () 0 0 0) rfl rfl rfl g_n) rfl rfl ent124 (spec_l2G_ends_sim x42.1 x42.2 rets pars h45) (.inl rfl) rfl rfl (by simp only [hl2G, oaG, List.drop_succ_cons, List.drop_zero, List.drop_nil, List.take_succ_cons, List.take_zero, List.take_nil, List.length_cons, List.length_nil, List.map_cons, List.map_nil, List.zipIdx_nil, List.zip_cons_cons, List.zip_nil_right, updO, pushO, ren_map] <;> rfl) rfl ?_)
      refine z_ ?_
      refine Wp.seq ?_
      refine c_regS ?_
      refine o_run (Y := sysA _) 3 ?_
      refine n_ (x_mv rfl rfl ?_)
      refine n_ (x_ncp rfl rfl rfl ?_)
      refine n_ (x_fap rfl F135_1 rfl rfl ?_)
      refine z_ ?_
      refine WpO.ghb (f_op (rows' := [[.ptr () 0 0 0, .ref () 5 0 (List.length x44.1.f.params), .int .i64 x44.1.f.ret, .os () 6 (List.map (eBlock true) x44.1.f.blocks), .os () 2 (List.map (ePhi true) x44.1.b.phis), .os () 7 (List.map (eInst false) x44.1.b.insts), .int .i64 x44.1.b.term.kind, .int .i64 x44.1.b.term.a, .int .i64 x44.1.b.term.x, .int .i64 x44.1.b.term.y, .int .i64 x44.1.next, .bs () 1 (List.map iL x44.1.ids), .bs () 1 (List.map iL x44.1.ws), .ref () 1 0 (List.length rets), .ref () 2 0 (List.length pars)]]) 4 0 1 rfl rfl rfl (by simp) rfl) ?_
      refine WpO.ghb (f_op (rows' := [[.ptr () 0 0 0, .ref () 5 0 (List.length x44.1.f.params), .int .i64 x44.1.f.ret, .ref () 6 0 (List.length x44.1.f.blocks), .os () 2 (List.map (ePhi true) x44.1.b.phis), .os () 7 (List.map (eInst false) x44.1.b.insts), .int .i64 x44.1.b.term.kind, .int .i64 x44.1.b.term.a, .int .i64 x44.1.b.term.x, .int .i64 x44.1.b.term.y, .int .i64 x44.1.next, .bs () 1 (List.map iL x44.1.ids), .bs () 1 (List.map iL x44.1.ws), .ref () 1 0 (List.length rets), .ref () 2 0 (List.length pars)]]) 4 0 3 rfl rfl rfl (by simp) rfl) ?_
      refine o_run (Y := sysA _) 2 ?_
      refine n_ (x_ldp rfl T27 rfl rfl rfl (u := .agg [.ref () 5 0 (List.length x44.1.f.params), .int .i64 x44.1.f.ret, .ref () 6 0 (List.length x44.1.f.blocks)]) rfl rfl ?_)
      refine n_ (x_st T27 (rows := [[.ref () 5 0 (List.length x44.1.f.params), .int .i64 x44.1.f.ret, .ref () 6 0 (List.length x44.1.f.blocks)]]) rfl rfl rfl rfl rfl rfl rfl rfl ?_)
      refine z_ ?_
      refine o_end ?_
      refine c_ret ?_
      rw [← Option.some.inj hm]
      exact retG (us' := [.agg (eFunc false (({ params := x44.1.f.params, ret := x44.1.f.ret, blocks := x44.1.f.blocks } : GFunc)))]) (obs' := [⟨(), 2, [el1Rd false x44.2]⟩, ⟨(), 1, List.map iL rets⟩, ⟨(), 1, List.map (lL false 1 iL) pars⟩]) rfl (r_cell rfl T27 rfl rfl rfl (pk_all rfl rfl) rfl r_nil) ((f_deepR (e := eBlock true) (e' := eBlock false) (xs := x44.1.f.blocks) 6 rfl).trans ((f_frR 0 0 rfl rfl rfl (by first | rfl | simp) rfl rfl).trans ((f_frR 0 2 rfl rfl rfl (by first | rfl | simp) rfl rfl).trans (f_end [0, 1, 2] rfl (h_c rfl (h_c (hrow rfl) (h_c (hrow rfl) h_n))) (by decide) rfl (by simp only [hl2G, List.all_cons, List.all_nil, knows_map, Bool.and_true, Bool.true_and] <;> rfl) hB0 rfl rfl)))) rfl rfl rfl rfl (by simp only [hl2G, List.all_cons, List.all_nil, knows_map, Bool.and_true, Bool.true_and] <;> rfl)

/-- spec.CountOf -/
noncomputable def spec_CountOf_m (f : GFunc) : Option Int :=
  (Option.bind (loopO (fun (st2 : Int × Int) =>
        ((if decide (st2.2 < ((List.length f.blocks : Int))) = true then
            (if 0 ≤ st2.2 ∧ st2.2 < (List.length f.blocks : Int) then
              (if 0 ≤ st2.2 ∧ st2.2 < (List.length f.blocks : Int) then
                (if inI (st2.2 + 1) then
                  (some (Sum.inl ((IntKind.i64.wrap (st2.1 + (IntKind.i64.wrap (((List.length ((at_ f.blocks st2.2).phis) : Int)) + ((List.length ((at_ f.blocks st2.2).insts) : Int))))), st2.2 + 1))))
                  else none)
                else none)
              else none)
            else
            (some (Sum.inr st2.1))) : Option ((Int × Int) ⊕ (Int)))) ((List.length f.params : Int), 0)) fun (j3 : Int) =>
    (some j3))
set_option maxHeartbeats 8000000 in
set_option maxRecDepth 100000 in
theorem spec_CountOf_sim (f : GFunc) {r : Int} (hm : spec_CountOf_m f = some r) : Sim Try.prog 29 [.agg (eFunc false f)] [] (.u (.one (.int .i64 r))) [] := by
  refine sim_st (N := 33) (k0 := 0) Try.func29 rfl rfl rfl rfl (rs := [.tmp 2]) rfl rfl rfl fun B hB0 => ?_
  unfold spec_CountOf_m at hm
  refine Wp.seq ?_
  refine c_reg (Y := sysA _) ?_
  refine n_ (x_bx rfl rfl rfl rfl ?_)
  refine n_ (x_as rfl rfl ?_)
  refine z_ ?_
  refine Wp.seq ?_
  refine c_reg (Y := sysA _) ?_
  refine n_ (x_fap rfl F27_0 rfl rfl ?_)
  refine n_ (x_ldp rfl T24 rfl rfl rfl rfl rfl ?_)
  refine n_ (x_lnb N24 rfl fun hL1 => ?_)
  refine n_ (x_as rfl rfl ?_)
  refine z_ ?_
  refine Wp.seq ?_
  refine Wp.seq ?_
  refine c_reg (Y := sysA _) ?_
  refine n_ (x_as rfl rfl ?_)
  refine z_ ?_
  refine Wp.block ?_
  obtain ⟨j3, hl12, hm⟩ := of_bind hm
  refine c_loop hl12 (fun (st2 : Int × Int) => St 33 [(1, .u (.one (.ptr () 0 0 0))), (3, .u (.one (.int .i64 st2.1))), (4, .u (.one (.int .i64 st2.2)))] [(0, some ⟨(), 3, [(eFunc false f)]⟩)] 1) (fun (j3 : Int) => (.exit 0, St 33 [(3, .u (.one (.int .i64 j3)))] [] 0)) (w_ [0] (.cons rfl rfl (.cons rfl rfl (.cons rfl rfl .nil))) (.lit rfl rfl .nil) (by decide) (hB_0 hB0)) ?_ (by intro y; simp) ?_
  · intro st2 x hm
    refine Wp.seq ?_
    refine Wp.seq ?_
    refine c_reg (Y := sysA _) ?_
    refine n_ (x_mv rfl rfl ?_)
    refine n_ (x_fap rfl F27_2 rfl rfl ?_)
    refine n_ (x_ldp rfl T25 rfl rfl rfl rfl rfl ?_)
    refine n_ (x_lnb N25 rfl fun hL4 => ?_)
    refine n_ (x_bin T3 rfl rfl rfl ?_)
    refine z_ ?_
    refine c_s rfl rfl (fun hb5 => ?_) (fun hb5 => ?_)
    · rw [if_pos (show _ = true from hb5)] at hm
      refine c_skip ?_
      refine Wp.seq ?_
      refine Wp.block ?_
      refine c_drw (Y := sysC _) mixed ?_
      refine t_ 0 0 rfl (by decide +kernel) (x_mv rfl rfl ?_)
      refine t_ 1 1 rfl (by decide +kernel) (x_fap rfl F27_2 rfl rfl ?_)
      refine t_ 2 1 rfl (by decide +kernel) (x_ldp rfl T25 rfl rfl rfl rfl rfl ?_)
      refine t_ 3 0 rfl (by decide +kernel) (x_mv rfl rfl ?_)
      obtain ⟨h6, hm⟩ := of_ite hm
      refine t_ 4 0 rfl (by decide +kernel) (x_ixb E25 rfl rfl h6 ?_)
      refine t_ 5 0 rfl (by decide +kernel) (x_fai F61_0 rfl ?_)
      refine t_ 6 0 rfl (by decide +kernel) (x_ldi T56 rfl rfl rfl ?_)
      refine t_ 7 0 rfl (by decide +kernel) (x_lnb N56 rfl fun hL7 => ?_)
      refine t_ 8 1 rfl (by decide +kernel) (x_fap rfl F27_2 rfl rfl ?_)
      refine t_ 9 1 rfl (by decide +kernel) (x_ldp rfl T25 rfl rfl rfl rfl rfl ?_)
      refine t_ 10 0 rfl (by decide +kernel) (x_mv rfl rfl ?_)
      obtain ⟨h8, hm⟩ := of_ite hm
      refine t_ 11 0 rfl (by decide +kernel) (x_ixb E25 rfl rfl h8 ?_)
      refine t_ 12 0 rfl (by decide +kernel) (x_fai F61_1 rfl ?_)
      refine t_ 13 0 rfl (by decide +kernel) (x_ldi T57 rfl rfl rfl ?_)
      refine t_ 14 0 rfl (by decide +kernel) (x_lnb N57 rfl fun hL9 => ?_)
      refine t_ 15 0 rfl (by decide +kernel) (x_bin T3 rfl rfl rfl ?_)
      refine t_ 16 0 rfl (by decide +kernel) (x_bin T2 rfl rfl rfl ?_)
      refine t_ 17 0 rfl (by decide +kernel) (x_as rfl rfl ?_)
      refine a_nil (by decide +kernel) ?_
      refine c_reg (Y := sysA _) ?_
      refine n_ (x_mv rfl rfl ?_)
      obtain ⟨h10, hm⟩ := of_ite hm
      refine n_ (x_addc T3 rfl rfl h10 ?_)
      refine n_ (x_as rfl rfl ?_)
      refine z_ ?_
      cases hm
      exact ⟨rfl, w_ [0] (.cons rfl rfl (.cons rfl rfl (.cons rfl rfl .nil))) (.lit rfl rfl .nil) (by decide) (hB_0 hB0)⟩
    · rw [if_neg (by rw [hb5]; decide)] at hm
      refine c_exit ?_
      cases hm
      exact ⟨rfl, w_ [] (.cons rfl rfl .nil) .nil (by decide) (hB_0 hB0)⟩
  · refine Wp.seq ?_
    refine c_reg (Y := sysA _) ?_
    refine n_ (x_mv rfl rfl ?_)
    refine n_ (x_as rfl rfl ?_)
    refine z_ ?_
    refine c_ret ?_
    rw [← Option.some.inj hm]
    exact ret0 (us' := [.one (.int .i64 j3)]) rfl (r_tmp rfl rfl rfl r_nil) f_done rfl rfl

/-- (*spec.l1Rd).module -/
noncomputable def spec_l1Rd_module_m (vr : Gl1Rd) : Option (GModule × Gl1Rd) :=
  (Option.bind (spec_l1Rd_below_m vr 2) fun x1 =>
    (if inI (1 + x1.1) then
      (Option.bind (loopO (fun (st5 : Gl1Rd × (List GFunc) × (List Int) × (List (List Int)) × Int) =>
            ((if decide (st5.2.2.2.2 > 0) = true then
                (Option.bind (spec_l1Rd_fn_m st5.1 st5.2.2.1 st5.2.2.2.1) fun x8 =>
                  (Option.bind ((Option.bind ((Option.bind (spec_CountOf_m x8.1) fun x12 =>
                        (if decide (x12 > 60) = true then
                        (some true)
                        else
                        (some (decide (((List.length x8.1.blocks : Int)) > 10)))))) fun (j11 : Bool) =>
                        (if j11 = true then
                        (some (({ params := ([] : List Int), ret := 8, blocks := [({ phis := ([] : List GPhi), insts := [({ op_ := 21, w := 8, a := 0, b := 0, c := 0, imm := 7, args := ([] : List Int) } : GInst)], term := (({ kind := 1, a := 0, x := 0, y := 0 } : GTerm)) } : GBlock)] } : GFunc)))
                        else
                        (some x8.1)))) fun (j10 : GFunc) =>
                    (if (List.length st5.2.1 + List.length ([j10])) * 56 ≤ 140737488355328 ∧ List.length st5.2.1 + List.length ([j10]) ≤ LIM then
                      (if (List.length st5.2.2.1 + List.length ([j10.ret])) * 8 ≤ 140737488355328 ∧ List.length st5.2.2.1 + List.length ([j10.ret]) ≤ LIM then
                        (if (List.length st5.2.2.2.1 + List.length ([j10.params])) * 24 ≤ 140737488355328 ∧ List.length st5.2.2.2.1 + List.length ([j10.params]) ≤ LIM then
                        (if inI (st5.2.2.2.2 - 1) then
                        (some (Sum.inl ((x8.2, st5.2.1 ++ ([j10]), st5.2.2.1 ++ ([j10.ret]), st5.2.2.2.1 ++ ([j10.params]), st5.2.2.2.2 - 1))))
                        else none)
                        else none)
                        else none)
                      else none)))
                else
                (some (Sum.inr (((st5.1, st5.2.1)))))) : Option ((Gl1Rd × (List GFunc) × (List Int) × (List (List Int)) × Int) ⊕ ((Gl1Rd × (List GFunc)))))) (x1.2, ([] : List GFunc), ([] : List Int), ([] : List (List Int)), 1 + x1.1)) fun (j6 : Gl1Rd × (List GFunc)) =>
        (some ((({ funcs := j6.2 } : GModule), j6.1))))
      else none))
set_option maxHeartbeats 8000000 in
set_option maxRecDepth 100000 in
theorem spec_l1Rd_module_sim (vr : Gl1Rd) {r : GModule × Gl1Rd} (hm : spec_l1Rd_module_m vr = some r) : Sim Try.prog 75 [.one (.ptr () 0 0 0)] [⟨(), 2, [el1Rd false vr]⟩] (.u (.agg [.os () 3 (List.map (eFunc false) r.1.funcs)])) [⟨(), 2, [el1Rd false r.2]⟩] := by
  refine sim_st (N := 54) (k0 := 1) Try.func75 rfl rfl rfl rfl (rs := [.cell 2 93]) rfl rfl rfl fun B hB0 => ?_
  unfold spec_l1Rd_module_m at hm
  refine Wp.seq ?_
  refine c_reg (Y := sysA _) ?_
  refine n_ (x_al T93 (r := [.nl]) rfl rfl ?_)
  refine z_ ?_
  refine Wp.seq ?_
  refine c_reg (Y := sysA _) ?_
  refine n_ (x_bu (cells := [.nl]) T93 rfl rfl rfl ?_)
  refine n_ (x_al T93 (r := [.nl]) rfl rfl ?_)
  refine n_ (x_st T93 (rows := [[.nl]]) rfl rfl rfl rfl rfl rfl rfl rfl ?_)
  refine z_ ?_
  refine Wp.seq ?_
  refine c_reg (Y := sysA _) ?_
  refine n_ (x_bsm (enc := iL) (([] : List Int)) A24 rfl rfl rfl rfl ?_)
  refine n_ (x_as rfl rfl ?_)
  refine z_ ?_
  refine Wp.seq ?_
  refine c_reg (Y := sysA _) ?_
  refine n_ (x_bsm (enc := lL false 1 iL) (([] : List (List Int))) A117 rfl rfl rfl rfl ?_)
  refine n_ (x_as rfl rfl ?_)
  refine z_ ?_
  refine Wp.seq ?_
  refine Wp.seq ?_
  refine c_reg (Y := sysA _) ?_
  refine n_ (x_mv rfl rfl ?_)
  obtain ⟨x1, h2, hm⟩ := of_bind hm
  refine n_ (x_cg (v := .u (.one (.int .i64 x1.1))) (nobs := []) (oa' := _) (nx' := 5) (cs := []) (obs := [⟨(), 2, [el1Rd false vr]⟩]) [0] false rfl (by decide) (h_c rfl h_n) rfl (g_1 (l := .ptr () 0 0 0) rfl rfl rfl (g_1 (l := .int .i64 2) rfl rfl rfl g_n)) rfl rfl ent76 (spec_l1Rd_below_sim vr 2 h2) (.inl rfl) rfl rfl rfl rfl ?_)
  obtain ⟨h3, hm⟩ := of_ite hm
  refine n_ (x_addc T3 rfl rfl h3 ?_)
  refine n_ (x_as rfl rfl ?_)
  refine z_ ?_
  refine Wp.block ?_
  refine Wp.ghb _ (f_nlc (rows' := [[.ref () 5 0 (List.length ([] : List GFunc))]]) 2 0 0 3 rfl rfl rfl rfl) ?_
  obtain ⟨j6, hl24, hm⟩ := of_bind hm
  refine c_loop hl24 (fun (st5 : Gl1Rd × (List GFunc) × (List Int) × (List (List Int)) × Int) => St 54 [(0, .u (.one (.ptr () 0 0 0))), (2, .u (.one (.ptr () 1 0 0))), (3, .u (.one (.ptr () 2 0 0))), (4, .u (.one (.ref () 4 0 (List.length st5.2.2.1)))), (5, .u (.one (.ref () 5 0 (List.length st5.2.2.2.1)))), (6, .u (.one (.int .i64 st5.2.2.2.2)))] [(0, some ⟨(), 2, [(el1Rd false st5.1)]⟩), (1, some ⟨(), 1, [[.nl]]⟩), (2, some ⟨(), 1, [[.ref () 3 0 (List.length st5.2.1)]]⟩), (3, some ⟨(), 3, List.map (eFunc false) st5.2.1⟩), (4, some ⟨(), 1, List.map iL st5.2.2.1⟩), (5, some ⟨(), 1, List.map (lL false 1 iL) st5.2.2.2.1⟩)] 6) (fun (j6 : Gl1Rd × (List GFunc)) => (.exit 0, St 54 [(2, .u (.one (.ptr () 1 0 0))), (3, .u (.one (.ptr () 2 0 0)))] [(0, some ⟨(), 2, [(el1Rd false j6.1)]⟩), (1, some ⟨(), 1, [[.nl]]⟩), (2, some ⟨(), 1, [[.ref () 3 0 (List.length j6.2)]]⟩), (3, some ⟨(), 3, List.map (eFunc false) j6.2⟩)] 4)) (w_ [0, 1, 2, 5, 3, 4] (.cons rfl rfl (.cons rfl rfl (.cons rfl rfl (.cons (by first | rfl | (simp only [List.length_set]; rfl)) rfl (.cons (by first | rfl | (simp only [List.length_set]; rfl)) rfl (.cons rfl rfl .nil)))))) (.lit rfl rfl (.lit rfl rfl (.lit rfl rfl (.map rfl (.map rfl (.map rfl .nil)))))) (by decide) (hB_n 1 hB0 rfl)) ?_ (by intro y; simp) ?_
  · intro st5 x hm
    refine Wp.seq ?_
    refine Wp.seq ?_
    refine c_reg (Y := sysA _) ?_
    refine n_ (x_mv rfl rfl ?_)
    refine n_ (x_bin T3 rfl rfl rfl ?_)
    refine z_ ?_
    refine c_s rfl rfl (fun hb7 => ?_) (fun hb7 => ?_)
    · rw [if_pos (show _ = true from hb7)] at hm
      refine c_skip ?_
      refine Wp.seq ?_
      refine Wp.block ?_
      refine Wp.seq ?_
      refine c_reg (Y := sysA _) ?_
      refine n_ (x_mv rfl rfl ?_)
      refine n_ (x_mv rfl rfl ?_)
      refine n_ (x_mv rfl rfl ?_)
      obtain ⟨x8, h9, hm⟩ := of_bind hm
      refine n_ (x_cg (v := .u (.agg (eFunc false x8.1))) (nobs := []) (oa' := _) (nx' := 6) (cs := []) (obs := [⟨(), 2, [el1Rd false st5.1]⟩, ⟨(), 1, List.map iL st5.2.2.1⟩, ⟨(), 1, List.map (lL false 1 iL) st5.2.2.2.1⟩]) [0, 4, 5] false rfl (by decide) (h_c rfl (h_c (hrow rfl) (h_c (hrow rfl) h_n))) (by simp only [hl2G, List.all_cons, List.all_nil, knows_map, Bool.and_true, Bool.true_and] <;> rfl) (g_1 (l := .ptr () 0 0 0) rfl rfl rfl (g_1 (l := .ref () 1 0 (List.length st5.2.2.1)) rfl rfl rfl (g_1 (l := .ref () 2 0 (List.length st5.2.2.2.1)) rfl rfl rfl g_n))) rfl rfl ent107 (spec_l1Rd_fn_sim st5.1 st5.2.2.1 st5.2.2.2.1 h9) (.inl rfl) rfl rfl (by simp only [hl2G, oaG, List.drop_succ_cons, List.drop_zero, List.drop_nil, List.take_succ_cons, List.take_zero, List.take_nil, List.length_cons, List.length_nil, List.map_cons, List.map_nil, List.zipIdx_nil, List.zip_cons_cons, List.zip_nil_right, updO, pushO, ren_map] <;> rfl) rfl ?_)
      refine n_ (x_al T27 (r := [.nl, .int .i64 0, .nl]) rfl rfl ?_)
      refine n_ (x_st T27 (rows := [(eFunc false x8.1)]) rfl rfl rfl rfl rfl rfl rfl rfl ?_)
      refine z_ ?_
      refine Wp.seq ?_
      obtain ⟨j10, hj18, hm⟩ := of_bind hm
      refine c_cut (St 54 [(0, .u (.one (.ptr () 0 0 0))), (2, .u (.one (.ptr () 1 0 0))), (3, .u (.one (.ptr () 2 0 0))), (4, .u (.one (.ref () 4 0 (List.length st5.2.2.1)))), (5, .u (.one (.ref () 5 0 (List.length st5.2.2.2.1)))), (6, .u (.one (.int .i64 st5.2.2.2.2))), (7, .u (.one (.ptr () 6 0 0)))] [(0, some ⟨(), 2, [(el1Rd false x8.2)]⟩), (1, some ⟨(), 1, [[.nl]]⟩), (2, some ⟨(), 1, [[.ref () 3 0 (List.length st5.2.1)]]⟩), (3, some ⟨(), 3, List.map (eFunc false) st5.2.1⟩), (4, some ⟨(), 1, List.map iL st5.2.2.1⟩), (5, some ⟨(), 1, List.map (lL false 1 iL) st5.2.2.2.1⟩), (6, some ⟨(), 3, [(eFunc false j10)]⟩)] 7) ?_ ?_
      · replace hm := hj18
        refine Wp.seq ?_
        obtain ⟨j11, hj16, hm⟩ := of_bind hm
        refine c_cut (St 54 [(0, .u (.one (.ptr () 0 0 0))), (2, .u (.one (.ptr () 1 0 0))), (3, .u (.one (.ptr () 2 0 0))), (4, .u (.one (.ref () 4 0 (List.length st5.2.2.1)))), (5, .u (.one (.ref () 5 0 (List.length st5.2.2.2.1)))), (6, .u (.one (.int .i64 st5.2.2.2.2))), (7, .u (.one (.ptr () 6 0 0))), (30, .u (.one (.bool j11)))] [(0, some ⟨(), 2, [(el1Rd false x8.2)]⟩), (1, some ⟨(), 1, [[.nl]]⟩), (2, some ⟨(), 1, [[.ref () 3 0 (List.length st5.2.1)]]⟩), (3, some ⟨(), 3, List.map (eFunc false) st5.2.1⟩), (4, some ⟨(), 1, List.map iL st5.2.2.1⟩), (5, some ⟨(), 1, List.map (lL false 1 iL) st5.2.2.2.1⟩), (6, some ⟨(), 3, [(eFunc false x8.1)]⟩)] 7) ?_ ?_
        · replace hm := hj16
          refine c_reg (Y := sysA _) ?_
          refine n_ (x_ldp rfl T27 rfl rfl rfl (pk_all rfl rfl) rfl ?_)
          obtain ⟨x12, h13, hm⟩ := of_bind hm
          refine n_ (aopK_A (x_call (v := .u (.one (.int .i64 x12))) (nobs := []) (oa' := _) (nx' := 7) rfl (a_a rfl (c_all rfl) a_n) c_n ent29 (spec_CountOf_sim x8.1 h13) rfl rfl rfl rfl ?_))
          refine n_ (x_bin T2 rfl rfl rfl ?_)
          refine n_ (x_mv rfl rfl ?_)
          refine g_s rfl rfl rfl (fun hb14 => ?_) (fun hb14 => ?_)
          · rw [if_neg (by rw [hb14]; decide)] at hm
            refine g_t rfl rfl rfl ?_
            refine n_ (x_fap rfl F27_2 rfl rfl ?_)
            refine g_t rfl rfl rfl ?_
            refine n_ (x_ldp rfl T25 rfl rfl rfl rfl rfl ?_)
            refine g_t rfl rfl rfl ?_
            refine n_ (x_lnb N25 rfl fun hL15 => ?_)
            refine g_t rfl rfl rfl ?_
            refine n_ (x_bin T3 rfl rfl rfl ?_)
            refine n_ (x_pk rfl rfl rfl ?_)
            refine z_ ?_
            cases hm
            exact w_ [0, 1, 2, 3, 4, 5, 6] (.cons rfl rfl (.cons rfl rfl (.cons rfl rfl (.cons (by first | rfl | (simp only [List.length_set]; rfl)) rfl (.cons (by first | rfl | (simp only [List.length_set]; rfl)) rfl (.cons rfl rfl (.cons rfl rfl (.cons rfl rfl .nil)))))))) (.lit rfl rfl (.lit rfl rfl (.lit rfl rfl (.map rfl (.map rfl (.map rfl (.lit rfl rfl .nil))))))) (by decide) (hB_n 1 hB0 rfl)
          · rw [if_pos (show _ = true from hb14)] at hm
            refine g_f rfl rfl rfl ?_
            refine g_f rfl rfl rfl ?_
            refine g_f rfl rfl rfl ?_
            refine g_f rfl rfl rfl ?_
            refine n_ (x_pk rfl rfl rfl ?_)
            refine z_ ?_
            cases hm
            exact w_ [0, 1, 2, 3, 4, 5, 6] (.cons rfl rfl (.cons rfl rfl (.cons rfl rfl (.cons (by first | rfl | (simp only [List.length_set]; rfl)) rfl (.cons (by first | rfl | (simp only [List.length_set]; rfl)) rfl (.cons rfl rfl (.cons rfl rfl (.cons rfl rfl .nil)))))))) (.lit rfl rfl (.lit rfl rfl (.lit rfl rfl (.map rfl (.map rfl (.map rfl (.lit rfl rfl .nil))))))) (by decide) (hB_n 1 hB0 rfl)
        · refine c_s rfl rfl (fun hb17 => ?_) (fun hb17 => ?_)
          · rw [if_pos (show _ = true from hb17)] at hm
            refine c_regS ?_
            refine o_run (Y := sysA _) 1 ?_
            refine n_ (x_bu (cells := [.int .i64 21, .int .i64 8, .int .i64 0, .int .i64 0, .int .i64 0, .int .i64 7, .nl]) T53 rfl rfl rfl ?_)
            refine z_ ?_
            refine WpO.ghb (f_nb (u' := .agg [.int .i64 21, .int .i64 8, .int .i64 0, .int .i64 0, .int .i64 0, .int .i64 7, .bs () 1 (List.map iL (([] : List Int)))]) 31 6 1 rfl rfl rfl rfl) ?_
            refine o_run (Y := sysA _) 1 ?_
            refine n_ (x_bsm (enc := eInst false) ([({ op_ := 21, w := 8, a := 0, b := 0, c := 0, imm := 7, args := ([] : List Int) } : GInst)]) A57 rfl rfl rfl rfl ?_)
            refine z_ ?_
            refine WpO.ghb (f_frj (u' := .one (.bs () 7 (List.map (eInst false) ([({ op_ := 21, w := 8, a := 0, b := 0, c := 0, imm := 7, args := ([] : List Int) } : GInst)])))) 32 0 rfl rfl rfl (by first | rfl | simp) rfl rfl rfl) ?_
            refine o_run (Y := sysA _) 2 ?_
            refine n_ (x_bu (cells := (eTerm (({ kind := 1, a := 0, x := 0, y := 0 } : GTerm)))) T59 rfl rfl rfl ?_)
            refine n_ (x_bu (cells := [.nl, .bs () 7 (List.map (eInst false) ([({ op_ := 21, w := 8, a := 0, b := 0, c := 0, imm := 7, args := ([] : List Int) } : GInst)])), .int .i64 ((({ kind := 1, a := 0, x := 0, y := 0 } : GTerm)).kind), .int .i64 ((({ kind := 1, a := 0, x := 0, y := 0 } : GTerm)).a), .int .i64 ((({ kind := 1, a := 0, x := 0, y := 0 } : GTerm)).x), .int .i64 ((({ kind := 1, a := 0, x := 0, y := 0 } : GTerm)).y)]) T61 rfl rfl rfl ?_)
            refine z_ ?_
            refine WpO.ghb (f_nb (u' := .agg [.bs () 2 (List.map (ePhi false) (([] : List GPhi))), .bs () 7 (List.map (eInst false) ([({ op_ := 21, w := 8, a := 0, b := 0, c := 0, imm := 7, args := ([] : List Int) } : GInst)])), .int .i64 ((({ kind := 1, a := 0, x := 0, y := 0 } : GTerm)).kind), .int .i64 ((({ kind := 1, a := 0, x := 0, y := 0 } : GTerm)).a), .int .i64 ((({ kind := 1, a := 0, x := 0, y := 0 } : GTerm)).x), .int .i64 ((({ kind := 1, a := 0, x := 0, y := 0 } : GTerm)).y)]) 34 0 2 rfl rfl rfl rfl) ?_
            refine o_run (Y := sysA _) 1 ?_
            refine n_ (x_bsm (enc := eBlock false) ([({ phis := ([] : List GPhi), insts := [({ op_ := 21, w := 8, a := 0, b := 0, c := 0, imm := 7, args := ([] : List Int) } : GInst)], term := (({ kind := 1, a := 0, x := 0, y := 0 } : GTerm)) } : GBlock)]) A25 rfl rfl rfl rfl ?_)
            refine z_ ?_
            refine WpO.ghb (f_frj (u' := .one (.bs () 6 (List.map (eBlock false) ([({ phis := ([] : List GPhi), insts := [({ op_ := 21, w := 8, a := 0, b := 0, c := 0, imm := 7, args := ([] : List Int) } : GInst)], term := (({ kind := 1, a := 0, x := 0, y := 0 } : GTerm)) } : GBlock)])))) 35 0 rfl rfl rfl (by first | rfl | simp) rfl rfl rfl) ?_
            refine o_run (Y := sysA _) 1 ?_
            refine n_ (x_bu (cells := [.nl, .int .i64 8, .bs () 6 (List.map (eBlock false) ([({ phis := ([] : List GPhi), insts := [({ op_ := 21, w := 8, a := 0, b := 0, c := 0, imm := 7, args := ([] : List Int) } : GInst)], term := (({ kind := 1, a := 0, x := 0, y := 0 } : GTerm)) } : GBlock)]))]) T27 rfl rfl rfl ?_)
            refine z_ ?_
            refine WpO.ghb (f_nb (u' := .agg [.bs () 1 (List.map iL (([] : List Int))), .int .i64 8, .bs () 6 (List.map (eBlock false) ([({ phis := ([] : List GPhi), insts := [({ op_ := 21, w := 8, a := 0, b := 0, c := 0, imm := 7, args := ([] : List Int) } : GInst)], term := (({ kind := 1, a := 0, x := 0, y := 0 } : GTerm)) } : GBlock)]))]) 36 0 1 rfl rfl rfl rfl) ?_
            refine o_run (Y := sysA _) 1 ?_
            refine n_ (x_st T27 (rows := [(eFunc false (({ params := ([] : List Int), ret := 8, blocks := [({ phis := ([] : List GPhi), insts := [({ op_ := 21, w := 8, a := 0, b := 0, c := 0, imm := 7, args := ([] : List Int) } : GInst)], term := (({ kind := 1, a := 0, x := 0, y := 0 } : GTerm)) } : GBlock)] } : GFunc)))]) rfl rfl rfl rfl rfl rfl rfl rfl ?_)
            refine z_ ?_
            refine o_end ?_
            cases hm
            exact w_ [0, 1, 2, 3, 4, 5, 6] (.cons rfl rfl (.cons rfl rfl (.cons rfl rfl (.cons (by first | rfl | (simp only [List.length_set]; rfl)) rfl (.cons (by first | rfl | (simp only [List.length_set]; rfl)) rfl (.cons rfl rfl (.cons rfl rfl .nil))))))) (.lit rfl rfl (.lit rfl rfl (.lit rfl rfl (.map rfl (.map rfl (.map rfl (.lit rfl rfl .nil))))))) (by decide) (hB_n 1 hB0 rfl)
          · rw [if_neg (by rw [hb17]; decide)] at hm
            refine c_skip ?_
            cases hm
            exact w_ [0, 1, 2, 3, 4, 5, 6] (.cons rfl rfl (.cons rfl rfl (.cons rfl rfl (.cons (by first | rfl | (simp only [List.length_set]; rfl)) rfl (.cons (by first | rfl | (simp only [List.length_set]; rfl)) rfl (.cons rfl rfl (.cons rfl rfl .nil))))))) (.lit rfl rfl (.lit rfl rfl (.lit rfl rfl (.map rfl (.map rfl (.map rfl (.lit rfl rfl .nil))))))) (by decide) (hB_n 1 hB0 rfl)
      · refine Wp.seq ?_
        refine c_reg (Y := sysA _) ?_
        refine n_ (x_fap rfl F93_0 rfl rfl ?_)
        refine n_ (x_ldp rfl T91 rfl rfl rfl rfl rfl ?_)
        refine n_ (x_ldp rfl T27 rfl rfl rfl (pk_all rfl rfl) rfl ?_)
        refine n_ (x_bsm (enc := eFunc false) ([j10]) A91 rfl rfl rfl rfl ?_)
        obtain ⟨h19, hm⟩ := of_ite hm
        refine n_ (x_apr (enc := eFunc false) (xs := st5.2.1) (ys := [j10]) A91 N91 (encB_N _) rfl rfl rfl (argR_r rfl) h19 ?_)
        refine n_ (x_fap rfl F93_0 rfl rfl ?_)
        refine n_ (x_st T91 (rows := [[.ref () 8 0 (List.length (st5.2.1 ++ ([j10])))]]) rfl rfl rfl rfl rfl rfl rfl rfl ?_)
        refine z_ ?_
        refine Wp.seq ?_
        refine c_reg (Y := sysA _) ?_
        refine n_ (x_mv rfl rfl ?_)
        refine n_ (x_fap rfl F27_1 rfl rfl ?_)
        refine n_ (x_ldp rfl T2 rfl rfl rfl rfl rfl ?_)
        refine n_ (x_bsm (enc := iL) ([j10.ret]) A24 rfl rfl rfl rfl ?_)
        obtain ⟨h20, hm⟩ := of_ite hm
        refine n_ (x_apr (enc := iL) (xs := st5.2.2.1) (ys := [j10.ret]) A24 N24 (encB_N _) rfl rfl rfl (argR_r rfl) h20 ?_)
        refine n_ (x_as rfl rfl ?_)
        refine z_ ?_
        refine c_reg (Y := sysA _) ?_
        refine n_ (x_mv rfl rfl ?_)
        refine n_ (x_fap rfl F27_0 rfl rfl ?_)
        refine n_ (x_ldp rfl T24 rfl rfl rfl rfl rfl ?_)
        refine n_ (x_bsm (enc := lL false 1 iL) ([j10.params]) A117 rfl rfl rfl rfl ?_)
        obtain ⟨h21, hm⟩ := of_ite hm
        refine n_ (x_apr (enc := lL false 1 iL) (xs := st5.2.2.2.1) (ys := [j10.params]) A117 N117 (encB_N _) rfl rfl rfl (argR_r rfl) h21 ?_)
        refine n_ (x_as rfl rfl ?_)
        refine z_ ?_
        refine c_reg (Y := sysA _) ?_
        refine n_ (x_mv rfl rfl ?_)
        obtain ⟨h22, hm⟩ := of_ite hm
        refine n_ (x_subc T3 rfl rfl h22 ?_)
        refine n_ (x_as rfl rfl ?_)
        refine z_ ?_
        cases hm
        exact ⟨rfl, w_ [0, 1, 2, 8, 10, 12] (.cons rfl rfl (.cons rfl rfl (.cons rfl rfl (.cons (by first | rfl | (simp only [List.length_set]; rfl)) rfl (.cons (by first | rfl | (simp only [List.length_set]; rfl)) rfl (.cons rfl rfl .nil)))))) (.lit rfl rfl (.lit rfl rfl (.lit rfl rfl (.map rfl (.map rfl (.map rfl .nil)))))) (by decide) (hB_n 1 hB0 rfl)⟩
    · rw [if_neg (by rw [hb7]; decide)] at hm
      refine c_exit ?_
      cases hm
      exact ⟨rfl, w_ [0, 1, 2, 3] (.cons rfl rfl (.cons rfl rfl .nil)) (.lit rfl rfl (.lit rfl rfl (.lit rfl rfl (.map rfl .nil)))) (by decide) (hB_n 1 hB0 rfl)⟩
  · refine Wp.seq ?_
    refine c_reg (Y := sysA _) ?_
    refine n_ (x_ldp rfl T93 rfl rfl rfl (pk_all rfl rfl) rfl ?_)
    refine n_ (x_st T93 (rows := [[.ref () 3 0 (List.length j6.2)]]) rfl rfl rfl rfl rfl rfl rfl rfl ?_)
    refine z_ ?_
    refine c_ret ?_
    rw [← Option.some.inj hm]
    exact retG (us' := [.agg [.os () 3 (List.map (eFunc false) ((({ funcs := j6.2 } : GModule)).funcs))]]) (obs' := [⟨(), 2, [el1Rd false j6.1]⟩]) rfl (r_cell rfl T93 rfl rfl rfl (pk_all rfl rfl) rfl r_nil) ((f_fold 0 0 rfl rfl rfl rfl).trans (f_end [0] rfl (h_c rfl h_n) (by decide) rfl rfl hB0 rfl rfl)) rfl rfl rfl rfl rfl

/-- (*spec.l1Rd).near -/
noncomputable def spec_l1Rd_near_m (vr : Gl1Rd) (low : Int) (high : Int) : Option (Int × Gl1Rd) :=
  (Option.bind (spec_l1Rd_below_m vr 8) fun x1 =>
    (if (x1.1 == 0) = true then
      (some ((low, x1.2)))
      else
      (if (x1.1 == 1) = true then
        (some ((high, x1.2)))
        else
        (if decide (high < low) = true then
          (some ((low, x1.2)))
          else
          (Option.bind (spec_l1Rd_word_m x1.2) fun x6 =>
            (if inI ((IntKind.i64.wrap (high - low)) + 1) then
              (if (IntKind.u64.wrap ((IntKind.i64.wrap (high - low)) + 1)) ≠ 0 then
                (some ((IntKind.i64.wrap (low + (IntKind.i64.wrap (Int.tmod (x6.1 / 2 ^ min (Int.toNat 1) (IntKind.bits .u64)) (IntKind.u64.wrap ((IntKind.i64.wrap (high - low)) + 1))))), x6.2)))
                else none)
              else none))))))
set_option maxHeartbeats 8000000 in
set_option maxRecDepth 100000 in
theorem spec_l1Rd_near_sim (vr : Gl1Rd) (low : Int) (high : Int) {r : Int × Gl1Rd} (hm : spec_l1Rd_near_m vr low high = some r) : Sim Try.prog 109 [.one (.ptr () 0 0 0), .one (.int .i64 low), .one (.int .i64 high)] [⟨(), 2, [el1Rd false vr]⟩] (.u (.one (.int .i64 r.1))) [⟨(), 2, [el1Rd false r.2]⟩] := by
  refine sim_st (N := 31) (k0 := 1) Try.func109 rfl rfl rfl rfl (rs := [.tmp 6]) rfl rfl rfl fun B hB0 => ?_
  unfold spec_l1Rd_near_m at hm
  refine Wp.seq ?_
  refine c_reg (Y := sysA _) ?_
  refine n_ (x_as rfl rfl ?_)
  refine z_ ?_
  refine Wp.seq ?_
  refine Wp.seq ?_
  refine c_reg (Y := sysA _) ?_
  refine n_ (x_mv rfl rfl ?_)
  obtain ⟨x1, h2, hm⟩ := of_bind hm
  refine n_ (x_cg (v := .u (.one (.int .i64 x1.1))) (nobs := []) (oa' := _) (nx' := 1) (cs := []) (obs := [⟨(), 2, [el1Rd false vr]⟩]) [0] false rfl (by decide) (h_c rfl h_n) rfl (g_1 (l := .ptr () 0 0 0) rfl rfl rfl (g_1 (l := .int .i64 8) rfl rfl rfl g_n)) rfl rfl ent76 (spec_l1Rd_below_sim vr 8 h2) (.inl rfl) rfl rfl rfl rfl ?_)
  refine z_ ?_
  refine Wp.block ?_
  refine Wp.seq ?_
  refine c_reg (Y := sysA _) ?_
  refine n_ (x_bin T3 rfl rfl rfl ?_)
  refine n_ (x_as rfl rfl ?_)
  refine z_ ?_
  refine c_s rfl rfl (fun hb3 => ?_) (fun hb3 => ?_)
  · rw [if_pos (show _ = true from hb3)] at hm
    refine Wp.seq ?_
    refine c_reg (Y := sysA _) ?_
    refine n_ (x_mv rfl rfl ?_)
    refine n_ (x_as rfl rfl ?_)
    refine z_ ?_
    refine c_ret ?_
    rw [← Option.some.inj hm]
    exact retG (us' := [.one (.int .i64 low)]) (obs' := [⟨(), 2, [el1Rd false x1.2]⟩]) rfl (r_tmp rfl rfl rfl r_nil) (f_end [0] rfl (h_c rfl h_n) (by decide) rfl rfl hB0 rfl rfl) rfl rfl rfl rfl rfl
  · rw [if_neg (by rw [hb3]; decide)] at hm
    refine Wp.seq ?_
    refine c_reg (Y := sysA _) ?_
    refine n_ (x_bin T3 rfl rfl rfl ?_)
    refine n_ (x_as rfl rfl ?_)
    refine z_ ?_
    refine c_s rfl rfl (fun hb4 => ?_) (fun hb4 => ?_)
    · rw [if_pos (show _ = true from hb4)] at hm
      refine Wp.seq ?_
      refine c_reg (Y := sysA _) ?_
      refine n_ (x_mv rfl rfl ?_)
      refine n_ (x_as rfl rfl ?_)
      refine z_ ?_
      refine c_ret ?_
      rw [← Option.some.inj hm]
      exact retG (us' := [.one (.int .i64 high)]) (obs' := [⟨(), 2, [el1Rd false x1.2]⟩]) rfl (r_tmp rfl rfl rfl r_nil) (f_end [0] rfl (h_c rfl h_n) (by decide) rfl rfl hB0 rfl rfl) rfl rfl rfl rfl rfl
    · rw [if_neg (by rw [hb4]; decide)] at hm
      refine c_skip ?_
      refine Wp.seq ?_
      refine Wp.seq ?_
      refine c_reg (Y := sysA _) ?_
      refine n_ (x_mv rfl rfl ?_)
      refine n_ (x_mv rfl rfl ?_)
      refine n_ (x_bin T2 rfl rfl rfl ?_)
      refine z_ ?_
      refine c_s rfl rfl (fun hb5 => ?_) (fun hb5 => ?_)
      · rw [if_pos (show _ = true from hb5)] at hm
        refine Wp.seq ?_
        refine c_reg (Y := sysA _) ?_
        refine n_ (x_mv rfl rfl ?_)
        refine n_ (x_as rfl rfl ?_)
        refine z_ ?_
        refine c_ret ?_
        rw [← Option.some.inj hm]
        exact retG (us' := [.one (.int .i64 low)]) (obs' := [⟨(), 2, [el1Rd false x1.2]⟩]) rfl (r_tmp rfl rfl rfl r_nil) (f_end [0] rfl (h_c rfl h_n) (by decide) rfl rfl hB0 rfl rfl) rfl rfl rfl rfl rfl
      · rw [if_neg (by rw [hb5]; decide)] at hm
        refine c_skip ?_
        refine Wp.seq ?_
        refine c_reg (Y := sysA _) ?_
        refine n_ (x_mv rfl rfl ?_)
        refine n_ (x_mv rfl rfl ?_)
        obtain ⟨x6, h7, hm⟩ := of_bind hm
        refine n_ (x_cg (v := .u (.one (.int .u64 x6.1))) (nobs := []) (oa' := _) (nx' := 1) (cs := []) (obs := [⟨(), 2, [el1Rd false x1.2]⟩]) [0] false rfl (by decide) (h_c rfl h_n) rfl (g_1 (l := .ptr () 0 0 0) rfl rfl rfl g_n) rfl rfl ent125 (spec_l1Rd_word_sim x1.2 h7) (.inl rfl) rfl rfl rfl rfl ?_)
        refine n_ (x_shr T138 rfl rfl (by decide) ?_)
        refine n_ (x_mv rfl rfl ?_)
        refine n_ (x_mv rfl rfl ?_)
        refine n_ (x_bin T2 rfl rfl rfl ?_)
        obtain ⟨h8, hm⟩ := of_ite hm
        refine n_ (x_addc T2 rfl rfl h8 ?_)
        refine n_ (x_cvi T2 T138 rfl rfl ?_)
        obtain ⟨h9, hm⟩ := of_ite hm
        refine n_ (x_rem T138 rfl rfl h9 ?_)
        refine n_ (x_cvi T138 T2 rfl rfl ?_)
        refine n_ (x_bin T2 rfl rfl rfl ?_)
        refine n_ (x_as rfl rfl ?_)
        refine z_ ?_
        refine c_ret ?_
        rw [← Option.some.inj hm]
        exact retG (us' := [.one (.int .i64 (IntKind.i64.wrap (low + (IntKind.i64.wrap (Int.tmod (x6.1 / 2 ^ min (Int.toNat 1) (IntKind.bits .u64)) (IntKind.u64.wrap ((IntKind.i64.wrap (high - low)) + 1)))))))]) (obs' := [⟨(), 2, [el1Rd false x6.2]⟩]) rfl (r_tmp rfl rfl rfl r_nil) (f_end [0] rfl (h_c rfl h_n) (by decide) rfl rfl hB0 rfl rfl) rfl rfl rfl rfl rfl

/-- (*spec.l1Rd).off -/
noncomputable def spec_l1Rd_off_m (vr : Gl1Rd) (low : Int) (high : Int) : Option (Int × Gl1Rd) :=
  (Option.bind (spec_l1Rd_once_m vr 24) fun x1 =>
    (if x1.1 = true then
      (if inI (low - 1) then
        (if inI (high + 1) then
          (Option.bind (spec_l1Rd_below_m x1.2 4) fun x6 =>
            (if 0 ≤ x6.1 ∧ x6.1 < (List.length ([low - 1, high + 1, (-9223372036854775808), 9223372036854775807]) : Int) then
              (some ((at_ ([low - 1, high + 1, (-9223372036854775808), 9223372036854775807]) x6.1, x6.2)))
              else none))
          else none)
        else none)
      else
      (Option.bind (spec_l1Rd_near_m x1.2 low high) fun x9 =>
        (some ((x9.1, x9.2))))))
set_option maxHeartbeats 8000000 in
set_option maxRecDepth 100000 in
theorem spec_l1Rd_off_sim (vr : Gl1Rd) (low : Int) (high : Int) {r : Int × Gl1Rd} (hm : spec_l1Rd_off_m vr low high = some r) : Sim Try.prog 78 [.one (.ptr () 0 0 0), .one (.int .i64 low), .one (.int .i64 high)] [⟨(), 2, [el1Rd false vr]⟩] (.u (.one (.int .i64 r.1))) [⟨(), 2, [el1Rd false r.2]⟩] := by
  refine sim_st (N := 22) (k0 := 1) Try.func78 rfl rfl rfl rfl (rs := [.tmp 6]) rfl rfl rfl fun B hB0 => ?_
  unfold spec_l1Rd_off_m at hm
  refine Wp.seq ?_
  refine c_reg (Y := sysA _) ?_
  refine n_ (x_as rfl rfl ?_)
  refine z_ ?_
  refine Wp.seq ?_
  refine Wp.seq ?_
  refine c_reg (Y := sysA _) ?_
  refine n_ (x_mv rfl rfl ?_)
  obtain ⟨x1, h2, hm⟩ := of_bind hm
  refine n_ (x_cg (v := .u (.one (.bool x1.1))) (nobs := []) (oa' := _) (nx' := 1) (cs := []) (obs := [⟨(), 2, [el1Rd false vr]⟩]) [0] false rfl (by decide) (h_c rfl h_n) rfl (g_1 (l := .ptr () 0 0 0) rfl rfl rfl (g_1 (l := .int .i64 24) rfl rfl rfl g_n)) rfl rfl ent77 (spec_l1Rd_once_sim vr 24 h2) (.inl rfl) rfl rfl rfl rfl ?_)
  refine z_ ?_
  refine c_s rfl rfl (fun hb3 => ?_) (fun hb3 => ?_)
  · rw [if_pos (show _ = true from hb3)] at hm
    refine Wp.seq ?_
    refine c_reg (Y := sysA _) ?_
    refine n_ (x_mv rfl rfl ?_)
    obtain ⟨h4, hm⟩ := of_ite hm
    refine n_ (x_subc T2 rfl rfl h4 ?_)
    refine n_ (x_mv rfl rfl ?_)
    obtain ⟨h5, hm⟩ := of_ite hm
    refine n_ (x_addc T2 rfl rfl h5 ?_)
    refine n_ (x_bsm (enc := iL) ([low - 1, high + 1, (-9223372036854775808), 9223372036854775807]) A24 rfl rfl rfl rfl ?_)
    refine n_ (x_mv rfl rfl ?_)
    obtain ⟨x6, h7, hm⟩ := of_bind hm
    refine n_ (x_cg (v := .u (.one (.int .i64 x6.1))) (nobs := []) (oa' := _) (nx' := 2) (cs := []) (obs := [⟨(), 2, [el1Rd false x1.2]⟩]) [0] false rfl (by decide) (h_c rfl h_n) rfl (g_1 (l := .ptr () 0 0 0) rfl rfl rfl (g_1 (l := .int .i64 4) rfl rfl rfl g_n)) rfl rfl ent76 (spec_l1Rd_below_sim x1.2 4 h7) (.inl rfl) rfl rfl rfl rfl ?_)
    obtain ⟨h8, hm⟩ := of_ite hm
    refine n_ (x_ix0 rfl E24 rfl rfl rfl h8 ?_)
    refine n_ (x_ldn rfl T2 rfl rfl h8 rfl rfl ?_)
    refine n_ (x_as rfl rfl ?_)
    refine z_ ?_
    refine c_ret ?_
    rw [← Option.some.inj hm]
    exact retG (us' := [.one (.int .i64 (at_ ([low - 1, high + 1, (-9223372036854775808), 9223372036854775807]) x6.1))]) (obs' := [⟨(), 2, [el1Rd false x6.2]⟩]) rfl (r_tmp rfl rfl rfl r_nil) (f_end [0] rfl (h_c rfl h_n) (by decide) rfl rfl hB0 rfl rfl) rfl rfl rfl rfl rfl
  · rw [if_neg (by rw [hb3]; decide)] at hm
    refine c_skip ?_
    refine Wp.seq ?_
    refine c_reg (Y := sysA _) ?_
    refine n_ (x_mv rfl rfl ?_)
    refine n_ (x_mv rfl rfl ?_)
    refine n_ (x_mv rfl rfl ?_)
    obtain ⟨x9, h10, hm⟩ := of_bind hm
    refine n_ (x_cg (v := .u (.one (.int .i64 x9.1))) (nobs := []) (oa' := _) (nx' := 1) (cs := []) (obs := [⟨(), 2, [el1Rd false x1.2]⟩]) [0] false rfl (by decide) (h_c rfl h_n) rfl (g_1 (l := .ptr () 0 0 0) rfl rfl rfl (g_1 (l := .int .i64 low) rfl rfl rfl (g_1 (l := .int .i64 high) rfl rfl rfl g_n))) rfl rfl ent109 (spec_l1Rd_near_sim x1.2 low high h10) (.inl rfl) rfl rfl rfl rfl ?_)
    refine n_ (x_as rfl rfl ?_)
    refine z_ ?_
    refine c_ret ?_
    rw [← Option.some.inj hm]
    exact retG (us' := [.one (.int .i64 x9.1)]) (obs' := [⟨(), 2, [el1Rd false x9.2]⟩]) rfl (r_tmp rfl rfl rfl r_nil) (f_end [0] rfl (h_c rfl h_n) (by decide) rfl rfl hB0 rfl rfl) rfl rfl rfl rfl rfl

/-- spec.DrawTypeOf -/
noncomputable def spec_DrawTypeOf_m (code : List Int) : Option (GFunc × Int) :=
  (Option.bind (spec_l1Rd_module_m ((spec_l1Open_m code))) fun x1 =>
    (if (0 : Int) ≤ 0 ∧ 0 < (List.length x1.1.funcs : Int) then
      (Option.bind ((Option.bind (spec_l1Rd_off_m x1.2 0 20) fun x5 =>
            (some x5.1))) fun (j4 : Int) =>
        (some ((({ params := (at_ x1.1.funcs 0).params, ret := (at_ x1.1.funcs 0).ret, blocks := (at_ x1.1.funcs 0).blocks } : GFunc), j4))))
      else none))
set_option maxHeartbeats 8000000 in
set_option maxRecDepth 100000 in
theorem spec_DrawTypeOf_sim (code : List Int) {r : GFunc × Int} (hm : spec_DrawTypeOf_m code = some r) : Sim Try.prog 69 [.one (.bs () 1 (List.map (iK .u8) code))] [] (.tup [.agg (eFunc false r.1), .one (.int .i64 r.2)]) [] := by
  refine sim_st (N := 16) (k0 := 0) Try.func69 rfl rfl rfl rfl (rs := [.cell 2 27, .tmp 3]) rfl rfl rfl fun B hB0 => ?_
  unfold spec_DrawTypeOf_m at hm
  refine Wp.seq ?_
  refine c_reg (Y := sysA _) ?_
  refine n_ (x_al T27 (r := [.nl, .int .i64 0, .nl]) rfl rfl ?_)
  refine n_ (x_as rfl rfl ?_)
  refine z_ ?_
  refine Wp.seq ?_
  refine c_reg (Y := sysA _) ?_
  refine n_ (x_mv rfl rfl ?_)
  refine n_ (x_cg (v := .u (.one (.ptr () 1 0 0))) (nobs := []) (oa' := _) (nx' := 2) (cs := []) (obs := []) [] false rfl (by decide) h_n rfl (g_1 (l := .bs () 1 (List.map (iK .u8) code)) rfl rfl rfl g_n) rfl rfl ent38 (spec_l1Open_sim code) (.inl rfl) rfl rfl rfl rfl ?_)
  refine n_ (x_as rfl rfl ?_)
  refine z_ ?_
  refine Wp.seq ?_
  refine c_reg (Y := sysA _) ?_
  refine n_ (x_mv rfl rfl ?_)
  obtain ⟨x1, h2, hm⟩ := of_bind hm
  refine n_ (x_cg (v := .u (.agg [.ref () 2 0 (List.length x1.1.funcs)])) (nobs := [(2, ⟨(), 3, List.map (eFunc false) x1.1.funcs⟩)]) (oa' := _) (nx' := 3) (cs := []) (obs := [⟨(), 2, [el1Rd false ((spec_l1Open_m code))]⟩]) [1] false rfl (by decide) (h_c rfl h_n) rfl (g_1 (l := .ptr () 0 0 0) rfl rfl rfl g_n) rfl rfl ent75 (spec_l1Rd_module_sim ((spec_l1Open_m code)) h2) (.inl rfl) rfl (by simp only [renV, renU, renL, List.map_cons, List.map_nil, rootV, rootU, rootLs, rootUs, eBlock, eFunc, eInst, eModule, ePhi, eTerm, sl, List.length_map] <;> rfl) rfl rfl ?_)
  refine n_ (x_fd F93_0 rfl rfl rfl ?_)
  obtain ⟨h3, hm⟩ := of_ite hm
  refine n_ (x_ix0 rfl E91 rfl rfl rfl h3 ?_)
  refine n_ (x_ldn rfl T27 rfl rfl h3 (pk_all rfl rfl) rfl ?_)
  refine n_ (x_al T27 (r := [.nl, .int .i64 0, .nl]) rfl rfl ?_)
  refine n_ (x_st T27 (rows := [(eFunc false (at_ x1.1.funcs 0))]) rfl rfl rfl rfl rfl rfl rfl rfl ?_)
  refine z_ ?_
  refine Wp.seq ?_
  obtain ⟨j4, hj7, hm⟩ := of_bind hm
  refine c_cut (St 16 [(2, .u (.one (.ptr () 0 0 0))), (3, .u (.one (.int .i64 j4)))] [(0, some ⟨(), 3, [(eFunc false (at_ x1.1.funcs 0))]⟩)] 1) ?_ ?_
  · replace hm := hj7
    refine c_drw (Y := sysG _) mixed ?_
    refine t_ 1 0 rfl (by decide +kernel) (x_mv rfl rfl ?_)
    refine t_2 0 2 rfl rfl (by decide +kernel) ?_ ?_
    · refine (x_ldp rfl T27 rfl rfl rfl (pk_all rfl rfl) rfl ?_)
      obtain ⟨x5, h6, hm⟩ := of_bind hm
      refine o_ 2 rfl (by decide +kernel) (x_cgG (v := .u (.one (.int .i64 x5.1))) (nobs := []) (oa' := _) (nx' := 4) (cs := []) (obs := [⟨(), 2, [el1Rd false x1.2]⟩]) [1] false rfl (by decide) (h_c rfl h_n) rfl (g_1 (l := .ptr () 0 0 0) rfl rfl rfl (g_1 (l := .int .i64 0) rfl rfl rfl (g_1 (l := .int .i64 20) rfl rfl rfl g_n))) rfl rfl ent78 (spec_l1Rd_off_sim x1.2 0 20 h6) (.inl rfl) rfl rfl rfl rfl ?_)
      refine o_ 3 rfl (by decide +kernel) (x_st T27 (rows := [(eFunc false (at_ x1.1.funcs 0))]) rfl rfl rfl rfl rfl rfl rfl rfl ?_)
      refine t_ 4 0 rfl (by decide +kernel) (x_as rfl rfl ?_)
      refine a_nil (by decide +kernel) ?_
      cases hm
      exact w_ [0] (.cons rfl rfl (.cons rfl rfl .nil)) (.lit rfl rfl .nil) (by decide) (hB_0 hB0)
    · obtain ⟨x5, h6, hm⟩ := of_bind hm
      refine (x_cgG (v := .u (.one (.int .i64 x5.1))) (nobs := []) (oa' := _) (nx' := 4) (cs := []) (obs := [⟨(), 2, [el1Rd false x1.2]⟩]) [1] false rfl (by decide) (h_c rfl h_n) rfl (g_1 (l := .ptr () 0 0 0) rfl rfl rfl (g_1 (l := .int .i64 0) rfl rfl rfl (g_1 (l := .int .i64 20) rfl rfl rfl g_n))) rfl rfl ent78 (spec_l1Rd_off_sim x1.2 0 20 h6) (.inl rfl) rfl rfl rfl rfl ?_)
      refine t_ 0 1 rfl (by decide +kernel) (x_ldp rfl T27 rfl rfl rfl (pk_all rfl rfl) rfl ?_)
      refine o_ 3 rfl (by decide +kernel) (x_st T27 (rows := [(eFunc false (at_ x1.1.funcs 0))]) rfl rfl rfl rfl rfl rfl rfl rfl ?_)
      refine t_ 4 0 rfl (by decide +kernel) (x_as rfl rfl ?_)
      refine a_nil (by decide +kernel) ?_
      cases hm
      exact w_ [0] (.cons rfl rfl (.cons rfl rfl .nil)) (.lit rfl rfl .nil) (by decide) (hB_0 hB0)
  · refine c_ret ?_
    rw [← Option.some.inj hm]
    exact ret0 (us' := [.agg (eFunc false (({ params := (at_ x1.1.funcs 0).params, ret := (at_ x1.1.funcs 0).ret, blocks := (at_ x1.1.funcs 0).blocks } : GFunc))), .one (.int .i64 j4)]) rfl (r_cell rfl T27 rfl rfl rfl (pk_all rfl rfl) rfl (r_tmp rfl rfl rfl r_nil)) f_done rfl rfl

/-- spec.DrawUses -/
noncomputable def spec_DrawUses_m (code : List Int) : Option (GFunc × Int) :=
  (Option.bind (spec_DrawTypeOf_m code) fun x1 =>
    (some ((({ params := x1.1.params, ret := x1.1.ret, blocks := x1.1.blocks } : GFunc), x1.2))))
set_option maxHeartbeats 8000000 in
set_option maxRecDepth 100000 in
theorem spec_DrawUses_sim (code : List Int) {r : GFunc × Int} (hm : spec_DrawUses_m code = some r) : Sim Try.prog 32 [.one (.bs () 1 (List.map (iK .u8) code))] [] (.tup [.agg (eFunc false r.1), .one (.int .i64 r.2)]) [] := by
  refine sim_st (N := 8) (k0 := 0) Try.func32 rfl rfl rfl rfl (rs := [.cell 2 27, .tmp 3]) rfl rfl rfl fun B hB0 => ?_
  unfold spec_DrawUses_m at hm
  refine Wp.seq ?_
  refine c_reg (Y := sysA _) ?_
  refine n_ (x_al T27 (r := [.nl, .int .i64 0, .nl]) rfl rfl ?_)
  refine n_ (x_as rfl rfl ?_)
  refine z_ ?_
  refine Wp.seq ?_
  refine c_reg (Y := sysA _) ?_
  refine n_ (x_mv rfl rfl ?_)
  obtain ⟨x1, h2, hm⟩ := of_bind hm
  refine n_ (x_cg (v := .tup [.agg (eFunc false x1.1), .one (.int .i64 x1.2)]) (nobs := []) (oa' := _) (nx' := 1) (cs := []) (obs := []) [] false rfl (by decide) h_n rfl (g_1 (l := .bs () 1 (List.map (iK .u8) code)) rfl rfl rfl g_n) rfl rfl ent69 (spec_DrawTypeOf_sim code h2) (.inl rfl) rfl rfl rfl rfl ?_)
  refine n_ (x_ex rfl rfl rfl ?_)
  refine n_ (x_ex rfl rfl rfl ?_)
  refine n_ (x_st T27 (rows := [(eFunc false x1.1)]) rfl rfl rfl rfl rfl rfl rfl rfl ?_)
  refine n_ (x_as rfl rfl ?_)
  refine z_ ?_
  refine c_ret ?_
  rw [← Option.some.inj hm]
  exact ret0 (us' := [.agg (eFunc false (({ params := x1.1.params, ret := x1.1.ret, blocks := x1.1.blocks } : GFunc))), .one (.int .i64 x1.2)]) rfl (r_cell rfl T27 rfl rfl rfl (pk_all rfl rfl) rfl (r_tmp rfl rfl rfl r_nil)) f_done rfl rfl

/-- spec.DrawOperandsOf -/
noncomputable def spec_DrawOperandsOf_m (code : List Int) : Option GInst :=
  (Option.bind (spec_l1Rd_module_m ((spec_l1Open_m code))) fun x1 =>
    (if (0 : Int) ≤ 0 ∧ 0 < (List.length x1.1.funcs : Int) then
      (Option.bind ((Option.bind (spec_l1Rd_below_m x1.2 ((List.length ((at_ x1.1.funcs 0).blocks) : Int))) fun x6 =>
            (if 0 ≤ x6.1 ∧ x6.1 < (List.length ((at_ x1.1.funcs 0).blocks) : Int) then
              (some ((x6.2, at_ ((at_ x1.1.funcs 0).blocks) x6.1)))
              else none))) fun (j4 : Gl1Rd × GBlock) =>
        (Option.bind ((if (((List.length j4.2.insts : Int)) == 0) = true then
              (some ((j4.1, true)))
              else
              (Option.bind (spec_l1Rd_once_m j4.1 12) fun x13 =>
                (some ((x13.2, x13.1)))))) fun (j10 : Gl1Rd × Bool) =>
          (if j10.2 = true then
            (Option.bind (spec_l1Rd_off_m j10.1 1 27) fun x17 =>
              (some (({ op_ := (({ op_ := x17.1, w := 0, a := 3, b := 0, c := 0, imm := 0, args := [1, 2] } : GInst)).op_, w := (({ op_ := x17.1, w := 0, a := 3, b := 0, c := 0, imm := 0, args := [1, 2] } : GInst)).w, a := (({ op_ := x17.1, w := 0, a := 3, b := 0, c := 0, imm := 0, args := [1, 2] } : GInst)).a, b := (({ op_ := x17.1, w := 0, a := 3, b := 0, c := 0, imm := 0, args := [1, 2] } : GInst)).b, c := (({ op_ := x17.1, w := 0, a := 3, b := 0, c := 0, imm := 0, args := [1, 2] } : GInst)).c, imm := (({ op_ := x17.1, w := 0, a := 3, b := 0, c := 0, imm := 0, args := [1, 2] } : GInst)).imm, args := (({ op_ := x17.1, w := 0, a := 3, b := 0, c := 0, imm := 0, args := [1, 2] } : GInst)).args } : GInst))))
            else
            (Option.bind ((Option.bind (spec_l1Rd_below_m j10.1 ((List.length j4.2.insts : Int))) fun x21 =>
                  (if 0 ≤ x21.1 ∧ x21.1 < (List.length j4.2.insts : Int) then
                    (some (at_ j4.2.insts x21.1))
                    else none))) fun (j19 : GInst) =>
              (some (({ op_ := j19.op_, w := j19.w, a := j19.a, b := j19.b, c := j19.c, imm := j19.imm, args := j19.args } : GInst)))))))
      else none))
set_option maxHeartbeats 8000000 in
set_option maxRecDepth 100000 in
theorem spec_DrawOperandsOf_sim (code : List Int) {r : GInst} (hm : spec_DrawOperandsOf_m code = some r) : Sim Try.prog 33 [.one (.bs () 1 (List.map (iK .u8) code))] [] (.u (.agg (eInst false r))) [] := by
  refine sim_st (N := 43) (k0 := 0) Try.func33 rfl rfl rfl rfl (rs := [.cell 2 53]) rfl rfl rfl fun B hB0 => ?_
  unfold spec_DrawOperandsOf_m at hm
  refine Wp.seq ?_
  refine c_reg (Y := sysA _) ?_
  refine n_ (x_al T53 (r := [.int .i64 0, .int .i64 0, .int .i64 0, .int .i64 0, .int .i64 0, .int .i64 0, .nl]) rfl rfl ?_)
  refine z_ ?_
  refine Wp.seq ?_
  refine c_reg (Y := sysA _) ?_
  refine n_ (x_mv rfl rfl ?_)
  refine n_ (x_cg (v := .u (.one (.ptr () 1 0 0))) (nobs := []) (oa' := _) (nx' := 2) (cs := []) (obs := []) [] false rfl (by decide) h_n rfl (g_1 (l := .bs () 1 (List.map (iK .u8) code)) rfl rfl rfl g_n) rfl rfl ent38 (spec_l1Open_sim code) (.inl rfl) rfl rfl rfl rfl ?_)
  refine n_ (x_as rfl rfl ?_)
  refine z_ ?_
  refine Wp.seq ?_
  refine c_reg (Y := sysA _) ?_
  refine n_ (x_mv rfl rfl ?_)
  obtain ⟨x1, h2, hm⟩ := of_bind hm
  refine n_ (x_cg (v := .u (.agg [.ref () 2 0 (List.length x1.1.funcs)])) (nobs := [(2, ⟨(), 3, List.map (eFunc false) x1.1.funcs⟩)]) (oa' := _) (nx' := 3) (cs := []) (obs := [⟨(), 2, [el1Rd false ((spec_l1Open_m code))]⟩]) [1] false rfl (by decide) (h_c rfl h_n) rfl (g_1 (l := .ptr () 0 0 0) rfl rfl rfl g_n) rfl rfl ent75 (spec_l1Rd_module_sim ((spec_l1Open_m code)) h2) (.inl rfl) rfl (by simp only [renV, renU, renL, List.map_cons, List.map_nil, rootV, rootU, rootLs, rootUs, eBlock, eFunc, eInst, eModule, ePhi, eTerm, sl, List.length_map] <;> rfl) rfl rfl ?_)
  refine n_ (x_fd F93_0 rfl rfl rfl ?_)
  obtain ⟨h3, hm⟩ := of_ite hm
  refine n_ (x_ix0 rfl E91 rfl rfl rfl h3 ?_)
  refine n_ (x_ldn rfl T27 rfl rfl h3 (pk_all rfl rfl) rfl ?_)
  refine n_ (x_al T27 (r := [.nl, .int .i64 0, .nl]) rfl rfl ?_)
  refine n_ (x_st T27 (rows := [(eFunc false (at_ x1.1.funcs 0))]) rfl rfl rfl rfl rfl rfl rfl rfl ?_)
  refine z_ ?_
  refine Wp.seq ?_
  obtain ⟨j4, hj9, hm⟩ := of_bind hm
  refine c_cut (St 43 [(2, .u (.one (.ptr () 0 0 0))), (3, .u (.one (.ptr () 1 0 0))), (5, .u (.one (.ptr () 2 0 0)))] [(0, some ⟨(), 7, [[.int .i64 0, .int .i64 0, .int .i64 0, .int .i64 0, .int .i64 0, .int .i64 0, .nl]]⟩), (1, some ⟨(), 2, [(el1Rd false j4.1)]⟩), (2, some ⟨(), 6, [(eBlock false j4.2)]⟩)] 3) ?_ ?_
  · replace hm := hj9
    refine c_drw (Y := sysH _ [1] []) mixed ?_
    obtain ⟨x6, h7, hm⟩ := of_bind hm
    have hS3_6 := (spec_l1Rd_below_sim x1.2 ((List.length ((at_ x1.1.funcs 0).blocks) : Int)) h7)
    obtain ⟨h8, hm⟩ := of_ite hm
    refine t_E 0 [1, 7, 8, 10] rfl (by decide +kernel) rfl rfl rfl (x_fap rfl F27_2 rfl rfl ?_)
    refine t_E 1 [7, 8, 10] rfl (by decide +kernel) rfl rfl rfl (x_ldp rfl T25 rfl rfl rfl rfl rfl ?_)
    refine t_ 2 0 rfl (by decide +kernel) (x_mv rfl rfl ?_)
    refine t_D 3 1 [4, 5, 6, 7, 8, 10] rfl (by decide +kernel) (x_fap rfl F27_2 rfl rfl ?_)
    refine t_D 4 1 [5, 6, 7, 8, 10] rfl (by decide +kernel) (x_ldp rfl T25 rfl rfl rfl rfl rfl ?_)
    refine t_ 5 0 rfl (by decide +kernel) (x_lnb N25 rfl fun hL5 => ?_)
    refine t_n 6 [9] (by decide +kernel) (.cons (wy rfl (x_cgS (H := [1]) (X := []) (v := .u (.one (.int .i64 x6.1))) (nobs := []) (oa' := _) (nx' := 4) hS3_6 [1] rfl (by decide) (h_c rfl h_n) rfl (g_1 rfl rfl rfl (g_1 rfl rfl rfl g_n)) ent76 rfl rfl rfl rfl ?_ rfl)) (.cons (wy rfl (x_al T61 (r := [.nl, .nl, .int .i64 0, .int .i64 0, .int .i64 0, .int .i64 0]) rfl rfl ?_)) .nil))
    · refine t_ 7 0 rfl (by decide +kernel) (x_ixb E25 rfl rfl h8 ?_)
      refine t_ 8 0 rfl (by decide +kernel) (x_ldi T61 rfl (pk_all rfl rfl) rfl ?_)
      refine o_ 9 rfl (by decide +kernel) (x_al T61 (r := [.nl, .nl, .int .i64 0, .int .i64 0, .int .i64 0, .int .i64 0]) rfl rfl ?_)
      refine o_ 10 rfl (by decide +kernel) (x_st T61 (rows := [(eBlock false (at_ ((at_ x1.1.funcs 0).blocks) x6.1))]) rfl rfl rfl rfl rfl rfl rfl rfl ?_)
      refine a_nil (by decide +kernel) ?_
      cases hm
      exact w_ [0, 1, 4] (.cons rfl rfl (.cons rfl rfl (.cons rfl rfl .nil))) (.lit rfl rfl (.lit rfl rfl (.lit rfl rfl .nil))) (by decide) (hB_0 hB0)
    · refine o_ 6 rfl (by decide +kernel) (x_cgS (H := [1]) (X := []) (v := .u (.one (.int .i64 x6.1))) (nobs := []) (oa' := _) (nx' := 5) hS3_6 [1] rfl (by decide) (h_c rfl h_n) rfl (g_1 rfl rfl rfl (g_1 rfl rfl rfl g_n)) ent76 rfl rfl rfl rfl ?_ rfl)
      refine t_ 7 0 rfl (by decide +kernel) (x_ixb E25 rfl rfl h8 ?_)
      refine t_ 8 0 rfl (by decide +kernel) (x_ldi T61 rfl (pk_all rfl rfl) rfl ?_)
      refine o_ 10 rfl (by decide +kernel) (x_st T61 (rows := [(eBlock false (at_ ((at_ x1.1.funcs 0).blocks) x6.1))]) rfl rfl rfl rfl rfl rfl rfl rfl ?_)
      refine a_nil (by decide +kernel) ?_
      cases hm
      exact w_ [0, 1, 4] (.cons rfl rfl (.cons rfl rfl (.cons rfl rfl .nil))) (.lit rfl rfl (.lit rfl rfl (.lit rfl rfl .nil))) (by decide) (hB_0 hB0)
  · refine Wp.seq ?_
    refine Wp.seq ?_
    obtain ⟨j10, hj15, hm⟩ := of_bind hm
    refine c_cut (St 43 [(2, .u (.one (.ptr () 0 0 0))), (3, .u (.one (.ptr () 1 0 0))), (5, .u (.one (.ptr () 2 0 0))), (29, .u (.one (.bool j10.2)))] [(0, some ⟨(), 7, [[.int .i64 0, .int .i64 0, .int .i64 0, .int .i64 0, .int .i64 0, .int .i64 0, .nl]]⟩), (1, some ⟨(), 2, [(el1Rd false j10.1)]⟩), (2, some ⟨(), 6, [(eBlock false j4.2)]⟩)] 3) ?_ ?_
    · replace hm := hj15
      refine c_reg (Y := sysA _) ?_
      refine n_ (x_fap rfl F61_1 rfl rfl ?_)
      refine n_ (x_ldp rfl T57 rfl rfl rfl rfl rfl ?_)
      refine n_ (x_lnb N57 rfl fun hL11 => ?_)
      refine n_ (x_bin T3 rfl rfl rfl ?_)
      refine n_ (x_mv rfl rfl ?_)
      refine g_s rfl rfl rfl (fun hb12 => ?_) (fun hb12 => ?_)
      · rw [if_neg (by rw [hb12]; decide)] at hm
        refine g_t rfl rfl rfl ?_
        refine n_ (x_mv rfl rfl ?_)
        refine g_t rfl rfl rfl ?_
        obtain ⟨x13, h14, hm⟩ := of_bind hm
        refine n_ (x_cg (v := .u (.one (.bool x13.1))) (nobs := []) (oa' := _) (nx' := 3) (cs := []) (obs := [⟨(), 2, [el1Rd false j4.1]⟩]) [1] false rfl (by decide) (h_c rfl h_n) rfl (g_1 (l := .ptr () 0 0 0) rfl rfl rfl (g_1 (l := .int .i64 12) rfl rfl rfl g_n)) rfl rfl ent77 (spec_l1Rd_once_sim j4.1 12 h14) (.inl rfl) rfl rfl rfl rfl ?_)
        refine n_ (x_pk rfl rfl rfl ?_)
        refine z_ ?_
        cases hm
        exact w_ [0, 1, 2] (.cons rfl rfl (.cons rfl rfl (.cons rfl rfl (.cons rfl rfl .nil)))) (.lit rfl rfl (.lit rfl rfl (.lit rfl rfl .nil))) (by decide) (hB_0 hB0)
      · rw [if_pos (show _ = true from hb12)] at hm
        refine g_f rfl rfl rfl ?_
        refine g_f rfl rfl rfl ?_
        refine n_ (x_pk rfl rfl rfl ?_)
        refine z_ ?_
        cases hm
        exact w_ [0, 1, 2] (.cons rfl rfl (.cons rfl rfl (.cons rfl rfl (.cons rfl rfl .nil)))) (.lit rfl rfl (.lit rfl rfl (.lit rfl rfl .nil))) (by decide) (hB_0 hB0)
    · refine c_s rfl rfl (fun hb16 => ?_) (fun hb16 => ?_)
      · rw [if_pos (show _ = true from hb16)] at hm
        refine Wp.seq ?_
        refine c_regS ?_
        refine o_run (Y := sysA _) 3 ?_
        refine n_ (x_mv rfl rfl ?_)
        obtain ⟨x17, h18, hm⟩ := of_bind hm
        refine n_ (x_cg (v := .u (.one (.int .i64 x17.1))) (nobs := []) (oa' := _) (nx' := 3) (cs := []) (obs := [⟨(), 2, [el1Rd false j10.1]⟩]) [1] false rfl (by decide) (h_c rfl h_n) rfl (g_1 (l := .ptr () 0 0 0) rfl rfl rfl (g_1 (l := .int .i64 1) rfl rfl rfl (g_1 (l := .int .i64 27) rfl rfl rfl g_n))) rfl rfl ent78 (spec_l1Rd_off_sim j10.1 1 27 h18) (.inl rfl) rfl rfl rfl rfl ?_)
        refine n_ (x_bsm (enc := iL) ([1, 2]) A24 rfl rfl rfl rfl ?_)
        refine z_ ?_
        refine WpO.ghb (f_frz 3 [32] rfl (all_plain_map _) (.cons rfl (by simp) .nil) rfl) ?_
        refine o_run (Y := sysA _) 2 ?_
        refine n_ (x_bu (cells := (eInst false (({ op_ := x17.1, w := 0, a := 3, b := 0, c := 0, imm := 0, args := [1, 2] } : GInst)))) T53 rfl rfl rfl ?_)
        refine n_ (x_st T53 (rows := [(eInst false (({ op_ := x17.1, w := 0, a := 3, b := 0, c := 0, imm := 0, args := [1, 2] } : GInst)))]) rfl rfl rfl rfl rfl rfl rfl rfl ?_)
        refine z_ ?_
        refine o_end ?_
        refine c_ret ?_
        rw [← Option.some.inj hm]
        exact ret0 (us' := [.agg (eInst false (({ op_ := (({ op_ := x17.1, w := 0, a := 3, b := 0, c := 0, imm := 0, args := [1, 2] } : GInst)).op_, w := (({ op_ := x17.1, w := 0, a := 3, b := 0, c := 0, imm := 0, args := [1, 2] } : GInst)).w, a := (({ op_ := x17.1, w := 0, a := 3, b := 0, c := 0, imm := 0, args := [1, 2] } : GInst)).a, b := (({ op_ := x17.1, w := 0, a := 3, b := 0, c := 0, imm := 0, args := [1, 2] } : GInst)).b, c := (({ op_ := x17.1, w := 0, a := 3, b := 0, c := 0, imm := 0, args := [1, 2] } : GInst)).c, imm := (({ op_ := x17.1, w := 0, a := 3, b := 0, c := 0, imm := 0, args := [1, 2] } : GInst)).imm, args := (({ op_ := x17.1, w := 0, a := 3, b := 0, c := 0, imm := 0, args := [1, 2] } : GInst)).args } : GInst)))]) rfl (r_cell rfl T53 rfl rfl rfl (pk_all rfl rfl) rfl r_nil) f_done rfl rfl
      · rw [if_neg (by rw [hb16]; decide)] at hm
        refine c_skip ?_
        refine Wp.seq ?_
        obtain ⟨j19, hj24, hm⟩ := of_bind hm
        refine c_cut (St 43 [(2, .u (.one (.ptr () 0 0 0)))] [(0, some ⟨(), 7, [(eInst false j19)]⟩)] 1) ?_ ?_
        · replace hm := hj24
          refine c_drw (Y := sysG _) mixed ?_
          refine t_ 2 0 rfl (by decide +kernel) (x_mv rfl rfl ?_)
          refine t_D 3 1 [4, 5, 6, 7, 8, 9] rfl (by decide +kernel) (x_fap rfl F61_1 rfl rfl ?_)
          refine t_D 4 1 [5, 6, 7, 8, 9] rfl (by decide +kernel) (x_ldp rfl T57 rfl rfl rfl rfl rfl ?_)
          refine t_ 5 0 rfl (by decide +kernel) (x_lnb N57 rfl fun hL20 => ?_)
          refine t_2 0 6 rfl rfl (by decide +kernel) ?_ ?_
          · refine (x_fap rfl F61_1 rfl rfl ?_)
            refine t_2 1 6 rfl rfl (by decide +kernel) ?_ ?_
            · refine (x_ldp rfl T57 rfl rfl rfl rfl rfl ?_)
              obtain ⟨x21, h22, hm⟩ := of_bind hm
              refine o_ 6 rfl (by decide +kernel) (x_cgG (v := .u (.one (.int .i64 x21.1))) (nobs := []) (oa' := _) (nx' := 3) (cs := []) (obs := [⟨(), 2, [el1Rd false j10.1]⟩]) [1] false rfl (by decide) (h_c rfl h_n) rfl (g_1 (l := .ptr () 0 0 0) rfl rfl rfl (g_1 (l := .int .i64 ((List.length j4.2.insts : Int))) rfl rfl rfl g_n)) rfl rfl ent76 (spec_l1Rd_below_sim j10.1 ((List.length j4.2.insts : Int)) h22) (.inl rfl) rfl rfl rfl rfl ?_)
              obtain ⟨h23, hm⟩ := of_ite hm
              refine t_ 7 0 rfl (by decide +kernel) (x_ixb E57 rfl rfl h23 ?_)
              refine t_ 8 0 rfl (by decide +kernel) (x_ldi T53 rfl (pk_all rfl rfl) rfl ?_)
              refine o_ 9 rfl (by decide +kernel) (x_st T53 (rows := [(eInst false (at_ j4.2.insts x21.1))]) rfl rfl rfl rfl rfl rfl rfl rfl ?_)
              refine a_nil (by decide +kernel) ?_
              cases hm
              exact w_ [0] (.cons rfl rfl .nil) (.lit rfl rfl .nil) (by decide) (hB_0 hB0)
            · obtain ⟨x21, h22, hm⟩ := of_bind hm
              refine (x_cgG (v := .u (.one (.int .i64 x21.1))) (nobs := []) (oa' := _) (nx' := 3) (cs := []) (obs := [⟨(), 2, [el1Rd false j10.1]⟩]) [1] false rfl (by decide) (h_c rfl h_n) rfl (g_1 (l := .ptr () 0 0 0) rfl rfl rfl (g_1 (l := .int .i64 ((List.length j4.2.insts : Int))) rfl rfl rfl g_n)) rfl rfl ent76 (spec_l1Rd_below_sim j10.1 ((List.length j4.2.insts : Int)) h22) (.inl rfl) rfl rfl rfl rfl ?_)
              refine t_ 1 1 rfl (by decide +kernel) (x_ldp rfl T57 rfl rfl rfl rfl rfl ?_)
              obtain ⟨h23, hm⟩ := of_ite hm
              refine t_ 7 0 rfl (by decide +kernel) (x_ixb E57 rfl rfl h23 ?_)
              refine t_ 8 0 rfl (by decide +kernel) (x_ldi T53 rfl (pk_all rfl rfl) rfl ?_)
              refine o_ 9 rfl (by decide +kernel) (x_st T53 (rows := [(eInst false (at_ j4.2.insts x21.1))]) rfl rfl rfl rfl rfl rfl rfl rfl ?_)
              refine a_nil (by decide +kernel) ?_
              cases hm
              exact w_ [0] (.cons rfl rfl .nil) (.lit rfl rfl .nil) (by decide) (hB_0 hB0)
          · obtain ⟨x21, h22, hm⟩ := of_bind hm
            refine (x_cgG (v := .u (.one (.int .i64 x21.1))) (nobs := []) (oa' := _) (nx' := 3) (cs := []) (obs := [⟨(), 2, [el1Rd false j10.1]⟩]) [1] false rfl (by decide) (h_c rfl h_n) rfl (g_1 (l := .ptr () 0 0 0) rfl rfl rfl (g_1 (l := .int .i64 ((List.length j4.2.insts : Int))) rfl rfl rfl g_n)) rfl rfl ent76 (spec_l1Rd_below_sim j10.1 ((List.length j4.2.insts : Int)) h22) (.inl rfl) rfl rfl rfl rfl ?_)
            refine t_ 0 1 rfl (by decide +kernel) (x_fap rfl F61_1 rfl rfl ?_)
            refine t_ 1 1 rfl (by decide +kernel) (x_ldp rfl T57 rfl rfl rfl rfl rfl ?_)
            obtain ⟨h23, hm⟩ := of_ite hm
            refine t_ 7 0 rfl (by decide +kernel) (x_ixb E57 rfl rfl h23 ?_)
            refine t_ 8 0 rfl (by decide +kernel) (x_ldi T53 rfl (pk_all rfl rfl) rfl ?_)
            refine o_ 9 rfl (by decide +kernel) (x_st T53 (rows := [(eInst false (at_ j4.2.insts x21.1))]) rfl rfl rfl rfl rfl rfl rfl rfl ?_)
            refine a_nil (by decide +kernel) ?_
            cases hm
            exact w_ [0] (.cons rfl rfl .nil) (.lit rfl rfl .nil) (by decide) (hB_0 hB0)
        · refine c_ret ?_
          rw [← Option.some.inj hm]
          exact ret0 (us' := [.agg (eInst false (({ op_ := j19.op_, w := j19.w, a := j19.a, b := j19.b, c := j19.c, imm := j19.imm, args := j19.args } : GInst)))]) rfl (r_cell rfl T53 rfl rfl rfl (pk_all rfl rfl) rfl r_nil) f_done rfl rfl

/-- impl.within -/
noncomputable def impl_within_m (n : Int) (low : Int) (high : Int) : Bool :=
  ((decide (n ≥ low) && decide (n ≤ high)))
set_option maxHeartbeats 8000000 in
set_option maxRecDepth 100000 in
theorem impl_within_sim (n : Int) (low : Int) (high : Int) : Sim Try.prog 54 [.one (.int .i64 n), .one (.int .i64 low), .one (.int .i64 high)] [] (.u (.one (.bool ((impl_within_m n low high))))) [] := by
  obtain ⟨r, hm⟩ : ∃ r, impl_within_m n low high = r := ⟨_, rfl⟩
  rw [hm]
  refine sim_st (N := 15) (k0 := 0) Try.func54 rfl rfl rfl rfl (rs := [.tmp 6]) rfl rfl rfl fun B hB0 => ?_
  unfold impl_within_m at hm
  refine Wp.seq ?_
  refine c_reg (Y := sysA _) ?_
  refine n_ (x_as rfl rfl ?_)
  refine z_ ?_
  refine Wp.seq ?_
  refine c_cut (St 15 [(6, .u (.one (.bool ((decide (n ≥ low) && decide (n ≤ high))))))] [] 0) ?_ ?_
  · refine c_reg (Y := sysA _) ?_
    refine n_ (x_mv rfl rfl ?_)
    refine n_ (x_mv rfl rfl ?_)
    refine n_ (x_bin T2 rfl rfl rfl ?_)
    refine n_ (x_mv rfl rfl ?_)
    refine g_s rfl rfl rfl (fun hb2 => ?_) (fun hb2 => ?_)
    · refine g_t rfl rfl rfl ?_
      refine n_ (x_mv rfl rfl ?_)
      refine g_t rfl rfl rfl ?_
      refine n_ (x_mv rfl rfl ?_)
      refine g_t rfl rfl rfl ?_
      refine n_ (x_bin T2 rfl rfl rfl ?_)
      refine n_ (x_pk rfl rfl rfl ?_)
      refine n_ (x_as rfl rfl ?_)
      refine z_ ?_
      exact w_ [] (.cons (by simp only [hb2, eq_self, if_true, Bool.false_eq_true, if_false, Bool.true_or, Bool.false_or, Bool.true_and, Bool.false_and, Bool.not_true, Bool.not_false]; rfl) rfl .nil) .nil (by decide) (hB_0 hB0)
    · refine g_f rfl rfl rfl ?_
      refine g_f rfl rfl rfl ?_
      refine g_f rfl rfl rfl ?_
      refine n_ (x_pk rfl rfl rfl ?_)
      refine n_ (x_as rfl rfl ?_)
      refine z_ ?_
      exact w_ [] (.cons (by simp only [hb2, eq_self, if_true, Bool.false_eq_true, if_false, Bool.true_or, Bool.false_or, Bool.true_and, Bool.false_and, Bool.not_true, Bool.not_false]; rfl) rfl .nil) .nil (by decide) (hB_0 hB0)
  · refine c_ret ?_
    rw [← hm]
    exact ret0 (us' := [.one (.bool ((decide (n ≥ low) && decide (n ≤ high))))]) rfl (r_tmp rfl rfl rfl r_nil) f_done rfl rfl

/-- impl.isBinary -/
noncomputable def impl_isBinary_m (op_ : Int) : Bool :=
  ((impl_within_m op_ 1 17))
set_option maxHeartbeats 8000000 in
set_option maxRecDepth 100000 in
theorem impl_isBinary_sim (op_ : Int) : Sim Try.prog 83 [.one (.int .i64 op_)] [] (.u (.one (.bool ((impl_isBinary_m op_))))) [] := by
  obtain ⟨r, hm⟩ : ∃ r, impl_isBinary_m op_ = r := ⟨_, rfl⟩
  rw [hm]
  refine sim_st (N := 5) (k0 := 0) Try.func83 rfl rfl rfl rfl (rs := [.tmp 2]) rfl rfl rfl fun B hB0 => ?_
  unfold impl_isBinary_m at hm
  refine Wp.seq ?_
  refine c_reg (Y := sysA _) ?_
  refine n_ (x_as rfl rfl ?_)
  refine z_ ?_
  refine Wp.seq ?_
  refine c_reg (Y := sysA _) ?_
  refine n_ (x_mv rfl rfl ?_)
  refine n_ (aopK_A (x_call (v := .u (.one (.bool ((impl_within_m op_ 1 17))))) (nobs := []) (oa' := _) (nx' := 0) rfl (a_1 rfl (b_s rfl) (a_1 rfl (b_s rfl) (a_1 rfl (b_s rfl) a_n))) c_n ent54 (impl_within_sim op_ 1 17) rfl rfl rfl rfl ?_))
  refine n_ (x_as rfl rfl ?_)
  refine z_ ?_
  refine c_ret ?_
  rw [← hm]
  exact ret0 (us' := [.one (.bool ((impl_within_m op_ 1 17)))]) rfl (r_tmp rfl rfl rfl r_nil) f_done rfl rfl

/-- impl.isCast -/
noncomputable def impl_isCast_m (op_ : Int) : Bool :=
  ((impl_within_m op_ 18 20))
set_option maxHeartbeats 8000000 in
set_option maxRecDepth 100000 in
theorem impl_isCast_sim (op_ : Int) : Sim Try.prog 84 [.one (.int .i64 op_)] [] (.u (.one (.bool ((impl_isCast_m op_))))) [] := by
  obtain ⟨r, hm⟩ : ∃ r, impl_isCast_m op_ = r := ⟨_, rfl⟩
  rw [hm]
  refine sim_st (N := 5) (k0 := 0) Try.func84 rfl rfl rfl rfl (rs := [.tmp 2]) rfl rfl rfl fun B hB0 => ?_
  unfold impl_isCast_m at hm
  refine Wp.seq ?_
  refine c_reg (Y := sysA _) ?_
  refine n_ (x_as rfl rfl ?_)
  refine z_ ?_
  refine Wp.seq ?_
  refine c_reg (Y := sysA _) ?_
  refine n_ (x_mv rfl rfl ?_)
  refine n_ (aopK_A (x_call (v := .u (.one (.bool ((impl_within_m op_ 18 20))))) (nobs := []) (oa' := _) (nx' := 0) rfl (a_1 rfl (b_s rfl) (a_1 rfl (b_s rfl) (a_1 rfl (b_s rfl) a_n))) c_n ent54 (impl_within_sim op_ 18 20) rfl rfl rfl rfl ?_))
  refine n_ (x_as rfl rfl ?_)
  refine z_ ?_
  refine c_ret ?_
  rw [← hm]
  exact ret0 (us' := [.one (.bool ((impl_within_m op_ 18 20)))]) rfl (r_tmp rfl rfl rfl r_nil) f_done rfl rfl

/-- slices.Clone[[]int64,int64] -/
noncomputable def slices_Clone_int64_int64_m (s : List Int) : Option (List Int) :=
  (if (List.length ([] : List Int) + List.length s) * 8 ≤ 140737488355328 ∧ List.length ([] : List Int) + List.length s ≤ LIM then (some (([] : List Int) ++ s)) else none)
set_option maxHeartbeats 8000000 in
theorem slices_Clone_int64_int64_sim (s : List Int) {r : List Int} (hm : slices_Clone_int64_int64_m s = some r) : Sim Try.prog 85 [.one (.bs () 1 (List.map iL s))] [] (.u (.one (.os () 1 (List.map iL r)))) [] := by
  refine sim_st (N := 8) (k0 := 0) Try.func85 rfl rfl rfl rfl (rs := [.tmp 2]) rfl rfl rfl fun B hB0 => ?_
  unfold slices_Clone_int64_int64_m at hm
  obtain ⟨h1, hm⟩ := of_ite hm
  have hr := Option.some.inj hm
  refine Wp.seq ?_
  refine c_reg (Y := sysA _) ?_
  refine n_ (x_as rfl rfl ?_)
  refine z_ ?_
  refine Wp.seq ?_
  refine Wp.seq ?_
  refine c_regS ?_
  refine o_run (Y := sysA _) 1 ?_
  refine n_ (x_mv rfl rfl ?_)
  refine z_ ?_
  refine o_nlq (e := 2) (by kernel_rfl) rfl rfl (fun hq => ?_) ?_
  · refine o_end ?_
    refine c_t rfl rfl ?_
    refine Wp.seq ?_
    refine c_reg (Y := sysA _) ?_
    refine n_ (x_as rfl rfl ?_)
    refine z_ ?_
    refine c_ret ?_
    have hs : s = [] := List.map_eq_nil_iff.1 hq
    subst hs
    rw [← hr]
    exact ret0 (us' := [.one (.os () 1 (List.map iL (([] : List Int) ++ [])))]) rfl (r_tmp rfl rfl rfl r_nil) ((f_nl 0 0 1 true rfl rfl rfl).trans f_done) rfl rfl
  · refine o_end ?_
    refine c_f rfl rfl ?_
    refine c_skip ?_
    refine Wp.seq ?_
    refine c_reg (Y := sysA _) ?_
    refine n_ (x_bsm (enc := iL) (([] : List Int)) A24 rfl rfl rfl rfl ?_)
    refine n_ (x_mv rfl rfl ?_)
    refine n_ (x_apr (enc := iL) (xs := ([] : List Int)) (ys := s) A24 N24 (encB_N _) rfl rfl rfl (argR_b _) h1 ?_)
    refine n_ (x_as rfl rfl ?_)
    refine z_ ?_
    refine c_ret ?_
    rw [← hr]
    exact ret0 (us' := [.one (.os () 1 (List.map iL (([] : List Int) ++ s)))]) rfl (r_tmp rfl rfl rfl r_nil) ((f_fold 0 0 rfl rfl rfl rfl).trans f_done) rfl rfl

/-- impl.OperandsOf -/
noncomputable def impl_OperandsOf_m (i : GInst) : Option (List Int) :=
  (if ((impl_isBinary_m i.op_) || (i.op_ == 24)) = true then
    (some ([i.a, i.b]))
    else
    (if ((impl_isCast_m i.op_) || ((i.op_ == 23) || ((i.op_ == 25) || (i.op_ == 27)))) = true then
      (some ([i.a]))
      else
      (if (i.op_ == 22) = true then
        (some ([i.a, i.b, i.c]))
        else
        (if (i.op_ == 26) = true then
          (Option.bind (slices_Clone_int64_int64_m i.args) fun x11 =>
            (some x11))
          else
          (some ([]))))))
set_option maxHeartbeats 8000000 in
set_option maxRecDepth 100000 in
theorem impl_OperandsOf_sim (i : GInst) {r : List Int} (hm : impl_OperandsOf_m i = some r) : Sim Try.prog 36 [.agg (eInst false i)] [] (.u (.one (.os () 1 (List.map iL r)))) [] := by
  refine sim_st (N := 57) (k0 := 0) Try.func36 rfl rfl rfl rfl (rs := [.tmp 2]) rfl rfl rfl fun B hB0 => ?_
  unfold impl_OperandsOf_m at hm
  refine Wp.seq ?_
  refine c_reg (Y := sysA _) ?_
  refine n_ (x_bx rfl rfl rfl rfl ?_)
  refine n_ (x_as rfl rfl ?_)
  refine z_ ?_
  refine Wp.seq ?_
  refine Wp.block ?_
  refine Wp.seq ?_
  refine c_cut (St 57 [(1, .u (.one (.ptr () 0 0 0))), (3, .u (.one (.bool (((impl_isBinary_m i.op_) || (i.op_ == 24))))))] [(0, some ⟨(), 7, [(eInst false i)]⟩)] 1) ?_ ?_
  · refine c_reg (Y := sysA _) ?_
    refine n_ (x_fap rfl F53_0 rfl rfl ?_)
    refine n_ (x_ldp rfl T2 rfl rfl rfl rfl rfl ?_)
    refine n_ (aopK_A (x_call (v := .u (.one (.bool ((impl_isBinary_m i.op_))))) (nobs := []) (oa' := _) (nx' := 1) rfl (a_1 rfl (b_s rfl) a_n) c_n ent83 (impl_isBinary_sim i.op_) rfl rfl rfl rfl ?_))
    refine n_ (x_mv rfl rfl ?_)
    refine g_s rfl rfl rfl (fun hb2 => ?_) (fun hb2 => ?_)
    · refine g_t rfl rfl rfl ?_
      refine n_ (x_fap rfl F53_0 rfl rfl ?_)
      refine g_t rfl rfl rfl ?_
      refine n_ (x_ldp rfl T2 rfl rfl rfl rfl rfl ?_)
      refine g_t rfl rfl rfl ?_
      refine n_ (x_bin T2 rfl rfl rfl ?_)
      refine n_ (x_pk rfl rfl rfl ?_)
      refine n_ (x_as rfl rfl ?_)
      refine z_ ?_
      exact w_ [0] (.cons rfl rfl (.cons (by simp only [hb2, eq_self, if_true, Bool.false_eq_true, if_false, Bool.true_or, Bool.false_or, Bool.true_and, Bool.false_and, Bool.not_true, Bool.not_false]; rfl) rfl .nil)) (.lit rfl rfl .nil) (by decide) (hB_0 hB0)
    · refine g_f rfl rfl rfl ?_
      refine g_f rfl rfl rfl ?_
      refine g_f rfl rfl rfl ?_
      refine n_ (x_pk rfl rfl rfl ?_)
      refine n_ (x_as rfl rfl ?_)
      refine z_ ?_
      exact w_ [0] (.cons rfl rfl (.cons (by simp only [hb2, eq_self, if_true, Bool.false_eq_true, if_false, Bool.true_or, Bool.false_or, Bool.true_and, Bool.false_and, Bool.not_true, Bool.not_false]; rfl) rfl .nil)) (.lit rfl rfl .nil) (by decide) (hB_0 hB0)
  · refine c_s rfl rfl (fun hb3 => ?_) (fun hb3 => ?_)
    · rw [if_pos (show _ = true from hb3)] at hm
      refine Wp.seq ?_
      refine c_reg (Y := sysA _) ?_
      refine n_ (x_fap rfl F53_2 rfl rfl ?_)
      refine n_ (x_ldp rfl T2 rfl rfl rfl rfl rfl ?_)
      refine n_ (x_fap rfl F53_3 rfl rfl ?_)
      refine n_ (x_ldp rfl T2 rfl rfl rfl rfl rfl ?_)
      refine n_ (x_bsm (enc := iL) ([i.a, i.b]) A24 rfl rfl rfl rfl ?_)
      refine n_ (x_as rfl rfl ?_)
      refine z_ ?_
      refine c_ret ?_
      rw [← Option.some.inj hm]
      exact ret0 (us' := [.one (.os () 1 (List.map iL ([i.a, i.b])))]) rfl (r_tmp rfl rfl rfl r_nil) ((f_fold 0 0 rfl rfl rfl rfl).trans f_done) rfl rfl
    · rw [if_neg (by rw [hb3]; decide)] at hm
      refine Wp.seq ?_
      refine c_cut (St 57 [(1, .u (.one (.ptr () 0 0 0))), (17, .u (.one (.bool (((impl_isCast_m i.op_) || ((i.op_ == 23) || ((i.op_ == 25) || (i.op_ == 27))))))))] [(0, some ⟨(), 7, [(eInst false i)]⟩)] 1) ?_ ?_
      · refine c_reg (Y := sysA _) ?_
        refine n_ (x_fap rfl F53_0 rfl rfl ?_)
        refine n_ (x_ldp rfl T2 rfl rfl rfl rfl rfl ?_)
        refine n_ (aopK_A (x_call (v := .u (.one (.bool ((impl_isCast_m i.op_))))) (nobs := []) (oa' := _) (nx' := 1) rfl (a_1 rfl (b_s rfl) a_n) c_n ent84 (impl_isCast_sim i.op_) rfl rfl rfl rfl ?_))
        refine n_ (x_mv rfl rfl ?_)
        refine g_s rfl rfl rfl (fun hb5 => ?_) (fun hb5 => ?_)
        · refine g_t rfl rfl rfl ?_
          refine n_ (x_fap rfl F53_0 rfl rfl ?_)
          refine g_t rfl rfl rfl ?_
          refine n_ (x_ldp rfl T2 rfl rfl rfl rfl rfl ?_)
          refine g_t rfl rfl rfl ?_
          refine n_ (x_bin T2 rfl rfl rfl ?_)
          refine n_ (x_pk rfl rfl rfl ?_)
          refine n_ (x_mv rfl rfl ?_)
          refine g_s rfl rfl rfl (fun hb6 => ?_) (fun hb6 => ?_)
          · refine g_t rfl rfl rfl ?_
            refine n_ (x_fap rfl F53_0 rfl rfl ?_)
            refine g_t rfl rfl rfl ?_
            refine n_ (x_ldp rfl T2 rfl rfl rfl rfl rfl ?_)
            refine g_t rfl rfl rfl ?_
            refine n_ (x_bin T2 rfl rfl rfl ?_)
            refine n_ (x_pk rfl rfl rfl ?_)
            refine n_ (x_mv rfl rfl ?_)
            refine g_s rfl rfl rfl (fun hb7 => ?_) (fun hb7 => ?_)
            · refine g_t rfl rfl rfl ?_
              refine n_ (x_fap rfl F53_0 rfl rfl ?_)
              refine g_t rfl rfl rfl ?_
              refine n_ (x_ldp rfl T2 rfl rfl rfl rfl rfl ?_)
              refine g_t rfl rfl rfl ?_
              refine n_ (x_bin T2 rfl rfl rfl ?_)
              refine n_ (x_pk rfl rfl rfl ?_)
              refine n_ (x_as rfl rfl ?_)
              refine z_ ?_
              exact w_ [0] (.cons rfl rfl (.cons (by simp only [hb5, hb6, hb7, eq_self, if_true, Bool.false_eq_true, if_false, Bool.true_or, Bool.false_or, Bool.true_and, Bool.false_and, Bool.not_true, Bool.not_false]; rfl) rfl .nil)) (.lit rfl rfl .nil) (by decide) (hB_0 hB0)
            · refine g_f rfl rfl rfl ?_
              refine g_f rfl rfl rfl ?_
              refine g_f rfl rfl rfl ?_
              refine n_ (x_pk rfl rfl rfl ?_)
              refine n_ (x_as rfl rfl ?_)
              refine z_ ?_
              exact w_ [0] (.cons rfl rfl (.cons (by simp only [hb5, hb6, hb7, eq_self, if_true, Bool.false_eq_true, if_false, Bool.true_or, Bool.false_or, Bool.true_and, Bool.false_and, Bool.not_true, Bool.not_false]; rfl) rfl .nil)) (.lit rfl rfl .nil) (by decide) (hB_0 hB0)
          · refine g_f rfl rfl rfl ?_
            refine g_f rfl rfl rfl ?_
            refine g_f rfl rfl rfl ?_
            refine n_ (x_pk rfl rfl rfl ?_)
            refine n_ (x_mv rfl rfl ?_)
            refine g_f rfl rfl rfl ?_
            refine g_f rfl rfl rfl ?_
            refine g_f rfl rfl rfl ?_
            refine n_ (x_pk rfl rfl rfl ?_)
            refine n_ (x_as rfl rfl ?_)
            refine z_ ?_
            exact w_ [0] (.cons rfl rfl (.cons (by simp only [hb5, hb6, eq_self, if_true, Bool.false_eq_true, if_false, Bool.true_or, Bool.false_or, Bool.true_and, Bool.false_and, Bool.not_true, Bool.not_false]; rfl) rfl .nil)) (.lit rfl rfl .nil) (by decide) (hB_0 hB0)
        · refine g_f rfl rfl rfl ?_
          refine g_f rfl rfl rfl ?_
          refine g_f rfl rfl rfl ?_
          refine n_ (x_pk rfl rfl rfl ?_)
          refine n_ (x_mv rfl rfl ?_)
          refine g_f rfl rfl rfl ?_
          refine g_f rfl rfl rfl ?_
          refine g_f rfl rfl rfl ?_
          refine n_ (x_pk rfl rfl rfl ?_)
          refine n_ (x_mv rfl rfl ?_)
          refine g_f rfl rfl rfl ?_
          refine g_f rfl rfl rfl ?_
          refine g_f rfl rfl rfl ?_
          refine n_ (x_pk rfl rfl rfl ?_)
          refine n_ (x_as rfl rfl ?_)
          refine z_ ?_
          exact w_ [0] (.cons rfl rfl (.cons (by simp only [hb5, eq_self, if_true, Bool.false_eq_true, if_false, Bool.true_or, Bool.false_or, Bool.true_and, Bool.false_and, Bool.not_true, Bool.not_false]; rfl) rfl .nil)) (.lit rfl rfl .nil) (by decide) (hB_0 hB0)
      · refine c_s rfl rfl (fun hb8 => ?_) (fun hb8 => ?_)
        · rw [if_pos (show _ = true from hb8)] at hm
          refine Wp.seq ?_
          refine c_reg (Y := sysA _) ?_
          refine n_ (x_fap rfl F53_2 rfl rfl ?_)
          refine n_ (x_ldp rfl T2 rfl rfl rfl rfl rfl ?_)
          refine n_ (x_bsm (enc := iL) ([i.a]) A24 rfl rfl rfl rfl ?_)
          refine n_ (x_as rfl rfl ?_)
          refine z_ ?_
          refine c_ret ?_
          rw [← Option.some.inj hm]
          exact ret0 (us' := [.one (.os () 1 (List.map iL ([i.a])))]) rfl (r_tmp rfl rfl rfl r_nil) ((f_fold 0 0 rfl rfl rfl rfl).trans f_done) rfl rfl
        · rw [if_neg (by rw [hb8]; decide)] at hm
          refine Wp.seq ?_
          refine c_reg (Y := sysA _) ?_
          refine n_ (x_fap rfl F53_0 rfl rfl ?_)
          refine n_ (x_ldp rfl T2 rfl rfl rfl rfl rfl ?_)
          refine n_ (x_bin T2 rfl rfl rfl ?_)
          refine n_ (x_as rfl rfl ?_)
          refine z_ ?_
          refine c_s rfl rfl (fun hb9 => ?_) (fun hb9 => ?_)
          · rw [if_pos (show _ = true from hb9)] at hm
            refine Wp.seq ?_
            refine c_reg (Y := sysA _) ?_
            refine n_ (x_fap rfl F53_2 rfl rfl ?_)
            refine n_ (x_ldp rfl T2 rfl rfl rfl rfl rfl ?_)
            refine n_ (x_fap rfl F53_3 rfl rfl ?_)
            refine n_ (x_ldp rfl T2 rfl rfl rfl rfl rfl ?_)
            refine n_ (x_fap rfl F53_4 rfl rfl ?_)
            refine n_ (x_ldp rfl T2 rfl rfl rfl rfl rfl ?_)
            refine n_ (x_bsm (enc := iL) ([i.a, i.b, i.c]) A24 rfl rfl rfl rfl ?_)
            refine n_ (x_as rfl rfl ?_)
            refine z_ ?_
            refine c_ret ?_
            rw [← Option.some.inj hm]
            exact ret0 (us' := [.one (.os () 1 (List.map iL ([i.a, i.b, i.c])))]) rfl (r_tmp rfl rfl rfl r_nil) ((f_fold 0 0 rfl rfl rfl rfl).trans f_done) rfl rfl
          · rw [if_neg (by rw [hb9]; decide)] at hm
            refine Wp.seq ?_
            refine c_reg (Y := sysA _) ?_
            refine n_ (x_fap rfl F53_0 rfl rfl ?_)
            refine n_ (x_ldp rfl T2 rfl rfl rfl rfl rfl ?_)
            refine n_ (x_bin T2 rfl rfl rfl ?_)
            refine n_ (x_as rfl rfl ?_)
            refine z_ ?_
            refine c_s rfl rfl (fun hb10 => ?_) (fun hb10 => ?_)
            · rw [if_pos (show _ = true from hb10)] at hm
              refine Wp.seq ?_
              refine c_reg (Y := sysA _) ?_
              refine n_ (x_fap rfl F53_6 rfl rfl ?_)
              refine n_ (x_ldp rfl T24 rfl rfl rfl rfl rfl ?_)
              obtain ⟨x11, h12, hm⟩ := of_bind hm
              refine n_ (aopK_A (x_call (v := .u (.one (.ref () 1 0 (List.length x11)))) (nobs := [(1, ⟨(), 1, List.map iL x11⟩)]) (oa' := _) (nx' := 2) rfl (a_1 rfl (b_s rfl) a_n) c_n ent85 (slices_Clone_int64_int64_sim i.args h12) (by simp only [immFreeV, leavesV, leavesU, List.flatMap_cons, List.flatMap_nil, List.append_nil, List.cons_append, List.nil_append, List.all_cons, List.all_nil, immFreeL, immF_map, Bool.and_true, Bool.and_self]) (by simp only [rootV, rootU, rootLs, rootUs, List.length_map, List.map_cons, List.map_nil]) rfl rfl ?_))
              refine n_ (x_as rfl rfl ?_)
              refine z_ ?_
              refine c_ret ?_
              rw [← Option.some.inj hm]
              exact ret0 (us' := [.one (.os () 1 (List.map iL x11))]) rfl (r_tmp rfl rfl rfl r_nil) ((f_fold 0 0 rfl rfl rfl rfl).trans f_done) rfl rfl
            · rw [if_neg (by rw [hb10]; decide)] at hm
              refine c_skip ?_
              refine Wp.seq ?_
              refine c_reg (Y := sysA _) ?_
              refine n_ (x_as rfl rfl ?_)
              refine z_ ?_
              refine c_ret ?_
              rw [← Option.some.inj hm]
              exact ret0 (us' := [.one (.os () 1 (List.map iL ([])))]) rfl (r_tmp rfl rfl rfl r_nil) ((f_nl 0 0 1 true rfl rfl rfl).trans f_done) rfl rfl

/-- impl.endNames -/
noncomputable def impl_endNames_m (t : GTerm) : List Int :=
  (if ((t.kind == 1) || (t.kind == 3)) = true then
    ([t.a])
    else
    ([]))
set_option maxHeartbeats 8000000 in
set_option maxRecDepth 100000 in
theorem impl_endNames_sim (t : GTerm) : Sim Try.prog 110 [.agg (eTerm t)] [] (.u (.one (.os () 1 (List.map iL ((impl_endNames_m t)))))) [] := by
  obtain ⟨r, hm⟩ : ∃ r, impl_endNames_m t = r := ⟨_, rfl⟩
  rw [hm]
  refine sim_st (N := 14) (k0 := 0) Try.func110 rfl rfl rfl rfl (rs := [.tmp 2]) rfl rfl rfl fun B hB0 => ?_
  unfold impl_endNames_m at hm
  refine Wp.seq ?_
  refine c_reg (Y := sysA _) ?_
  refine n_ (x_bx rfl rfl rfl rfl ?_)
  refine n_ (x_as rfl rfl ?_)
  refine z_ ?_
  refine Wp.seq ?_
  refine Wp.seq ?_
  refine c_cut (St 14 [(1, .u (.one (.ptr () 0 0 0))), (10, .u (.one (.bool (((t.kind == 1) || (t.kind == 3))))))] [(0, some ⟨(), 4, [(eTerm t)]⟩)] 1) ?_ ?_
  · refine c_reg (Y := sysA _) ?_
    refine n_ (x_fap rfl F59_0 rfl rfl ?_)
    refine n_ (x_ldp rfl T2 rfl rfl rfl rfl rfl ?_)
    refine n_ (x_bin T2 rfl rfl rfl ?_)
    refine n_ (x_mv rfl rfl ?_)
    refine g_s rfl rfl rfl (fun hb2 => ?_) (fun hb2 => ?_)
    · refine g_t rfl rfl rfl ?_
      refine n_ (x_fap rfl F59_0 rfl rfl ?_)
      refine g_t rfl rfl rfl ?_
      refine n_ (x_ldp rfl T2 rfl rfl rfl rfl rfl ?_)
      refine g_t rfl rfl rfl ?_
      refine n_ (x_bin T2 rfl rfl rfl ?_)
      refine n_ (x_pk rfl rfl rfl ?_)
      refine z_ ?_
      exact w_ [0] (.cons rfl rfl (.cons (by simp only [hb2, eq_self, if_true, Bool.false_eq_true, if_false, Bool.true_or, Bool.false_or, Bool.true_and, Bool.false_and, Bool.not_true, Bool.not_false]; rfl) rfl .nil)) (.lit rfl rfl .nil) (by decide) (hB_0 hB0)
    · refine g_f rfl rfl rfl ?_
      refine g_f rfl rfl rfl ?_
      refine g_f rfl rfl rfl ?_
      refine n_ (x_pk rfl rfl rfl ?_)
      refine z_ ?_
      exact w_ [0] (.cons rfl rfl (.cons (by simp only [hb2, eq_self, if_true, Bool.false_eq_true, if_false, Bool.true_or, Bool.false_or, Bool.true_and, Bool.false_and, Bool.not_true, Bool.not_false]; rfl) rfl .nil)) (.lit rfl rfl .nil) (by decide) (hB_0 hB0)
  · refine c_s rfl rfl (fun hb3 => ?_) (fun hb3 => ?_)
    · rw [if_pos (show _ = true from hb3)] at hm
      refine Wp.seq ?_
      refine c_reg (Y := sysA _) ?_
      refine n_ (x_fap rfl F59_1 rfl rfl ?_)
      refine n_ (x_ldp rfl T2 rfl rfl rfl rfl rfl ?_)
      refine n_ (x_bsm (enc := iL) ([t.a]) A24 rfl rfl rfl rfl ?_)
      refine n_ (x_as rfl rfl ?_)
      refine z_ ?_
      refine c_ret ?_
      rw [← hm]
      exact ret0 (us' := [.one (.os () 1 (List.map iL ([t.a])))]) rfl (r_tmp rfl rfl rfl r_nil) ((f_fold 0 0 rfl rfl rfl rfl).trans f_done) rfl rfl
    · rw [if_neg (by rw [hb3]; decide)] at hm
      refine c_skip ?_
      refine Wp.seq ?_
      refine c_reg (Y := sysA _) ?_
      refine n_ (x_as rfl rfl ?_)
      refine z_ ?_
      refine c_ret ?_
      rw [← hm]
      exact ret0 (us' := [.one (.os () 1 (List.map iL ([])))]) rfl (r_tmp rfl rfl rfl r_nil) ((f_nl 0 0 1 true rfl rfl rfl).trans f_done) rfl rfl

/-- impl.namedBy -/
noncomputable def impl_namedBy_m (b : GBlock) : Option (List Int) :=
  (Option.bind (loopO (fun (st2 : (List Int) × Int) =>
        ((if decide (st2.2 < ((List.length b.phis : Int))) = true then
            (if 0 ≤ st2.2 ∧ st2.2 < (List.length b.phis : Int) then
              (if (List.length st2.1 + List.length ((at_ b.phis st2.2).ins)) * 8 ≤ 140737488355328 ∧ List.length st2.1 + List.length ((at_ b.phis st2.2).ins) ≤ LIM then
                (if inI (st2.2 + 1) then
                  (some (Sum.inl ((st2.1 ++ ((at_ b.phis st2.2).ins), st2.2 + 1))))
                  else none)
                else none)
              else none)
            else
            (some (Sum.inr st2.1))) : Option (((List Int) × Int) ⊕ (((List Int)))))) (([] : List Int), 0)) fun (j3 : (List Int)) =>
    (Option.bind (loopO (fun (st11 : (List Int) × Int) =>
          ((if decide (st11.2 < ((List.length b.insts : Int))) = true then
              (if 0 ≤ st11.2 ∧ st11.2 < (List.length b.insts : Int) then
                (Option.bind (impl_OperandsOf_m (at_ b.insts st11.2)) fun x15 =>
                  (if (List.length st11.1 + List.length x15) * 8 ≤ 140737488355328 ∧ List.length st11.1 + List.length x15 ≤ LIM then
                    (if inI (st11.2 + 1) then
                      (some (Sum.inl ((st11.1 ++ x15, st11.2 + 1))))
                      else none)
                    else none))
                else none)
              else
              (some (Sum.inr st11.1))) : Option (((List Int) × Int) ⊕ (((List Int)))))) (j3, 0)) fun (j12 : (List Int)) =>
      (if (List.length j12 + List.length ((impl_endNames_m b.term))) * 8 ≤ 140737488355328 ∧ List.length j12 + List.length ((impl_endNames_m b.term)) ≤ LIM then
        (some (j12 ++ ((impl_endNames_m b.term))))
        else none)))
set_option maxHeartbeats 8000000 in
set_option maxRecDepth 100000 in
theorem impl_namedBy_sim (b : GBlock) {r : List Int} (hm : impl_namedBy_m b = some r) : Sim Try.prog 79 [.agg (eBlock false b)] [] (.u (.one (.os () 1 (List.map iL r)))) [] := by
  refine sim_st (N := 38) (k0 := 0) Try.func79 rfl rfl rfl rfl (rs := [.tmp 2]) rfl rfl rfl fun B hB0 => ?_
  unfold impl_namedBy_m at hm
  refine Wp.seq ?_
  refine c_reg (Y := sysA _) ?_
  refine n_ (x_bx rfl rfl rfl rfl ?_)
  refine n_ (x_as rfl rfl ?_)
  refine z_ ?_
  refine Wp.seq ?_
  refine c_reg (Y := sysA _) ?_
  refine n_ (x_bsm (enc := iL) (([] : List Int)) A24 rfl rfl rfl rfl ?_)
  refine n_ (x_as rfl rfl ?_)
  refine z_ ?_
  refine Wp.seq ?_
  refine Wp.seq ?_
  refine c_reg (Y := sysA _) ?_
  refine n_ (x_fap rfl F61_0 rfl rfl ?_)
  refine n_ (x_ldp rfl T56 rfl rfl rfl rfl rfl ?_)
  refine n_ (x_lnb N56 rfl fun hL1 => ?_)
  refine n_ (x_mv rfl rfl ?_)
  refine z_ ?_
  refine Wp.block ?_
  obtain ⟨j3, hl9, hm⟩ := of_bind hm
  refine c_loop hl9 (fun (st2 : (List Int) × Int) => St 38 [(1, .u (.one (.ptr () 0 0 0))), (3, .u (.one (.ref () 1 0 (List.length st2.1)))), (10, .u (.one (.bs () 2 (List.map (ePhi false) b.phis)))), (11, .u (.one (.int .i64 ((List.length b.phis : Int))))), (12, .u (.one (.int .i64 st2.2)))] [(0, some ⟨(), 6, [(eBlock false b)]⟩), (1, some ⟨(), 1, List.map iL st2.1⟩)] 2) (fun (j3 : (List Int)) => (.exit 0, St 38 [(1, .u (.one (.ptr () 0 0 0))), (3, .u (.one (.ref () 1 0 (List.length j3))))] [(0, some ⟨(), 6, [(eBlock false b)]⟩), (1, some ⟨(), 1, List.map iL j3⟩)] 2)) (w_ [0, 1] (.cons rfl rfl (.cons (by first | rfl | (simp only [List.length_set]; rfl)) rfl (.cons rfl rfl (.cons rfl rfl (.cons rfl rfl .nil))))) (.lit rfl rfl (.map rfl .nil)) (by decide) (hB_0 hB0)) ?_ (by intro y; simp) ?_
  · intro st2 x hm
    refine Wp.seq ?_
    refine c_reg (Y := sysA _) ?_
    refine n_ (x_bin T3 rfl rfl rfl ?_)
    refine z_ ?_
    refine Wp.seq ?_
    refine c_s rfl rfl (fun hb4 => ?_) (fun hb4 => ?_)
    · rw [if_pos (show _ = true from hb4)] at hm
      refine c_skip ?_
      refine Wp.seq ?_
      refine Wp.block ?_
      refine Wp.seq ?_
      refine c_reg (Y := sysA _) ?_
      obtain ⟨h5, hm⟩ := of_ite hm
      refine n_ (x_ixb E56 rfl rfl h5 ?_)
      refine n_ (x_ldi T63 rfl (pk_all rfl rfl) rfl ?_)
      refine n_ (x_al T63 (r := [.int .i64 0, .nl]) rfl rfl ?_)
      refine n_ (x_st T63 (rows := [(ePhi false (at_ b.phis st2.2))]) rfl rfl rfl rfl rfl rfl rfl rfl ?_)
      refine z_ ?_
      refine c_reg (Y := sysA _) ?_
      refine n_ (x_mv rfl rfl ?_)
      refine n_ (x_fap rfl F63_1 rfl rfl ?_)
      refine n_ (x_ldp rfl T24 rfl rfl rfl rfl rfl ?_)
      obtain ⟨h6, hm⟩ := of_ite hm
      refine n_ (x_apr (enc := iL) (xs := st2.1) (ys := (at_ b.phis st2.2).ins) A24 N24 (encB_N _) rfl rfl rfl (argR_b _) h6 ?_)
      refine n_ (x_as rfl rfl ?_)
      refine z_ ?_
      refine c_reg (Y := sysA _) ?_
      obtain ⟨h7, hm⟩ := of_ite hm
      refine n_ (x_addc T3 rfl rfl h7 ?_)
      refine n_ (x_mv rfl rfl ?_)
      refine z_ ?_
      cases hm
      exact ⟨rfl, w_ [0, 3] (.cons rfl rfl (.cons (by first | rfl | (simp only [List.length_set]; rfl)) rfl (.cons rfl rfl (.cons rfl rfl (.cons rfl rfl .nil))))) (.lit rfl rfl (.map rfl .nil)) (by decide) (hB_0 hB0)⟩
    · rw [if_neg (by rw [hb4]; decide)] at hm
      refine c_exit ?_
      cases hm
      exact ⟨rfl, w_ [0, 1] (.cons rfl rfl (.cons (by first | rfl | (simp only [List.length_set]; rfl)) rfl .nil)) (.lit rfl rfl (.map rfl .nil)) (by decide) (hB_0 hB0)⟩
  · refine Wp.seq ?_
    refine Wp.seq ?_
    refine c_reg (Y := sysA _) ?_
    refine n_ (x_fap rfl F61_1 rfl rfl ?_)
    refine n_ (x_ldp rfl T57 rfl rfl rfl rfl rfl ?_)
    refine n_ (x_lnb N57 rfl fun hL10 => ?_)
    refine n_ (x_mv rfl rfl ?_)
    refine z_ ?_
    refine Wp.block ?_
    obtain ⟨j12, hl20, hm⟩ := of_bind hm
    refine c_loop hl20 (fun (st11 : (List Int) × Int) => St 38 [(1, .u (.one (.ptr () 0 0 0))), (3, .u (.one (.ref () 1 0 (List.length st11.1)))), (22, .u (.one (.bs () 7 (List.map (eInst false) b.insts)))), (23, .u (.one (.int .i64 ((List.length b.insts : Int))))), (24, .u (.one (.int .i64 st11.2)))] [(0, some ⟨(), 6, [(eBlock false b)]⟩), (1, some ⟨(), 1, List.map iL st11.1⟩)] 2) (fun (j12 : (List Int)) => (.exit 2, St 38 [(1, .u (.one (.ptr () 0 0 0))), (3, .u (.one (.ref () 1 0 (List.length j12))))] [(0, some ⟨(), 6, [(eBlock false b)]⟩), (1, some ⟨(), 1, List.map iL j12⟩)] 2)) (w_ [0, 1] (.cons rfl rfl (.cons (by first | rfl | (simp only [List.length_set]; rfl)) rfl (.cons rfl rfl (.cons rfl rfl (.cons rfl rfl .nil))))) (.lit rfl rfl (.map rfl .nil)) (by decide) (hB_0 hB0)) ?_ (by intro y; simp) ?_
    · intro st11 x hm
      refine Wp.seq ?_
      refine c_reg (Y := sysA _) ?_
      refine n_ (x_bin T3 rfl rfl rfl ?_)
      refine z_ ?_
      refine Wp.seq ?_
      refine c_s rfl rfl (fun hb13 => ?_) (fun hb13 => ?_)
      · rw [if_pos (show _ = true from hb13)] at hm
        refine c_skip ?_
        refine Wp.seq ?_
        refine Wp.block ?_
        refine Wp.seq ?_
        refine c_reg (Y := sysA _) ?_
        obtain ⟨h14, hm⟩ := of_ite hm
        refine n_ (x_ixb E57 rfl rfl h14 ?_)
        refine n_ (x_ldi T53 rfl (pk_all rfl rfl) rfl ?_)
        refine n_ (x_al T53 (r := [.int .i64 0, .int .i64 0, .int .i64 0, .int .i64 0, .int .i64 0, .int .i64 0, .nl]) rfl rfl ?_)
        refine n_ (x_st T53 (rows := [(eInst false (at_ b.insts st11.2))]) rfl rfl rfl rfl rfl rfl rfl rfl ?_)
        refine z_ ?_
        refine c_reg (Y := sysA _) ?_
        refine n_ (x_mv rfl rfl ?_)
        refine n_ (x_ldp rfl T53 rfl rfl rfl (pk_all rfl rfl) rfl ?_)
        obtain ⟨x15, h16, hm⟩ := of_bind hm
        refine n_ (aopK_A (x_call (v := .u (.one (.ref () 3 0 (List.length x15)))) (nobs := [(3, ⟨(), 1, List.map iL x15⟩)]) (oa' := _) (nx' := 4) rfl (a_a rfl (c_all rfl) a_n) c_n ent36 (impl_OperandsOf_sim (at_ b.insts st11.2) h16) (by simp only [immFreeV, leavesV, leavesU, List.flatMap_cons, List.flatMap_nil, List.append_nil, List.cons_append, List.nil_append, List.all_cons, List.all_nil, immFreeL, immF_map, Bool.and_true, Bool.and_self]) (by simp only [rootV, rootU, rootLs, rootUs, List.length_map, List.map_cons, List.map_nil]) rfl rfl ?_))
        obtain ⟨h17, hm⟩ := of_ite hm
        refine n_ (x_apr (enc := iL) (xs := st11.1) (ys := x15) A24 N24 (encB_N _) rfl rfl rfl (argR_r rfl) h17 ?_)
        refine n_ (x_as rfl rfl ?_)
        refine z_ ?_
        refine c_reg (Y := sysA _) ?_
        obtain ⟨h18, hm⟩ := of_ite hm
        refine n_ (x_addc T3 rfl rfl h18 ?_)
        refine n_ (x_mv rfl rfl ?_)
        refine z_ ?_
        cases hm
        exact ⟨rfl, w_ [0, 4] (.cons rfl rfl (.cons (by first | rfl | (simp only [List.length_set]; rfl)) rfl (.cons rfl rfl (.cons rfl rfl (.cons rfl rfl .nil))))) (.lit rfl rfl (.map rfl .nil)) (by decide) (hB_0 hB0)⟩
      · rw [if_neg (by rw [hb13]; decide)] at hm
        refine c_exit ?_
        cases hm
        exact ⟨rfl, w_ [0, 1] (.cons rfl rfl (.cons (by first | rfl | (simp only [List.length_set]; rfl)) rfl .nil)) (.lit rfl rfl (.map rfl .nil)) (by decide) (hB_0 hB0)⟩
    · refine Wp.seq ?_
      refine c_reg (Y := sysA _) ?_
      refine n_ (x_mv rfl rfl ?_)
      refine n_ (x_fap rfl F61_2 rfl rfl ?_)
      refine n_ (x_ldp rfl T59 rfl rfl rfl (u := .agg (eTerm b.term)) rfl rfl ?_)
      refine n_ (aopK_A (x_call (v := .u (.one (.ref () 2 0 (List.length ((impl_endNames_m b.term)))))) (nobs := [(2, ⟨(), 1, List.map iL ((impl_endNames_m b.term))⟩)]) (oa' := _) (nx' := 3) rfl (a_a rfl (c_all rfl) a_n) c_n ent110 (impl_endNames_sim b.term) (by simp only [immFreeV, leavesV, leavesU, List.flatMap_cons, List.flatMap_nil, List.append_nil, List.cons_append, List.nil_append, List.all_cons, List.all_nil, immFreeL, immF_map, Bool.and_true, Bool.and_self]) (by simp only [rootV, rootU, rootLs, rootUs, List.length_map, List.map_cons, List.map_nil]) rfl rfl ?_))
      obtain ⟨h21, hm⟩ := of_ite hm
      refine n_ (x_apr (enc := iL) (xs := j12) (ys := (impl_endNames_m b.term)) A24 N24 (encB_N _) rfl rfl rfl (argR_r rfl) h21 ?_)
      refine n_ (x_as rfl rfl ?_)
      refine z_ ?_
      refine c_ret ?_
      rw [← Option.some.inj hm]
      exact ret0 (us' := [.one (.os () 1 (List.map iL (j12 ++ ((impl_endNames_m b.term)))))]) rfl (r_tmp rfl rfl rfl r_nil) ((f_fold 0 0 rfl rfl rfl rfl).trans f_done) rfl rfl

/-- impl.Uses -/
noncomputable def impl_Uses_m (f : GFunc) (id : Int) : Option Int :=
  (Option.bind (loopO (fun (st2 : Int × Int) =>
        ((if decide (st2.1 < ((List.length f.blocks : Int))) = true then
            (if 0 ≤ st2.1 ∧ st2.1 < (List.length f.blocks : Int) then
              (Option.bind (impl_namedBy_m (at_ f.blocks st2.1)) fun x6 =>
                (Option.bind (loopO (fun (st9 : Int × Int) =>
                      ((if decide (st9.1 < ((List.length x6 : Int))) = true then
                        (if 0 ≤ st9.1 ∧ st9.1 < (List.length x6 : Int) then
                        (if ((at_ x6 st9.1) == id) = true then
                        (if inI (st9.2 + 1) then
                        (if inI (st9.1 + 1) then
                        (some (Sum.inl ((st9.1 + 1, st9.2 + 1))))
                        else none)
                        else none)
                        else
                        (if inI (st9.1 + 1) then
                        (some (Sum.inl ((st9.1 + 1, st9.2))))
                        else none))
                        else none)
                        else
                        (some (Sum.inr st9.2))) : Option ((Int × Int) ⊕ (Int)))) (0, st2.2)) fun (j10 : Int) =>
                  (if inI (st2.1 + 1) then
                    (some (Sum.inl ((st2.1 + 1, j10))))
                    else none)))
              else none)
            else
            (some (Sum.inr st2.2))) : Option ((Int × Int) ⊕ (Int)))) (0, 0)) fun (j3 : Int) =>
    (some j3))
set_option maxHeartbeats 8000000 in
set_option maxRecDepth 100000 in
theorem impl_Uses_sim (f : GFunc) (id : Int) {r : Int} (hm : impl_Uses_m f id = some r) : Sim Try.prog 34 [.agg (eFunc false f), .one (.int .i64 id)] [] (.u (.one (.int .i64 r))) [] := by
  refine sim_st (N := 32) (k0 := 0) Try.func34 rfl rfl rfl rfl (rs := [.tmp 4]) rfl rfl rfl fun B hB0 => ?_
  unfold impl_Uses_m at hm
  refine Wp.seq ?_
  refine c_reg (Y := sysA _) ?_
  refine n_ (x_bx rfl rfl rfl rfl ?_)
  refine n_ (x_as rfl rfl ?_)
  refine z_ ?_
  refine Wp.seq ?_
  refine c_reg (Y := sysA _) ?_
  refine n_ (x_as rfl rfl ?_)
  refine z_ ?_
  refine Wp.seq ?_
  refine Wp.seq ?_
  refine c_reg (Y := sysA _) ?_
  refine n_ (x_fap rfl F27_2 rfl rfl ?_)
  refine n_ (x_ldp rfl T25 rfl rfl rfl rfl rfl ?_)
  refine n_ (x_lnb N25 rfl fun hL1 => ?_)
  refine n_ (x_mv rfl rfl ?_)
  refine z_ ?_
  refine Wp.block ?_
  obtain ⟨j3, hl21, hm⟩ := of_bind hm
  refine c_loop hl21 (fun (st2 : Int × Int) => St 32 [(1, .u (.one (.int .i64 id))), (5, .u (.one (.int .i64 st2.2))), (11, .u (.one (.bs () 6 (List.map (eBlock false) f.blocks)))), (12, .u (.one (.int .i64 ((List.length f.blocks : Int))))), (13, .u (.one (.int .i64 st2.1)))] [] 0) (fun (j3 : Int) => (.exit 0, St 32 [(5, .u (.one (.int .i64 j3)))] [] 0)) (w_ [] (.cons rfl rfl (.cons rfl rfl (.cons rfl rfl (.cons rfl rfl (.cons rfl rfl .nil))))) .nil (by decide) (hB_0 hB0)) ?_ (by intro y; simp) ?_
  · intro st2 x hm
    refine Wp.seq ?_
    refine c_reg (Y := sysA _) ?_
    refine n_ (x_bin T3 rfl rfl rfl ?_)
    refine z_ ?_
    refine Wp.seq ?_
    refine c_s rfl rfl (fun hb4 => ?_) (fun hb4 => ?_)
    · rw [if_pos (show _ = true from hb4)] at hm
      refine c_skip ?_
      refine Wp.seq ?_
      refine Wp.block ?_
      refine Wp.seq ?_
      refine c_reg (Y := sysA _) ?_
      obtain ⟨h5, hm⟩ := of_ite hm
      refine n_ (x_ixb E25 rfl rfl h5 ?_)
      refine n_ (x_ldi T61 rfl (pk_all rfl rfl) rfl ?_)
      refine n_ (x_al T61 (r := [.nl, .nl, .int .i64 0, .int .i64 0, .int .i64 0, .int .i64 0]) rfl rfl ?_)
      refine n_ (x_st T61 (rows := [(eBlock false (at_ f.blocks st2.1))]) rfl rfl rfl rfl rfl rfl rfl rfl ?_)
      refine z_ ?_
      refine Wp.seq ?_
      refine c_reg (Y := sysA _) ?_
      refine n_ (x_ldp rfl T61 rfl rfl rfl (pk_all rfl rfl) rfl ?_)
      obtain ⟨x6, h7, hm⟩ := of_bind hm
      refine n_ (aopK_A (x_call (v := .u (.one (.ref () 1 0 (List.length x6)))) (nobs := [(1, ⟨(), 1, List.map iL x6⟩)]) (oa' := _) (nx' := 2) rfl (a_a rfl (c_all rfl) a_n) c_n ent79 (impl_namedBy_sim (at_ f.blocks st2.1) h7) (by simp only [immFreeV, leavesV, leavesU, List.flatMap_cons, List.flatMap_nil, List.append_nil, List.cons_append, List.nil_append, List.all_cons, List.all_nil, immFreeL, immF_map, Bool.and_true, Bool.and_self]) (by simp only [rootV, rootU, rootLs, rootUs, List.length_map, List.map_cons, List.map_nil]) rfl rfl ?_))
      refine n_ (x_lnr rfl N24 rfl rfl fun hL8 => ?_)
      refine n_ (x_mv rfl rfl ?_)
      refine z_ ?_
      refine Wp.block ?_
      obtain ⟨j10, hl18, hm⟩ := of_bind hm
      refine c_loop hl18 (fun (st9 : Int × Int) => St 32 [(1, .u (.one (.int .i64 id))), (5, .u (.one (.int .i64 st9.2))), (11, .u (.one (.bs () 6 (List.map (eBlock false) f.blocks)))), (12, .u (.one (.int .i64 ((List.length f.blocks : Int))))), (13, .u (.one (.int .i64 st2.1))), (18, .u (.one (.ref () 0 0 (List.length x6)))), (19, .u (.one (.int .i64 ((List.length x6 : Int))))), (20, .u (.one (.int .i64 st9.1)))] [(0, some ⟨(), 1, List.map iL x6⟩)] 1) (fun (j10 : Int) => (.exit 2, St 32 [(1, .u (.one (.int .i64 id))), (5, .u (.one (.int .i64 j10))), (11, .u (.one (.bs () 6 (List.map (eBlock false) f.blocks)))), (12, .u (.one (.int .i64 ((List.length f.blocks : Int))))), (13, .u (.one (.int .i64 st2.1)))] [] 0)) (w_ [1] (.cons rfl rfl (.cons rfl rfl (.cons rfl rfl (.cons rfl rfl (.cons rfl rfl (.cons (by first | rfl | (simp only [List.length_set]; rfl)) rfl (.cons rfl rfl (.cons rfl rfl .nil)))))))) (.map rfl .nil) (by decide) (hB_0 hB0)) ?_ (by intro y; simp) ?_
      · intro st9 x hm
        refine Wp.seq ?_
        refine c_reg (Y := sysA _) ?_
        refine n_ (x_bin T3 rfl rfl rfl ?_)
        refine z_ ?_
        refine Wp.seq ?_
        refine c_s rfl rfl (fun hb11 => ?_) (fun hb11 => ?_)
        · rw [if_pos (show _ = true from hb11)] at hm
          refine c_skip ?_
          refine Wp.seq ?_
          refine Wp.block ?_
          refine Wp.seq ?_
          refine c_reg (Y := sysA _) ?_
          obtain ⟨h12, hm⟩ := of_ite hm
          refine n_ (x_ix0 rfl E24 rfl rfl rfl h12 ?_)
          refine n_ (x_ldn rfl T2 rfl rfl h12 rfl rfl ?_)
          refine n_ (x_as rfl rfl ?_)
          refine z_ ?_
          refine Wp.seq ?_
          refine c_reg (Y := sysA _) ?_
          refine n_ (x_mv rfl rfl ?_)
          refine n_ (x_mv rfl rfl ?_)
          refine n_ (x_bin T2 rfl rfl rfl ?_)
          refine z_ ?_
          refine c_s rfl rfl (fun hb13 => ?_) (fun hb13 => ?_)
          · rw [if_pos (show _ = true from hb13)] at hm
            refine c_reg (Y := sysA _) ?_
            refine n_ (x_mv rfl rfl ?_)
            obtain ⟨h14, hm⟩ := of_ite hm
            refine n_ (x_addc T2 rfl rfl h14 ?_)
            refine n_ (x_as rfl rfl ?_)
            refine z_ ?_
            refine c_reg (Y := sysA _) ?_
            obtain ⟨h15, hm⟩ := of_ite hm
            refine n_ (x_addc T3 rfl rfl h15 ?_)
            refine n_ (x_mv rfl rfl ?_)
            refine z_ ?_
            cases hm
            exact ⟨rfl, w_ [0] (.cons rfl rfl (.cons rfl rfl (.cons rfl rfl (.cons rfl rfl (.cons rfl rfl (.cons (by first | rfl | (simp only [List.length_set]; rfl)) rfl (.cons rfl rfl (.cons rfl rfl .nil)))))))) (.map rfl .nil) (by decide) (hB_0 hB0)⟩
          · rw [if_neg (by rw [hb13]; decide)] at hm
            refine c_skip ?_
            refine c_reg (Y := sysA _) ?_
            obtain ⟨h16, hm⟩ := of_ite hm
            refine n_ (x_addc T3 rfl rfl h16 ?_)
            refine n_ (x_mv rfl rfl ?_)
            refine z_ ?_
            cases hm
            exact ⟨rfl, w_ [0] (.cons rfl rfl (.cons rfl rfl (.cons rfl rfl (.cons rfl rfl (.cons rfl rfl (.cons (by first | rfl | (simp only [List.length_set]; rfl)) rfl (.cons rfl rfl (.cons rfl rfl .nil)))))))) (.map rfl .nil) (by decide) (hB_0 hB0)⟩
        · rw [if_neg (by rw [hb11]; decide)] at hm
          refine c_exit ?_
          cases hm
          exact ⟨rfl, w_ [] (.cons rfl rfl (.cons rfl rfl (.cons rfl rfl (.cons rfl rfl (.cons rfl rfl .nil))))) .nil (by decide) (hB_0 hB0)⟩
      · refine c_reg (Y := sysA _) ?_
        obtain ⟨h19, hm⟩ := of_ite hm
        refine n_ (x_addc T3 rfl rfl h19 ?_)
        refine n_ (x_mv rfl rfl ?_)
        refine z_ ?_
        cases hm
        exact ⟨rfl, w_ [] (.cons rfl rfl (.cons rfl rfl (.cons rfl rfl (.cons rfl rfl (.cons rfl rfl .nil))))) .nil (by decide) (hB_0 hB0)⟩
    · rw [if_neg (by rw [hb4]; decide)] at hm
      refine c_exit ?_
      cases hm
      exact ⟨rfl, w_ [] (.cons rfl rfl .nil) .nil (by decide) (hB_0 hB0)⟩
  · refine Wp.seq ?_
    refine c_reg (Y := sysA _) ?_
    refine n_ (x_mv rfl rfl ?_)
    refine n_ (x_as rfl rfl ?_)
    refine z_ ?_
    refine c_ret ?_
    rw [← Option.some.inj hm]
    exact ret0 (us' := [.one (.int .i64 j3)]) rfl (r_tmp rfl rfl rfl r_nil) f_done rfl rfl

/-- spec.l1Bit -/
noncomputable def spec_l1Bit_m (b : Bool) : Int :=
  (if b = true then
    1
    else
    0)
set_option maxHeartbeats 8000000 in
set_option maxRecDepth 100000 in
theorem spec_l1Bit_sim (b : Bool) : Sim Try.prog 82 [.one (.bool b)] [] (.u (.one (.int .i64 ((spec_l1Bit_m b))))) [] := by
  obtain ⟨r, hm⟩ : ∃ r, spec_l1Bit_m b = r := ⟨_, rfl⟩
  rw [hm]
  refine sim_st (N := 4) (k0 := 0) Try.func82 rfl rfl rfl rfl (rs := [.tmp 2]) rfl rfl rfl fun B hB0 => ?_
  unfold spec_l1Bit_m at hm
  refine Wp.seq ?_
  refine c_reg (Y := sysA _) ?_
  refine n_ (x_as rfl rfl ?_)
  refine z_ ?_
  refine Wp.seq ?_
  refine Wp.seq ?_
  refine c_reg (Y := sysA _) ?_
  refine n_ (x_mv rfl rfl ?_)
  refine z_ ?_
  refine c_s rfl rfl (fun hb1 => ?_) (fun hb1 => ?_)
  · rw [if_pos (show _ = true from hb1)] at hm
    refine Wp.seq ?_
    refine c_reg (Y := sysA _) ?_
    refine n_ (x_as rfl rfl ?_)
    refine z_ ?_
    refine c_ret ?_
    rw [← hm]
    exact ret0 (us' := [.one (.int .i64 1)]) rfl (r_tmp rfl rfl rfl r_nil) f_done rfl rfl
  · rw [if_neg (by rw [hb1]; decide)] at hm
    refine c_skip ?_
    refine Wp.seq ?_
    refine c_reg (Y := sysA _) ?_
    refine n_ (x_as rfl rfl ?_)
    refine z_ ?_
    refine c_ret ?_
    rw [← hm]
    exact ret0 (us' := [.one (.int .i64 0)]) rfl (r_tmp rfl rfl rfl r_nil) f_done rfl rfl

/-- spec.l4Count -/
noncomputable def spec_l4Count_m (l : List Int) (id : Int) : Option Int :=
  (Option.bind (loopO (fun (st1 : Int × Int) =>
        ((if decide (st1.2 < ((List.length l : Int))) = true then
            (if 0 ≤ st1.2 ∧ st1.2 < (List.length l : Int) then
              (if inI (st1.2 + 1) then
                (some (Sum.inl ((IntKind.i64.wrap (st1.1 + ((spec_l1Bit_m (((at_ l st1.2) == id))))), st1.2 + 1))))
                else none)
              else none)
            else
            (some (Sum.inr st1.1))) : Option ((Int × Int) ⊕ (Int)))) (0, 0)) fun (j2 : Int) =>
    (some j2))
set_option maxHeartbeats 8000000 in
set_option maxRecDepth 100000 in
theorem spec_l4Count_sim (l : List Int) (id : Int) {r : Int} (hm : spec_l4Count_m l id = some r) : Sim Try.prog 80 [.one (.bs () 1 (List.map iL l)), .one (.int .i64 id)] [] (.u (.one (.int .i64 r))) [] := by
  refine sim_st (N := 23) (k0 := 0) Try.func80 rfl rfl rfl rfl (rs := [.tmp 4]) rfl rfl rfl fun B hB0 => ?_
  unfold spec_l4Count_m at hm
  refine Wp.seq ?_
  refine c_reg (Y := sysA _) ?_
  refine n_ (x_as rfl rfl ?_)
  refine z_ ?_
  refine Wp.seq ?_
  refine c_reg (Y := sysA _) ?_
  refine n_ (x_as rfl rfl ?_)
  refine z_ ?_
  refine Wp.seq ?_
  refine Wp.seq ?_
  refine c_reg (Y := sysA _) ?_
  refine n_ (x_as rfl rfl ?_)
  refine z_ ?_
  refine Wp.block ?_
  obtain ⟨j2, hl8, hm⟩ := of_bind hm
  refine c_loop hl8 (fun (st1 : Int × Int) => St 23 [(0, .u (.one (.bs () 1 (List.map iL l)))), (1, .u (.one (.int .i64 id))), (5, .u (.one (.int .i64 st1.1))), (6, .u (.one (.int .i64 st1.2)))] [] 0) (fun (j2 : Int) => (.exit 0, St 23 [(5, .u (.one (.int .i64 j2)))] [] 0)) (w_ [] (.cons rfl rfl (.cons rfl rfl (.cons rfl rfl (.cons rfl rfl .nil)))) .nil (by decide) (hB_0 hB0)) ?_ (by intro y; simp) ?_
  · intro st1 x hm
    refine Wp.seq ?_
    refine Wp.seq ?_
    refine c_reg (Y := sysA _) ?_
    refine n_ (x_mv rfl rfl ?_)
    refine n_ (x_mv rfl rfl ?_)
    refine n_ (x_lnb N24 rfl fun hL3 => ?_)
    refine n_ (x_bin T3 rfl rfl rfl ?_)
    refine z_ ?_
    refine c_s rfl rfl (fun hb4 => ?_) (fun hb4 => ?_)
    · rw [if_pos (show _ = true from hb4)] at hm
      refine c_skip ?_
      refine Wp.seq ?_
      refine Wp.block ?_
      refine c_reg (Y := sysA _) ?_
      refine n_ (x_mv rfl rfl ?_)
      refine n_ (x_mv rfl rfl ?_)
      refine n_ (x_mv rfl rfl ?_)
      obtain ⟨h5, hm⟩ := of_ite hm
      refine n_ (x_ixb E24 rfl rfl h5 ?_)
      refine n_ (x_ldi T2 rfl rfl rfl ?_)
      refine n_ (x_mv rfl rfl ?_)
      refine n_ (x_bin T2 rfl rfl rfl ?_)
      refine n_ (aopK_A (x_call (v := .u (.one (.int .i64 ((spec_l1Bit_m (((at_ l st1.2) == id))))))) (nobs := []) (oa' := _) (nx' := 0) rfl (a_1 rfl (b_s rfl) a_n) c_n ent82 (spec_l1Bit_sim (((at_ l st1.2) == id))) rfl rfl rfl rfl ?_))
      refine n_ (x_bin T2 rfl rfl rfl ?_)
      refine n_ (x_as rfl rfl ?_)
      refine z_ ?_
      refine c_reg (Y := sysA _) ?_
      refine n_ (x_mv rfl rfl ?_)
      obtain ⟨h6, hm⟩ := of_ite hm
      refine n_ (x_addc T3 rfl rfl h6 ?_)
      refine n_ (x_as rfl rfl ?_)
      refine z_ ?_
      cases hm
      exact ⟨rfl, w_ [] (.cons rfl rfl (.cons rfl rfl (.cons rfl rfl (.cons rfl rfl .nil)))) .nil (by decide) (hB_0 hB0)⟩
    · rw [if_neg (by rw [hb4]; decide)] at hm
      refine c_exit ?_
      cases hm
      exact ⟨rfl, w_ [] (.cons rfl rfl .nil) .nil (by decide) (hB_0 hB0)⟩
  · refine Wp.seq ?_
    refine c_reg (Y := sysA _) ?_
    refine n_ (x_mv rfl rfl ?_)
    refine n_ (x_as rfl rfl ?_)
    refine z_ ?_
    refine c_ret ?_
    rw [← Option.some.inj hm]
    exact ret0 (us' := [.one (.int .i64 j2)]) rfl (r_tmp rfl rfl rfl r_nil) f_done rfl rfl

/-- spec.l1Copy -/
noncomputable def spec_l1Copy_m (l : List Int) : Option (List Int) :=
  (if (List.length (([] : List Int)) + List.length l) * 8 ≤ 140737488355328 ∧ List.length (([] : List Int)) + List.length l ≤ LIM then
    (some ((([] : List Int)) ++ l))
    else none)
set_option maxHeartbeats 8000000 in
set_option maxRecDepth 100000 in
theorem spec_l1Copy_sim (l : List Int) {r : List Int} (hm : spec_l1Copy_m l = some r) : Sim Try.prog 90 [.one (.bs () 1 (List.map iL l))] [] (.u (.one (.os () 1 (List.map iL r)))) [] := by
  refine sim_st (N := 6) (k0 := 0) Try.func90 rfl rfl rfl rfl (rs := [.tmp 2]) rfl rfl rfl fun B hB0 => ?_
  unfold spec_l1Copy_m at hm
  refine Wp.seq ?_
  refine c_reg (Y := sysA _) ?_
  refine n_ (x_as rfl rfl ?_)
  refine z_ ?_
  refine Wp.seq ?_
  refine c_reg (Y := sysA _) ?_
  refine n_ (x_bsm (enc := iL) (([] : List Int)) A24 rfl rfl rfl rfl ?_)
  refine n_ (x_mv rfl rfl ?_)
  obtain ⟨h1, hm⟩ := of_ite hm
  refine n_ (x_apr (enc := iL) (xs := ([] : List Int)) (ys := l) A24 N24 (encB_N _) rfl rfl rfl (argR_b _) h1 ?_)
  refine n_ (x_as rfl rfl ?_)
  refine z_ ?_
  refine c_ret ?_
  rw [← Option.some.inj hm]
  exact ret0 (us' := [.one (.os () 1 (List.map iL ((([] : List Int)) ++ l)))]) rfl (r_tmp rfl rfl rfl r_nil) ((f_fold 0 0 rfl rfl rfl rfl).trans f_done) rfl rfl

/-- spec.l2Operands -/
noncomputable def spec_l2Operands_m (i : GInst) : Option (List Int) :=
  (if ((spec_l1In_m i.op_ 1 17) || (i.op_ == 24)) = true then
    (some ([i.a, i.b]))
    else
    (if ((spec_l1In_m i.op_ 18 20) || ((i.op_ == 23) || ((i.op_ == 25) || (i.op_ == 27)))) = true then
      (some ([i.a]))
      else
      (if (i.op_ == 22) = true then
        (some ([i.a, i.b, i.c]))
        else
        (if (i.op_ == 26) = true then
          (Option.bind (spec_l1Copy_m i.args) fun x11 =>
            (some x11))
          else
          (some (([] : List Int)))))))
set_option maxHeartbeats 8000000 in
set_option maxRecDepth 100000 in
theorem spec_l2Operands_sim (i : GInst) {r : List Int} (hm : spec_l2Operands_m i = some r) : Sim Try.prog 81 [.agg (eInst false i)] [] (.u (.one (.os () 1 (List.map iL r)))) [] := by
  refine sim_st (N := 50) (k0 := 0) Try.func81 rfl rfl rfl rfl (rs := [.tmp 2]) rfl rfl rfl fun B hB0 => ?_
  unfold spec_l2Operands_m at hm
  refine Wp.seq ?_
  refine c_reg (Y := sysA _) ?_
  refine n_ (x_bx rfl rfl rfl rfl ?_)
  refine n_ (x_as rfl rfl ?_)
  refine z_ ?_
  refine Wp.seq ?_
  refine Wp.block ?_
  refine Wp.seq ?_
  refine c_cut (St 50 [(1, .u (.one (.ptr () 0 0 0))), (3, .u (.one (.bool (((spec_l1In_m i.op_ 1 17) || (i.op_ == 24))))))] [(0, some ⟨(), 7, [(eInst false i)]⟩)] 1) ?_ ?_
  · refine Wp.seq ?_
    refine c_reg (Y := sysA _) ?_
    refine n_ (x_fap rfl F53_0 rfl rfl ?_)
    refine n_ (x_ldp rfl T2 rfl rfl rfl rfl rfl ?_)
    refine n_ (aopK_A (x_call (v := .u (.one (.bool ((spec_l1In_m i.op_ 1 17))))) (nobs := []) (oa' := _) (nx' := 1) rfl (a_1 rfl (b_s rfl) (a_1 rfl (b_s rfl) (a_1 rfl (b_s rfl) a_n))) c_n ent49 (spec_l1In_sim i.op_ 1 17) rfl rfl rfl rfl ?_))
    refine n_ (x_as rfl rfl ?_)
    refine z_ ?_
    refine c_s rfl rfl (fun hb2 => ?_) (fun hb2 => ?_)
    · refine c_skip ?_
      exact w_ [0] (.cons rfl rfl (.cons (by simp only [hb2, eq_self, if_true, Bool.false_eq_true, if_false, Bool.true_or, Bool.false_or, Bool.true_and, Bool.false_and, Bool.not_true, Bool.not_false]; rfl) rfl .nil)) (.lit rfl rfl .nil) (by decide) (hB_0 hB0)
    · refine c_reg (Y := sysA _) ?_
      refine n_ (x_fap rfl F53_0 rfl rfl ?_)
      refine n_ (x_ldp rfl T2 rfl rfl rfl rfl rfl ?_)
      refine n_ (x_bin T2 rfl rfl rfl ?_)
      refine n_ (x_as rfl rfl ?_)
      refine z_ ?_
      exact w_ [0] (.cons rfl rfl (.cons (by simp only [hb2, eq_self, if_true, Bool.false_eq_true, if_false, Bool.true_or, Bool.false_or, Bool.true_and, Bool.false_and, Bool.not_true, Bool.not_false]; rfl) rfl .nil)) (.lit rfl rfl .nil) (by decide) (hB_0 hB0)
  · refine c_s rfl rfl (fun hb3 => ?_) (fun hb3 => ?_)
    · rw [if_pos (show _ = true from hb3)] at hm
      refine Wp.seq ?_
      refine c_reg (Y := sysA _) ?_
      refine n_ (x_fap rfl F53_2 rfl rfl ?_)
      refine n_ (x_ldp rfl T2 rfl rfl rfl rfl rfl ?_)
      refine n_ (x_fap rfl F53_3 rfl rfl ?_)
      refine n_ (x_ldp rfl T2 rfl rfl rfl rfl rfl ?_)
      refine n_ (x_bsm (enc := iL) ([i.a, i.b]) A24 rfl rfl rfl rfl ?_)
      refine n_ (x_as rfl rfl ?_)
      refine z_ ?_
      refine c_ret ?_
      rw [← Option.some.inj hm]
      exact ret0 (us' := [.one (.os () 1 (List.map iL ([i.a, i.b])))]) rfl (r_tmp rfl rfl rfl r_nil) ((f_fold 0 0 rfl rfl rfl rfl).trans f_done) rfl rfl
    · rw [if_neg (by rw [hb3]; decide)] at hm
      refine Wp.seq ?_
      refine c_cut (St 50 [(1, .u (.one (.ptr () 0 0 0))), (15, .u (.one (.bool (((spec_l1In_m i.op_ 18 20) || ((i.op_ == 23) || ((i.op_ == 25) || (i.op_ == 27))))))))] [(0, some ⟨(), 7, [(eInst false i)]⟩)] 1) ?_ ?_
      · refine Wp.seq ?_
        refine c_reg (Y := sysA _) ?_
        refine n_ (x_fap rfl F53_0 rfl rfl ?_)
        refine n_ (x_ldp rfl T2 rfl rfl rfl rfl rfl ?_)
        refine n_ (aopK_A (x_call (v := .u (.one (.bool ((spec_l1In_m i.op_ 18 20))))) (nobs := []) (oa' := _) (nx' := 1) rfl (a_1 rfl (b_s rfl) (a_1 rfl (b_s rfl) (a_1 rfl (b_s rfl) a_n))) c_n ent49 (spec_l1In_sim i.op_ 18 20) rfl rfl rfl rfl ?_))
        refine n_ (x_as rfl rfl ?_)
        refine z_ ?_
        refine c_s rfl rfl (fun hb5 => ?_) (fun hb5 => ?_)
        · refine c_skip ?_
          exact w_ [0] (.cons rfl rfl (.cons (by simp only [hb5, eq_self, if_true, Bool.false_eq_true, if_false, Bool.true_or, Bool.false_or, Bool.true_and, Bool.false_and, Bool.not_true, Bool.not_false]; rfl) rfl .nil)) (.lit rfl rfl .nil) (by decide) (hB_0 hB0)
        · refine Wp.seq ?_
          refine c_reg (Y := sysA _) ?_
          refine n_ (x_fap rfl F53_0 rfl rfl ?_)
          refine n_ (x_ldp rfl T2 rfl rfl rfl rfl rfl ?_)
          refine n_ (x_bin T2 rfl rfl rfl ?_)
          refine n_ (x_as rfl rfl ?_)
          refine z_ ?_
          refine c_s rfl rfl (fun hb6 => ?_) (fun hb6 => ?_)
          · refine c_skip ?_
            exact w_ [0] (.cons rfl rfl (.cons (by simp only [hb5, hb6, eq_self, if_true, Bool.false_eq_true, if_false, Bool.true_or, Bool.false_or, Bool.true_and, Bool.false_and, Bool.not_true, Bool.not_false]; rfl) rfl .nil)) (.lit rfl rfl .nil) (by decide) (hB_0 hB0)
          · refine Wp.seq ?_
            refine c_reg (Y := sysA _) ?_
            refine n_ (x_fap rfl F53_0 rfl rfl ?_)
            refine n_ (x_ldp rfl T2 rfl rfl rfl rfl rfl ?_)
            refine n_ (x_bin T2 rfl rfl rfl ?_)
            refine n_ (x_as rfl rfl ?_)
            refine z_ ?_
            refine c_s rfl rfl (fun hb7 => ?_) (fun hb7 => ?_)
            · refine c_skip ?_
              exact w_ [0] (.cons rfl rfl (.cons (by simp only [hb5, hb6, hb7, eq_self, if_true, Bool.false_eq_true, if_false, Bool.true_or, Bool.false_or, Bool.true_and, Bool.false_and, Bool.not_true, Bool.not_false]; rfl) rfl .nil)) (.lit rfl rfl .nil) (by decide) (hB_0 hB0)
            · refine c_reg (Y := sysA _) ?_
              refine n_ (x_fap rfl F53_0 rfl rfl ?_)
              refine n_ (x_ldp rfl T2 rfl rfl rfl rfl rfl ?_)
              refine n_ (x_bin T2 rfl rfl rfl ?_)
              refine n_ (x_as rfl rfl ?_)
              refine z_ ?_
              exact w_ [0] (.cons rfl rfl (.cons (by simp only [hb5, hb6, hb7, eq_self, if_true, Bool.false_eq_true, if_false, Bool.true_or, Bool.false_or, Bool.true_and, Bool.false_and, Bool.not_true, Bool.not_false]; rfl) rfl .nil)) (.lit rfl rfl .nil) (by decide) (hB_0 hB0)
      · refine c_s rfl rfl (fun hb8 => ?_) (fun hb8 => ?_)
        · rw [if_pos (show _ = true from hb8)] at hm
          refine Wp.seq ?_
          refine c_reg (Y := sysA _) ?_
          refine n_ (x_fap rfl F53_2 rfl rfl ?_)
          refine n_ (x_ldp rfl T2 rfl rfl rfl rfl rfl ?_)
          refine n_ (x_bsm (enc := iL) ([i.a]) A24 rfl rfl rfl rfl ?_)
          refine n_ (x_as rfl rfl ?_)
          refine z_ ?_
          refine c_ret ?_
          rw [← Option.some.inj hm]
          exact ret0 (us' := [.one (.os () 1 (List.map iL ([i.a])))]) rfl (r_tmp rfl rfl rfl r_nil) ((f_fold 0 0 rfl rfl rfl rfl).trans f_done) rfl rfl
        · rw [if_neg (by rw [hb8]; decide)] at hm
          refine Wp.seq ?_
          refine c_reg (Y := sysA _) ?_
          refine n_ (x_fap rfl F53_0 rfl rfl ?_)
          refine n_ (x_ldp rfl T2 rfl rfl rfl rfl rfl ?_)
          refine n_ (x_bin T2 rfl rfl rfl ?_)
          refine n_ (x_as rfl rfl ?_)
          refine z_ ?_
          refine c_s rfl rfl (fun hb9 => ?_) (fun hb9 => ?_)
          · rw [if_pos (show _ = true from hb9)] at hm
            refine Wp.seq ?_
            refine c_reg (Y := sysA _) ?_
            refine n_ (x_fap rfl F53_2 rfl rfl ?_)
            refine n_ (x_ldp rfl T2 rfl rfl rfl rfl rfl ?_)
            refine n_ (x_fap rfl F53_3 rfl rfl ?_)
            refine n_ (x_ldp rfl T2 rfl rfl rfl rfl rfl ?_)
            refine n_ (x_fap rfl F53_4 rfl rfl ?_)
            refine n_ (x_ldp rfl T2 rfl rfl rfl rfl rfl ?_)
            refine n_ (x_bsm (enc := iL) ([i.a, i.b, i.c]) A24 rfl rfl rfl rfl ?_)
            refine n_ (x_as rfl rfl ?_)
            refine z_ ?_
            refine c_ret ?_
            rw [← Option.some.inj hm]
            exact ret0 (us' := [.one (.os () 1 (List.map iL ([i.a, i.b, i.c])))]) rfl (r_tmp rfl rfl rfl r_nil) ((f_fold 0 0 rfl rfl rfl rfl).trans f_done) rfl rfl
          · rw [if_neg (by rw [hb9]; decide)] at hm
            refine Wp.seq ?_
            refine c_reg (Y := sysA _) ?_
            refine n_ (x_fap rfl F53_0 rfl rfl ?_)
            refine n_ (x_ldp rfl T2 rfl rfl rfl rfl rfl ?_)
            refine n_ (x_bin T2 rfl rfl rfl ?_)
            refine n_ (x_as rfl rfl ?_)
            refine z_ ?_
            refine c_s rfl rfl (fun hb10 => ?_) (fun hb10 => ?_)
            · rw [if_pos (show _ = true from hb10)] at hm
              refine Wp.seq ?_
              refine c_reg (Y := sysA _) ?_
              refine n_ (x_fap rfl F53_6 rfl rfl ?_)
              refine n_ (x_ldp rfl T24 rfl rfl rfl rfl rfl ?_)
              obtain ⟨x11, h12, hm⟩ := of_bind hm
              refine n_ (aopK_A (x_call (v := .u (.one (.ref () 1 0 (List.length x11)))) (nobs := [(1, ⟨(), 1, List.map iL x11⟩)]) (oa' := _) (nx' := 2) rfl (a_1 rfl (b_s rfl) a_n) c_n ent90 (spec_l1Copy_sim i.args h12) (by simp only [immFreeV, leavesV, leavesU, List.flatMap_cons, List.flatMap_nil, List.append_nil, List.cons_append, List.nil_append, List.all_cons, List.all_nil, immFreeL, immF_map, Bool.and_true, Bool.and_self]) (by simp only [rootV, rootU, rootLs, rootUs, List.length_map, List.map_cons, List.map_nil]) rfl rfl ?_))
              refine n_ (x_as rfl rfl ?_)
              refine z_ ?_
              refine c_ret ?_
              rw [← Option.some.inj hm]
              exact ret0 (us' := [.one (.os () 1 (List.map iL x11))]) rfl (r_tmp rfl rfl rfl r_nil) ((f_fold 0 0 rfl rfl rfl rfl).trans f_done) rfl rfl
            · rw [if_neg (by rw [hb10]; decide)] at hm
              refine c_skip ?_
              refine Wp.seq ?_
              refine c_reg (Y := sysA _) ?_
              refine n_ (x_bsm (enc := iL) (([] : List Int)) A24 rfl rfl rfl rfl ?_)
              refine n_ (x_as rfl rfl ?_)
              refine z_ ?_
              refine c_ret ?_
              rw [← Option.some.inj hm]
              exact ret0 (us' := [.one (.os () 1 (List.map iL (([] : List Int))))]) rfl (r_tmp rfl rfl rfl r_nil) ((f_fold 0 0 rfl rfl rfl rfl).trans f_done) rfl rfl

/-- spec.Uses -/
noncomputable def spec_Uses_m (f : GFunc) (id : Int) : Option Int :=
  (Option.bind (loopO (fun (st1 : Int × Int) =>
        ((if decide (st1.2 < ((List.length f.blocks : Int))) = true then
            (if 0 ≤ st1.2 ∧ st1.2 < (List.length f.blocks : Int) then
              (Option.bind (loopO (fun (st6 : Int × Int) =>
                    ((if decide (st6.2 < ((List.length ((at_ f.blocks st1.2).phis) : Int))) = true then
                        (if 0 ≤ st6.2 ∧ st6.2 < (List.length ((at_ f.blocks st1.2).phis) : Int) then
                        (Option.bind (spec_l4Count_m ((at_ ((at_ f.blocks st1.2).phis) st6.2).ins) id) fun x11 =>
                        (if inI (st6.2 + 1) then
                        (some (Sum.inl ((IntKind.i64.wrap (st6.1 + x11), st6.2 + 1))))
                        else none))
                        else none)
                        else
                        (some (Sum.inr st6.1))) : Option ((Int × Int) ⊕ (Int)))) (st1.1, 0)) fun (j7 : Int) =>
                (Option.bind (loopO (fun (st16 : Int × Int) =>
                      ((if decide (st16.2 < ((List.length ((at_ f.blocks st1.2).insts) : Int))) = true then
                        (if 0 ≤ st16.2 ∧ st16.2 < (List.length ((at_ f.blocks st1.2).insts) : Int) then
                        (Option.bind (spec_l2Operands_m (at_ ((at_ f.blocks st1.2).insts) st16.2)) fun x21 =>
                        (Option.bind (spec_l4Count_m x21 id) fun x23 =>
                        (if inI (st16.2 + 1) then
                        (some (Sum.inl ((IntKind.i64.wrap (st16.1 + x23), st16.2 + 1))))
                        else none)))
                        else none)
                        else
                        (some (Sum.inr st16.1))) : Option ((Int × Int) ⊕ (Int)))) (j7, 0)) fun (j17 : Int) =>
                  (if inI (st1.2 + 1) then
                    (some (Sum.inl (((if ((((at_ f.blocks st1.2).term).kind) == 1) = true then IntKind.i64.wrap (j17 + ((spec_l1Bit_m (((((at_ f.blocks st1.2).term).a) == id))))) else (if ((((at_ f.blocks st1.2).term).kind) == 3) = true then IntKind.i64.wrap (j17 + ((spec_l1Bit_m (((((at_ f.blocks st1.2).term).a) == id))))) else IntKind.i64.wrap (j17 + ((spec_l1Bit_m false))))), st1.2 + 1))))
                    else none)))
              else none)
            else
            (some (Sum.inr st1.1))) : Option ((Int × Int) ⊕ (Int)))) (0, 0)) fun (j2 : Int) =>
    (some j2))
set_option maxHeartbeats 8000000 in
set_option maxRecDepth 100000 in
theorem spec_Uses_sim (f : GFunc) (id : Int) {r : Int} (hm : spec_Uses_m f id = some r) : Sim Try.prog 35 [.agg (eFunc false f), .one (.int .i64 id)] [] (.u (.one (.int .i64 r))) [] := by
  refine sim_st (N := 77) (k0 := 0) Try.func35 rfl rfl rfl rfl (rs := [.tmp 4]) rfl rfl rfl fun B hB0 => ?_
  unfold spec_Uses_m at hm
  refine Wp.seq ?_
  refine c_reg (Y := sysA _) ?_
  refine n_ (x_bx rfl rfl rfl rfl ?_)
  refine n_ (x_as rfl rfl ?_)
  refine z_ ?_
  refine Wp.seq ?_
  refine c_reg (Y := sysA _) ?_
  refine n_ (x_as rfl rfl ?_)
  refine z_ ?_
  refine Wp.seq ?_
  refine Wp.seq ?_
  refine c_reg (Y := sysA _) ?_
  refine n_ (x_as rfl rfl ?_)
  refine z_ ?_
  refine Wp.block ?_
  obtain ⟨j2, hl33, hm⟩ := of_bind hm
  refine c_loop hl33 (fun (st1 : Int × Int) => St 77 [(1, .u (.one (.int .i64 id))), (2, .u (.one (.ptr () 0 0 0))), (5, .u (.one (.int .i64 st1.1))), (6, .u (.one (.int .i64 st1.2)))] [(0, some ⟨(), 3, [(eFunc false f)]⟩)] 1) (fun (j2 : Int) => (.exit 0, St 77 [(5, .u (.one (.int .i64 j2)))] [] 0)) (w_ [0] (.cons rfl rfl (.cons rfl rfl (.cons rfl rfl (.cons rfl rfl .nil)))) (.lit rfl rfl .nil) (by decide) (hB_0 hB0)) ?_ (by intro y; simp) ?_
  · intro st1 x hm
    refine Wp.seq ?_
    refine Wp.seq ?_
    refine c_reg (Y := sysA _) ?_
    refine n_ (x_mv rfl rfl ?_)
    refine n_ (x_fap rfl F27_2 rfl rfl ?_)
    refine n_ (x_ldp rfl T25 rfl rfl rfl rfl rfl ?_)
    refine n_ (x_lnb N25 rfl fun hL3 => ?_)
    refine n_ (x_bin T3 rfl rfl rfl ?_)
    refine z_ ?_
    refine c_s rfl rfl (fun hb4 => ?_) (fun hb4 => ?_)
    · rw [if_pos (show _ = true from hb4)] at hm
      refine c_skip ?_
      refine Wp.seq ?_
      refine Wp.block ?_
      refine Wp.seq ?_
      refine c_reg (Y := sysA _) ?_
      refine n_ (x_fap rfl F27_2 rfl rfl ?_)
      refine n_ (x_ldp rfl T25 rfl rfl rfl rfl rfl ?_)
      refine n_ (x_mv rfl rfl ?_)
      obtain ⟨h5, hm⟩ := of_ite hm
      refine n_ (x_ixb E25 rfl rfl h5 ?_)
      refine n_ (x_ldi T61 rfl (pk_all rfl rfl) rfl ?_)
      refine n_ (x_al T61 (r := [.nl, .nl, .int .i64 0, .int .i64 0, .int .i64 0, .int .i64 0]) rfl rfl ?_)
      refine n_ (x_st T61 (rows := [(eBlock false (at_ f.blocks st1.2))]) rfl rfl rfl rfl rfl rfl rfl rfl ?_)
      refine z_ ?_
      refine Wp.seq ?_
      refine Wp.seq ?_
      refine c_reg (Y := sysA _) ?_
      refine n_ (x_as rfl rfl ?_)
      refine z_ ?_
      refine Wp.block ?_
      obtain ⟨j7, hl15, hm⟩ := of_bind hm
      refine c_loop hl15 (fun (st6 : Int × Int) => St 77 [(1, .u (.one (.int .i64 id))), (2, .u (.one (.ptr () 0 0 0))), (5, .u (.one (.int .i64 st6.1))), (6, .u (.one (.int .i64 st1.2))), (7, .u (.one (.ptr () 1 0 0))), (8, .u (.one (.int .i64 st6.2)))] [(0, some ⟨(), 3, [(eFunc false f)]⟩), (1, some ⟨(), 6, [(eBlock false (at_ f.blocks st1.2))]⟩)] 2) (fun (j7 : Int) => (.exit 2, St 77 [(1, .u (.one (.int .i64 id))), (2, .u (.one (.ptr () 0 0 0))), (5, .u (.one (.int .i64 j7))), (6, .u (.one (.int .i64 st1.2))), (7, .u (.one (.ptr () 1 0 0)))] [(0, some ⟨(), 3, [(eFunc false f)]⟩), (1, some ⟨(), 6, [(eBlock false (at_ f.blocks st1.2))]⟩)] 2)) (w_ [0, 1] (.cons rfl rfl (.cons rfl rfl (.cons rfl rfl (.cons rfl rfl (.cons rfl rfl (.cons rfl rfl .nil)))))) (.lit rfl rfl (.lit rfl rfl .nil)) (by decide) (hB_0 hB0)) ?_ (by intro y; simp) ?_
      · intro st6 x hm
        refine Wp.seq ?_
        refine Wp.seq ?_
        refine c_reg (Y := sysA _) ?_
        refine n_ (x_mv rfl rfl ?_)
        refine n_ (x_fap rfl F61_0 rfl rfl ?_)
        refine n_ (x_ldp rfl T56 rfl rfl rfl rfl rfl ?_)
        refine n_ (x_lnb N56 rfl fun hL8 => ?_)
        refine n_ (x_bin T3 rfl rfl rfl ?_)
        refine z_ ?_
        refine c_s rfl rfl (fun hb9 => ?_) (fun hb9 => ?_)
        · rw [if_pos (show _ = true from hb9)] at hm
          refine c_skip ?_
          refine Wp.seq ?_
          refine Wp.block ?_
          refine c_reg (Y := sysA _) ?_
          refine n_ (x_mv rfl rfl ?_)
          refine n_ (x_fap rfl F61_0 rfl rfl ?_)
          refine n_ (x_ldp rfl T56 rfl rfl rfl rfl rfl ?_)
          refine n_ (x_mv rfl rfl ?_)
          obtain ⟨h10, hm⟩ := of_ite hm
          refine n_ (x_ixb E56 rfl rfl h10 ?_)
          refine n_ (x_fai F63_1 rfl ?_)
          refine n_ (x_ldi T24 rfl rfl rfl ?_)
          refine n_ (x_mv rfl rfl ?_)
          obtain ⟨x11, h12, hm⟩ := of_bind hm
          refine n_ (aopK_A (x_call (v := .u (.one (.int .i64 x11))) (nobs := []) (oa' := _) (nx' := 2) rfl (a_1 rfl (b_s rfl) (a_1 rfl (b_s rfl) a_n)) c_n ent80 (spec_l4Count_sim ((at_ ((at_ f.blocks st1.2).phis) st6.2).ins) id h12) rfl rfl rfl rfl ?_))
          refine n_ (x_bin T2 rfl rfl rfl ?_)
          refine n_ (x_as rfl rfl ?_)
          refine z_ ?_
          refine c_reg (Y := sysA _) ?_
          refine n_ (x_mv rfl rfl ?_)
          obtain ⟨h13, hm⟩ := of_ite hm
          refine n_ (x_addc T3 rfl rfl h13 ?_)
          refine n_ (x_as rfl rfl ?_)
          refine z_ ?_
          cases hm
          exact ⟨rfl, w_ [0, 1] (.cons rfl rfl (.cons rfl rfl (.cons rfl rfl (.cons rfl rfl (.cons rfl rfl (.cons rfl rfl .nil)))))) (.lit rfl rfl (.lit rfl rfl .nil)) (by decide) (hB_0 hB0)⟩
        · rw [if_neg (by rw [hb9]; decide)] at hm
          refine c_exit ?_
          cases hm
          exact ⟨rfl, w_ [0, 1] (.cons rfl rfl (.cons rfl rfl (.cons rfl rfl (.cons rfl rfl (.cons rfl rfl .nil))))) (.lit rfl rfl (.lit rfl rfl .nil)) (by decide) (hB_0 hB0)⟩
      · refine Wp.seq ?_
        refine Wp.seq ?_
        refine c_reg (Y := sysA _) ?_
        refine n_ (x_as rfl rfl ?_)
        refine z_ ?_
        refine Wp.block ?_
        obtain ⟨j17, hl27, hm⟩ := of_bind hm
        refine c_loop hl27 (fun (st16 : Int × Int) => St 77 [(1, .u (.one (.int .i64 id))), (2, .u (.one (.ptr () 0 0 0))), (5, .u (.one (.int .i64 st16.1))), (6, .u (.one (.int .i64 st1.2))), (7, .u (.one (.ptr () 1 0 0))), (9, .u (.one (.int .i64 st16.2)))] [(0, some ⟨(), 3, [(eFunc false f)]⟩), (1, some ⟨(), 6, [(eBlock false (at_ f.blocks st1.2))]⟩)] 2) (fun (j17 : Int) => (.exit 4, St 77 [(1, .u (.one (.int .i64 id))), (2, .u (.one (.ptr () 0 0 0))), (5, .u (.one (.int .i64 j17))), (6, .u (.one (.int .i64 st1.2))), (7, .u (.one (.ptr () 1 0 0)))] [(0, some ⟨(), 3, [(eFunc false f)]⟩), (1, some ⟨(), 6, [(eBlock false (at_ f.blocks st1.2))]⟩)] 2)) (w_ [0, 1] (.cons rfl rfl (.cons rfl rfl (.cons rfl rfl (.cons rfl rfl (.cons rfl rfl (.cons rfl rfl .nil)))))) (.lit rfl rfl (.lit rfl rfl .nil)) (by decide) (hB_0 hB0)) ?_ (by intro y; simp) ?_
        · intro st16 x hm
          refine Wp.seq ?_
          refine Wp.seq ?_
          refine c_reg (Y := sysA _) ?_
          refine n_ (x_mv rfl rfl ?_)
          refine n_ (x_fap rfl F61_1 rfl rfl ?_)
          refine n_ (x_ldp rfl T57 rfl rfl rfl rfl rfl ?_)
          refine n_ (x_lnb N57 rfl fun hL18 => ?_)
          refine n_ (x_bin T3 rfl rfl rfl ?_)
          refine z_ ?_
          refine c_s rfl rfl (fun hb19 => ?_) (fun hb19 => ?_)
          · rw [if_pos (show _ = true from hb19)] at hm
            refine c_skip ?_
            refine Wp.seq ?_
            refine Wp.block ?_
            refine c_reg (Y := sysA _) ?_
            refine n_ (x_mv rfl rfl ?_)
            refine n_ (x_fap rfl F61_1 rfl rfl ?_)
            refine n_ (x_ldp rfl T57 rfl rfl rfl rfl rfl ?_)
            refine n_ (x_mv rfl rfl ?_)
            obtain ⟨h20, hm⟩ := of_ite hm
            refine n_ (x_ixb E57 rfl rfl h20 ?_)
            refine n_ (x_ldi T53 rfl (pk_all rfl rfl) rfl ?_)
            obtain ⟨x21, h22, hm⟩ := of_bind hm
            refine n_ (aopK_A (x_call (v := .u (.one (.ref () 2 0 (List.length x21)))) (nobs := [(2, ⟨(), 1, List.map iL x21⟩)]) (oa' := _) (nx' := 3) rfl (a_a rfl (c_all rfl) a_n) c_n ent81 (spec_l2Operands_sim (at_ ((at_ f.blocks st1.2).insts) st16.2) h22) (by simp only [immFreeV, leavesV, leavesU, List.flatMap_cons, List.flatMap_nil, List.append_nil, List.cons_append, List.nil_append, List.all_cons, List.all_nil, immFreeL, immF_map, Bool.and_true, Bool.and_self]) (by simp only [rootV, rootU, rootLs, rootUs, List.length_map, List.map_cons, List.map_nil]) rfl rfl ?_))
            refine n_ (x_mv rfl rfl ?_)
            obtain ⟨x23, h24, hm⟩ := of_bind hm
            refine n_ (aopK_A (x_call (v := .u (.one (.int .i64 x23))) (nobs := []) (oa' := _) (nx' := 3) rfl (a_1 rfl (b_r rfl) (a_1 rfl (b_s rfl) a_n)) c_n ent80 (spec_l4Count_sim x21 id h24) rfl rfl rfl rfl ?_))
            refine n_ (x_bin T2 rfl rfl rfl ?_)
            refine n_ (x_as rfl rfl ?_)
            refine z_ ?_
            refine c_reg (Y := sysA _) ?_
            refine n_ (x_mv rfl rfl ?_)
            obtain ⟨h25, hm⟩ := of_ite hm
            refine n_ (x_addc T3 rfl rfl h25 ?_)
            refine n_ (x_as rfl rfl ?_)
            refine z_ ?_
            cases hm
            exact ⟨rfl, w_ [0, 1] (.cons rfl rfl (.cons rfl rfl (.cons rfl rfl (.cons rfl rfl (.cons rfl rfl (.cons rfl rfl .nil)))))) (.lit rfl rfl (.lit rfl rfl .nil)) (by decide) (hB_0 hB0)⟩
          · rw [if_neg (by rw [hb19]; decide)] at hm
            refine c_exit ?_
            cases hm
            exact ⟨rfl, w_ [0, 1] (.cons rfl rfl (.cons rfl rfl (.cons rfl rfl (.cons rfl rfl (.cons rfl rfl .nil))))) (.lit rfl rfl (.lit rfl rfl .nil)) (by decide) (hB_0 hB0)⟩
        · refine c_cut (St 77 [(1, .u (.one (.int .i64 id))), (2, .u (.one (.ptr () 0 0 0))), (5, .u (.one (.int .i64 ((if ((((at_ f.blocks st1.2).term).kind) == 1) = true then IntKind.i64.wrap (j17 + ((spec_l1Bit_m (((((at_ f.blocks st1.2).term).a) == id))))) else (if ((((at_ f.blocks st1.2).term).kind) == 3) = true then IntKind.i64.wrap (j17 + ((spec_l1Bit_m (((((at_ f.blocks st1.2).term).a) == id))))) else IntKind.i64.wrap (j17 + ((spec_l1Bit_m false))))))))), (6, .u (.one (.int .i64 st1.2)))] [(0, some ⟨(), 3, [(eFunc false f)]⟩), (1, some ⟨(), 6, [(eBlock false (at_ f.blocks st1.2))]⟩)] 2) ?_ ?_
          · refine c_reg (Y := sysA _) ?_
            refine n_ (x_mv rfl rfl ?_)
            refine n_ (x_fap rfl F61_2 rfl rfl ?_)
            refine n_ (x_fap rfl F59_0 rfl rfl ?_)
            refine n_ (x_ldp rfl T2 rfl rfl rfl rfl rfl ?_)
            refine n_ (x_bin T2 rfl rfl rfl ?_)
            refine n_ (x_mv rfl rfl ?_)
            refine g_s rfl rfl rfl (fun hb29 => ?_) (fun hb29 => ?_)
            · refine g_t rfl rfl rfl ?_
              refine n_ (x_fap rfl F61_2 rfl rfl ?_)
              refine g_t rfl rfl rfl ?_
              refine n_ (x_fap rfl F59_0 rfl rfl ?_)
              refine g_t rfl rfl rfl ?_
              refine n_ (x_ldp rfl T2 rfl rfl rfl rfl rfl ?_)
              refine g_t rfl rfl rfl ?_
              refine n_ (x_bin T2 rfl rfl rfl ?_)
              refine n_ (x_pk rfl rfl rfl ?_)
              refine n_ (x_mv rfl rfl ?_)
              refine g_s rfl rfl rfl (fun hb30 => ?_) (fun hb30 => ?_)
              · refine g_t rfl rfl rfl ?_
                refine n_ (x_fap rfl F61_2 rfl rfl ?_)
                refine g_t rfl rfl rfl ?_
                refine n_ (x_fap rfl F59_1 rfl rfl ?_)
                refine g_t rfl rfl rfl ?_
                refine n_ (x_ldp rfl T2 rfl rfl rfl rfl rfl ?_)
                refine g_t rfl rfl rfl ?_
                refine n_ (x_mv rfl rfl ?_)
                refine g_t rfl rfl rfl ?_
                refine n_ (x_bin T2 rfl rfl rfl ?_)
                refine n_ (x_pk rfl rfl rfl ?_)
                refine n_ (aopK_A (x_call (v := .u (.one (.int .i64 ((spec_l1Bit_m (((((at_ f.blocks st1.2).term).a) == id))))))) (nobs := []) (oa' := _) (nx' := 2) rfl (a_1 rfl (b_s rfl) a_n) c_n ent82 (spec_l1Bit_sim (((((at_ f.blocks st1.2).term).a) == id))) rfl rfl rfl rfl ?_))
                refine n_ (x_bin T2 rfl rfl rfl ?_)
                refine n_ (x_as rfl rfl ?_)
                refine z_ ?_
                exact w_ [0, 1] (.cons rfl rfl (.cons rfl rfl (.cons (by simp only [hb29, hb30, eq_self, if_true, Bool.false_eq_true, if_false, Bool.true_or, Bool.false_or, Bool.true_and, Bool.false_and, Bool.not_true, Bool.not_false]; rfl) rfl (.cons rfl rfl .nil)))) (.lit rfl rfl (.lit rfl rfl .nil)) (by decide) (hB_0 hB0)
              · refine g_f rfl rfl rfl ?_
                refine g_f rfl rfl rfl ?_
                refine g_f rfl rfl rfl ?_
                refine g_f rfl rfl rfl ?_
                refine g_f rfl rfl rfl ?_
                refine n_ (x_pk rfl rfl rfl ?_)
                refine n_ (aopK_A (x_call (v := .u (.one (.int .i64 ((spec_l1Bit_m false))))) (nobs := []) (oa' := _) (nx' := 2) rfl (a_1 rfl (b_s rfl) a_n) c_n ent82 (spec_l1Bit_sim false) rfl rfl rfl rfl ?_))
                refine n_ (x_bin T2 rfl rfl rfl ?_)
                refine n_ (x_as rfl rfl ?_)
                refine z_ ?_
                exact w_ [0, 1] (.cons rfl rfl (.cons rfl rfl (.cons (by simp only [hb29, hb30, eq_self, if_true, Bool.false_eq_true, if_false, Bool.true_or, Bool.false_or, Bool.true_and, Bool.false_and, Bool.not_true, Bool.not_false]; rfl) rfl (.cons rfl rfl .nil)))) (.lit rfl rfl (.lit rfl rfl .nil)) (by decide) (hB_0 hB0)
            · refine g_f rfl rfl rfl ?_
              refine g_f rfl rfl rfl ?_
              refine g_f rfl rfl rfl ?_
              refine g_f rfl rfl rfl ?_
              refine n_ (x_pk rfl rfl rfl ?_)
              refine n_ (x_mv rfl rfl ?_)
              refine g_t rfl rfl rfl ?_
              refine n_ (x_fap rfl F61_2 rfl rfl ?_)
              refine g_t rfl rfl rfl ?_
              refine n_ (x_fap rfl F59_1 rfl rfl ?_)
              refine g_t rfl rfl rfl ?_
              refine n_ (x_ldp rfl T2 rfl rfl rfl rfl rfl ?_)
              refine g_t rfl rfl rfl ?_
              refine n_ (x_mv rfl rfl ?_)
              refine g_t rfl rfl rfl ?_
              refine n_ (x_bin T2 rfl rfl rfl ?_)
              refine n_ (x_pk rfl rfl rfl ?_)
              refine n_ (aopK_A (x_call (v := .u (.one (.int .i64 ((spec_l1Bit_m (((((at_ f.blocks st1.2).term).a) == id))))))) (nobs := []) (oa' := _) (nx' := 2) rfl (a_1 rfl (b_s rfl) a_n) c_n ent82 (spec_l1Bit_sim (((((at_ f.blocks st1.2).term).a) == id))) rfl rfl rfl rfl ?_))
              refine n_ (x_bin T2 rfl rfl rfl ?_)
              refine n_ (x_as rfl rfl ?_)
              refine z_ ?_
              exact w_ [0, 1] (.cons rfl rfl (.cons rfl rfl (.cons (by simp only [hb29, eq_self, if_true, Bool.false_eq_true, if_false, Bool.true_or, Bool.false_or, Bool.true_and, Bool.false_and, Bool.not_true, Bool.not_false]; rfl) rfl (.cons rfl rfl .nil)))) (.lit rfl rfl (.lit rfl rfl .nil)) (by decide) (hB_0 hB0)
          · refine c_reg (Y := sysA _) ?_
            refine n_ (x_mv rfl rfl ?_)
            obtain ⟨h31, hm⟩ := of_ite hm
            refine n_ (x_addc T3 rfl rfl h31 ?_)
            refine n_ (x_as rfl rfl ?_)
            refine z_ ?_
            cases hm
            exact ⟨rfl, w_ [0] (.cons rfl rfl (.cons rfl rfl (.cons rfl rfl (.cons rfl rfl .nil)))) (.lit rfl rfl .nil) (by decide) (hB_0 hB0)⟩
    · rw [if_neg (by rw [hb4]; decide)] at hm
      refine c_exit ?_
      cases hm
      exact ⟨rfl, w_ [] (.cons rfl rfl .nil) .nil (by decide) (hB_0 hB0)⟩
  · refine Wp.seq ?_
    refine c_reg (Y := sysA _) ?_
    refine n_ (x_mv rfl rfl ?_)
    refine n_ (x_as rfl rfl ?_)
    refine z_ ?_
    refine c_ret ?_
    rw [← Option.some.inj hm]
    exact ret0 (us' := [.one (.int .i64 j2)]) rfl (r_tmp rfl rfl rfl r_nil) f_done rfl rfl

/-- spec.OperandsOf -/
noncomputable def spec_OperandsOf_m (i : GInst) : Option (List Int) :=
  (Option.bind (spec_l2Operands_m i) fun x1 =>
    (some x1))
set_option maxHeartbeats 8000000 in
set_option maxRecDepth 100000 in
theorem spec_OperandsOf_sim (i : GInst) {r : List Int} (hm : spec_OperandsOf_m i = some r) : Sim Try.prog 37 [.agg (eInst false i)] [] (.u (.one (.os () 1 (List.map iL r)))) [] := by
  refine sim_st (N := 5) (k0 := 0) Try.func37 rfl rfl rfl rfl (rs := [.tmp 2]) rfl rfl rfl fun B hB0 => ?_
  unfold spec_OperandsOf_m at hm
  refine Wp.seq ?_
  refine c_reg (Y := sysA _) ?_
  refine n_ (x_bx rfl rfl rfl rfl ?_)
  refine n_ (x_as rfl rfl ?_)
  refine z_ ?_
  refine Wp.seq ?_
  refine c_reg (Y := sysA _) ?_
  refine n_ (x_ldp rfl T53 rfl rfl rfl (pk_all rfl rfl) rfl ?_)
  obtain ⟨x1, h2, hm⟩ := of_bind hm
  refine n_ (aopK_A (x_call (v := .u (.one (.ref () 1 0 (List.length x1)))) (nobs := [(1, ⟨(), 1, List.map iL x1⟩)]) (oa' := _) (nx' := 2) rfl (a_a rfl (c_all rfl) a_n) c_n ent81 (spec_l2Operands_sim i h2) (by simp only [immFreeV, leavesV, leavesU, List.flatMap_cons, List.flatMap_nil, List.append_nil, List.cons_append, List.nil_append, List.all_cons, List.all_nil, immFreeL, immF_map, Bool.and_true, Bool.and_self]) (by simp only [rootV, rootU, rootLs, rootUs, List.length_map, List.map_cons, List.map_nil]) rfl rfl ?_))
  refine n_ (x_as rfl rfl ?_)
  refine z_ ?_
  refine c_ret ?_
  rw [← Option.some.inj hm]
  exact ret0 (us' := [.one (.os () 1 (List.map iL x1))]) rfl (r_tmp rfl rfl rfl r_nil) ((f_fold 0 0 rfl rfl rfl rfl).trans f_done) rfl rfl

/-- laws.sameInts -/
noncomputable def laws_sameInts_m (a : List Int) (b : List Int) : Option Bool :=
  (if (((List.length a : Int)) != ((List.length b : Int))) = true then
    (some false)
    else
    (Option.bind (loopO (fun (st4 : Int) =>
          ((if decide (st4 < ((List.length a : Int))) = true then
              (if 0 ≤ st4 ∧ st4 < (List.length a : Int) then
                (if 0 ≤ st4 ∧ st4 < (List.length b : Int) then
                  (if ((at_ a st4) != (at_ b st4)) = true then
                    (some (Sum.inr ((Sum.inl (())))))
                    else
                    (if inI (st4 + 1) then
                      (some (Sum.inl (st4 + 1)))
                      else none))
                  else none)
                else none)
              else
              (some (Sum.inr ((Sum.inr (())))))) : Option ((Int) ⊕ (Unit ⊕ Unit)))) 0) fun (y13 : Unit ⊕ Unit) => match y13 with
      | (Sum.inl j5) =>
      (some false)
      | (Sum.inr j6) =>
      (some true)))
set_option maxHeartbeats 8000000 in
set_option maxRecDepth 100000 in
theorem laws_sameInts_sim (a : List Int) (b : List Int) {r : Bool} (hm : laws_sameInts_m a b = some r) : Sim Try.prog 11 [.one (.bs () 1 (List.map iL a)), .one (.bs () 1 (List.map iL b))] [] (.u (.one (.bool r))) [] := by
  refine sim_st (N := 26) (k0 := 0) Try.func11 rfl rfl rfl rfl (rs := [.tmp 4]) rfl rfl rfl fun B hB0 => ?_
  unfold laws_sameInts_m at hm
  refine Wp.seq ?_
  refine c_reg (Y := sysA _) ?_
  refine n_ (x_as rfl rfl ?_)
  refine z_ ?_
  refine Wp.seq ?_
  refine Wp.seq ?_
  refine c_reg (Y := sysA _) ?_
  refine n_ (x_mv rfl rfl ?_)
  refine n_ (x_lnb N24 rfl fun hL1 => ?_)
  refine n_ (x_mv rfl rfl ?_)
  refine n_ (x_lnb N24 rfl fun hL2 => ?_)
  refine n_ (x_bin T3 rfl rfl rfl ?_)
  refine z_ ?_
  refine c_s rfl rfl (fun hb3 => ?_) (fun hb3 => ?_)
  · rw [if_pos (show _ = true from hb3)] at hm
    refine Wp.seq ?_
    refine c_reg (Y := sysA _) ?_
    refine n_ (x_as rfl rfl ?_)
    refine z_ ?_
    refine c_ret ?_
    rw [← Option.some.inj hm]
    exact ret0 (us' := [.one (.bool false)]) rfl (r_tmp rfl rfl rfl r_nil) f_done rfl rfl
  · rw [if_neg (by rw [hb3]; decide)] at hm
    refine c_skip ?_
    refine Wp.seq ?_
    refine Wp.seq ?_
    refine c_reg (Y := sysA _) ?_
    refine n_ (x_as rfl rfl ?_)
    refine z_ ?_
    refine Wp.block ?_
    obtain ⟨y13, hl14, hm⟩ := of_bind hm
    refine c_loop hl14 (fun (st4 : Int) => St 26 [(0, .u (.one (.bs () 1 (List.map iL a)))), (1, .u (.one (.bs () 1 (List.map iL b)))), (5, .u (.one (.int .i64 st4)))] [] 0) (fun (y : Unit ⊕ Unit) => match y with | (Sum.inl j5) => (.ret, St 26 [(4, .u (.one (.bool false)))] [] 0) | (Sum.inr j6) => (.exit 0, St 26 [] [] 0)) (w_ [] (.cons rfl rfl (.cons rfl rfl (.cons rfl rfl .nil))) .nil (by decide) (hB_0 hB0)) ?_ (by rintro (_ | _) <;> simp) ?_
    · intro st4 x hm
      refine Wp.seq ?_
      refine Wp.seq ?_
      refine c_reg (Y := sysA _) ?_
      refine n_ (x_mv rfl rfl ?_)
      refine n_ (x_mv rfl rfl ?_)
      refine n_ (x_lnb N24 rfl fun hL7 => ?_)
      refine n_ (x_bin T3 rfl rfl rfl ?_)
      refine z_ ?_
      refine c_s rfl rfl (fun hb8 => ?_) (fun hb8 => ?_)
      · rw [if_pos (show _ = true from hb8)] at hm
        refine c_skip ?_
        refine Wp.seq ?_
        refine Wp.block ?_
        refine Wp.seq ?_
        refine c_drw (Y := sysC _) mixed ?_
        refine t_ 0 0 rfl (by decide +kernel) (x_mv rfl rfl ?_)
        refine t_ 1 0 rfl (by decide +kernel) (x_mv rfl rfl ?_)
        obtain ⟨h9, hm⟩ := of_ite hm
        refine t_ 2 0 rfl (by decide +kernel) (x_ixb E24 rfl rfl h9 ?_)
        refine t_ 3 0 rfl (by decide +kernel) (x_ldi T2 rfl rfl rfl ?_)
        refine t_ 4 0 rfl (by decide +kernel) (x_mv rfl rfl ?_)
        refine t_ 5 0 rfl (by decide +kernel) (x_mv rfl rfl ?_)
        obtain ⟨h10, hm⟩ := of_ite hm
        refine t_ 6 0 rfl (by decide +kernel) (x_ixb E24 rfl rfl h10 ?_)
        refine t_ 7 0 rfl (by decide +kernel) (x_ldi T2 rfl rfl rfl ?_)
        refine t_ 8 0 rfl (by decide +kernel) (x_bin T2 rfl rfl rfl ?_)
        refine a_nil (by decide +kernel) ?_
        refine c_s rfl rfl (fun hb11 => ?_) (fun hb11 => ?_)
        · rw [if_pos (show _ = true from hb11)] at hm
          refine Wp.seq ?_
          refine c_reg (Y := sysA _) ?_
          refine n_ (x_as rfl rfl ?_)
          refine z_ ?_
          refine c_ret ?_
          cases hm
          exact ⟨rfl, w_ [] (.cons rfl rfl .nil) .nil (by decide) (hB_0 hB0)⟩
        · rw [if_neg (by rw [hb11]; decide)] at hm
          refine c_skip ?_
          refine c_reg (Y := sysA _) ?_
          refine n_ (x_mv rfl rfl ?_)
          obtain ⟨h12, hm⟩ := of_ite hm
          refine n_ (x_addc T3 rfl rfl h12 ?_)
          refine n_ (x_as rfl rfl ?_)
          refine z_ ?_
          cases hm
          exact ⟨rfl, w_ [] (.cons rfl rfl (.cons rfl rfl (.cons rfl rfl .nil))) .nil (by decide) (hB_0 hB0)⟩
      · rw [if_neg (by rw [hb8]; decide)] at hm
        refine c_exit ?_
        cases hm
        exact ⟨rfl, w_ [] .nil .nil (by decide) (hB_0 hB0)⟩
    · rcases y13 with j5 | j6
      all_goals simp only at hm
      · rw [← Option.some.inj hm]
        exact ret0 (us' := [.one (.bool false)]) rfl (r_tmp rfl rfl rfl r_nil) f_done rfl rfl
      · refine Wp.seq ?_
        refine c_reg (Y := sysA _) ?_
        refine n_ (x_as rfl rfl ?_)
        refine z_ ?_
        refine c_ret ?_
        rw [← Option.some.inj hm]
        exact ret0 (us' := [.one (.bool true)]) rfl (r_tmp rfl rfl rfl r_nil) f_done rfl rfl

/-- impl.CountOf -/
noncomputable def impl_CountOf_m (f : GFunc) : Option Int :=
  (Option.bind (loopO (fun (st3 : Int × Int) =>
        ((if decide (st3.1 < ((List.length f.blocks : Int))) = true then
            (if 0 ≤ st3.1 ∧ st3.1 < (List.length f.blocks : Int) then
              (if inI (st3.2 + (((List.length ((at_ f.blocks st3.1).phis) : Int)) + ((List.length ((at_ f.blocks st3.1).insts) : Int)))) then
                (if inI (st3.1 + 1) then
                  (some (Sum.inl ((st3.1 + 1, st3.2 + (((List.length ((at_ f.blocks st3.1).phis) : Int)) + ((List.length ((at_ f.blocks st3.1).insts) : Int)))))))
                  else none)
                else none)
              else none)
            else
            (some (Sum.inr st3.2))) : Option ((Int × Int) ⊕ (Int)))) (0, (List.length f.params : Int))) fun (j4 : Int) =>
    (some j4))
set_option maxHeartbeats 8000000 in
set_option maxRecDepth 100000 in
theorem impl_CountOf_sim (f : GFunc) {r : Int} (hm : impl_CountOf_m f = some r) : Sim Try.prog 28 [.agg (eFunc false f)] [] (.u (.one (.int .i64 r))) [] := by
  refine sim_st (N := 27) (k0 := 0) Try.func28 rfl rfl rfl rfl (rs := [.tmp 2]) rfl rfl rfl fun B hB0 => ?_
  unfold impl_CountOf_m at hm
  refine Wp.seq ?_
  refine c_reg (Y := sysA _) ?_
  refine n_ (x_bx rfl rfl rfl rfl ?_)
  refine n_ (x_as rfl rfl ?_)
  refine z_ ?_
  refine Wp.seq ?_
  refine c_reg (Y := sysA _) ?_
  refine n_ (x_fap rfl F27_0 rfl rfl ?_)
  refine n_ (x_ldp rfl T24 rfl rfl rfl rfl rfl ?_)
  refine n_ (x_lnb N24 rfl fun hL1 => ?_)
  refine n_ (x_as rfl rfl ?_)
  refine z_ ?_
  refine Wp.seq ?_
  refine Wp.seq ?_
  refine c_reg (Y := sysA _) ?_
  refine n_ (x_fap rfl F27_2 rfl rfl ?_)
  refine n_ (x_ldp rfl T25 rfl rfl rfl rfl rfl ?_)
  refine n_ (x_lnb N25 rfl fun hL2 => ?_)
  refine n_ (x_mv rfl rfl ?_)
  refine z_ ?_
  refine Wp.block ?_
  obtain ⟨j4, hl12, hm⟩ := of_bind hm
  refine c_loop hl12 (fun (st3 : Int × Int) => St 27 [(3, .u (.one (.int .i64 st3.2))), (10, .u (.one (.bs () 6 (List.map (eBlock false) f.blocks)))), (11, .u (.one (.int .i64 ((List.length f.blocks : Int))))), (12, .u (.one (.int .i64 st3.1)))] [] 0) (fun (j4 : Int) => (.exit 0, St 27 [(3, .u (.one (.int .i64 j4)))] [] 0)) (w_ [] (.cons rfl rfl (.cons rfl rfl (.cons rfl rfl (.cons rfl rfl .nil)))) .nil (by decide) (hB_0 hB0)) ?_ (by intro y; simp) ?_
  · intro st3 x hm
    refine Wp.seq ?_
    refine c_reg (Y := sysA _) ?_
    refine n_ (x_bin T3 rfl rfl rfl ?_)
    refine z_ ?_
    refine Wp.seq ?_
    refine c_s rfl rfl (fun hb5 => ?_) (fun hb5 => ?_)
    · rw [if_pos (show _ = true from hb5)] at hm
      refine c_skip ?_
      refine Wp.seq ?_
      refine Wp.block ?_
      refine Wp.seq ?_
      refine c_reg (Y := sysA _) ?_
      obtain ⟨h6, hm⟩ := of_ite hm
      refine n_ (x_ixb E25 rfl rfl h6 ?_)
      refine n_ (x_ldi T61 rfl (pk_all rfl rfl) rfl ?_)
      refine n_ (x_al T61 (r := [.nl, .nl, .int .i64 0, .int .i64 0, .int .i64 0, .int .i64 0]) rfl rfl ?_)
      refine n_ (x_st T61 (rows := [(eBlock false (at_ f.blocks st3.1))]) rfl rfl rfl rfl rfl rfl rfl rfl ?_)
      refine z_ ?_
      refine c_reg (Y := sysA _) ?_
      refine n_ (x_mv rfl rfl ?_)
      refine n_ (x_fap rfl F61_0 rfl rfl ?_)
      refine n_ (x_ldp rfl T56 rfl rfl rfl rfl rfl ?_)
      refine n_ (x_lnb N56 rfl fun hL7 => ?_)
      refine n_ (x_fap rfl F61_1 rfl rfl ?_)
      refine n_ (x_ldp rfl T57 rfl rfl rfl rfl rfl ?_)
      refine n_ (x_lnb N57 rfl fun hL8 => ?_)
      refine n_ (x_addc T3 rfl rfl (by unfold inI; omega) ?_)
      obtain ⟨h9, hm⟩ := of_ite hm
      refine n_ (x_addc T3 rfl rfl h9 ?_)
      refine n_ (x_as rfl rfl ?_)
      refine z_ ?_
      refine c_reg (Y := sysA _) ?_
      obtain ⟨h10, hm⟩ := of_ite hm
      refine n_ (x_addc T3 rfl rfl h10 ?_)
      refine n_ (x_mv rfl rfl ?_)
      refine z_ ?_
      cases hm
      exact ⟨rfl, w_ [] (.cons rfl rfl (.cons rfl rfl (.cons rfl rfl (.cons rfl rfl .nil)))) .nil (by decide) (hB_0 hB0)⟩
    · rw [if_neg (by rw [hb5]; decide)] at hm
      refine c_exit ?_
      cases hm
      exact ⟨rfl, w_ [] (.cons rfl rfl .nil) .nil (by decide) (hB_0 hB0)⟩
  · refine Wp.seq ?_
    refine c_reg (Y := sysA _) ?_
    refine n_ (x_mv rfl rfl ?_)
    refine n_ (x_as rfl rfl ?_)
    refine z_ ?_
    refine c_ret ?_
    rw [← Option.some.inj hm]
    exact ret0 (us' := [.one (.int .i64 j4)]) rfl (r_tmp rfl rfl rfl r_nil) f_done rfl rfl

end Go.Proofs.Ytmckcjoacfekcaa.AM
