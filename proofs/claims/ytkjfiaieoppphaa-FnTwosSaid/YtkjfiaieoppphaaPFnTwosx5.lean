-- PRINTED BY print.sh 35421559b90ae4d0a3588c463048766b98c2df88dd9212a6774a882060cdf62d: not written by this session
import Derived.Test.YtkjfiaieoppphaaPFnTwosx0
import Derived.Test.YtkjfiaieoppphaaPFnTwosx1
import Derived.Test.YtkjfiaieoppphaaPFnTwosx2
import Derived.Test.YtkjfiaieoppphaaPFnTwosx3
import Derived.Test.YtkjfiaieoppphaaPFnTwosx4
namespace Go.Proofs.Ytkjfiaieoppphaa.PFnTwos
open Go.RowKit Go.Proofs.YtkjfiaieoppphaaW.PrintWords Go.Proofs.YtkjfiaieoppphaaW.PrintLast Go.Proofs.YtkjfiaieoppphaaW.PrintMore
attribute [local go_sem] max2_int min2_int max_two min_two max_three min_three max_four min_four   -- for this text's walks alone
set_option linter.unusedVariables false
set_option linter.unusedSimpArgs false

/-! ### laws_FnTwos: function 7 -/
def laws_FnTwos.j0 : Nat → Int → Int → Int → Int → Int → Int → Int → Int → Bool → Option (Bool)
  | 0, _, _, _, _, _, _, _, _, _ => none
  | k + 1, x3, x4, x5, x6, x7, x8, x9, x10, x56 => if x56 = true then (if x7 = x9 then (some (x8 == x10)) else (some false)) else ((impl_Binary.f k 1 x4 x5 x6).bind fun bt220 => ((impl_Binary.f k 2 x4 bt220.1 x6).bind fun bt222 => ((impl_Binary.f k 10 x4 x5 x6).bind fun bt224 => ((impl_Binary.f k 10 x4 bt224.1 x6).bind fun bt226 => ((impl_ResultWidth.f k x3 x4).bind fun t228 => (if bt222.1 = x5 then (if bt226.1 = x5 then ((impl_Masked.f t228 x7).bind fun t229 => (if t229 = x7 then (some (decide (x7 ≥ 0))) else (some false))) else (some false)) else (some false)))))))
def laws_FnTwos.f (k : Nat) (l0 : List Int) : Option (Bool) := (laws_big.f l0).bind fun t211 => (if t211 = true then (some true) else ((spec_DrawBinary.f k l0).bind fun bt212 => ((impl_Binary.f k bt212.1 bt212.2.1 bt212.2.2.1 bt212.2.2.2).bind fun bt216 => ((spec_Binary.f k bt212.1 bt212.2.1 bt212.2.2.1 bt212.2.2.2).bind fun bt218 => (if bt216.1 = bt218.1 then (if bt216.2 = bt218.2 then (laws_FnTwos.j0 k bt212.1 bt212.2.1 bt212.2.2.1 bt212.2.2.2 bt216.1 bt216.2 bt218.1 bt218.2 (bt216.2 != 0)) else (laws_FnTwos.j0 k bt212.1 bt212.2.1 bt212.2.2.1 bt212.2.2.2 bt216.1 bt216.2 bt218.1 bt218.2 true)) else (laws_FnTwos.j0 k bt212.1 bt212.2.1 bt212.2.2.1 bt212.2.2.2 bt216.1 bt216.2 bt218.1 bt218.2 true))))))
theorem laws_FnTwos.mono_l : ∀ k, (∀ y0 y1 y2 y3 y4 y5 y6 y7 y8, LeO (laws_FnTwos.j0 k y0 y1 y2 y3 y4 y5 y6 y7 y8) (laws_FnTwos.j0 (k + 1) y0 y1 y2 y3 y4 y5 y6 y7 y8))
  | 0 => fun _ _ _ _ _ _ _ _ _ r h => by simp [laws_FnTwos.j0] at h
  | k + 1 => by
    have ih0 := laws_FnTwos.mono_l k
    · intro y0 y1 y2 y3 y4 y5 y6 y7 y8
      unfold laws_FnTwos.j0
      repeat' first
      | (with_reducible exact ih0 _ _ _ _ _ _ _ _ _)
      | (with_reducible exact impl_Binary.mono _ _ _ _ _)
      | (with_reducible exact impl_ResultWidth.mono _ _ _)
      | (with_reducible exact spec_Binary.mono _ _ _ _ _)
      | (with_reducible exact spec_DrawBinary.mono _ _)
      | (with_reducible exact LeO.refl _)
      | (with_reducible exact LeO.none _)
      | (with_reducible refine LeO.ite ?_ ?_)
      | (with_reducible refine LeO.bind ?_ (fun _ => ?_))
      | exact ih0 _ _ _ _ _ _ _ _ _
      | exact impl_Binary.mono _ _ _ _ _
      | exact impl_ResultWidth.mono _ _ _
      | exact spec_Binary.mono _ _ _ _ _
      | exact spec_DrawBinary.mono _ _
      | exact LeO.none _
      | refine LeO.ite ?_ ?_
      | refine LeO.bind ?_ (fun _ => ?_)
theorem laws_FnTwos.mono : ∀ a0 k, LeO (laws_FnTwos.f k a0) (laws_FnTwos.f (k + 1) a0) := by
  intro a0 k
  have ih0 := laws_FnTwos.mono_l k
  unfold laws_FnTwos.f
  repeat' first
      | (with_reducible exact ih0 _ _ _ _ _ _ _ _ _)
      | (with_reducible exact impl_Binary.mono _ _ _ _ _)
      | (with_reducible exact impl_ResultWidth.mono _ _ _)
      | (with_reducible exact spec_Binary.mono _ _ _ _ _)
      | (with_reducible exact spec_DrawBinary.mono _ _)
      | (with_reducible exact LeO.refl _)
      | (with_reducible exact LeO.none _)
      | (with_reducible refine LeO.ite ?_ ?_)
      | (with_reducible refine LeO.bind ?_ (fun _ => ?_))
      | exact ih0 _ _ _ _ _ _ _ _ _
      | exact impl_Binary.mono _ _ _ _ _
      | exact impl_ResultWidth.mono _ _ _
      | exact spec_Binary.mono _ _ _ _ _
      | exact spec_DrawBinary.mono _ _
      | exact LeO.none _
      | refine LeO.ite ?_ ?_
      | refine LeO.bind ?_ (fun _ => ?_)
set_option maxHeartbeats 8000000 in
set_option maxRecDepth 100000 in
theorem laws_FnTwos.calls (k : Nat) (A0 : Option Addr) (c0 : Nat) (l0 : List Int) (r : Bool) (w : World) (hr0 : Kd.C (Kd.int .u8) w A0 l0.length l0) (hc0 : l0.length ≤ c0) (h : laws_FnTwos.f k l0 = some r) :
    Calls Try.prog 7 #[.slice A0 l0.length c0] w fun e w' => e = .returned (.bool r) ∧ Below w.heap.size w w' := by
  have HR0 := Aside0.mk hr0
  have HC0 := Aside0.mk hc0
  clear hr0 hc0
  have HB := Aside0.mk (Below.refl w.heap.size w)
  have H : ((laws_big.f l0).bind fun t211 => (if t211 = true then (some true) else ((spec_DrawBinary.f k l0).bind fun bt212 => ((impl_Binary.f k bt212.1 bt212.2.1 bt212.2.2.1 bt212.2.2.2).bind fun bt216 => ((spec_Binary.f k bt212.1 bt212.2.1 bt212.2.2.1 bt212.2.2.2).bind fun bt218 => (if bt216.1 = bt218.1 then (if bt216.2 = bt218.2 then (laws_FnTwos.j0 k bt212.1 bt212.2.1 bt212.2.2.1 bt212.2.2.2 bt216.1 bt216.2 bt218.1 bt218.2 (bt216.2 != 0)) else (laws_FnTwos.j0 k bt212.1 bt212.2.1 bt212.2.2.1 bt212.2.2.2 bt216.1 bt216.2 bt218.1 bt218.2 true)) else (laws_FnTwos.j0 k bt212.1 bt212.2.1 bt212.2.2.1 bt212.2.2.2 bt216.1 bt216.2 bt218.1 bt218.2 true))))))) = some r := h
  clear h
  replace H := Option.bind_eq_some_iff.mp H
  obtain ⟨t211, A20, H⟩ := H
  replace H : (if t211 = true then (some true) else ((spec_DrawBinary.f k l0).bind fun bt212 => ((impl_Binary.f k bt212.1 bt212.2.1 bt212.2.2.1 bt212.2.2.2).bind fun bt216 => ((spec_Binary.f k bt212.1 bt212.2.1 bt212.2.2.1 bt212.2.2.2).bind fun bt218 => (if bt216.1 = bt218.1 then (if bt216.2 = bt218.2 then (laws_FnTwos.j0 k bt212.1 bt212.2.1 bt212.2.2.1 bt212.2.2.2 bt216.1 bt216.2 bt218.1 bt218.2 (bt216.2 != 0)) else (laws_FnTwos.j0 k bt212.1 bt212.2.1 bt212.2.2.1 bt212.2.2.2 bt216.1 bt216.2 bt218.1 bt218.2 true)) else (laws_FnTwos.j0 k bt212.1 bt212.2.1 bt212.2.2.1 bt212.2.2.2 bt216.1 bt216.2 bt218.1 bt218.2 true)))))) = some r := H
  have A2 := Aside0.mk A20
  clear A20
  by_cases c3 : t211 = true
  · subst c3
    have H1 : (some true) = some r := by rw [if_pos rfl] at H; exact H
    clear H
    have H := H1
    clear H1
    obtain rfl := Option.some.inj H
    go_enter Try.func7, Try.ntmps7
    go_wp2_with (first | ((with_reducible refine gate_callee (f := 8) rfl ?_); refine goesL_ (some 21) rfl rfl Try.func8 (by kernel_rfl) rfl #[.slice A0 l0.length c0] rfl (by (try simp only [List.map_toArray, List.map_cons, List.map_nil]); first | done | rfl | (simp only [List.length_drop, List.length_take]; rfl)) ?_; (with_reducible refine (laws_big.calls _ _ l0 true _ ?side1 ?side2 A2.out).mono ?_); (case side1 => repeat (first | exact HR0.out | (with_reducible refine Kd.C_alloc ?_ _) | (with_reducible refine Kd.C_drewN ?_ _) | (with_reducible refine Kd.C_drew ?_))); (case side2 => exact HC0.out); rintro e w' ⟨rfl, ⟨nd, rfl⟩⟩; refine ⟨_, rfl, ?_⟩))
    go_ret
    exact ⟨by first | rfl | (simp [errW_none, errW_some] <;> rfl) | (simp [*, errW_none, errW_some] <;> rfl), by repeat (first | (with_reducible first | exact HB.out | apply below_alloc | apply pw_below_drewN | apply below_drew1) | exact HB.out)⟩
  · replace c3 := Bool.eq_false_iff.mpr c3
    subst c3
    have H1 : ((spec_DrawBinary.f k l0).bind fun bt212 => ((impl_Binary.f k bt212.1 bt212.2.1 bt212.2.2.1 bt212.2.2.2).bind fun bt216 => ((spec_Binary.f k bt212.1 bt212.2.1 bt212.2.2.1 bt212.2.2.2).bind fun bt218 => (if bt216.1 = bt218.1 then (if bt216.2 = bt218.2 then (laws_FnTwos.j0 k bt212.1 bt212.2.1 bt212.2.2.1 bt212.2.2.2 bt216.1 bt216.2 bt218.1 bt218.2 (bt216.2 != 0)) else (laws_FnTwos.j0 k bt212.1 bt212.2.1 bt212.2.2.1 bt212.2.2.2 bt216.1 bt216.2 bt218.1 bt218.2 true)) else (laws_FnTwos.j0 k bt212.1 bt212.2.1 bt212.2.2.1 bt212.2.2.2 bt216.1 bt216.2 bt218.1 bt218.2 true))))) = some r := by rw [if_neg (show ¬ (false = true) by decide)] at H; exact H
    clear H
    have H := H1
    clear H1
    replace H := Option.bind_eq_some_iff.mp H
    obtain ⟨⟨t212, t213, t214, t215⟩, A40, H⟩ := H
    replace H : ((impl_Binary.f k t212 t213 t214 t215).bind fun bt216 => ((spec_Binary.f k t212 t213 t214 t215).bind fun bt218 => (if bt216.1 = bt218.1 then (if bt216.2 = bt218.2 then (laws_FnTwos.j0 k t212 t213 t214 t215 bt216.1 bt216.2 bt218.1 bt218.2 (bt216.2 != 0)) else (laws_FnTwos.j0 k t212 t213 t214 t215 bt216.1 bt216.2 bt218.1 bt218.2 true)) else (laws_FnTwos.j0 k t212 t213 t214 t215 bt216.1 bt216.2 bt218.1 bt218.2 true)))) = some r := H
    have A4 := Aside0.mk A40
    clear A40
    replace H := Option.bind_eq_some_iff.mp H
    obtain ⟨⟨t216, t217⟩, A50, H⟩ := H
    replace H : ((spec_Binary.f k t212 t213 t214 t215).bind fun bt218 => (if t216 = bt218.1 then (if t217 = bt218.2 then (laws_FnTwos.j0 k t212 t213 t214 t215 t216 t217 bt218.1 bt218.2 (t217 != 0)) else (laws_FnTwos.j0 k t212 t213 t214 t215 t216 t217 bt218.1 bt218.2 true)) else (laws_FnTwos.j0 k t212 t213 t214 t215 t216 t217 bt218.1 bt218.2 true))) = some r := H
    have A5 := Aside0.mk A50
    clear A50
    replace H := Option.bind_eq_some_iff.mp H
    obtain ⟨⟨t218, t219⟩, A60, H⟩ := H
    replace H : (if t216 = t218 then (if t217 = t219 then (laws_FnTwos.j0 k t212 t213 t214 t215 t216 t217 t218 t219 (t217 != 0)) else (laws_FnTwos.j0 k t212 t213 t214 t215 t216 t217 t218 t219 true)) else (laws_FnTwos.j0 k t212 t213 t214 t215 t216 t217 t218 t219 true)) = some r := H
    have A6 := Aside0.mk A60
    clear A60
    have HC7 := Aside0.mk H
    clear H
    go_enter Try.func7, Try.ntmps7
    go_upto_region 6 with (first | ((with_reducible refine gate_callee (f := 8) rfl ?_); refine goesL_ (some 21) rfl rfl Try.func8 (by kernel_rfl) rfl #[.slice A0 l0.length c0] rfl (by (try simp only [List.map_toArray, List.map_cons, List.map_nil]); first | done | rfl | (simp only [List.length_drop, List.length_take]; rfl)) ?_; (with_reducible refine (laws_big.calls _ _ l0 false _ ?side1 ?side2 A2.out).mono ?_); (case side1 => repeat (first | exact HR0.out | (with_reducible refine Kd.C_alloc ?_ _) | (with_reducible refine Kd.C_drewN ?_ _) | (with_reducible refine Kd.C_drew ?_))); (case side2 => exact HC0.out); rintro e w' ⟨rfl, ⟨nd, rfl⟩⟩; refine ⟨_, rfl, ?_⟩) | ((with_reducible refine gate_callee (f := 20) rfl ?_); refine goesL_ (some 24) rfl rfl Try.func20 (by kernel_rfl) rfl #[.slice A0 l0.length c0] rfl (by (try simp only [List.map_toArray, List.map_cons, List.map_nil]); first | done | rfl | (simp only [List.length_drop, List.length_take]; rfl)) ?_; (with_reducible refine (spec_DrawBinary.calls k _ _ l0 t212 t213 t214 t215 _ ?side1 ?side2 A4.out).mono ?_); (case side1 => repeat (first | exact HR0.out | (with_reducible refine Kd.C_alloc ?_ _) | (with_reducible refine Kd.C_drewN ?_ _) | (with_reducible refine Kd.C_drew ?_))); (case side2 => exact HC0.out); rintro e w8 ⟨rfl, hb⟩; refine ⟨_, rfl, ?_⟩; have n0_ := Aside0.mk (below_step (by repeat (first | (with_reducible first | exact HB.out | apply below_alloc | apply pw_below_drewN | apply below_drew1) | exact HB.out)) hb); clear HB; have HB := n0_; clear n0_; (try clear hb); (try clear hb2); (try clear hk); (try clear hi)) | ((with_reducible refine gate_callee (f := 21) rfl ?_); refine goesL_ (some 34) rfl rfl Try.func21 (by kernel_rfl) rfl #[.int .i64 t212, .int .i64 t213, .int .i64 t214, .int .i64 t215] rfl (by (try simp only [List.map_toArray, List.map_cons, List.map_nil]); first | done | rfl | (simp only [List.length_drop, List.length_take]; rfl)) ?_; (with_reducible refine (impl_Binary.calls k t212 t213 t214 t215 t216 t217 _ A5.out).mono ?_); rintro e w9 ⟨rfl, hb⟩; refine ⟨_, rfl, ?_⟩; have n0_ := Aside0.mk (below_step (by repeat (first | (with_reducible first | exact HB.out | apply below_alloc | apply pw_below_drewN | apply below_drew1) | exact HB.out)) hb); clear HB; have HB := n0_; clear n0_; (try clear hb); (try clear hb2); (try clear hk); (try clear hi)) | ((with_reducible refine gate_callee (f := 22) rfl ?_); refine goesL_ (some 42) rfl rfl Try.func22 (by kernel_rfl) rfl #[.int .i64 t212, .int .i64 t213, .int .i64 t214, .int .i64 t215] rfl (by (try simp only [List.map_toArray, List.map_cons, List.map_nil]); first | done | rfl | (simp only [List.length_drop, List.length_take]; rfl)) ?_; (with_reducible refine (spec_Binary.calls k t212 t213 t214 t215 t218 t219 _ A6.out).mono ?_); rintro e w' ⟨rfl, ⟨nd, rfl⟩⟩; refine ⟨_, rfl, ?_⟩))
    (try simp only [Act.put, List.setIfInBounds_toArray, List.set_cons_zero, List.set_cons_succ])
    go_cut [56] (fun v56 wc => ∃ (kq : Nat) (x56_6 : Bool), v56 = .bool x56_6 ∧ Aside0 (laws_FnTwos.j0 kq t212 t213 t214 t215 t216 t217 t218 t219 x56_6 = some r) ∧ Aside0 (kq ≤ k) ∧ Aside0 (Below w.heap.size w wc))
    case first =>
      have H := HC7.out
      clear HC7
      by_cases c10 : t216 = t218
      · rw [if_pos c10] at H
        have c10b0 : (t216 == t218) = true := beq_iff_eq.mpr c10
        have c10b1 : (t216 != t218) = false := bne_eq_false_iff_eq.mpr c10
        clear c10
        (first | rw [c10b0] | (simp only [i64_w, i32_w]; rw [c10b0]) | skip)
        by_cases c11 : t217 = t219
        · rw [if_pos c11] at H
          have c11b0 : (t217 == t219) = true := beq_iff_eq.mpr c11
          have c11b1 : (t217 != t219) = false := bne_eq_false_iff_eq.mpr c11
          clear c11
          have H' := Aside0.mk H
          clear H
          go_wp2
          go_meet
          case rel => exact ⟨_, ((t217 != 0)), (by first | rfl | (simp; done) | (simp [*]; done)), H', ⟨by first | omega | exact Nat.le_refl _⟩, ⟨by repeat (first | (with_reducible first | exact HB.out | apply below_alloc | apply pw_below_drewN | apply below_drew1) | exact HB.out)⟩⟩
        · rw [if_neg c11] at H
          have c11b0 : (t217 == t219) = false := beq_eq_false_iff_ne.mpr c11
          have c11b1 : (t217 != t219) = true := bne_iff_ne.mpr c11
          have H' := Aside0.mk H
          clear H
          go_wp2
          go_meet
          case rel => exact ⟨_, (true), (by first | rfl | (simp; done) | (simp [*]; done)), H', ⟨by first | omega | exact Nat.le_refl _⟩, ⟨by repeat (first | (with_reducible first | exact HB.out | apply below_alloc | apply pw_below_drewN | apply below_drew1) | exact HB.out)⟩⟩
      · rw [if_neg c10] at H
        have c10b0 : (t216 == t218) = false := beq_eq_false_iff_ne.mpr c10
        have c10b1 : (t216 != t218) = true := bne_iff_ne.mpr c10
        (first | rw [c10b0] | (simp only [i64_w, i32_w]; rw [c10b0]) | skip)
        have H' := Aside0.mk H
        clear H
        go_wp2
        go_meet
        case rel => exact ⟨_, (true), (by first | rfl | (simp; done) | (simp [*]; done)), H', ⟨by first | omega | exact Nat.le_refl _⟩, ⟨by repeat (first | (with_reducible first | exact HB.out | apply below_alloc | apply pw_below_drewN | apply below_drew1) | exact HB.out)⟩⟩
    case rest =>
      clear HC7
      try clear c1
      try clear c2
      try clear p2
      try clear c3
      try clear c7
      try clear c8
      try clear c10
      try clear c10b0
      try clear c10b1
      try clear c11
      try clear c11b0
      try clear c11b1
      obtain ⟨kq, x56_6, rfl, HA, HJ6, HB⟩ := hcut
      cases kq with
      | zero => exact absurd HA.out (by simp [laws_FnTwos.j0])
      | succ kj6 =>
        have H := HA.out
        clear HA
        simp only [laws_FnTwos.j0] at H
        by_cases c12 : x56_6 = true
        · subst c12
          have H1 : (if t216 = t218 then (some (t217 == t219)) else (some false)) = some r := by rw [if_pos rfl] at H; exact H
          clear H
          have H := H1
          clear H1
          by_cases c13 : t216 = t218
          · rw [if_pos c13] at H
            have c13b0 : (t216 == t218) = true := beq_iff_eq.mpr c13
            have c13b1 : (t216 != t218) = false := bne_eq_false_iff_eq.mpr c13
            clear c13
            obtain rfl := Option.some.inj H
            go_wp2
            go_ret
            exact ⟨by first | rfl | (simp [errW_none, errW_some] <;> rfl) | (simp [*, errW_none, errW_some] <;> rfl), by repeat (first | (with_reducible first | exact HB.out | apply below_alloc | apply pw_below_drewN | apply below_drew1) | exact HB.out)⟩
          · rw [if_neg c13] at H
            have c13b0 : (t216 == t218) = false := beq_eq_false_iff_ne.mpr c13
            have c13b1 : (t216 != t218) = true := bne_iff_ne.mpr c13
            obtain rfl := Option.some.inj H
            go_wp2
            go_ret
            exact ⟨by first | rfl | (simp [errW_none, errW_some] <;> rfl) | (simp [*, errW_none, errW_some] <;> rfl), by repeat (first | (with_reducible first | exact HB.out | apply below_alloc | apply pw_below_drewN | apply below_drew1) | exact HB.out)⟩
        · replace c12 := Bool.eq_false_iff.mpr c12
          subst c12
          have H1 : ((impl_Binary.f kj6 1 t213 t214 t215).bind fun bt220 => ((impl_Binary.f kj6 2 t213 bt220.1 t215).bind fun bt222 => ((impl_Binary.f kj6 10 t213 t214 t215).bind fun bt224 => ((impl_Binary.f kj6 10 t213 bt224.1 t215).bind fun bt226 => ((impl_ResultWidth.f kj6 t212 t213).bind fun t228 => (if bt222.1 = t214 then (if bt226.1 = t214 then ((impl_Masked.f t228 t216).bind fun t229 => (if t229 = t216 then (some (decide (t216 ≥ 0))) else (some false))) else (some false)) else (some false))))))) = some r := by rw [if_neg (show ¬ (false = true) by decide)] at H; exact H
          clear H
          have H := H1
          clear H1
          replace H := Option.bind_eq_some_iff.mp H
          obtain ⟨⟨t220, t221⟩, A140, H⟩ := H
          replace H : ((impl_Binary.f kj6 2 t213 t220 t215).bind fun bt222 => ((impl_Binary.f kj6 10 t213 t214 t215).bind fun bt224 => ((impl_Binary.f kj6 10 t213 bt224.1 t215).bind fun bt226 => ((impl_ResultWidth.f kj6 t212 t213).bind fun t228 => (if bt222.1 = t214 then (if bt226.1 = t214 then ((impl_Masked.f t228 t216).bind fun t229 => (if t229 = t216 then (some (decide (t216 ≥ 0))) else (some false))) else (some false)) else (some false)))))) = some r := H
          have A14 := Aside0.mk A140
          clear A140
          replace H := Option.bind_eq_some_iff.mp H
          obtain ⟨⟨t222, t223⟩, A150, H⟩ := H
          replace H : ((impl_Binary.f kj6 10 t213 t214 t215).bind fun bt224 => ((impl_Binary.f kj6 10 t213 bt224.1 t215).bind fun bt226 => ((impl_ResultWidth.f kj6 t212 t213).bind fun t228 => (if t222 = t214 then (if bt226.1 = t214 then ((impl_Masked.f t228 t216).bind fun t229 => (if t229 = t216 then (some (decide (t216 ≥ 0))) else (some false))) else (some false)) else (some false))))) = some r := H
          have A15 := Aside0.mk A150
          clear A150
          replace H := Option.bind_eq_some_iff.mp H
          obtain ⟨⟨t224, t225⟩, A160, H⟩ := H
          replace H : ((impl_Binary.f kj6 10 t213 t224 t215).bind fun bt226 => ((impl_ResultWidth.f kj6 t212 t213).bind fun t228 => (if t222 = t214 then (if bt226.1 = t214 then ((impl_Masked.f t228 t216).bind fun t229 => (if t229 = t216 then (some (decide (t216 ≥ 0))) else (some false))) else (some false)) else (some false)))) = some r := H
          have A16 := Aside0.mk A160
          clear A160
          replace H := Option.bind_eq_some_iff.mp H
          obtain ⟨⟨t226, t227⟩, A170, H⟩ := H
          replace H : ((impl_ResultWidth.f kj6 t212 t213).bind fun t228 => (if t222 = t214 then (if t226 = t214 then ((impl_Masked.f t228 t216).bind fun t229 => (if t229 = t216 then (some (decide (t216 ≥ 0))) else (some false))) else (some false)) else (some false))) = some r := H
          have A17 := Aside0.mk A170
          clear A170
          replace H := Option.bind_eq_some_iff.mp H
          obtain ⟨t228, A180, H⟩ := H
          replace H : (if t222 = t214 then (if t226 = t214 then ((impl_Masked.f t228 t216).bind fun t229 => (if t229 = t216 then (some (decide (t216 ≥ 0))) else (some false))) else (some false)) else (some false)) = some r := H
          have A18 := Aside0.mk A180
          clear A180
          by_cases c19 : t222 = t214
          · rw [if_pos c19] at H
            have c19b0 : (t222 == t214) = true := beq_iff_eq.mpr c19
            have c19b1 : (t222 != t214) = false := bne_eq_false_iff_eq.mpr c19
            clear c19
            by_cases c20 : t226 = t214
            · rw [if_pos c20] at H
              have c20b0 : (t226 == t214) = true := beq_iff_eq.mpr c20
              have c20b1 : (t226 != t214) = false := bne_eq_false_iff_eq.mpr c20
              clear c20
              replace H := Option.bind_eq_some_iff.mp H
              obtain ⟨t229, A210, H⟩ := H
              replace H : (if t229 = t216 then (some (decide (t216 ≥ 0))) else (some false)) = some r := H
              have A21 := Aside0.mk A210
              clear A210
              by_cases c22 : t229 = t216
              · rw [if_pos c22] at H
                have c22b0 : (t229 == t216) = true := beq_iff_eq.mpr c22
                have c22b1 : (t229 != t216) = false := bne_eq_false_iff_eq.mpr c22
                clear c22
                obtain rfl := Option.some.inj H
                go_wp2_with (first | ((with_reducible refine gate_callee (f := 21) rfl ?_); refine goesL_ (some 69) rfl rfl Try.func21 (by kernel_rfl) rfl #[.int .i64 1, .int .i64 t213, .int .i64 t214, .int .i64 t215] rfl (by (try simp only [List.map_toArray, List.map_cons, List.map_nil]); first | done | rfl | (simp only [List.length_drop, List.length_take]; rfl)) ?_; (with_reducible refine (impl_Binary.calls kj6 1 t213 t214 t215 t220 t221 _ A14.out).mono ?_); rintro e w23 ⟨rfl, hb⟩; refine ⟨_, rfl, ?_⟩; have n0_ := Aside0.mk (below_step (by repeat (first | (with_reducible first | exact HB.out | apply below_alloc | apply pw_below_drewN | apply below_drew1) | exact HB.out)) hb); clear HB; have HB := n0_; clear n0_; (try clear hb); (try clear hb2); (try clear hk); (try clear hi)) | ((with_reducible refine gate_callee (f := 21) rfl ?_); refine goesL_ (some 76) rfl rfl Try.func21 (by kernel_rfl) rfl #[.int .i64 2, .int .i64 t213, .int .i64 t220, .int .i64 t215] rfl (by (try simp only [List.map_toArray, List.map_cons, List.map_nil]); first | done | rfl | (simp only [List.length_drop, List.length_take]; rfl)) ?_; (with_reducible refine (impl_Binary.calls kj6 2 t213 t220 t215 t222 t223 _ A15.out).mono ?_); rintro e w24 ⟨rfl, hb⟩; refine ⟨_, rfl, ?_⟩; have n0_ := Aside0.mk (below_step (by repeat (first | (with_reducible first | exact HB.out | apply below_alloc | apply pw_below_drewN | apply below_drew1) | exact HB.out)) hb); clear HB; have HB := n0_; clear n0_; (try clear hb); (try clear hb2); (try clear hk); (try clear hi)) | ((with_reducible refine gate_callee (f := 21) rfl ?_); refine goesL_ (some 83) rfl rfl Try.func21 (by kernel_rfl) rfl #[.int .i64 10, .int .i64 t213, .int .i64 t214, .int .i64 t215] rfl (by (try simp only [List.map_toArray, List.map_cons, List.map_nil]); first | done | rfl | (simp only [List.length_drop, List.length_take]; rfl)) ?_; (with_reducible refine (impl_Binary.calls kj6 10 t213 t214 t215 t224 t225 _ A16.out).mono ?_); rintro e w25 ⟨rfl, hb⟩; refine ⟨_, rfl, ?_⟩; have n0_ := Aside0.mk (below_step (by repeat (first | (with_reducible first | exact HB.out | apply below_alloc | apply pw_below_drewN | apply below_drew1) | exact HB.out)) hb); clear HB; have HB := n0_; clear n0_; (try clear hb); (try clear hb2); (try clear hk); (try clear hi)) | ((with_reducible refine gate_callee (f := 21) rfl ?_); refine goesL_ (some 90) rfl rfl Try.func21 (by kernel_rfl) rfl #[.int .i64 10, .int .i64 t213, .int .i64 t224, .int .i64 t215] rfl (by (try simp only [List.map_toArray, List.map_cons, List.map_nil]); first | done | rfl | (simp only [List.length_drop, List.length_take]; rfl)) ?_; (with_reducible refine (impl_Binary.calls kj6 10 t213 t224 t215 t226 t227 _ A17.out).mono ?_); rintro e w26 ⟨rfl, hb⟩; refine ⟨_, rfl, ?_⟩; have n0_ := Aside0.mk (below_step (by repeat (first | (with_reducible first | exact HB.out | apply below_alloc | apply pw_below_drewN | apply below_drew1) | exact HB.out)) hb); clear HB; have HB := n0_; clear n0_; (try clear hb); (try clear hb2); (try clear hk); (try clear hi)) | ((with_reducible refine gate_callee (f := 23) rfl ?_); refine goesL_ (some 95) rfl rfl Try.func23 (by kernel_rfl) rfl #[.int .i64 t212, .int .i64 t213] rfl (by (try simp only [List.map_toArray, List.map_cons, List.map_nil]); first | done | rfl | (simp only [List.length_drop, List.length_take]; rfl)) ?_; (with_reducible refine (impl_ResultWidth.calls kj6 t212 t213 t228 _ A18.out).mono ?_); rintro e w' ⟨rfl, ⟨nd, rfl⟩⟩; refine ⟨_, rfl, ?_⟩) | (go_at_call 12; (with_reducible refine (impl_Masked.calls t228 t216 t229 _ A21.out).mono ?_); rintro e w' ⟨rfl, ⟨nd, rfl⟩⟩))
                go_ret
                exact ⟨by first | rfl | (simp [errW_none, errW_some] <;> rfl) | (simp [*, errW_none, errW_some] <;> rfl), by repeat (first | (with_reducible first | exact HB.out | apply below_alloc | apply pw_below_drewN | apply below_drew1) | exact HB.out)⟩
              · rw [if_neg c22] at H
                have c22b0 : (t229 == t216) = false := beq_eq_false_iff_ne.mpr c22
                have c22b1 : (t229 != t216) = true := bne_iff_ne.mpr c22
                obtain rfl := Option.some.inj H
                go_wp2_with (first | ((with_reducible refine gate_callee (f := 21) rfl ?_); refine goesL_ (some 69) rfl rfl Try.func21 (by kernel_rfl) rfl #[.int .i64 1, .int .i64 t213, .int .i64 t214, .int .i64 t215] rfl (by (try simp only [List.map_toArray, List.map_cons, List.map_nil]); first | done | rfl | (simp only [List.length_drop, List.length_take]; rfl)) ?_; (with_reducible refine (impl_Binary.calls kj6 1 t213 t214 t215 t220 t221 _ A14.out).mono ?_); rintro e w27 ⟨rfl, hb⟩; refine ⟨_, rfl, ?_⟩; have n0_ := Aside0.mk (below_step (by repeat (first | (with_reducible first | exact HB.out | apply below_alloc | apply pw_below_drewN | apply below_drew1) | exact HB.out)) hb); clear HB; have HB := n0_; clear n0_; (try clear hb); (try clear hb2); (try clear hk); (try clear hi)) | ((with_reducible refine gate_callee (f := 21) rfl ?_); refine goesL_ (some 76) rfl rfl Try.func21 (by kernel_rfl) rfl #[.int .i64 2, .int .i64 t213, .int .i64 t220, .int .i64 t215] rfl (by (try simp only [List.map_toArray, List.map_cons, List.map_nil]); first | done | rfl | (simp only [List.length_drop, List.length_take]; rfl)) ?_; (with_reducible refine (impl_Binary.calls kj6 2 t213 t220 t215 t222 t223 _ A15.out).mono ?_); rintro e w28 ⟨rfl, hb⟩; refine ⟨_, rfl, ?_⟩; have n0_ := Aside0.mk (below_step (by repeat (first | (with_reducible first | exact HB.out | apply below_alloc | apply pw_below_drewN | apply below_drew1) | exact HB.out)) hb); clear HB; have HB := n0_; clear n0_; (try clear hb); (try clear hb2); (try clear hk); (try clear hi)) | ((with_reducible refine gate_callee (f := 21) rfl ?_); refine goesL_ (some 83) rfl rfl Try.func21 (by kernel_rfl) rfl #[.int .i64 10, .int .i64 t213, .int .i64 t214, .int .i64 t215] rfl (by (try simp only [List.map_toArray, List.map_cons, List.map_nil]); first | done | rfl | (simp only [List.length_drop, List.length_take]; rfl)) ?_; (with_reducible refine (impl_Binary.calls kj6 10 t213 t214 t215 t224 t225 _ A16.out).mono ?_); rintro e w29 ⟨rfl, hb⟩; refine ⟨_, rfl, ?_⟩; have n0_ := Aside0.mk (below_step (by repeat (first | (with_reducible first | exact HB.out | apply below_alloc | apply pw_below_drewN | apply below_drew1) | exact HB.out)) hb); clear HB; have HB := n0_; clear n0_; (try clear hb); (try clear hb2); (try clear hk); (try clear hi)) | ((with_reducible refine gate_callee (f := 21) rfl ?_); refine goesL_ (some 90) rfl rfl Try.func21 (by kernel_rfl) rfl #[.int .i64 10, .int .i64 t213, .int .i64 t224, .int .i64 t215] rfl (by (try simp only [List.map_toArray, List.map_cons, List.map_nil]); first | done | rfl | (simp only [List.length_drop, List.length_take]; rfl)) ?_; (with_reducible refine (impl_Binary.calls kj6 10 t213 t224 t215 t226 t227 _ A17.out).mono ?_); rintro e w30 ⟨rfl, hb⟩; refine ⟨_, rfl, ?_⟩; have n0_ := Aside0.mk (below_step (by repeat (first | (with_reducible first | exact HB.out | apply below_alloc | apply pw_below_drewN | apply below_drew1) | exact HB.out)) hb); clear HB; have HB := n0_; clear n0_; (try clear hb); (try clear hb2); (try clear hk); (try clear hi)) | ((with_reducible refine gate_callee (f := 23) rfl ?_); refine goesL_ (some 95) rfl rfl Try.func23 (by kernel_rfl) rfl #[.int .i64 t212, .int .i64 t213] rfl (by (try simp only [List.map_toArray, List.map_cons, List.map_nil]); first | done | rfl | (simp only [List.length_drop, List.length_take]; rfl)) ?_; (with_reducible refine (impl_ResultWidth.calls kj6 t212 t213 t228 _ A18.out).mono ?_); rintro e w' ⟨rfl, ⟨nd, rfl⟩⟩; refine ⟨_, rfl, ?_⟩) | (go_at_call 12; (with_reducible refine (impl_Masked.calls t228 t216 t229 _ A21.out).mono ?_); rintro e w' ⟨rfl, ⟨nd, rfl⟩⟩))
                go_ret
                exact ⟨by first | rfl | (simp [errW_none, errW_some] <;> rfl) | (simp [*, errW_none, errW_some] <;> rfl), by repeat (first | (with_reducible first | exact HB.out | apply below_alloc | apply pw_below_drewN | apply below_drew1) | exact HB.out)⟩
            · rw [if_neg c20] at H
              have c20b0 : (t226 == t214) = false := beq_eq_false_iff_ne.mpr c20
              have c20b1 : (t226 != t214) = true := bne_iff_ne.mpr c20
              obtain rfl := Option.some.inj H
              go_wp2_with (first | ((with_reducible refine gate_callee (f := 21) rfl ?_); refine goesL_ (some 69) rfl rfl Try.func21 (by kernel_rfl) rfl #[.int .i64 1, .int .i64 t213, .int .i64 t214, .int .i64 t215] rfl (by (try simp only [List.map_toArray, List.map_cons, List.map_nil]); first | done | rfl | (simp only [List.length_drop, List.length_take]; rfl)) ?_; (with_reducible refine (impl_Binary.calls kj6 1 t213 t214 t215 t220 t221 _ A14.out).mono ?_); rintro e w31 ⟨rfl, hb⟩; refine ⟨_, rfl, ?_⟩; have n0_ := Aside0.mk (below_step (by repeat (first | (with_reducible first | exact HB.out | apply below_alloc | apply pw_below_drewN | apply below_drew1) | exact HB.out)) hb); clear HB; have HB := n0_; clear n0_; (try clear hb); (try clear hb2); (try clear hk); (try clear hi)) | ((with_reducible refine gate_callee (f := 21) rfl ?_); refine goesL_ (some 76) rfl rfl Try.func21 (by kernel_rfl) rfl #[.int .i64 2, .int .i64 t213, .int .i64 t220, .int .i64 t215] rfl (by (try simp only [List.map_toArray, List.map_cons, List.map_nil]); first | done | rfl | (simp only [List.length_drop, List.length_take]; rfl)) ?_; (with_reducible refine (impl_Binary.calls kj6 2 t213 t220 t215 t222 t223 _ A15.out).mono ?_); rintro e w32 ⟨rfl, hb⟩; refine ⟨_, rfl, ?_⟩; have n0_ := Aside0.mk (below_step (by repeat (first | (with_reducible first | exact HB.out | apply below_alloc | apply pw_below_drewN | apply below_drew1) | exact HB.out)) hb); clear HB; have HB := n0_; clear n0_; (try clear hb); (try clear hb2); (try clear hk); (try clear hi)) | ((with_reducible refine gate_callee (f := 21) rfl ?_); refine goesL_ (some 83) rfl rfl Try.func21 (by kernel_rfl) rfl #[.int .i64 10, .int .i64 t213, .int .i64 t214, .int .i64 t215] rfl (by (try simp only [List.map_toArray, List.map_cons, List.map_nil]); first | done | rfl | (simp only [List.length_drop, List.length_take]; rfl)) ?_; (with_reducible refine (impl_Binary.calls kj6 10 t213 t214 t215 t224 t225 _ A16.out).mono ?_); rintro e w33 ⟨rfl, hb⟩; refine ⟨_, rfl, ?_⟩; have n0_ := Aside0.mk (below_step (by repeat (first | (with_reducible first | exact HB.out | apply below_alloc | apply pw_below_drewN | apply below_drew1) | exact HB.out)) hb); clear HB; have HB := n0_; clear n0_; (try clear hb); (try clear hb2); (try clear hk); (try clear hi)) | ((with_reducible refine gate_callee (f := 21) rfl ?_); refine goesL_ (some 90) rfl rfl Try.func21 (by kernel_rfl) rfl #[.int .i64 10, .int .i64 t213, .int .i64 t224, .int .i64 t215] rfl (by (try simp only [List.map_toArray, List.map_cons, List.map_nil]); first | done | rfl | (simp only [List.length_drop, List.length_take]; rfl)) ?_; (with_reducible refine (impl_Binary.calls kj6 10 t213 t224 t215 t226 t227 _ A17.out).mono ?_); rintro e w34 ⟨rfl, hb⟩; refine ⟨_, rfl, ?_⟩; have n0_ := Aside0.mk (below_step (by repeat (first | (with_reducible first | exact HB.out | apply below_alloc | apply pw_below_drewN | apply below_drew1) | exact HB.out)) hb); clear HB; have HB := n0_; clear n0_; (try clear hb); (try clear hb2); (try clear hk); (try clear hi)) | ((with_reducible refine gate_callee (f := 23) rfl ?_); refine goesL_ (some 95) rfl rfl Try.func23 (by kernel_rfl) rfl #[.int .i64 t212, .int .i64 t213] rfl (by (try simp only [List.map_toArray, List.map_cons, List.map_nil]); first | done | rfl | (simp only [List.length_drop, List.length_take]; rfl)) ?_; (with_reducible refine (impl_ResultWidth.calls kj6 t212 t213 t228 _ A18.out).mono ?_); rintro e w' ⟨rfl, ⟨nd, rfl⟩⟩; refine ⟨_, rfl, ?_⟩))
              go_ret
              exact ⟨by first | rfl | (simp [errW_none, errW_some] <;> rfl) | (simp [*, errW_none, errW_some] <;> rfl), by repeat (first | (with_reducible first | exact HB.out | apply below_alloc | apply pw_below_drewN | apply below_drew1) | exact HB.out)⟩
          · rw [if_neg c19] at H
            have c19b0 : (t222 == t214) = false := beq_eq_false_iff_ne.mpr c19
            have c19b1 : (t222 != t214) = true := bne_iff_ne.mpr c19
            obtain rfl := Option.some.inj H
            go_wp2_with (first | ((with_reducible refine gate_callee (f := 21) rfl ?_); refine goesL_ (some 69) rfl rfl Try.func21 (by kernel_rfl) rfl #[.int .i64 1, .int .i64 t213, .int .i64 t214, .int .i64 t215] rfl (by (try simp only [List.map_toArray, List.map_cons, List.map_nil]); first | done | rfl | (simp only [List.length_drop, List.length_take]; rfl)) ?_; (with_reducible refine (impl_Binary.calls kj6 1 t213 t214 t215 t220 t221 _ A14.out).mono ?_); rintro e w35 ⟨rfl, hb⟩; refine ⟨_, rfl, ?_⟩; have n0_ := Aside0.mk (below_step (by repeat (first | (with_reducible first | exact HB.out | apply below_alloc | apply pw_below_drewN | apply below_drew1) | exact HB.out)) hb); clear HB; have HB := n0_; clear n0_; (try clear hb); (try clear hb2); (try clear hk); (try clear hi)) | ((with_reducible refine gate_callee (f := 21) rfl ?_); refine goesL_ (some 76) rfl rfl Try.func21 (by kernel_rfl) rfl #[.int .i64 2, .int .i64 t213, .int .i64 t220, .int .i64 t215] rfl (by (try simp only [List.map_toArray, List.map_cons, List.map_nil]); first | done | rfl | (simp only [List.length_drop, List.length_take]; rfl)) ?_; (with_reducible refine (impl_Binary.calls kj6 2 t213 t220 t215 t222 t223 _ A15.out).mono ?_); rintro e w36 ⟨rfl, hb⟩; refine ⟨_, rfl, ?_⟩; have n0_ := Aside0.mk (below_step (by repeat (first | (with_reducible first | exact HB.out | apply below_alloc | apply pw_below_drewN | apply below_drew1) | exact HB.out)) hb); clear HB; have HB := n0_; clear n0_; (try clear hb); (try clear hb2); (try clear hk); (try clear hi)) | ((with_reducible refine gate_callee (f := 21) rfl ?_); refine goesL_ (some 83) rfl rfl Try.func21 (by kernel_rfl) rfl #[.int .i64 10, .int .i64 t213, .int .i64 t214, .int .i64 t215] rfl (by (try simp only [List.map_toArray, List.map_cons, List.map_nil]); first | done | rfl | (simp only [List.length_drop, List.length_take]; rfl)) ?_; (with_reducible refine (impl_Binary.calls kj6 10 t213 t214 t215 t224 t225 _ A16.out).mono ?_); rintro e w37 ⟨rfl, hb⟩; refine ⟨_, rfl, ?_⟩; have n0_ := Aside0.mk (below_step (by repeat (first | (with_reducible first | exact HB.out | apply below_alloc | apply pw_below_drewN | apply below_drew1) | exact HB.out)) hb); clear HB; have HB := n0_; clear n0_; (try clear hb); (try clear hb2); (try clear hk); (try clear hi)) | ((with_reducible refine gate_callee (f := 21) rfl ?_); refine goesL_ (some 90) rfl rfl Try.func21 (by kernel_rfl) rfl #[.int .i64 10, .int .i64 t213, .int .i64 t224, .int .i64 t215] rfl (by (try simp only [List.map_toArray, List.map_cons, List.map_nil]); first | done | rfl | (simp only [List.length_drop, List.length_take]; rfl)) ?_; (with_reducible refine (impl_Binary.calls kj6 10 t213 t224 t215 t226 t227 _ A17.out).mono ?_); rintro e w38 ⟨rfl, hb⟩; refine ⟨_, rfl, ?_⟩; have n0_ := Aside0.mk (below_step (by repeat (first | (with_reducible first | exact HB.out | apply below_alloc | apply pw_below_drewN | apply below_drew1) | exact HB.out)) hb); clear HB; have HB := n0_; clear n0_; (try clear hb); (try clear hb2); (try clear hk); (try clear hi)) | ((with_reducible refine gate_callee (f := 23) rfl ?_); refine goesL_ (some 95) rfl rfl Try.func23 (by kernel_rfl) rfl #[.int .i64 t212, .int .i64 t213] rfl (by (try simp only [List.map_toArray, List.map_cons, List.map_nil]); first | done | rfl | (simp only [List.length_drop, List.length_take]; rfl)) ?_; (with_reducible refine (impl_ResultWidth.calls kj6 t212 t213 t228 _ A18.out).mono ?_); rintro e w' ⟨rfl, ⟨nd, rfl⟩⟩; refine ⟨_, rfl, ?_⟩))
            go_ret
            exact ⟨by first | rfl | (simp [errW_none, errW_some] <;> rfl) | (simp [*, errW_none, errW_some] <;> rfl), by repeat (first | (with_reducible first | exact HB.out | apply below_alloc | apply pw_below_drewN | apply below_drew1) | exact HB.out)⟩

/-- THE ONE PURE STATEMENT of laws_FnTwos: yours. -/
def laws_FnTwos.Pure : Prop := ∀ (l0 : List Int), l0.length ≤ maxLen → l0.length * 1 ≤ 140737488351232 → (∀ x ∈ l0, (Lit.int .u8 x).wf = true) → ∃ k, laws_FnTwos.f k l0 = some true
theorem laws_FnTwos.walk (P : laws_FnTwos.Pure) (a0 : Option Addr) (len0 cap0 : Nat) (z0 : List Int) (w : World) (w0 : (a0 = none ∧ len0 = 0 ∧ cap0 = 0 ∧ z0 = []) ∨ ∃ x, a0 = some x ∧ len0 ≤ cap0 ∧ cap0 ≤ maxLen ∧ z0.length = cap0 ∧ (∀ i, i < z0.length → w.cell? (x.add i) = some (.int .u8 (z0.getD i 0))) ∧ ∀ n ∈ z0, (Lit.int .u8 n).wf = true) (y0 : len0 * 1 ≤ 140737488351232) :
    Calls Try.prog 7 #[.slice a0 len0 cap0] w fun e w' => e = .returned (.bool true) ∧ Below w.heap.size w w' := by
  obtain ⟨l0, rfl, hr0, hm0, hw0, hc0⟩ := ReadsInt.ofRowC w0
  obtain ⟨k, h⟩ := P l0 hm0 y0 hw0
  refine (laws_FnTwos.calls k _ _ l0 true w (Kd.C_of_reads (d := (0 : Int)) (h1 := fun _ => rfl) hr0) hc0 h).mono ?_
  rintro e w' ⟨rfl, hd⟩
  exact ⟨rfl, hd⟩

end Go.Proofs.Ytkjfiaieoppphaa.PFnTwos
