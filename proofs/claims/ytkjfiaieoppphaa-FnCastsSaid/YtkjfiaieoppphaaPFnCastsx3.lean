-- PRINTED BY print.sh 35421559b90ae4d0a3588c463048766b98c2df88dd9212a6774a882060cdf62d: not written by this session
import Derived.Test.YtkjfiaieoppphaaPFnCastsx0
import Derived.Test.YtkjfiaieoppphaaPFnCastsx1
import Derived.Test.YtkjfiaieoppphaaPFnCastsx2
namespace Go.Proofs.Ytkjfiaieoppphaa.PFnCasts
open Go.RowKit Go.Proofs.YtkjfiaieoppphaaW.PrintWords Go.Proofs.YtkjfiaieoppphaaW.PrintLast Go.Proofs.YtkjfiaieoppphaaW.PrintMore
attribute [local go_sem] max2_int min2_int max_two min_two max_three min_three max_four min_four   -- for this text's walks alone
set_option linter.unusedVariables false
set_option linter.unusedSimpArgs false

/-! ### impl_SignOf: function 13 -/
def impl_SignOf.f (a0 : Int) (a1 : Int) : Option (Int) := (impl_isValue.f a0 a1).bind fun t155 => (if t155 = true then ((impl_signOf.f a0 a1).bind fun t156 => (some t156)) else (some 0))
set_option maxHeartbeats 8000000 in
set_option maxRecDepth 100000 in
theorem impl_SignOf.calls (a0 : Int) (a1 : Int) (r : Int) (w : World) (h : impl_SignOf.f a0 a1 = some r) :
    Calls Try.prog 13 #[.int .i64 a0, .int .i64 a1] w fun e w' => e = .returned (.int .i64 r) ∧ Drawn0 w w' := by
  have H : ((impl_isValue.f a0 a1).bind fun t155 => (if t155 = true then ((impl_signOf.f a0 a1).bind fun t156 => (some t156)) else (some 0))) = some r := h
  clear h
  replace H := Option.bind_eq_some_iff.mp H
  obtain ⟨t155, A30, H⟩ := H
  replace H : (if t155 = true then ((impl_signOf.f a0 a1).bind fun t156 => (some t156)) else (some 0)) = some r := H
  have A3 := Aside0.mk A30
  clear A30
  by_cases c4 : t155 = true
  · subst c4
    have H1 : ((impl_signOf.f a0 a1).bind fun t156 => (some t156)) = some r := by rw [if_pos rfl] at H; exact H
    clear H
    have H := H1
    clear H1
    replace H := Option.bind_eq_some_iff.mp H
    obtain ⟨t156, A50, H⟩ := H
    replace H : (some t156) = some r := H
    have A5 := Aside0.mk A50
    clear A50
    obtain rfl := Option.some.inj H
    go_enter Try.func13, Try.ntmps13
    go_wp2_with (first | ((with_reducible refine gate_callee (f := 28) rfl ?_); refine goesL_ (some 7) rfl rfl Try.func28 (by kernel_rfl) rfl #[.int .i64 a0, .int .i64 a1] rfl (by (try simp only [List.map_toArray, List.map_cons, List.map_nil]); first | done | rfl | (simp only [List.length_drop, List.length_take]; rfl)) ?_; (with_reducible refine (impl_isValue.calls a0 a1 true _ A3.out).mono ?_); rintro e w' ⟨rfl, ⟨nd, rfl⟩⟩; refine ⟨_, rfl, ?_⟩) | ((with_reducible refine gate_callee (f := 29) rfl ?_); refine goesL_ (some 11) rfl rfl Try.func29 (by kernel_rfl) rfl #[.int .i64 a0, .int .i64 a1] rfl (by (try simp only [List.map_toArray, List.map_cons, List.map_nil]); first | done | rfl | (simp only [List.length_drop, List.length_take]; rfl)) ?_; (with_reducible refine (impl_signOf.calls a0 a1 t156 _ A5.out).mono ?_); rintro e w' ⟨rfl, ⟨nd, rfl⟩⟩; refine ⟨_, rfl, ?_⟩))
    go_ret
    exact ⟨by first | rfl | (simp; done) | (simp [*]; done), by repeat (first | exact Drawn0.refl _ | apply Drawn0.step)⟩
  · replace c4 := Bool.eq_false_iff.mpr c4
    subst c4
    have H1 : (some 0) = some r := by rw [if_neg (show ¬ (false = true) by decide)] at H; exact H
    clear H
    have H := H1
    clear H1
    obtain rfl := Option.some.inj H
    go_enter Try.func13, Try.ntmps13
    go_wp2_with (first | ((with_reducible refine gate_callee (f := 28) rfl ?_); refine goesL_ (some 7) rfl rfl Try.func28 (by kernel_rfl) rfl #[.int .i64 a0, .int .i64 a1] rfl (by (try simp only [List.map_toArray, List.map_cons, List.map_nil]); first | done | rfl | (simp only [List.length_drop, List.length_take]; rfl)) ?_; (with_reducible refine (impl_isValue.calls a0 a1 false _ A3.out).mono ?_); rintro e w' ⟨rfl, ⟨nd, rfl⟩⟩; refine ⟨_, rfl, ?_⟩))
    go_ret
    exact ⟨by first | rfl | (simp; done) | (simp [*]; done), by repeat (first | exact Drawn0.refl _ | apply Drawn0.step)⟩

/-! ### laws_FnCasts: function 3 -/
def laws_FnCasts.j0 : Nat → Int → Int → Int → Int → Int → Bool → Int → Bool → Bool → Option (Bool)
  | 0, _, _, _, _, _, _, _, _, _ => none
  | k + 1, x3, x4, x5, x6, x7, x8, x9, x10, x49 => if x49 = true then (if x7 = x9 then (some (x8 == x10)) else (some false)) else (if x3 = 20 then ((impl_Masked.f x5 x6).bind fun t166 => (some (x7 == t166))) else (if x3 = 19 then ((impl_SignOf.f x5 x7).bind fun t167 => ((impl_SignOf.f x4 x6).bind fun t168 => (if t167 = t168 then ((impl_Casted.f k 20 x5 x4 x7).bind fun bt169 => (if bt169.2 = true then (some (bt169.1 == x6)) else (some false))) else (some false)))) else (if x7 = x6 then ((impl_Casted.f k 20 x5 x4 x7).bind fun bt171 => (if bt171.2 = true then (some (bt171.1 == x6)) else (some false))) else (some false))))
def laws_FnCasts.f (k : Nat) (l0 : List Int) : Option (Bool) := (laws_big.f l0).bind fun t157 => (if t157 = true then (some true) else ((spec_DrawCasted.f k l0).bind fun bt158 => ((impl_Casted.f k bt158.1 bt158.2.1 bt158.2.2.1 bt158.2.2.2).bind fun bt162 => ((spec_Casted.f k bt158.1 bt158.2.1 bt158.2.2.1 bt158.2.2.2).bind fun bt164 => (if bt162.1 = bt164.1 then (if (bt162.2 != bt164.2) = true then (laws_FnCasts.j0 k bt158.1 bt158.2.1 bt158.2.2.1 bt158.2.2.2 bt162.1 bt162.2 bt164.1 bt164.2 true) else (laws_FnCasts.j0 k bt158.1 bt158.2.1 bt158.2.2.1 bt158.2.2.2 bt162.1 bt162.2 bt164.1 bt164.2 (!bt162.2))) else (laws_FnCasts.j0 k bt158.1 bt158.2.1 bt158.2.2.1 bt158.2.2.2 bt162.1 bt162.2 bt164.1 bt164.2 true))))))
theorem laws_FnCasts.mono_l : ∀ k, (∀ y0 y1 y2 y3 y4 y5 y6 y7 y8, LeO (laws_FnCasts.j0 k y0 y1 y2 y3 y4 y5 y6 y7 y8) (laws_FnCasts.j0 (k + 1) y0 y1 y2 y3 y4 y5 y6 y7 y8))
  | 0 => fun _ _ _ _ _ _ _ _ _ r h => by simp [laws_FnCasts.j0] at h
  | k + 1 => by
    have ih0 := laws_FnCasts.mono_l k
    · intro y0 y1 y2 y3 y4 y5 y6 y7 y8
      unfold laws_FnCasts.j0
      repeat' first
      | (with_reducible exact ih0 _ _ _ _ _ _ _ _ _)
      | (with_reducible exact impl_Casted.mono _ _ _ _ _)
      | (with_reducible exact spec_Casted.mono _ _ _ _ _)
      | (with_reducible exact spec_DrawCasted.mono _ _)
      | (with_reducible exact LeO.refl _)
      | (with_reducible exact LeO.none _)
      | (with_reducible refine LeO.ite ?_ ?_)
      | (with_reducible refine LeO.bind ?_ (fun _ => ?_))
      | exact ih0 _ _ _ _ _ _ _ _ _
      | exact impl_Casted.mono _ _ _ _ _
      | exact spec_Casted.mono _ _ _ _ _
      | exact spec_DrawCasted.mono _ _
      | exact LeO.none _
      | refine LeO.ite ?_ ?_
      | refine LeO.bind ?_ (fun _ => ?_)
theorem laws_FnCasts.mono : ∀ a0 k, LeO (laws_FnCasts.f k a0) (laws_FnCasts.f (k + 1) a0) := by
  intro a0 k
  have ih0 := laws_FnCasts.mono_l k
  unfold laws_FnCasts.f
  repeat' first
      | (with_reducible exact ih0 _ _ _ _ _ _ _ _ _)
      | (with_reducible exact impl_Casted.mono _ _ _ _ _)
      | (with_reducible exact spec_Casted.mono _ _ _ _ _)
      | (with_reducible exact spec_DrawCasted.mono _ _)
      | (with_reducible exact LeO.refl _)
      | (with_reducible exact LeO.none _)
      | (with_reducible refine LeO.ite ?_ ?_)
      | (with_reducible refine LeO.bind ?_ (fun _ => ?_))
      | exact ih0 _ _ _ _ _ _ _ _ _
      | exact impl_Casted.mono _ _ _ _ _
      | exact spec_Casted.mono _ _ _ _ _
      | exact spec_DrawCasted.mono _ _
      | exact LeO.none _
      | refine LeO.ite ?_ ?_
      | refine LeO.bind ?_ (fun _ => ?_)
set_option maxHeartbeats 8000000 in
set_option maxRecDepth 100000 in
theorem laws_FnCasts.calls (k : Nat) (A0 : Option Addr) (c0 : Nat) (l0 : List Int) (r : Bool) (w : World) (hr0 : Kd.C (Kd.int .u8) w A0 l0.length l0) (hc0 : l0.length ≤ c0) (h : laws_FnCasts.f k l0 = some r) :
    Calls Try.prog 3 #[.slice A0 l0.length c0] w fun e w' => e = .returned (.bool r) ∧ Below w.heap.size w w' := by
  have HR0 := Aside0.mk hr0
  have HC0 := Aside0.mk hc0
  clear hr0 hc0
  have HB := Aside0.mk (Below.refl w.heap.size w)
  have H : ((laws_big.f l0).bind fun t157 => (if t157 = true then (some true) else ((spec_DrawCasted.f k l0).bind fun bt158 => ((impl_Casted.f k bt158.1 bt158.2.1 bt158.2.2.1 bt158.2.2.2).bind fun bt162 => ((spec_Casted.f k bt158.1 bt158.2.1 bt158.2.2.1 bt158.2.2.2).bind fun bt164 => (if bt162.1 = bt164.1 then (if (bt162.2 != bt164.2) = true then (laws_FnCasts.j0 k bt158.1 bt158.2.1 bt158.2.2.1 bt158.2.2.2 bt162.1 bt162.2 bt164.1 bt164.2 true) else (laws_FnCasts.j0 k bt158.1 bt158.2.1 bt158.2.2.1 bt158.2.2.2 bt162.1 bt162.2 bt164.1 bt164.2 (!bt162.2))) else (laws_FnCasts.j0 k bt158.1 bt158.2.1 bt158.2.2.1 bt158.2.2.2 bt162.1 bt162.2 bt164.1 bt164.2 true))))))) = some r := h
  clear h
  replace H := Option.bind_eq_some_iff.mp H
  obtain ⟨t157, A20, H⟩ := H
  replace H : (if t157 = true then (some true) else ((spec_DrawCasted.f k l0).bind fun bt158 => ((impl_Casted.f k bt158.1 bt158.2.1 bt158.2.2.1 bt158.2.2.2).bind fun bt162 => ((spec_Casted.f k bt158.1 bt158.2.1 bt158.2.2.1 bt158.2.2.2).bind fun bt164 => (if bt162.1 = bt164.1 then (if (bt162.2 != bt164.2) = true then (laws_FnCasts.j0 k bt158.1 bt158.2.1 bt158.2.2.1 bt158.2.2.2 bt162.1 bt162.2 bt164.1 bt164.2 true) else (laws_FnCasts.j0 k bt158.1 bt158.2.1 bt158.2.2.1 bt158.2.2.2 bt162.1 bt162.2 bt164.1 bt164.2 (!bt162.2))) else (laws_FnCasts.j0 k bt158.1 bt158.2.1 bt158.2.2.1 bt158.2.2.2 bt162.1 bt162.2 bt164.1 bt164.2 true)))))) = some r := H
  have A2 := Aside0.mk A20
  clear A20
  by_cases c3 : t157 = true
  · subst c3
    have H1 : (some true) = some r := by rw [if_pos rfl] at H; exact H
    clear H
    have H := H1
    clear H1
    obtain rfl := Option.some.inj H
    go_enter Try.func3, Try.ntmps3
    go_wp2_with (first | ((with_reducible refine gate_callee (f := 8) rfl ?_); refine goesL_ (some 14) rfl rfl Try.func8 (by kernel_rfl) rfl #[.slice A0 l0.length c0] rfl (by (try simp only [List.map_toArray, List.map_cons, List.map_nil]); first | done | rfl | (simp only [List.length_drop, List.length_take]; rfl)) ?_; (with_reducible refine (laws_big.calls _ _ l0 true _ ?side1 ?side2 A2.out).mono ?_); (case side1 => repeat (first | exact HR0.out | (with_reducible refine Kd.C_alloc ?_ _) | (with_reducible refine Kd.C_drewN ?_ _) | (with_reducible refine Kd.C_drew ?_))); (case side2 => exact HC0.out); rintro e w' ⟨rfl, ⟨nd, rfl⟩⟩; refine ⟨_, rfl, ?_⟩))
    go_ret
    exact ⟨by first | rfl | (simp [errW_none, errW_some] <;> rfl) | (simp [*, errW_none, errW_some] <;> rfl), by repeat (first | (with_reducible first | exact HB.out | apply below_alloc | apply pw_below_drewN | apply below_drew1) | exact HB.out)⟩
  · replace c3 := Bool.eq_false_iff.mpr c3
    subst c3
    have H1 : ((spec_DrawCasted.f k l0).bind fun bt158 => ((impl_Casted.f k bt158.1 bt158.2.1 bt158.2.2.1 bt158.2.2.2).bind fun bt162 => ((spec_Casted.f k bt158.1 bt158.2.1 bt158.2.2.1 bt158.2.2.2).bind fun bt164 => (if bt162.1 = bt164.1 then (if (bt162.2 != bt164.2) = true then (laws_FnCasts.j0 k bt158.1 bt158.2.1 bt158.2.2.1 bt158.2.2.2 bt162.1 bt162.2 bt164.1 bt164.2 true) else (laws_FnCasts.j0 k bt158.1 bt158.2.1 bt158.2.2.1 bt158.2.2.2 bt162.1 bt162.2 bt164.1 bt164.2 (!bt162.2))) else (laws_FnCasts.j0 k bt158.1 bt158.2.1 bt158.2.2.1 bt158.2.2.2 bt162.1 bt162.2 bt164.1 bt164.2 true))))) = some r := by rw [if_neg (show ¬ (false = true) by decide)] at H; exact H
    clear H
    have H := H1
    clear H1
    replace H := Option.bind_eq_some_iff.mp H
    obtain ⟨⟨t158, t159, t160, t161⟩, A40, H⟩ := H
    replace H : ((impl_Casted.f k t158 t159 t160 t161).bind fun bt162 => ((spec_Casted.f k t158 t159 t160 t161).bind fun bt164 => (if bt162.1 = bt164.1 then (if (bt162.2 != bt164.2) = true then (laws_FnCasts.j0 k t158 t159 t160 t161 bt162.1 bt162.2 bt164.1 bt164.2 true) else (laws_FnCasts.j0 k t158 t159 t160 t161 bt162.1 bt162.2 bt164.1 bt164.2 (!bt162.2))) else (laws_FnCasts.j0 k t158 t159 t160 t161 bt162.1 bt162.2 bt164.1 bt164.2 true)))) = some r := H
    have A4 := Aside0.mk A40
    clear A40
    replace H := Option.bind_eq_some_iff.mp H
    obtain ⟨⟨t162, t163⟩, A50, H⟩ := H
    replace H : ((spec_Casted.f k t158 t159 t160 t161).bind fun bt164 => (if t162 = bt164.1 then (if (t163 != bt164.2) = true then (laws_FnCasts.j0 k t158 t159 t160 t161 t162 t163 bt164.1 bt164.2 true) else (laws_FnCasts.j0 k t158 t159 t160 t161 t162 t163 bt164.1 bt164.2 (!t163))) else (laws_FnCasts.j0 k t158 t159 t160 t161 t162 t163 bt164.1 bt164.2 true))) = some r := H
    have A5 := Aside0.mk A50
    clear A50
    replace H := Option.bind_eq_some_iff.mp H
    obtain ⟨⟨t164, t165⟩, A60, H⟩ := H
    replace H : (if t162 = t164 then (if (t163 != t165) = true then (laws_FnCasts.j0 k t158 t159 t160 t161 t162 t163 t164 t165 true) else (laws_FnCasts.j0 k t158 t159 t160 t161 t162 t163 t164 t165 (!t163))) else (laws_FnCasts.j0 k t158 t159 t160 t161 t162 t163 t164 t165 true)) = some r := H
    have A6 := Aside0.mk A60
    clear A60
    have HC7 := Aside0.mk H
    clear H
    go_enter Try.func3, Try.ntmps3
    go_upto_region 6 with (first | ((with_reducible refine gate_callee (f := 8) rfl ?_); refine goesL_ (some 14) rfl rfl Try.func8 (by kernel_rfl) rfl #[.slice A0 l0.length c0] rfl (by (try simp only [List.map_toArray, List.map_cons, List.map_nil]); first | done | rfl | (simp only [List.length_drop, List.length_take]; rfl)) ?_; (with_reducible refine (laws_big.calls _ _ l0 false _ ?side1 ?side2 A2.out).mono ?_); (case side1 => repeat (first | exact HR0.out | (with_reducible refine Kd.C_alloc ?_ _) | (with_reducible refine Kd.C_drewN ?_ _) | (with_reducible refine Kd.C_drew ?_))); (case side2 => exact HC0.out); rintro e w' ⟨rfl, ⟨nd, rfl⟩⟩; refine ⟨_, rfl, ?_⟩) | ((with_reducible refine gate_callee (f := 9) rfl ?_); refine goesL_ (some 17) rfl rfl Try.func9 (by kernel_rfl) rfl #[.slice A0 l0.length c0] rfl (by (try simp only [List.map_toArray, List.map_cons, List.map_nil]); first | done | rfl | (simp only [List.length_drop, List.length_take]; rfl)) ?_; (with_reducible refine (spec_DrawCasted.calls k _ _ l0 t158 t159 t160 t161 _ ?side1 ?side2 A4.out).mono ?_); (case side1 => repeat (first | exact HR0.out | (with_reducible refine Kd.C_alloc ?_ _) | (with_reducible refine Kd.C_drewN ?_ _) | (with_reducible refine Kd.C_drew ?_))); (case side2 => exact HC0.out); rintro e w8 ⟨rfl, hb⟩; refine ⟨_, rfl, ?_⟩; have n0_ := Aside0.mk (below_step (by repeat (first | (with_reducible first | exact HB.out | apply below_alloc | apply pw_below_drewN | apply below_drew1) | exact HB.out)) hb); clear HB; have HB := n0_; clear n0_; (try clear hb); (try clear hb2); (try clear hk); (try clear hi)) | ((with_reducible refine gate_callee (f := 10) rfl ?_); refine goesL_ (some 27) rfl rfl Try.func10 (by kernel_rfl) rfl #[.int .i64 t158, .int .i64 t159, .int .i64 t160, .int .i64 t161] rfl (by (try simp only [List.map_toArray, List.map_cons, List.map_nil]); first | done | rfl | (simp only [List.length_drop, List.length_take]; rfl)) ?_; (with_reducible refine (impl_Casted.calls k t158 t159 t160 t161 t162 t163 _ A5.out).mono ?_); rintro e w' ⟨rfl, ⟨nd, rfl⟩⟩; refine ⟨_, rfl, ?_⟩) | ((with_reducible refine gate_callee (f := 11) rfl ?_); refine goesL_ (some 35) rfl rfl Try.func11 (by kernel_rfl) rfl #[.int .i64 t158, .int .i64 t159, .int .i64 t160, .int .i64 t161] rfl (by (try simp only [List.map_toArray, List.map_cons, List.map_nil]); first | done | rfl | (simp only [List.length_drop, List.length_take]; rfl)) ?_; (with_reducible refine (spec_Casted.calls k t158 t159 t160 t161 t164 t165 _ A6.out).mono ?_); rintro e w' ⟨rfl, ⟨nd, rfl⟩⟩; refine ⟨_, rfl, ?_⟩))
    (try simp only [Act.put, List.setIfInBounds_toArray, List.set_cons_zero, List.set_cons_succ])
    go_cut [49] (fun v49 wc => ∃ (kq : Nat) (x49_6 : Bool), v49 = .bool x49_6 ∧ Aside0 (laws_FnCasts.j0 kq t158 t159 t160 t161 t162 t163 t164 t165 x49_6 = some r) ∧ Aside0 (kq ≤ k) ∧ Aside0 (Below w.heap.size w wc))
    case first =>
      have H := HC7.out
      clear HC7
      by_cases c9 : t162 = t164
      · rw [if_pos c9] at H
        have c9b0 : (t162 == t164) = true := beq_iff_eq.mpr c9
        have c9b1 : (t162 != t164) = false := bne_eq_false_iff_eq.mpr c9
        clear c9
        (first | rw [c9b0] | (simp only [i64_w, i32_w]; rw [c9b0]) | skip)
        by_cases c10 : (t163 != t165) = true
        · rw [if_pos c10] at H
          have c10b0 : (t163 != t165) = true := c10
          (try (have c10b1 : decide (t163 = t165) = false := by simpa using c10))
          (try (have c10b2 : (t163 == t165) = false := by simpa using c10))
          (try (have c10b3 : ¬ (t163 = t165) := by simpa using c10))
          clear c10
          have H' := Aside0.mk H
          clear H
          go_wp2
          go_meet
          case rel => exact ⟨_, (true), (by first | rfl | (simp; done) | (simp [*]; done)), H', ⟨by first | omega | exact Nat.le_refl _⟩, ⟨by repeat (first | (with_reducible first | exact HB.out | apply below_alloc | apply pw_below_drewN | apply below_drew1) | exact HB.out)⟩⟩
        · rw [if_neg c10] at H
          have c10b0 : (t163 != t165) = false := by simpa using c10
          (try (have c10b1 : decide (t163 = t165) = true := by simpa using c10))
          (try (have c10b2 : (t163 == t165) = true := by simpa using c10))
          clear c10
          have H' := Aside0.mk H
          clear H
          go_wp2
          go_meet
          case rel => exact ⟨_, (!t163), (by first | rfl | (simp; done) | (simp [*]; done)), H', ⟨by first | omega | exact Nat.le_refl _⟩, ⟨by repeat (first | (with_reducible first | exact HB.out | apply below_alloc | apply pw_below_drewN | apply below_drew1) | exact HB.out)⟩⟩
      · rw [if_neg c9] at H
        have c9b0 : (t162 == t164) = false := beq_eq_false_iff_ne.mpr c9
        have c9b1 : (t162 != t164) = true := bne_iff_ne.mpr c9
        (first | rw [c9b0] | (simp only [i64_w, i32_w]; rw [c9b0]) | skip)
        have H' := Aside0.mk H
        clear H
        go_wp2
        go_meet
        case rel => exact ⟨_, (true), (by first | rfl | (simp; done) | (simp [*]; done)), H', ⟨by first | omega | exact Nat.le_refl _⟩, ⟨by repeat (first | (with_reducible first | exact HB.out | apply below_alloc | apply pw_below_drewN | apply below_drew1) | exact HB.out)⟩⟩
    case rest =>
      clear HC7
      try clear c1
      try clear p2
      try clear c3
      try clear c8
      try clear c9
      try clear c9b0
      try clear c9b1
      try clear c10
      try clear c10b0
      try clear c10b1
      try clear c10b2
      obtain ⟨kq, x49_6, rfl, HA, HJ6, HB⟩ := hcut
      cases kq with
      | zero => exact absurd HA.out (by simp [laws_FnCasts.j0])
      | succ kj6 =>
        have H := HA.out
        clear HA
        simp only [laws_FnCasts.j0] at H
        by_cases c11 : x49_6 = true
        · subst c11
          have H1 : (if t162 = t164 then (some (t163 == t165)) else (some false)) = some r := by rw [if_pos rfl] at H; exact H
          clear H
          have H := H1
          clear H1
          by_cases c12 : t162 = t164
          · rw [if_pos c12] at H
            have c12b0 : (t162 == t164) = true := beq_iff_eq.mpr c12
            have c12b1 : (t162 != t164) = false := bne_eq_false_iff_eq.mpr c12
            clear c12
            obtain rfl := Option.some.inj H
            go_wp2
            go_ret
            exact ⟨by first | rfl | (simp [errW_none, errW_some] <;> rfl) | (simp [*, errW_none, errW_some] <;> rfl), by repeat (first | (with_reducible first | exact HB.out | apply below_alloc | apply pw_below_drewN | apply below_drew1) | exact HB.out)⟩
          · rw [if_neg c12] at H
            have c12b0 : (t162 == t164) = false := beq_eq_false_iff_ne.mpr c12
            have c12b1 : (t162 != t164) = true := bne_iff_ne.mpr c12
            obtain rfl := Option.some.inj H
            go_wp2
            go_ret
            exact ⟨by first | rfl | (simp [errW_none, errW_some] <;> rfl) | (simp [*, errW_none, errW_some] <;> rfl), by repeat (first | (with_reducible first | exact HB.out | apply below_alloc | apply pw_below_drewN | apply below_drew1) | exact HB.out)⟩
        · replace c11 := Bool.eq_false_iff.mpr c11
          subst c11
          have H1 : (if t158 = 20 then ((impl_Masked.f t160 t161).bind fun t166 => (some (t162 == t166))) else (if t158 = 19 then ((impl_SignOf.f t160 t162).bind fun t167 => ((impl_SignOf.f t159 t161).bind fun t168 => (if t167 = t168 then ((impl_Casted.f kj6 20 t160 t159 t162).bind fun bt169 => (if bt169.2 = true then (some (bt169.1 == t161)) else (some false))) else (some false)))) else (if t162 = t161 then ((impl_Casted.f kj6 20 t160 t159 t162).bind fun bt171 => (if bt171.2 = true then (some (bt171.1 == t161)) else (some false))) else (some false)))) = some r := by rw [if_neg (show ¬ (false = true) by decide)] at H; exact H
          clear H
          have H := H1
          clear H1
          by_cases c13 : t158 = 20
          · rw [if_pos c13] at H
            have c13b0 : (t158 == 20) = true := beq_iff_eq.mpr c13
            have c13b1 : (t158 != 20) = false := bne_eq_false_iff_eq.mpr c13
            clear c13
            replace H := Option.bind_eq_some_iff.mp H
            obtain ⟨t166, A140, H⟩ := H
            replace H : (some (t162 == t166)) = some r := H
            have A14 := Aside0.mk A140
            clear A140
            obtain rfl := Option.some.inj H
            go_wp2_with (first | ((with_reducible refine gate_callee (f := 12) rfl ?_); refine goesL_ (some 67) rfl rfl Try.func12 (by kernel_rfl) rfl #[.int .i64 t160, .int .i64 t161] rfl (by (try simp only [List.map_toArray, List.map_cons, List.map_nil]); first | done | rfl | (simp only [List.length_drop, List.length_take]; rfl)) ?_; (with_reducible refine (impl_Masked.calls t160 t161 t166 _ A14.out).mono ?_); rintro e w' ⟨rfl, ⟨nd, rfl⟩⟩; refine ⟨_, rfl, ?_⟩))
            go_ret
            exact ⟨by first | rfl | (simp [errW_none, errW_some] <;> rfl) | (simp [*, errW_none, errW_some] <;> rfl), by repeat (first | (with_reducible first | exact HB.out | apply below_alloc | apply pw_below_drewN | apply below_drew1) | exact HB.out)⟩
          · rw [if_neg c13] at H
            have c13b0 : (t158 == 20) = false := beq_eq_false_iff_ne.mpr c13
            have c13b1 : (t158 != 20) = true := bne_iff_ne.mpr c13
            by_cases c15 : t158 = 19
            · rw [if_pos c15] at H
              have c15b0 : (t158 == 19) = true := beq_iff_eq.mpr c15
              have c15b1 : (t158 != 19) = false := bne_eq_false_iff_eq.mpr c15
              clear c15
              replace H := Option.bind_eq_some_iff.mp H
              obtain ⟨t167, A160, H⟩ := H
              replace H : ((impl_SignOf.f t159 t161).bind fun t168 => (if t167 = t168 then ((impl_Casted.f kj6 20 t160 t159 t162).bind fun bt169 => (if bt169.2 = true then (some (bt169.1 == t161)) else (some false))) else (some false))) = some r := H
              have A16 := Aside0.mk A160
              clear A160
              replace H := Option.bind_eq_some_iff.mp H
              obtain ⟨t168, A170, H⟩ := H
              replace H : (if t167 = t168 then ((impl_Casted.f kj6 20 t160 t159 t162).bind fun bt169 => (if bt169.2 = true then (some (bt169.1 == t161)) else (some false))) else (some false)) = some r := H
              have A17 := Aside0.mk A170
              clear A170
              by_cases c18 : t167 = t168
              · rw [if_pos c18] at H
                have c18b0 : (t167 == t168) = true := beq_iff_eq.mpr c18
                have c18b1 : (t167 != t168) = false := bne_eq_false_iff_eq.mpr c18
                clear c18
                replace H := Option.bind_eq_some_iff.mp H
                obtain ⟨⟨t169, t170⟩, A190, H⟩ := H
                replace H : (if t170 = true then (some (t169 == t161)) else (some false)) = some r := H
                have A19 := Aside0.mk A190
                clear A190
                by_cases c20 : t170 = true
                · subst c20
                  have H1 : (some (t169 == t161)) = some r := by rw [if_pos rfl] at H; exact H
                  clear H
                  have H := H1
                  clear H1
                  obtain rfl := Option.some.inj H
                  go_wp2_with (first | ((with_reducible refine gate_callee (f := 13) rfl ?_); refine goesL_ (some 73) rfl rfl Try.func13 (by kernel_rfl) rfl #[.int .i64 t160, .int .i64 t162] rfl (by (try simp only [List.map_toArray, List.map_cons, List.map_nil]); first | done | rfl | (simp only [List.length_drop, List.length_take]; rfl)) ?_; (with_reducible refine (impl_SignOf.calls t160 t162 t167 _ A16.out).mono ?_); rintro e w' ⟨rfl, ⟨nd, rfl⟩⟩; refine ⟨_, rfl, ?_⟩) | ((with_reducible refine gate_callee (f := 13) rfl ?_); refine goesL_ (some 76) rfl rfl Try.func13 (by kernel_rfl) rfl #[.int .i64 t159, .int .i64 t161] rfl (by (try simp only [List.map_toArray, List.map_cons, List.map_nil]); first | done | rfl | (simp only [List.length_drop, List.length_take]; rfl)) ?_; (with_reducible refine (impl_SignOf.calls t159 t161 t168 _ A17.out).mono ?_); rintro e w' ⟨rfl, ⟨nd, rfl⟩⟩; refine ⟨_, rfl, ?_⟩) | ((with_reducible refine gate_callee (f := 10) rfl ?_); refine goesL_ (some 82) rfl rfl Try.func10 (by kernel_rfl) rfl #[.int .i64 20, .int .i64 t160, .int .i64 t159, .int .i64 t162] rfl (by (try simp only [List.map_toArray, List.map_cons, List.map_nil]); first | done | rfl | (simp only [List.length_drop, List.length_take]; rfl)) ?_; (with_reducible refine (impl_Casted.calls kj6 20 t160 t159 t162 t169 true _ A19.out).mono ?_); rintro e w' ⟨rfl, ⟨nd, rfl⟩⟩; refine ⟨_, rfl, ?_⟩))
                  go_ret
                  exact ⟨by first | rfl | (simp [errW_none, errW_some] <;> rfl) | (simp [*, errW_none, errW_some] <;> rfl), by repeat (first | (with_reducible first | exact HB.out | apply below_alloc | apply pw_below_drewN | apply below_drew1) | exact HB.out)⟩
                · replace c20 := Bool.eq_false_iff.mpr c20
                  subst c20
                  have H1 : (some false) = some r := by rw [if_neg (show ¬ (false = true) by decide)] at H; exact H
                  clear H
                  have H := H1
                  clear H1
                  obtain rfl := Option.some.inj H
                  go_wp2_with (first | ((with_reducible refine gate_callee (f := 13) rfl ?_); refine goesL_ (some 73) rfl rfl Try.func13 (by kernel_rfl) rfl #[.int .i64 t160, .int .i64 t162] rfl (by (try simp only [List.map_toArray, List.map_cons, List.map_nil]); first | done | rfl | (simp only [List.length_drop, List.length_take]; rfl)) ?_; (with_reducible refine (impl_SignOf.calls t160 t162 t167 _ A16.out).mono ?_); rintro e w' ⟨rfl, ⟨nd, rfl⟩⟩; refine ⟨_, rfl, ?_⟩) | ((with_reducible refine gate_callee (f := 13) rfl ?_); refine goesL_ (some 76) rfl rfl Try.func13 (by kernel_rfl) rfl #[.int .i64 t159, .int .i64 t161] rfl (by (try simp only [List.map_toArray, List.map_cons, List.map_nil]); first | done | rfl | (simp only [List.length_drop, List.length_take]; rfl)) ?_; (with_reducible refine (impl_SignOf.calls t159 t161 t168 _ A17.out).mono ?_); rintro e w' ⟨rfl, ⟨nd, rfl⟩⟩; refine ⟨_, rfl, ?_⟩) | ((with_reducible refine gate_callee (f := 10) rfl ?_); refine goesL_ (some 82) rfl rfl Try.func10 (by kernel_rfl) rfl #[.int .i64 20, .int .i64 t160, .int .i64 t159, .int .i64 t162] rfl (by (try simp only [List.map_toArray, List.map_cons, List.map_nil]); first | done | rfl | (simp only [List.length_drop, List.length_take]; rfl)) ?_; (with_reducible refine (impl_Casted.calls kj6 20 t160 t159 t162 t169 false _ A19.out).mono ?_); rintro e w' ⟨rfl, ⟨nd, rfl⟩⟩; refine ⟨_, rfl, ?_⟩))
                  go_ret
                  exact ⟨by first | rfl | (simp [errW_none, errW_some] <;> rfl) | (simp [*, errW_none, errW_some] <;> rfl), by repeat (first | (with_reducible first | exact HB.out | apply below_alloc | apply pw_below_drewN | apply below_drew1) | exact HB.out)⟩
              · rw [if_neg c18] at H
                have c18b0 : (t167 == t168) = false := beq_eq_false_iff_ne.mpr c18
                have c18b1 : (t167 != t168) = true := bne_iff_ne.mpr c18
                obtain rfl := Option.some.inj H
                go_wp2_with (first | ((with_reducible refine gate_callee (f := 13) rfl ?_); refine goesL_ (some 73) rfl rfl Try.func13 (by kernel_rfl) rfl #[.int .i64 t160, .int .i64 t162] rfl (by (try simp only [List.map_toArray, List.map_cons, List.map_nil]); first | done | rfl | (simp only [List.length_drop, List.length_take]; rfl)) ?_; (with_reducible refine (impl_SignOf.calls t160 t162 t167 _ A16.out).mono ?_); rintro e w' ⟨rfl, ⟨nd, rfl⟩⟩; refine ⟨_, rfl, ?_⟩) | ((with_reducible refine gate_callee (f := 13) rfl ?_); refine goesL_ (some 76) rfl rfl Try.func13 (by kernel_rfl) rfl #[.int .i64 t159, .int .i64 t161] rfl (by (try simp only [List.map_toArray, List.map_cons, List.map_nil]); first | done | rfl | (simp only [List.length_drop, List.length_take]; rfl)) ?_; (with_reducible refine (impl_SignOf.calls t159 t161 t168 _ A17.out).mono ?_); rintro e w' ⟨rfl, ⟨nd, rfl⟩⟩; refine ⟨_, rfl, ?_⟩))
                go_ret
                exact ⟨by first | rfl | (simp [errW_none, errW_some] <;> rfl) | (simp [*, errW_none, errW_some] <;> rfl), by repeat (first | (with_reducible first | exact HB.out | apply below_alloc | apply pw_below_drewN | apply below_drew1) | exact HB.out)⟩
            · rw [if_neg c15] at H
              have c15b0 : (t158 == 19) = false := beq_eq_false_iff_ne.mpr c15
              have c15b1 : (t158 != 19) = true := bne_iff_ne.mpr c15
              by_cases c21 : t162 = t161
              · rw [if_pos c21] at H
                have c21b0 : (t162 == t161) = true := beq_iff_eq.mpr c21
                have c21b1 : (t162 != t161) = false := bne_eq_false_iff_eq.mpr c21
                clear c21
                replace H := Option.bind_eq_some_iff.mp H
                obtain ⟨⟨t171, t172⟩, A220, H⟩ := H
                replace H : (if t172 = true then (some (t171 == t161)) else (some false)) = some r := H
                have A22 := Aside0.mk A220
                clear A220
                by_cases c23 : t172 = true
                · subst c23
                  have H1 : (some (t171 == t161)) = some r := by rw [if_pos rfl] at H; exact H
                  clear H
                  have H := H1
                  clear H1
                  obtain rfl := Option.some.inj H
                  go_wp2_with (first | ((with_reducible refine gate_callee (f := 10) rfl ?_); refine goesL_ (some 82) rfl rfl Try.func10 (by kernel_rfl) rfl #[.int .i64 20, .int .i64 t160, .int .i64 t159, .int .i64 t162] rfl (by (try simp only [List.map_toArray, List.map_cons, List.map_nil]); first | done | rfl | (simp only [List.length_drop, List.length_take]; rfl)) ?_; (with_reducible refine (impl_Casted.calls kj6 20 t160 t159 t162 t171 true _ A22.out).mono ?_); rintro e w' ⟨rfl, ⟨nd, rfl⟩⟩; refine ⟨_, rfl, ?_⟩))
                  go_ret
                  exact ⟨by first | rfl | (simp [errW_none, errW_some] <;> rfl) | (simp [*, errW_none, errW_some] <;> rfl), by repeat (first | (with_reducible first | exact HB.out | apply below_alloc | apply pw_below_drewN | apply below_drew1) | exact HB.out)⟩
                · replace c23 := Bool.eq_false_iff.mpr c23
                  subst c23
                  have H1 : (some false) = some r := by rw [if_neg (show ¬ (false = true) by decide)] at H; exact H
                  clear H
                  have H := H1
                  clear H1
                  obtain rfl := Option.some.inj H
                  go_wp2_with (first | ((with_reducible refine gate_callee (f := 10) rfl ?_); refine goesL_ (some 82) rfl rfl Try.func10 (by kernel_rfl) rfl #[.int .i64 20, .int .i64 t160, .int .i64 t159, .int .i64 t162] rfl (by (try simp only [List.map_toArray, List.map_cons, List.map_nil]); first | done | rfl | (simp only [List.length_drop, List.length_take]; rfl)) ?_; (with_reducible refine (impl_Casted.calls kj6 20 t160 t159 t162 t171 false _ A22.out).mono ?_); rintro e w' ⟨rfl, ⟨nd, rfl⟩⟩; refine ⟨_, rfl, ?_⟩))
                  go_ret
                  exact ⟨by first | rfl | (simp [errW_none, errW_some] <;> rfl) | (simp [*, errW_none, errW_some] <;> rfl), by repeat (first | (with_reducible first | exact HB.out | apply below_alloc | apply pw_below_drewN | apply below_drew1) | exact HB.out)⟩
              · rw [if_neg c21] at H
                have c21b0 : (t162 == t161) = false := beq_eq_false_iff_ne.mpr c21
                have c21b1 : (t162 != t161) = true := bne_iff_ne.mpr c21
                obtain rfl := Option.some.inj H
                go_wp2
                go_ret
                exact ⟨by first | rfl | (simp [errW_none, errW_some] <;> rfl) | (simp [*, errW_none, errW_some] <;> rfl), by repeat (first | (with_reducible first | exact HB.out | apply below_alloc | apply pw_below_drewN | apply below_drew1) | exact HB.out)⟩

/-- THE ONE PURE STATEMENT of laws_FnCasts: yours. -/
def laws_FnCasts.Pure : Prop := ∀ (l0 : List Int), l0.length ≤ maxLen → l0.length * 1 ≤ 140737488351232 → (∀ x ∈ l0, (Lit.int .u8 x).wf = true) → ∃ k, laws_FnCasts.f k l0 = some true
theorem laws_FnCasts.walk (P : laws_FnCasts.Pure) (a0 : Option Addr) (len0 cap0 : Nat) (z0 : List Int) (w : World) (w0 : (a0 = none ∧ len0 = 0 ∧ cap0 = 0 ∧ z0 = []) ∨ ∃ x, a0 = some x ∧ len0 ≤ cap0 ∧ cap0 ≤ maxLen ∧ z0.length = cap0 ∧ (∀ i, i < z0.length → w.cell? (x.add i) = some (.int .u8 (z0.getD i 0))) ∧ ∀ n ∈ z0, (Lit.int .u8 n).wf = true) (y0 : len0 * 1 ≤ 140737488351232) :
    Calls Try.prog 3 #[.slice a0 len0 cap0] w fun e w' => e = .returned (.bool true) ∧ Below w.heap.size w w' := by
  obtain ⟨l0, rfl, hr0, hm0, hw0, hc0⟩ := ReadsInt.ofRowC w0
  obtain ⟨k, h⟩ := P l0 hm0 y0 hw0
  refine (laws_FnCasts.calls k _ _ l0 true w (Kd.C_of_reads (d := (0 : Int)) (h1 := fun _ => rfl) hr0) hc0 h).mono ?_
  rintro e w' ⟨rfl, hd⟩
  exact ⟨rfl, hd⟩

end Go.Proofs.Ytkjfiaieoppphaa.PFnCasts
