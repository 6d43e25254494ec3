/- The walk through laws.FnMasked: begun as a printed text (see NOTES.md); the way on which spec.WidthOk is asked twice is told by hand. -/
import Derived.Test.YtkjfiaieoppphaaPFnMaskedx0
import Derived.Test.YtkjfiaieoppphaaPFnMaskedx1
import Derived.Test.YtkjfiaieoppphaaPFnMaskedx2
namespace Go.Proofs.Ytkjfiaieoppphaa.PFnMasked
open Go.RowKit Go.Proofs.YtkjfiaieoppphaaW.PrintWords Go.Proofs.YtkjfiaieoppphaaW.PrintLast Go.Proofs.YtkjfiaieoppphaaW.PrintMore
attribute [local go_sem] max2_int min2_int max_two min_two max_three min_three max_four min_four   -- for this text's walks alone
set_option linter.unusedVariables false
set_option linter.unusedSimpArgs false

/-! ### laws_FnMasked: function 4 -/
def laws_FnMasked.j0 : Nat → Int → Int → Int → Int → Int → Bool → Option (Bool)
  | 0, _, _, _, _, _, _ => none
  | k + 1, x3, x4, x5, x6, x7, x49 => if x49 = true then ((spec_Masked.f x3 x4).bind fun t190 => (if x5 = t190 then ((impl_SignOf.f x6 x7).bind fun t191 => ((spec_SignOf.f x6 x7).bind fun t192 => (if t191 = t192 then ((impl_WidthOk.f x3).bind fun t193 => ((spec_WidthOk.f x3).bind fun t194 => (some (t193 == t194)))) else (some false)))) else (some false))) else (if 0 ≤ (IntKind.u64.wrap (x3)) then (if x5 ≥ 0 then (if x5 < (shl .i64 1 (IntKind.u64.wrap (x3))) then ((impl_Masked.f x3 x5).bind fun t195 => (if t195 = x5 then (if (shl .i64 1 (IntKind.u64.wrap (x3))) = 0 then (none) else (if (Int.tmod (wrap64 (x4 - x5)) (shl .i64 1 (IntKind.u64.wrap (x3)))) = 0 then ((impl_SignOf.f x3 x5).bind fun t196 => (some ((Int.tmod (wrap64 (t196 - x5)) (shl .i64 1 (IntKind.u64.wrap (x3)))) == 0))) else (some false))) else (some false))) else (some false)) else (some false)) else (none))
def laws_FnMasked.f (k : Nat) (l0 : List Int) : Option (Bool) := (laws_big.f l0).bind fun t178 => (if t178 = true then (some true) else ((spec_DrawMasked.f k l0).bind fun bt179 => ((impl_Masked.f bt179.1 bt179.2).bind fun t181 => ((spec_DrawSignOf.f k l0).bind fun bt182 => ((spec_Masked.f bt179.1 bt179.2).bind fun t184 => (if t181 = t184 then ((impl_SignOf.f bt182.1 bt182.2).bind fun t185 => ((spec_SignOf.f bt182.1 bt182.2).bind fun t186 => (if t185 = t186 then ((impl_WidthOk.f bt179.1).bind fun t187 => ((spec_WidthOk.f bt179.1).bind fun t188 => (if (t187 != t188) = true then (laws_FnMasked.j0 k bt179.1 bt179.2 t181 bt182.1 bt182.2 true) else ((spec_WidthOk.f bt179.1).bind fun t189 => (laws_FnMasked.j0 k bt179.1 bt179.2 t181 bt182.1 bt182.2 (!t189)))))) else (laws_FnMasked.j0 k bt179.1 bt179.2 t181 bt182.1 bt182.2 true)))) else (laws_FnMasked.j0 k bt179.1 bt179.2 t181 bt182.1 bt182.2 true)))))))
theorem laws_FnMasked.mono_l : ∀ k, (∀ y0 y1 y2 y3 y4 y5, LeO (laws_FnMasked.j0 k y0 y1 y2 y3 y4 y5) (laws_FnMasked.j0 (k + 1) y0 y1 y2 y3 y4 y5))
  | 0 => fun _ _ _ _ _ _ r h => by simp [laws_FnMasked.j0] at h
  | k + 1 => by
    have ih0 := laws_FnMasked.mono_l k
    · intro y0 y1 y2 y3 y4 y5
      unfold laws_FnMasked.j0
      repeat' first
      | (with_reducible exact ih0 _ _ _ _ _ _)
      | (with_reducible exact spec_DrawMasked.mono _ _)
      | (with_reducible exact spec_DrawSignOf.mono _ _)
      | (with_reducible exact LeO.refl _)
      | (with_reducible exact LeO.none _)
      | (with_reducible refine LeO.ite ?_ ?_)
      | (with_reducible refine LeO.bind ?_ (fun _ => ?_))
      | exact ih0 _ _ _ _ _ _
      | exact spec_DrawMasked.mono _ _
      | exact spec_DrawSignOf.mono _ _
      | exact LeO.none _
      | refine LeO.ite ?_ ?_
      | refine LeO.bind ?_ (fun _ => ?_)
theorem laws_FnMasked.mono : ∀ a0 k, LeO (laws_FnMasked.f k a0) (laws_FnMasked.f (k + 1) a0) := by
  intro a0 k
  have ih0 := laws_FnMasked.mono_l k
  unfold laws_FnMasked.f
  repeat' first
      | (with_reducible exact ih0 _ _ _ _ _ _)
      | (with_reducible exact spec_DrawMasked.mono _ _)
      | (with_reducible exact spec_DrawSignOf.mono _ _)
      | (with_reducible exact LeO.refl _)
      | (with_reducible exact LeO.none _)
      | (with_reducible refine LeO.ite ?_ ?_)
      | (with_reducible refine LeO.bind ?_ (fun _ => ?_))
      | exact ih0 _ _ _ _ _ _
      | exact spec_DrawMasked.mono _ _
      | exact spec_DrawSignOf.mono _ _
      | exact LeO.none _
      | refine LeO.ite ?_ ?_
      | refine LeO.bind ?_ (fun _ => ?_)
set_option maxHeartbeats 8000000 in
set_option maxRecDepth 100000 in
theorem laws_FnMasked.calls (k : Nat) (A0 : Option Addr) (c0 : Nat) (l0 : List Int) (r : Bool) (w : World) (hr0 : Kd.C (Kd.int .u8) w A0 l0.length l0) (hc0 : l0.length ≤ c0) (h : laws_FnMasked.f k l0 = some r) :
    Calls Try.prog 4 #[.slice A0 l0.length c0] w fun e w' => e = .returned (.bool r) ∧ Below w.heap.size w w' := by
  have HR0 := Aside0.mk hr0
  have HC0 := Aside0.mk hc0
  clear hr0 hc0
  have HB := Aside0.mk (Below.refl w.heap.size w)
  have H : ((laws_big.f l0).bind fun t178 => (if t178 = true then (some true) else ((spec_DrawMasked.f k l0).bind fun bt179 => ((impl_Masked.f bt179.1 bt179.2).bind fun t181 => ((spec_DrawSignOf.f k l0).bind fun bt182 => ((spec_Masked.f bt179.1 bt179.2).bind fun t184 => (if t181 = t184 then ((impl_SignOf.f bt182.1 bt182.2).bind fun t185 => ((spec_SignOf.f bt182.1 bt182.2).bind fun t186 => (if t185 = t186 then ((impl_WidthOk.f bt179.1).bind fun t187 => ((spec_WidthOk.f bt179.1).bind fun t188 => (if (t187 != t188) = true then (laws_FnMasked.j0 k bt179.1 bt179.2 t181 bt182.1 bt182.2 true) else ((spec_WidthOk.f bt179.1).bind fun t189 => (laws_FnMasked.j0 k bt179.1 bt179.2 t181 bt182.1 bt182.2 (!t189)))))) else (laws_FnMasked.j0 k bt179.1 bt179.2 t181 bt182.1 bt182.2 true)))) else (laws_FnMasked.j0 k bt179.1 bt179.2 t181 bt182.1 bt182.2 true)))))))) = some r := h
  clear h
  replace H := Option.bind_eq_some_iff.mp H
  obtain ⟨t178, A20, H⟩ := H
  replace H : (if t178 = true then (some true) else ((spec_DrawMasked.f k l0).bind fun bt179 => ((impl_Masked.f bt179.1 bt179.2).bind fun t181 => ((spec_DrawSignOf.f k l0).bind fun bt182 => ((spec_Masked.f bt179.1 bt179.2).bind fun t184 => (if t181 = t184 then ((impl_SignOf.f bt182.1 bt182.2).bind fun t185 => ((spec_SignOf.f bt182.1 bt182.2).bind fun t186 => (if t185 = t186 then ((impl_WidthOk.f bt179.1).bind fun t187 => ((spec_WidthOk.f bt179.1).bind fun t188 => (if (t187 != t188) = true then (laws_FnMasked.j0 k bt179.1 bt179.2 t181 bt182.1 bt182.2 true) else ((spec_WidthOk.f bt179.1).bind fun t189 => (laws_FnMasked.j0 k bt179.1 bt179.2 t181 bt182.1 bt182.2 (!t189)))))) else (laws_FnMasked.j0 k bt179.1 bt179.2 t181 bt182.1 bt182.2 true)))) else (laws_FnMasked.j0 k bt179.1 bt179.2 t181 bt182.1 bt182.2 true))))))) = some r := H
  have A2 := Aside0.mk A20
  clear A20
  by_cases c3 : t178 = true
  · subst c3
    have H1 : (some true) = some r := by rw [if_pos rfl] at H; exact H
    clear H
    have H := H1
    clear H1
    obtain rfl := Option.some.inj H
    go_enter Try.func4, Try.ntmps4
    go_wp2_with (first | ((with_reducible refine gate_callee (f := 8) rfl ?_); refine goesL_ (some 10) rfl rfl Try.func8 (by kernel_rfl) rfl #[.slice A0 l0.length c0] rfl (by (try simp only [List.map_toArray, List.map_cons, List.map_nil]); first | done | rfl | (simp only [List.length_drop, List.length_take]; rfl)) ?_; (with_reducible refine (laws_big.calls _ _ l0 true _ ?side1 ?side2 A2.out).mono ?_); (case side1 => repeat (first | exact HR0.out | (with_reducible refine Kd.C_alloc ?_ _) | (with_reducible refine Kd.C_drewN ?_ _) | (with_reducible refine Kd.C_drew ?_))); (case side2 => exact HC0.out); rintro e w' ⟨rfl, ⟨nd, rfl⟩⟩; refine ⟨_, rfl, ?_⟩))
    go_ret
    exact ⟨by first | rfl | (simp [errW_none, errW_some] <;> rfl) | (simp [*, errW_none, errW_some] <;> rfl), by repeat (first | (with_reducible first | exact HB.out | apply below_alloc | apply pw_below_drewN | apply below_drew1) | exact HB.out)⟩
  · replace c3 := Bool.eq_false_iff.mpr c3
    subst c3
    have H1 : ((spec_DrawMasked.f k l0).bind fun bt179 => ((impl_Masked.f bt179.1 bt179.2).bind fun t181 => ((spec_DrawSignOf.f k l0).bind fun bt182 => ((spec_Masked.f bt179.1 bt179.2).bind fun t184 => (if t181 = t184 then ((impl_SignOf.f bt182.1 bt182.2).bind fun t185 => ((spec_SignOf.f bt182.1 bt182.2).bind fun t186 => (if t185 = t186 then ((impl_WidthOk.f bt179.1).bind fun t187 => ((spec_WidthOk.f bt179.1).bind fun t188 => (if (t187 != t188) = true then (laws_FnMasked.j0 k bt179.1 bt179.2 t181 bt182.1 bt182.2 true) else ((spec_WidthOk.f bt179.1).bind fun t189 => (laws_FnMasked.j0 k bt179.1 bt179.2 t181 bt182.1 bt182.2 (!t189)))))) else (laws_FnMasked.j0 k bt179.1 bt179.2 t181 bt182.1 bt182.2 true)))) else (laws_FnMasked.j0 k bt179.1 bt179.2 t181 bt182.1 bt182.2 true)))))) = some r := by rw [if_neg (show ¬ (false = true) by decide)] at H; exact H
    clear H
    have H := H1
    clear H1
    replace H := Option.bind_eq_some_iff.mp H
    obtain ⟨⟨t179, t180⟩, A40, H⟩ := H
    replace H : ((impl_Masked.f t179 t180).bind fun t181 => ((spec_DrawSignOf.f k l0).bind fun bt182 => ((spec_Masked.f t179 t180).bind fun t184 => (if t181 = t184 then ((impl_SignOf.f bt182.1 bt182.2).bind fun t185 => ((spec_SignOf.f bt182.1 bt182.2).bind fun t186 => (if t185 = t186 then ((impl_WidthOk.f t179).bind fun t187 => ((spec_WidthOk.f t179).bind fun t188 => (if (t187 != t188) = true then (laws_FnMasked.j0 k t179 t180 t181 bt182.1 bt182.2 true) else ((spec_WidthOk.f t179).bind fun t189 => (laws_FnMasked.j0 k t179 t180 t181 bt182.1 bt182.2 (!t189)))))) else (laws_FnMasked.j0 k t179 t180 t181 bt182.1 bt182.2 true)))) else (laws_FnMasked.j0 k t179 t180 t181 bt182.1 bt182.2 true))))) = some r := H
    have A4 := Aside0.mk A40
    clear A40
    replace H := Option.bind_eq_some_iff.mp H
    obtain ⟨t181, A50, H⟩ := H
    replace H : ((spec_DrawSignOf.f k l0).bind fun bt182 => ((spec_Masked.f t179 t180).bind fun t184 => (if t181 = t184 then ((impl_SignOf.f bt182.1 bt182.2).bind fun t185 => ((spec_SignOf.f bt182.1 bt182.2).bind fun t186 => (if t185 = t186 then ((impl_WidthOk.f t179).bind fun t187 => ((spec_WidthOk.f t179).bind fun t188 => (if (t187 != t188) = true then (laws_FnMasked.j0 k t179 t180 t181 bt182.1 bt182.2 true) else ((spec_WidthOk.f t179).bind fun t189 => (laws_FnMasked.j0 k t179 t180 t181 bt182.1 bt182.2 (!t189)))))) else (laws_FnMasked.j0 k t179 t180 t181 bt182.1 bt182.2 true)))) else (laws_FnMasked.j0 k t179 t180 t181 bt182.1 bt182.2 true)))) = some r := H
    have A5 := Aside0.mk A50
    clear A50
    replace H := Option.bind_eq_some_iff.mp H
    obtain ⟨⟨t182, t183⟩, A60, H⟩ := H
    replace H : ((spec_Masked.f t179 t180).bind fun t184 => (if t181 = t184 then ((impl_SignOf.f t182 t183).bind fun t185 => ((spec_SignOf.f t182 t183).bind fun t186 => (if t185 = t186 then ((impl_WidthOk.f t179).bind fun t187 => ((spec_WidthOk.f t179).bind fun t188 => (if (t187 != t188) = true then (laws_FnMasked.j0 k t179 t180 t181 t182 t183 true) else ((spec_WidthOk.f t179).bind fun t189 => (laws_FnMasked.j0 k t179 t180 t181 t182 t183 (!t189)))))) else (laws_FnMasked.j0 k t179 t180 t181 t182 t183 true)))) else (laws_FnMasked.j0 k t179 t180 t181 t182 t183 true))) = some r := H
    have A6 := Aside0.mk A60
    clear A60
    have HC7 := Aside0.mk H
    clear H
    go_enter Try.func4, Try.ntmps4
    go_upto_region 6 with (first | ((with_reducible refine gate_callee (f := 8) rfl ?_); refine goesL_ (some 10) rfl rfl Try.func8 (by kernel_rfl) rfl #[.slice A0 l0.length c0] rfl (by (try simp only [List.map_toArray, List.map_cons, List.map_nil]); first | done | rfl | (simp only [List.length_drop, List.length_take]; rfl)) ?_; (with_reducible refine (laws_big.calls _ _ l0 false _ ?side1 ?side2 A2.out).mono ?_); (case side1 => repeat (first | exact HR0.out | (with_reducible refine Kd.C_alloc ?_ _) | (with_reducible refine Kd.C_drewN ?_ _) | (with_reducible refine Kd.C_drew ?_))); (case side2 => exact HC0.out); rintro e w' ⟨rfl, ⟨nd, rfl⟩⟩; refine ⟨_, rfl, ?_⟩) | ((with_reducible refine gate_callee (f := 14) rfl ?_); refine goesL_ (some 13) rfl rfl Try.func14 (by kernel_rfl) rfl #[.slice A0 l0.length c0] rfl (by (try simp only [List.map_toArray, List.map_cons, List.map_nil]); first | done | rfl | (simp only [List.length_drop, List.length_take]; rfl)) ?_; (with_reducible refine (spec_DrawMasked.calls k _ _ l0 t179 t180 _ ?side1 ?side2 A4.out).mono ?_); (case side1 => repeat (first | exact HR0.out | (with_reducible refine Kd.C_alloc ?_ _) | (with_reducible refine Kd.C_drewN ?_ _) | (with_reducible refine Kd.C_drew ?_))); (case side2 => exact HC0.out); rintro e w8 ⟨rfl, hb⟩; refine ⟨_, rfl, ?_⟩; have n0_ := Aside0.mk (below_step (by repeat (first | (with_reducible first | exact HB.out | apply below_alloc | apply pw_below_drewN | apply below_drew1) | exact HB.out)) hb); clear HB; have HB := n0_; clear n0_; (try clear hb); (try clear hb2); (try clear hk); (try clear hi)) | ((with_reducible refine gate_callee (f := 12) rfl ?_); refine goesL_ (some 18) rfl rfl Try.func12 (by kernel_rfl) rfl #[.int .i64 t179, .int .i64 t180] rfl (by (try simp only [List.map_toArray, List.map_cons, List.map_nil]); first | done | rfl | (simp only [List.length_drop, List.length_take]; rfl)) ?_; (with_reducible refine (impl_Masked.calls t179 t180 t181 _ A5.out).mono ?_); rintro e w' ⟨rfl, ⟨nd, rfl⟩⟩; refine ⟨_, rfl, ?_⟩) | ((with_reducible refine gate_callee (f := 15) rfl ?_); refine goesL_ (some 21) rfl rfl Try.func15 (by kernel_rfl) rfl #[.slice A0 l0.length c0] rfl (by (try simp only [List.map_toArray, List.map_cons, List.map_nil]); first | done | rfl | (simp only [List.length_drop, List.length_take]; rfl)) ?_; (with_reducible refine (spec_DrawSignOf.calls k _ _ l0 t182 t183 _ ?side1 ?side2 A6.out).mono ?_); (case side1 => repeat (first | exact (Kd.C_below HR0.out (by repeat (first | (with_reducible first | exact HB.out | apply below_alloc | apply pw_below_drewN | apply below_drew1) | exact HB.out))) | (with_reducible refine Kd.C_alloc ?_ _) | (with_reducible refine Kd.C_drewN ?_ _) | (with_reducible refine Kd.C_drew ?_))); (case side2 => exact HC0.out); rintro e w9 ⟨rfl, hb⟩; refine ⟨_, rfl, ?_⟩; have n0_ := Aside0.mk (below_step (by repeat (first | (with_reducible first | exact HB.out | apply below_alloc | apply pw_below_drewN | apply below_drew1) | exact HB.out)) hb); clear HB; have HB := n0_; clear n0_; (try clear hb); (try clear hb2); (try clear hk); (try clear hi)))
    (try simp only [Act.put, List.setIfInBounds_toArray, List.set_cons_zero, List.set_cons_succ])
    go_cut [49] (fun v49 wc => ∃ (kq : Nat) (x49_6 : Bool), v49 = .bool x49_6 ∧ Aside0 (laws_FnMasked.j0 kq t179 t180 t181 t182 t183 x49_6 = some r) ∧ Aside0 (kq ≤ k) ∧ Aside0 (Below w.heap.size w wc))
    case first =>
      have H := HC7.out
      clear HC7
      replace H := Option.bind_eq_some_iff.mp H
      obtain ⟨t184, A100, H⟩ := H
      replace H : (if t181 = t184 then ((impl_SignOf.f t182 t183).bind fun t185 => ((spec_SignOf.f t182 t183).bind fun t186 => (if t185 = t186 then ((impl_WidthOk.f t179).bind fun t187 => ((spec_WidthOk.f t179).bind fun t188 => (if (t187 != t188) = true then (laws_FnMasked.j0 k t179 t180 t181 t182 t183 true) else ((spec_WidthOk.f t179).bind fun t189 => (laws_FnMasked.j0 k t179 t180 t181 t182 t183 (!t189)))))) else (laws_FnMasked.j0 k t179 t180 t181 t182 t183 true)))) else (laws_FnMasked.j0 k t179 t180 t181 t182 t183 true)) = some r := H
      have A10 := Aside0.mk A100
      clear A100
      by_cases c11 : t181 = t184
      · rw [if_pos c11] at H
        have c11b0 : (t181 == t184) = true := beq_iff_eq.mpr c11
        have c11b1 : (t181 != t184) = false := bne_eq_false_iff_eq.mpr c11
        clear c11
        (first | rw [c11b0] | (simp only [i64_w, i32_w]; rw [c11b0]) | skip)
        replace H := Option.bind_eq_some_iff.mp H
        obtain ⟨t185, A120, H⟩ := H
        replace H : ((spec_SignOf.f t182 t183).bind fun t186 => (if t185 = t186 then ((impl_WidthOk.f t179).bind fun t187 => ((spec_WidthOk.f t179).bind fun t188 => (if (t187 != t188) = true then (laws_FnMasked.j0 k t179 t180 t181 t182 t183 true) else ((spec_WidthOk.f t179).bind fun t189 => (laws_FnMasked.j0 k t179 t180 t181 t182 t183 (!t189)))))) else (laws_FnMasked.j0 k t179 t180 t181 t182 t183 true))) = some r := H
        have A12 := Aside0.mk A120
        clear A120
        replace H := Option.bind_eq_some_iff.mp H
        obtain ⟨t186, A130, H⟩ := H
        replace H : (if t185 = t186 then ((impl_WidthOk.f t179).bind fun t187 => ((spec_WidthOk.f t179).bind fun t188 => (if (t187 != t188) = true then (laws_FnMasked.j0 k t179 t180 t181 t182 t183 true) else ((spec_WidthOk.f t179).bind fun t189 => (laws_FnMasked.j0 k t179 t180 t181 t182 t183 (!t189)))))) else (laws_FnMasked.j0 k t179 t180 t181 t182 t183 true)) = some r := H
        have A13 := Aside0.mk A130
        clear A130
        by_cases c14 : t185 = t186
        · rw [if_pos c14] at H
          have c14b0 : (t185 == t186) = true := beq_iff_eq.mpr c14
          have c14b1 : (t185 != t186) = false := bne_eq_false_iff_eq.mpr c14
          clear c14
          replace H := Option.bind_eq_some_iff.mp H
          obtain ⟨t187, A150, H⟩ := H
          replace H : ((spec_WidthOk.f t179).bind fun t188 => (if (t187 != t188) = true then (laws_FnMasked.j0 k t179 t180 t181 t182 t183 true) else ((spec_WidthOk.f t179).bind fun t189 => (laws_FnMasked.j0 k t179 t180 t181 t182 t183 (!t189))))) = some r := H
          have A15 := Aside0.mk A150
          clear A150
          replace H := Option.bind_eq_some_iff.mp H
          obtain ⟨t188, A160, H⟩ := H
          replace H : (if (t187 != t188) = true then (laws_FnMasked.j0 k t179 t180 t181 t182 t183 true) else ((spec_WidthOk.f t179).bind fun t189 => (laws_FnMasked.j0 k t179 t180 t181 t182 t183 (!t189)))) = some r := H
          have A16 := Aside0.mk A160
          clear A160
          by_cases c17 : (t187 != t188) = true
          · rw [if_pos c17] at H
            have c17b0 : (t187 != t188) = true := c17
            (try (have c17b1 : decide (t187 = t188) = false := by simpa using c17))
            (try (have c17b2 : (t187 == t188) = false := by simpa using c17))
            (try (have c17b3 : ¬ (t187 = t188) := by simpa using c17))
            clear c17
            have H' := Aside0.mk H
            clear H
            go_wp2_with (first | ((with_reducible refine gate_callee (f := 16) rfl ?_); refine goesL_ (some 27) rfl rfl Try.func16 (by kernel_rfl) rfl #[.int .i64 t179, .int .i64 t180] rfl (by (try simp only [List.map_toArray, List.map_cons, List.map_nil]); first | done | rfl | (simp only [List.length_drop, List.length_take]; rfl)) ?_; (with_reducible refine (spec_Masked.calls t179 t180 t184 _ A10.out).mono ?_); rintro e w' ⟨rfl, ⟨nd, rfl⟩⟩; refine ⟨_, rfl, ?_⟩) | (go_at_call 13; (with_reducible refine (impl_SignOf.calls t182 t183 t185 _ A12.out).mono ?_); rintro e w' ⟨rfl, ⟨nd, rfl⟩⟩) | (go_at_call 17; (with_reducible refine (spec_SignOf.calls t182 t183 t186 _ A13.out).mono ?_); rintro e w' ⟨rfl, ⟨nd, rfl⟩⟩) | (go_at_call 18; (with_reducible refine (impl_WidthOk.calls t179 t187 _ A15.out).mono ?_); rintro e w' ⟨rfl, ⟨nd, rfl⟩⟩) | (go_at_call 19; (with_reducible refine (spec_WidthOk.calls t179 t188 _ A16.out).mono ?_); rintro e w' ⟨rfl, ⟨nd, rfl⟩⟩))
            go_meet
            case rel => exact ⟨_, (true), (by first | rfl | (simp; done) | (simp [*]; done)), H', ⟨by first | omega | exact Nat.le_refl _⟩, ⟨by repeat (first | (with_reducible first | exact HB.out | apply below_alloc | apply pw_below_drewN | apply below_drew1) | exact HB.out)⟩⟩
          · rw [if_neg c17] at H
            have c17b0 : (t187 != t188) = false := by simpa using c17
            (try (have c17b1 : decide (t187 = t188) = true := by simpa using c17))
            (try (have c17b2 : (t187 == t188) = true := by simpa using c17))
            clear c17
            replace H := Option.bind_eq_some_iff.mp H
            obtain ⟨t189, A180, H⟩ := H
            replace H : (laws_FnMasked.j0 k t179 t180 t181 t182 t183 (!t189)) = some r := H
            have A18 := Aside0.mk A180
            clear A180
            have H' := Aside0.mk H
            clear H
            go_wp2_with (first | ((with_reducible refine gate_callee (f := 16) rfl ?_); refine goesL_ (some 27) rfl rfl Try.func16 (by kernel_rfl) rfl #[.int .i64 t179, .int .i64 t180] rfl (by (try simp only [List.map_toArray, List.map_cons, List.map_nil]); first | done | rfl | (simp only [List.length_drop, List.length_take]; rfl)) ?_; (with_reducible refine (spec_Masked.calls t179 t180 t184 _ A10.out).mono ?_); rintro e w' ⟨rfl, ⟨nd, rfl⟩⟩; refine ⟨_, rfl, ?_⟩) | (go_at_call 13; (with_reducible refine (impl_SignOf.calls t182 t183 t185 _ A12.out).mono ?_); rintro e w' ⟨rfl, ⟨nd, rfl⟩⟩) | (go_at_call 17; (with_reducible refine (spec_SignOf.calls t182 t183 t186 _ A13.out).mono ?_); rintro e w' ⟨rfl, ⟨nd, rfl⟩⟩) | (go_at_call 18; (with_reducible refine (impl_WidthOk.calls t179 t187 _ A15.out).mono ?_); rintro e w' ⟨rfl, ⟨nd, rfl⟩⟩) | (go_at_call 19; (with_reducible refine (spec_WidthOk.calls t179 t188 _ A16.out).mono ?_); rintro e w' ⟨rfl, ⟨nd, rfl⟩⟩) | (go_at_call 19; (with_reducible refine (spec_WidthOk.calls t179 t189 _ A18.out).mono ?_); rintro e w' ⟨rfl, ⟨nd, rfl⟩⟩))
            go_meet
            case rel => exact ⟨_, (!t189), (by first | rfl | (simp; done) | (simp [*]; done) | (simp [*]; exact Option.some.inj (A16.out.symm.trans A18.out))), H', ⟨by first | omega | exact Nat.le_refl _⟩, ⟨by repeat (first | (with_reducible first | exact HB.out | apply below_alloc | apply pw_below_drewN | apply below_drew1) | exact HB.out)⟩⟩
        · rw [if_neg c14] at H
          have c14b0 : (t185 == t186) = false := beq_eq_false_iff_ne.mpr c14
          have c14b1 : (t185 != t186) = true := bne_iff_ne.mpr c14
          have H' := Aside0.mk H
          clear H
          go_wp2_with (first | ((with_reducible refine gate_callee (f := 16) rfl ?_); refine goesL_ (some 27) rfl rfl Try.func16 (by kernel_rfl) rfl #[.int .i64 t179, .int .i64 t180] rfl (by (try simp only [List.map_toArray, List.map_cons, List.map_nil]); first | done | rfl | (simp only [List.length_drop, List.length_take]; rfl)) ?_; (with_reducible refine (spec_Masked.calls t179 t180 t184 _ A10.out).mono ?_); rintro e w' ⟨rfl, ⟨nd, rfl⟩⟩; refine ⟨_, rfl, ?_⟩) | (go_at_call 13; (with_reducible refine (impl_SignOf.calls t182 t183 t185 _ A12.out).mono ?_); rintro e w' ⟨rfl, ⟨nd, rfl⟩⟩) | (go_at_call 17; (with_reducible refine (spec_SignOf.calls t182 t183 t186 _ A13.out).mono ?_); rintro e w' ⟨rfl, ⟨nd, rfl⟩⟩))
          go_meet
          case rel => exact ⟨_, (true), (by first | rfl | (simp; done) | (simp [*]; done)), H', ⟨by first | omega | exact Nat.le_refl _⟩, ⟨by repeat (first | (with_reducible first | exact HB.out | apply below_alloc | apply pw_below_drewN | apply below_drew1) | exact HB.out)⟩⟩
      · rw [if_neg c11] at H
        have c11b0 : (t181 == t184) = false := beq_eq_false_iff_ne.mpr c11
        have c11b1 : (t181 != t184) = true := bne_iff_ne.mpr c11
        (first | rw [c11b0] | (simp only [i64_w, i32_w]; rw [c11b0]) | skip)
        have H' := Aside0.mk H
        clear H
        go_wp2_with (first | ((with_reducible refine gate_callee (f := 16) rfl ?_); refine goesL_ (some 27) rfl rfl Try.func16 (by kernel_rfl) rfl #[.int .i64 t179, .int .i64 t180] rfl (by (try simp only [List.map_toArray, List.map_cons, List.map_nil]); first | done | rfl | (simp only [List.length_drop, List.length_take]; rfl)) ?_; (with_reducible refine (spec_Masked.calls t179 t180 t184 _ A10.out).mono ?_); rintro e w' ⟨rfl, ⟨nd, rfl⟩⟩; refine ⟨_, rfl, ?_⟩))
        go_meet
        case rel => exact ⟨_, (true), (by first | rfl | (simp; done) | (simp [*]; done)), H', ⟨by first | omega | exact Nat.le_refl _⟩, ⟨by repeat (first | (with_reducible first | exact HB.out | apply below_alloc | apply pw_below_drewN | apply below_drew1) | exact HB.out)⟩⟩
    case rest =>
      clear HC7
      try clear c1
      try clear p2
      try clear c3
      try clear c4
      try clear c8
      try clear c11
      try clear c11b0
      try clear c11b1
      try clear c12
      try clear c14
      try clear c14b0
      try clear c14b1
      try clear c15
      try clear c16
      try clear c17
      try clear c17b0
      try clear c17b1
      try clear c17b2
      obtain ⟨kq, x49_6, rfl, HA, HJ6, HB⟩ := hcut
      cases kq with
      | zero => exact absurd HA.out (by simp [laws_FnMasked.j0])
      | succ kj6 =>
        have H := HA.out
        clear HA
        simp only [laws_FnMasked.j0] at H
        by_cases c19 : x49_6 = true
        · subst c19
          have H1 : ((spec_Masked.f t179 t180).bind fun t190 => (if t181 = t190 then ((impl_SignOf.f t182 t183).bind fun t191 => ((spec_SignOf.f t182 t183).bind fun t192 => (if t191 = t192 then ((impl_WidthOk.f t179).bind fun t193 => ((spec_WidthOk.f t179).bind fun t194 => (some (t193 == t194)))) else (some false)))) else (some false))) = some r := by rw [if_pos rfl] at H; exact H
          clear H
          have H := H1
          clear H1
          replace H := Option.bind_eq_some_iff.mp H
          obtain ⟨t190, A200, H⟩ := H
          replace H : (if t181 = t190 then ((impl_SignOf.f t182 t183).bind fun t191 => ((spec_SignOf.f t182 t183).bind fun t192 => (if t191 = t192 then ((impl_WidthOk.f t179).bind fun t193 => ((spec_WidthOk.f t179).bind fun t194 => (some (t193 == t194)))) else (some false)))) else (some false)) = some r := H
          have A20 := Aside0.mk A200
          clear A200
          by_cases c21 : t181 = t190
          · rw [if_pos c21] at H
            have c21b0 : (t181 == t190) = true := beq_iff_eq.mpr c21
            have c21b1 : (t181 != t190) = false := bne_eq_false_iff_eq.mpr c21
            clear c21
            replace H := Option.bind_eq_some_iff.mp H
            obtain ⟨t191, A220, H⟩ := H
            replace H : ((spec_SignOf.f t182 t183).bind fun t192 => (if t191 = t192 then ((impl_WidthOk.f t179).bind fun t193 => ((spec_WidthOk.f t179).bind fun t194 => (some (t193 == t194)))) else (some false))) = some r := H
            have A22 := Aside0.mk A220
            clear A220
            replace H := Option.bind_eq_some_iff.mp H
            obtain ⟨t192, A230, H⟩ := H
            replace H : (if t191 = t192 then ((impl_WidthOk.f t179).bind fun t193 => ((spec_WidthOk.f t179).bind fun t194 => (some (t193 == t194)))) else (some false)) = some r := H
            have A23 := Aside0.mk A230
            clear A230
            by_cases c24 : t191 = t192
            · rw [if_pos c24] at H
              have c24b0 : (t191 == t192) = true := beq_iff_eq.mpr c24
              have c24b1 : (t191 != t192) = false := bne_eq_false_iff_eq.mpr c24
              clear c24
              replace H := Option.bind_eq_some_iff.mp H
              obtain ⟨t193, A250, H⟩ := H
              replace H : ((spec_WidthOk.f t179).bind fun t194 => (some (t193 == t194))) = some r := H
              have A25 := Aside0.mk A250
              clear A250
              replace H := Option.bind_eq_some_iff.mp H
              obtain ⟨t194, A260, H⟩ := H
              replace H : (some (t193 == t194)) = some r := H
              have A26 := Aside0.mk A260
              clear A260
              obtain rfl := Option.some.inj H
              go_wp2_with (first | ((with_reducible refine gate_callee (f := 16) rfl ?_); refine goesL_ (some 53) rfl rfl Try.func16 (by kernel_rfl) rfl #[.int .i64 t179, .int .i64 t180] rfl (by (try simp only [List.map_toArray, List.map_cons, List.map_nil]); first | done | rfl | (simp only [List.length_drop, List.length_take]; rfl)) ?_; (with_reducible refine (spec_Masked.calls t179 t180 t190 _ A20.out).mono ?_); rintro e w' ⟨rfl, ⟨nd, rfl⟩⟩; refine ⟨_, rfl, ?_⟩) | (go_at_call 13; (with_reducible refine (impl_SignOf.calls t182 t183 t191 _ A22.out).mono ?_); rintro e w' ⟨rfl, ⟨nd, rfl⟩⟩) | (go_at_call 17; (with_reducible refine (spec_SignOf.calls t182 t183 t192 _ A23.out).mono ?_); rintro e w' ⟨rfl, ⟨nd, rfl⟩⟩) | (go_at_call 18; (with_reducible refine (impl_WidthOk.calls t179 t193 _ A25.out).mono ?_); rintro e w' ⟨rfl, ⟨nd, rfl⟩⟩) | (go_at_call 19; (with_reducible refine (spec_WidthOk.calls t179 t194 _ A26.out).mono ?_); rintro e w' ⟨rfl, ⟨nd, rfl⟩⟩))
              go_ret
              exact ⟨by first | rfl | (simp [errW_none, errW_some] <;> rfl) | (simp [*, errW_none, errW_some] <;> rfl), by repeat (first | (with_reducible first | exact HB.out | apply below_alloc | apply pw_below_drewN | apply below_drew1) | exact HB.out)⟩
            · rw [if_neg c24] at H
              have c24b0 : (t191 == t192) = false := beq_eq_false_iff_ne.mpr c24
              have c24b1 : (t191 != t192) = true := bne_iff_ne.mpr c24
              obtain rfl := Option.some.inj H
              go_wp2_with (first | ((with_reducible refine gate_callee (f := 16) rfl ?_); refine goesL_ (some 53) rfl rfl Try.func16 (by kernel_rfl) rfl #[.int .i64 t179, .int .i64 t180] rfl (by (try simp only [List.map_toArray, List.map_cons, List.map_nil]); first | done | rfl | (simp only [List.length_drop, List.length_take]; rfl)) ?_; (with_reducible refine (spec_Masked.calls t179 t180 t190 _ A20.out).mono ?_); rintro e w' ⟨rfl, ⟨nd, rfl⟩⟩; refine ⟨_, rfl, ?_⟩) | (go_at_call 13; (with_reducible refine (impl_SignOf.calls t182 t183 t191 _ A22.out).mono ?_); rintro e w' ⟨rfl, ⟨nd, rfl⟩⟩) | (go_at_call 17; (with_reducible refine (spec_SignOf.calls t182 t183 t192 _ A23.out).mono ?_); rintro e w' ⟨rfl, ⟨nd, rfl⟩⟩))
              go_ret
              exact ⟨by first | rfl | (simp [errW_none, errW_some] <;> rfl) | (simp [*, errW_none, errW_some] <;> rfl), by repeat (first | (with_reducible first | exact HB.out | apply below_alloc | apply pw_below_drewN | apply below_drew1) | exact HB.out)⟩
          · rw [if_neg c21] at H
            have c21b0 : (t181 == t190) = false := beq_eq_false_iff_ne.mpr c21
            have c21b1 : (t181 != t190) = true := bne_iff_ne.mpr c21
            obtain rfl := Option.some.inj H
            go_wp2_with (first | ((with_reducible refine gate_callee (f := 16) rfl ?_); refine goesL_ (some 53) rfl rfl Try.func16 (by kernel_rfl) rfl #[.int .i64 t179, .int .i64 t180] rfl (by (try simp only [List.map_toArray, List.map_cons, List.map_nil]); first | done | rfl | (simp only [List.length_drop, List.length_take]; rfl)) ?_; (with_reducible refine (spec_Masked.calls t179 t180 t190 _ A20.out).mono ?_); rintro e w' ⟨rfl, ⟨nd, rfl⟩⟩; refine ⟨_, rfl, ?_⟩))
            go_ret
            exact ⟨by first | rfl | (simp [errW_none, errW_some] <;> rfl) | (simp [*, errW_none, errW_some] <;> rfl), by repeat (first | (with_reducible first | exact HB.out | apply below_alloc | apply pw_below_drewN | apply below_drew1) | exact HB.out)⟩
        · replace c19 := Bool.eq_false_iff.mpr c19
          subst c19
          have H1 : (if 0 ≤ (IntKind.u64.wrap (t179)) then (if t181 ≥ 0 then (if t181 < (shl .i64 1 (IntKind.u64.wrap (t179))) then ((impl_Masked.f t179 t181).bind fun t195 => (if t195 = t181 then (if (shl .i64 1 (IntKind.u64.wrap (t179))) = 0 then (none) else (if (Int.tmod (wrap64 (t180 - t181)) (shl .i64 1 (IntKind.u64.wrap (t179)))) = 0 then ((impl_SignOf.f t179 t181).bind fun t196 => (some ((Int.tmod (wrap64 (t196 - t181)) (shl .i64 1 (IntKind.u64.wrap (t179)))) == 0))) else (some false))) else (some false))) else (some false)) else (some false)) else (none)) = some r := by rw [if_neg (show ¬ (false = true) by decide)] at H; exact H
          clear H
          have H := H1
          clear H1
          obtain ⟨ji27, hji27⟩ : ∃ j_ : Int, (IntKind.u64.wrap (t179)) = j_ := ⟨_, rfl⟩
          replace H : (if 0 ≤ (ji27) then (if t181 ≥ 0 then (if t181 < (shl .i64 1 (ji27)) then ((impl_Masked.f t179 t181).bind fun t195 => (if t195 = t181 then (if (shl .i64 1 (ji27)) = 0 then (none) else (if (Int.tmod (wrap64 (t180 - t181)) (shl .i64 1 (ji27))) = 0 then ((impl_SignOf.f t179 t181).bind fun t196 => (some ((Int.tmod (wrap64 (t196 - t181)) (shl .i64 1 (ji27))) == 0))) else (some false))) else (some false))) else (some false)) else (some false)) else (none)) = some r := by first | (rw [hji27] at H; exact H) | (simp only [hji27] at H ⊢; exact H)
          by_cases c28 : 0 ≤ (ji27)
          · rw [if_pos c28] at H
            have c28b0 := eq_true c28
            have c28b1 : decide (0 ≤ (ji27)) = true := decide_eq_true c28
            clear c28
            obtain ⟨ji29, hji29⟩ : ∃ j_ : Int, (shl .i64 1 (ji27)) = j_ := ⟨_, rfl⟩
            replace H : (if t181 ≥ 0 then (if t181 < (ji29) then ((impl_Masked.f t179 t181).bind fun t195 => (if t195 = t181 then (if (ji29) = 0 then (none) else (if (Int.tmod (wrap64 (t180 - t181)) (ji29)) = 0 then ((impl_SignOf.f t179 t181).bind fun t196 => (some ((Int.tmod (wrap64 (t196 - t181)) (ji29)) == 0))) else (some false))) else (some false))) else (some false)) else (some false)) = some r := by first | (rw [hji29] at H; exact H) | (simp only [hji29] at H ⊢; exact H)
            have hji29_ : (IntKind.i64.wrap (1 * 2 ^ min (ji27).toNat 64)) = ji29 := hji29
            have hji29z : (ji27) ≤ 64 → (IntKind.i64.wrap (1 * 2 ^ (ji27).toNat)) = ji29 := shl_small hji29
            have hji29u : (IntKind.i64.wrap (2 ^ min (ji27).toNat 64)) = ji29 := by have h_ := hji29_; rw [Int.one_mul] at h_; exact h_
            have hji29v : (ji27) ≤ 64 → (IntKind.i64.wrap (2 ^ (ji27).toNat)) = ji29 := fun hle_ => by have h_ := hji29z hle_; rw [Int.one_mul] at h_; exact h_
            have hji29y : (wrap64 (1 * 2 ^ min (ji27).toNat 64)) = ji29 := (i64_w _).symm.trans hji29_
            have hji29x : (ji27) ≤ 64 → (wrap64 (1 * 2 ^ (ji27).toNat)) = ji29 := fun h_ => (i64_w _).symm.trans (hji29z h_)
            by_cases c30 : t181 ≥ 0
            · rw [if_pos c30] at H
              have c30b0 : decide (0 ≤ t181) = true := decide_eq_true c30
              clear c30
              by_cases c31 : t181 < (ji29)
              · rw [if_pos c31] at H
                have c31b0 : decide (t181 < (ji29)) = true := decide_eq_true c31
                clear c31
                replace H := Option.bind_eq_some_iff.mp H
                obtain ⟨t195, A320, H⟩ := H
                replace H : (if t195 = t181 then (if (ji29) = 0 then (none) else (if (Int.tmod (wrap64 (t180 - t181)) (ji29)) = 0 then ((impl_SignOf.f t179 t181).bind fun t196 => (some ((Int.tmod (wrap64 (t196 - t181)) (ji29)) == 0))) else (some false))) else (some false)) = some r := H
                have A32 := Aside0.mk A320
                clear A320
                by_cases c33 : t195 = t181
                · rw [if_pos c33] at H
                  have c33b0 : (t195 == t181) = true := beq_iff_eq.mpr c33
                  have c33b1 : (t195 != t181) = false := bne_eq_false_iff_eq.mpr c33
                  clear c33
                  by_cases c34 : (ji29) = 0
                  · rw [if_pos c34] at H
                    exact absurd H (by simp)
                  · rw [if_neg c34] at H
                    have c34b0 : ((ji29) == 0) = false := beq_eq_false_iff_ne.mpr c34
                    have c34b1 : ((ji29) != 0) = true := bne_iff_ne.mpr c34
                    by_cases c35 : (Int.tmod (wrap64 (t180 - t181)) (ji29)) = 0
                    · rw [if_pos c35] at H
                      have c35b0 : ((Int.tmod (wrap64 (t180 - t181)) (ji29)) == 0) = true := beq_iff_eq.mpr c35
                      have c35b1 : ((Int.tmod (wrap64 (t180 - t181)) (ji29)) != 0) = false := bne_eq_false_iff_eq.mpr c35
                      clear c35
                      replace H := Option.bind_eq_some_iff.mp H
                      obtain ⟨t196, A360, H⟩ := H
                      replace H : (some ((Int.tmod (wrap64 (t196 - t181)) (ji29)) == 0)) = some r := H
                      have A36 := Aside0.mk A360
                      clear A360
                      obtain rfl := Option.some.inj H
                      go_wp2_with (first | (go_at_call 12; (with_reducible refine (impl_Masked.calls t179 t181 t195 _ A32.out).mono ?_); rintro e w' ⟨rfl, ⟨nd, rfl⟩⟩) | (go_at_call 13; (with_reducible refine (impl_SignOf.calls t179 t181 t196 _ A36.out).mono ?_); rintro e w' ⟨rfl, ⟨nd, rfl⟩⟩))
                      go_ret
                      exact ⟨by first | rfl | (simp [errW_none, errW_some] <;> rfl) | (simp only [← hji27, ← hji29]; first | rfl | (simp [errW_none, errW_some] <;> rfl)) | (simp [*, errW_none, errW_some] <;> rfl), by repeat (first | (with_reducible first | exact HB.out | apply below_alloc | apply pw_below_drewN | apply below_drew1) | exact HB.out)⟩
                    · rw [if_neg c35] at H
                      have c35b0 : ((Int.tmod (wrap64 (t180 - t181)) (ji29)) == 0) = false := beq_eq_false_iff_ne.mpr c35
                      have c35b1 : ((Int.tmod (wrap64 (t180 - t181)) (ji29)) != 0) = true := bne_iff_ne.mpr c35
                      obtain rfl := Option.some.inj H
                      go_wp2_with (first | (go_at_call 12; (with_reducible refine (impl_Masked.calls t179 t181 t195 _ A32.out).mono ?_); rintro e w' ⟨rfl, ⟨nd, rfl⟩⟩))
                      go_ret
                      exact ⟨by first | rfl | (simp [errW_none, errW_some] <;> rfl) | (simp only [← hji27, ← hji29]; first | rfl | (simp [errW_none, errW_some] <;> rfl)) | (simp [*, errW_none, errW_some] <;> rfl), by repeat (first | (with_reducible first | exact HB.out | apply below_alloc | apply pw_below_drewN | apply below_drew1) | exact HB.out)⟩
                · rw [if_neg c33] at H
                  have c33b0 : (t195 == t181) = false := beq_eq_false_iff_ne.mpr c33
                  have c33b1 : (t195 != t181) = true := bne_iff_ne.mpr c33
                  obtain rfl := Option.some.inj H
                  go_wp2_with (first | (go_at_call 12; (with_reducible refine (impl_Masked.calls t179 t181 t195 _ A32.out).mono ?_); rintro e w' ⟨rfl, ⟨nd, rfl⟩⟩))
                  go_ret
                  exact ⟨by first | rfl | (simp [errW_none, errW_some] <;> rfl) | (simp only [← hji27, ← hji29]; first | rfl | (simp [errW_none, errW_some] <;> rfl)) | (simp [*, errW_none, errW_some] <;> rfl), by repeat (first | (with_reducible first | exact HB.out | apply below_alloc | apply pw_below_drewN | apply below_drew1) | exact HB.out)⟩
              · rw [if_neg c31] at H
                have c31b0 : decide (t181 < (ji29)) = false := decide_eq_false c31
                clear c31
                obtain rfl := Option.some.inj H
                go_wp2
                go_ret
                exact ⟨by first | rfl | (simp [errW_none, errW_some] <;> rfl) | (simp only [← hji27, ← hji29]; first | rfl | (simp [errW_none, errW_some] <;> rfl)) | (simp [*, errW_none, errW_some] <;> rfl), by repeat (first | (with_reducible first | exact HB.out | apply below_alloc | apply pw_below_drewN | apply below_drew1) | exact HB.out)⟩
            · rw [if_neg c30] at H
              have c30b0 : decide (0 ≤ t181) = false := decide_eq_false c30
              clear c30
              obtain rfl := Option.some.inj H
              go_wp2
              go_ret
              exact ⟨by first | rfl | (simp [errW_none, errW_some] <;> rfl) | (simp only [← hji27, ← hji29]; first | rfl | (simp [errW_none, errW_some] <;> rfl)) | (simp [*, errW_none, errW_some] <;> rfl), by repeat (first | (with_reducible first | exact HB.out | apply below_alloc | apply pw_below_drewN | apply below_drew1) | exact HB.out)⟩
          · rw [if_neg c28] at H
            exact absurd H (by simp)

/-- THE ONE PURE STATEMENT of laws_FnMasked: yours. -/
def laws_FnMasked.Pure : Prop := ∀ (l0 : List Int), l0.length ≤ maxLen → l0.length * 1 ≤ 140737488351232 → (∀ x ∈ l0, (Lit.int .u8 x).wf = true) → ∃ k, laws_FnMasked.f k l0 = some true
theorem laws_FnMasked.walk (P : laws_FnMasked.Pure) (a0 : Option Addr) (len0 cap0 : Nat) (z0 : List Int) (w : World) (w0 : (a0 = none ∧ len0 = 0 ∧ cap0 = 0 ∧ z0 = []) ∨ ∃ x, a0 = some x ∧ len0 ≤ cap0 ∧ cap0 ≤ maxLen ∧ z0.length = cap0 ∧ (∀ i, i < z0.length → w.cell? (x.add i) = some (.int .u8 (z0.getD i 0))) ∧ ∀ n ∈ z0, (Lit.int .u8 n).wf = true) (y0 : len0 * 1 ≤ 140737488351232) :
    Calls Try.prog 4 #[.slice a0 len0 cap0] w fun e w' => e = .returned (.bool true) ∧ Below w.heap.size w w' := by
  obtain ⟨l0, rfl, hr0, hm0, hw0, hc0⟩ := ReadsInt.ofRowC w0
  obtain ⟨k, h⟩ := P l0 hm0 y0 hw0
  refine (laws_FnMasked.calls k _ _ l0 true w (Kd.C_of_reads (d := (0 : Int)) (h1 := fun _ => rfl) hr0) hc0 h).mono ?_
  rintro e w' ⟨rfl, hd⟩
  exact ⟨rfl, hd⟩

end Go.Proofs.Ytkjfiaieoppphaa.PFnMasked
