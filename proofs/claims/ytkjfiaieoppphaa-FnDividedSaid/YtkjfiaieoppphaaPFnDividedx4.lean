-- PRINTED BY print.sh 35421559b90ae4d0a3588c463048766b98c2df88dd9212a6774a882060cdf62d: not written by this session
import Derived.Test.YtkjfiaieoppphaaPFnDividedx0
import Derived.Test.YtkjfiaieoppphaaPFnDividedx1
import Derived.Test.YtkjfiaieoppphaaPFnDividedx2
import Derived.Test.YtkjfiaieoppphaaPFnDividedx3
namespace Go.Proofs.Ytkjfiaieoppphaa.PFnDivided
open Go.RowKit Go.Proofs.YtkjfiaieoppphaaW.PrintWords Go.Proofs.YtkjfiaieoppphaaW.PrintLast Go.Proofs.YtkjfiaieoppphaaW.PrintMore
attribute [local go_sem] max2_int min2_int max_two min_two max_three min_three max_four min_four   -- for this text's walks alone
set_option linter.unusedVariables false
set_option linter.unusedSimpArgs false

/-! ### spec_Binary: function 22 -/
mutual
def spec_Binary.j0 : Nat → Int → Int → Int → Int → Bool → Option (Int × Int)
  | 0, _, _, _, _, _ => none
  | k + 1, x0, x1, x2, x3, x24 => if x24 = true then (some (0, 2)) else ((spec_l1Divides.f x0).bind fun t206 => (if t206 = true then (spec_Binary.j1 k x0 x1 x2 x3 (x3 == 0)) else (spec_Binary.j1 k x0 x1 x2 x3 false)))
def spec_Binary.j1 : Nat → Int → Int → Int → Int → Bool → Option (Int × Int)
  | 0, _, _, _, _, _ => none
  | k + 1, x0, x1, x2, x3, x30 => if x30 = true then (some (0, 1)) else ((spec_l1Two.f k x0 x1 x2 x3).bind fun t207 => ((spec_Masked.f x1 t207).bind fun t208 => (some (t208, 0))))
end
def spec_Binary.f (k : Nat) (a0 : Int) (a1 : Int) (a2 : Int) (a3 : Int) : Option (Int × Int) := (spec_l1In.f a0 1 17).bind fun t203 => (if t203 = true then ((spec_l1Value.f a1 a2).bind fun t204 => (if t204 = true then ((spec_l1Value.f a1 a3).bind fun t205 => (spec_Binary.j0 k a0 a1 a2 a3 (!t205))) else (spec_Binary.j0 k a0 a1 a2 a3 true))) else (spec_Binary.j0 k a0 a1 a2 a3 true))
theorem spec_Binary.mono_l : ∀ k, (∀ y0 y1 y2 y3 y4, LeO (spec_Binary.j0 k y0 y1 y2 y3 y4) (spec_Binary.j0 (k + 1) y0 y1 y2 y3 y4)) ∧ (∀ y0 y1 y2 y3 y4, LeO (spec_Binary.j1 k y0 y1 y2 y3 y4) (spec_Binary.j1 (k + 1) y0 y1 y2 y3 y4))
  | 0 => ⟨fun _ _ _ _ _ r h => by simp [spec_Binary.j0] at h, fun _ _ _ _ _ r h => by simp [spec_Binary.j1] at h⟩
  | k + 1 => by
    obtain ⟨ih0, ih1⟩ := spec_Binary.mono_l k
    refine ⟨?_, ?_⟩
    · intro y0 y1 y2 y3 y4
      unfold spec_Binary.j0
      repeat' first
      | (with_reducible exact ih0 _ _ _ _ _)
      | (with_reducible exact ih1 _ _ _ _ _)
      | (with_reducible exact spec_l1Two.mono _ _ _ _ _)
      | (with_reducible exact LeO.refl _)
      | (with_reducible exact LeO.none _)
      | (with_reducible refine LeO.ite ?_ ?_)
      | (with_reducible refine LeO.bind ?_ (fun _ => ?_))
      | exact ih0 _ _ _ _ _
      | exact ih1 _ _ _ _ _
      | exact spec_l1Two.mono _ _ _ _ _
      | exact LeO.none _
      | refine LeO.ite ?_ ?_
      | refine LeO.bind ?_ (fun _ => ?_)
    · intro y0 y1 y2 y3 y4
      unfold spec_Binary.j1
      repeat' first
      | (with_reducible exact ih0 _ _ _ _ _)
      | (with_reducible exact ih1 _ _ _ _ _)
      | (with_reducible exact spec_l1Two.mono _ _ _ _ _)
      | (with_reducible exact LeO.refl _)
      | (with_reducible exact LeO.none _)
      | (with_reducible refine LeO.ite ?_ ?_)
      | (with_reducible refine LeO.bind ?_ (fun _ => ?_))
      | exact ih0 _ _ _ _ _
      | exact ih1 _ _ _ _ _
      | exact spec_l1Two.mono _ _ _ _ _
      | exact LeO.none _
      | refine LeO.ite ?_ ?_
      | refine LeO.bind ?_ (fun _ => ?_)
theorem spec_Binary.mono : ∀ a0 a1 a2 a3 k, LeO (spec_Binary.f k a0 a1 a2 a3) (spec_Binary.f (k + 1) a0 a1 a2 a3) := by
  intro a0 a1 a2 a3 k
  obtain ⟨ih0, ih1⟩ := spec_Binary.mono_l k
  unfold spec_Binary.f
  repeat' first
      | (with_reducible exact ih0 _ _ _ _ _)
      | (with_reducible exact ih1 _ _ _ _ _)
      | (with_reducible exact spec_l1Two.mono _ _ _ _ _)
      | (with_reducible exact LeO.refl _)
      | (with_reducible exact LeO.none _)
      | (with_reducible refine LeO.ite ?_ ?_)
      | (with_reducible refine LeO.bind ?_ (fun _ => ?_))
      | exact ih0 _ _ _ _ _
      | exact ih1 _ _ _ _ _
      | exact spec_l1Two.mono _ _ _ _ _
      | exact LeO.none _
      | refine LeO.ite ?_ ?_
      | refine LeO.bind ?_ (fun _ => ?_)
set_option maxHeartbeats 8000000 in
set_option maxRecDepth 100000 in
theorem spec_Binary.calls (k : Nat) (a0 : Int) (a1 : Int) (a2 : Int) (a3 : Int) (r1 : Int) (r2 : Int) (w : World) (h : spec_Binary.f k a0 a1 a2 a3 = some (r1, r2)) :
    Calls Try.prog 22 #[.int .i64 a0, .int .i64 a1, .int .i64 a2, .int .i64 a3] w fun e w' => e = .returned (.tuple #[.int .i64 r1, .int .i64 r2]) ∧ Drawn0 w w' := by
  have H : ((spec_l1In.f a0 1 17).bind fun t203 => (if t203 = true then ((spec_l1Value.f a1 a2).bind fun t204 => (if t204 = true then ((spec_l1Value.f a1 a3).bind fun t205 => (spec_Binary.j0 k a0 a1 a2 a3 (!t205))) else (spec_Binary.j0 k a0 a1 a2 a3 true))) else (spec_Binary.j0 k a0 a1 a2 a3 true))) = some (r1, r2) := h
  clear h
  have HC5 := Aside0.mk H
  clear H
  go_enter Try.func22, Try.ntmps22
  go_upto_region 1 with (fail)
  go_cut [24] (fun v24 wc => ∃ (kq : Nat) (x24_4 : Bool), v24 = .bool x24_4 ∧ Aside0 (spec_Binary.j0 kq a0 a1 a2 a3 x24_4 = some (r1, r2)) ∧ Aside0 (kq ≤ k) ∧ Drawn0 w wc)
  case first =>
    have H := HC5.out
    clear HC5
    replace H := Option.bind_eq_some_iff.mp H
    obtain ⟨t203, A60, H⟩ := H
    replace H : (if t203 = true then ((spec_l1Value.f a1 a2).bind fun t204 => (if t204 = true then ((spec_l1Value.f a1 a3).bind fun t205 => (spec_Binary.j0 k a0 a1 a2 a3 (!t205))) else (spec_Binary.j0 k a0 a1 a2 a3 true))) else (spec_Binary.j0 k a0 a1 a2 a3 true)) = some (r1, r2) := H
    have A6 := Aside0.mk A60
    clear A60
    by_cases c7 : t203 = true
    · subst c7
      have H1 : ((spec_l1Value.f a1 a2).bind fun t204 => (if t204 = true then ((spec_l1Value.f a1 a3).bind fun t205 => (spec_Binary.j0 k a0 a1 a2 a3 (!t205))) else (spec_Binary.j0 k a0 a1 a2 a3 true))) = some (r1, r2) := by rw [if_pos rfl] at H; exact H
      clear H
      have H := H1
      clear H1
      replace H := Option.bind_eq_some_iff.mp H
      obtain ⟨t204, A80, H⟩ := H
      replace H : (if t204 = true then ((spec_l1Value.f a1 a3).bind fun t205 => (spec_Binary.j0 k a0 a1 a2 a3 (!t205))) else (spec_Binary.j0 k a0 a1 a2 a3 true)) = some (r1, r2) := H
      have A8 := Aside0.mk A80
      clear A80
      by_cases c9 : t204 = true
      · subst c9
        have H1 : ((spec_l1Value.f a1 a3).bind fun t205 => (spec_Binary.j0 k a0 a1 a2 a3 (!t205))) = some (r1, r2) := by rw [if_pos rfl] at H; exact H
        clear H
        have H := H1
        clear H1
        replace H := Option.bind_eq_some_iff.mp H
        obtain ⟨t205, A100, H⟩ := H
        replace H : (spec_Binary.j0 k a0 a1 a2 a3 (!t205)) = some (r1, r2) := H
        have A10 := Aside0.mk A100
        clear A100
        have H' := Aside0.mk H
        clear H
        go_wp2_with (first | ((with_reducible refine gate_callee (f := 39) rfl ?_); refine goesL_ (some 11) rfl rfl Try.func39 (by kernel_rfl) rfl #[.int .i64 a0, .int .i64 1, .int .i64 17] rfl (by (try simp only [List.map_toArray, List.map_cons, List.map_nil]); first | done | rfl | (simp only [List.length_drop, List.length_take]; rfl)) ?_; (with_reducible refine (spec_l1In.calls a0 1 17 true _ A6.out).mono ?_); rintro e w' ⟨rfl, ⟨nd, rfl⟩⟩; refine ⟨_, rfl, ?_⟩) | (go_at_call 30; (with_reducible refine (spec_l1Value.calls a1 a2 true _ A8.out).mono ?_); rintro e w' ⟨rfl, ⟨nd, rfl⟩⟩) | (go_at_call 30; (with_reducible refine (spec_l1Value.calls a1 a3 t205 _ A10.out).mono ?_); rintro e w' ⟨rfl, ⟨nd, rfl⟩⟩))
        go_meet
        case rel => exact ⟨_, (!t205), (by first | rfl | (simp; done) | (simp [*]; done)), H', ⟨by first | omega | exact Nat.le_refl _⟩, by repeat (first | exact Drawn0.refl _ | apply Drawn0.step)⟩
      · replace c9 := Bool.eq_false_iff.mpr c9
        subst c9
        have H1 : (spec_Binary.j0 k a0 a1 a2 a3 true) = some (r1, r2) := by rw [if_neg (show ¬ (false = true) by decide)] at H; exact H
        clear H
        have H := H1
        clear H1
        have H' := Aside0.mk H
        clear H
        go_wp2_with (first | ((with_reducible refine gate_callee (f := 39) rfl ?_); refine goesL_ (some 11) rfl rfl Try.func39 (by kernel_rfl) rfl #[.int .i64 a0, .int .i64 1, .int .i64 17] rfl (by (try simp only [List.map_toArray, List.map_cons, List.map_nil]); first | done | rfl | (simp only [List.length_drop, List.length_take]; rfl)) ?_; (with_reducible refine (spec_l1In.calls a0 1 17 true _ A6.out).mono ?_); rintro e w' ⟨rfl, ⟨nd, rfl⟩⟩; refine ⟨_, rfl, ?_⟩) | (go_at_call 30; (with_reducible refine (spec_l1Value.calls a1 a2 false _ A8.out).mono ?_); rintro e w' ⟨rfl, ⟨nd, rfl⟩⟩))
        go_meet
        case rel => exact ⟨_, (true), (by first | rfl | (simp; done) | (simp [*]; done)), H', ⟨by first | omega | exact Nat.le_refl _⟩, by repeat (first | exact Drawn0.refl _ | apply Drawn0.step)⟩
    · replace c7 := Bool.eq_false_iff.mpr c7
      subst c7
      have H1 : (spec_Binary.j0 k a0 a1 a2 a3 true) = some (r1, r2) := by rw [if_neg (show ¬ (false = true) by decide)] at H; exact H
      clear H
      have H := H1
      clear H1
      have H' := Aside0.mk H
      clear H
      go_wp2_with (first | ((with_reducible refine gate_callee (f := 39) rfl ?_); refine goesL_ (some 11) rfl rfl Try.func39 (by kernel_rfl) rfl #[.int .i64 a0, .int .i64 1, .int .i64 17] rfl (by (try simp only [List.map_toArray, List.map_cons, List.map_nil]); first | done | rfl | (simp only [List.length_drop, List.length_take]; rfl)) ?_; (with_reducible refine (spec_l1In.calls a0 1 17 false _ A6.out).mono ?_); rintro e w' ⟨rfl, ⟨nd, rfl⟩⟩; refine ⟨_, rfl, ?_⟩))
      go_meet
      case rel => exact ⟨_, (true), (by first | rfl | (simp; done) | (simp [*]; done)), H', ⟨by first | omega | exact Nat.le_refl _⟩, by repeat (first | exact Drawn0.refl _ | apply Drawn0.step)⟩
  case rest =>
    clear HC5
    try clear c2
    try clear p2
    try clear c3
    try clear c7
    try clear c9
    obtain ⟨kq, x24_4, rfl, HA, HJ4, ⟨mc4, rfl⟩⟩ := hcut
    cases kq with
    | zero => exact absurd HA.out (by simp [spec_Binary.j0])
    | succ kj4 =>
      have H := HA.out
      clear HA
      simp only [spec_Binary.j0] at H
      by_cases c11 : x24_4 = true
      · subst c11
        have H1 : (some (0, 2)) = some (r1, r2) := by rw [if_pos rfl] at H; exact H
        clear H
        have H := H1
        clear H1
        simp only [Option.some.injEq, Prod.mk.injEq] at H
        obtain ⟨rfl, rfl⟩ := H
        go_wp2
        go_ret2
        exact ⟨by first | rfl | (simp; done) | (simp [*]; done), by repeat (first | exact Drawn0.refl _ | apply Drawn0.step)⟩
      · replace c11 := Bool.eq_false_iff.mpr c11
        subst c11
        have H1 : ((spec_l1Divides.f a0).bind fun t206 => (if t206 = true then (spec_Binary.j1 kj4 a0 a1 a2 a3 (a3 == 0)) else (spec_Binary.j1 kj4 a0 a1 a2 a3 false))) = some (r1, r2) := by rw [if_neg (show ¬ (false = true) by decide)] at H; exact H
        clear H
        have H := H1
        clear H1
        have HC12 := Aside0.mk H
        clear H
        go_upto_region 3 with (fail)
        go_cut [30] (fun v30 wc => ∃ (kq : Nat) (x30_11 : Bool), v30 = .bool x30_11 ∧ Aside0 (spec_Binary.j1 kq a0 a1 a2 a3 x30_11 = some (r1, r2)) ∧ Aside0 (kq ≤ kj4) ∧ Drawn0 w wc)
        case first =>
          have H := HC12.out
          clear HC12
          replace H := Option.bind_eq_some_iff.mp H
          obtain ⟨t206, A130, H⟩ := H
          replace H : (if t206 = true then (spec_Binary.j1 kj4 a0 a1 a2 a3 (a3 == 0)) else (spec_Binary.j1 kj4 a0 a1 a2 a3 false)) = some (r1, r2) := H
          have A13 := Aside0.mk A130
          clear A130
          by_cases c14 : t206 = true
          · subst c14
            have H1 : (spec_Binary.j1 kj4 a0 a1 a2 a3 (a3 == 0)) = some (r1, r2) := by rw [if_pos rfl] at H; exact H
            clear H
            have H := H1
            clear H1
            have H' := Aside0.mk H
            clear H
            go_wp2_with (first | ((with_reducible refine gate_callee (f := 40) rfl ?_); refine goesL_ (some 26) rfl rfl Try.func40 (by kernel_rfl) rfl #[.int .i64 a0] rfl (by (try simp only [List.map_toArray, List.map_cons, List.map_nil]); first | done | rfl | (simp only [List.length_drop, List.length_take]; rfl)) ?_; (with_reducible refine (spec_l1Divides.calls a0 true _ A13.out).mono ?_); rintro e w' ⟨rfl, ⟨nd, rfl⟩⟩; refine ⟨_, rfl, ?_⟩))
            go_meet
            case rel => exact ⟨_, ((a3 == 0)), (by first | rfl | (simp; done) | (simp [*]; done)), H', ⟨by have := HJ4.out; first | omega | exact Nat.le_refl _⟩, by repeat (first | exact Drawn0.refl _ | apply Drawn0.step)⟩
          · replace c14 := Bool.eq_false_iff.mpr c14
            subst c14
            have H1 : (spec_Binary.j1 kj4 a0 a1 a2 a3 false) = some (r1, r2) := by rw [if_neg (show ¬ (false = true) by decide)] at H; exact H
            clear H
            have H := H1
            clear H1
            have H' := Aside0.mk H
            clear H
            go_wp2_with (first | ((with_reducible refine gate_callee (f := 40) rfl ?_); refine goesL_ (some 26) rfl rfl Try.func40 (by kernel_rfl) rfl #[.int .i64 a0] rfl (by (try simp only [List.map_toArray, List.map_cons, List.map_nil]); first | done | rfl | (simp only [List.length_drop, List.length_take]; rfl)) ?_; (with_reducible refine (spec_l1Divides.calls a0 false _ A13.out).mono ?_); rintro e w' ⟨rfl, ⟨nd, rfl⟩⟩; refine ⟨_, rfl, ?_⟩))
            go_meet
            case rel => exact ⟨_, (false), (by first | rfl | (simp; done) | (simp [*]; done)), H', ⟨by have := HJ4.out; first | omega | exact Nat.le_refl _⟩, by repeat (first | exact Drawn0.refl _ | apply Drawn0.step)⟩
        case rest =>
          clear HC12
          try clear c1
          try clear c2
          try clear p2
          try clear c3
          try clear c4
          try clear c7
          try clear c9
          try clear c11
          try clear c14
          try clear p2
          obtain ⟨kq, x30_11, rfl, HA, HJ11, ⟨mc11, rfl⟩⟩ := hcut
          cases kq with
          | zero => exact absurd HA.out (by simp [spec_Binary.j1])
          | succ kj11 =>
            have H := HA.out
            clear HA
            simp only [spec_Binary.j1] at H
            by_cases c15 : x30_11 = true
            · subst c15
              have H1 : (some (0, 1)) = some (r1, r2) := by rw [if_pos rfl] at H; exact H
              clear H
              have H := H1
              clear H1
              simp only [Option.some.injEq, Prod.mk.injEq] at H
              obtain ⟨rfl, rfl⟩ := H
              go_wp2
              go_ret2
              exact ⟨by first | rfl | (simp; done) | (simp [*]; done), by repeat (first | exact Drawn0.refl _ | apply Drawn0.step)⟩
            · replace c15 := Bool.eq_false_iff.mpr c15
              subst c15
              have H1 : ((spec_l1Two.f kj11 a0 a1 a2 a3).bind fun t207 => ((spec_Masked.f a1 t207).bind fun t208 => (some (t208, 0)))) = some (r1, r2) := by rw [if_neg (show ¬ (false = true) by decide)] at H; exact H
              clear H
              have H := H1
              clear H1
              replace H := Option.bind_eq_some_iff.mp H
              obtain ⟨t207, A160, H⟩ := H
              replace H : ((spec_Masked.f a1 t207).bind fun t208 => (some (t208, 0))) = some (r1, r2) := H
              have A16 := Aside0.mk A160
              clear A160
              replace H := Option.bind_eq_some_iff.mp H
              obtain ⟨t208, A170, H⟩ := H
              replace H : (some (t208, 0)) = some (r1, r2) := H
              have A17 := Aside0.mk A170
              clear A170
              simp only [Option.some.injEq, Prod.mk.injEq] at H
              obtain ⟨rfl, rfl⟩ := H
              go_wp2_with (first | ((with_reducible refine gate_callee (f := 41) rfl ?_); refine goesL_ (some 36) rfl rfl Try.func41 (by kernel_rfl) rfl #[.int .i64 a0, .int .i64 a1, .int .i64 a2, .int .i64 a3] rfl (by (try simp only [List.map_toArray, List.map_cons, List.map_nil]); first | done | rfl | (simp only [List.length_drop, List.length_take]; rfl)) ?_; (with_reducible refine (spec_l1Two.calls kj11 a0 a1 a2 a3 t207 _ A16.out).mono ?_); rintro e w' ⟨rfl, ⟨nd, rfl⟩⟩; refine ⟨_, rfl, ?_⟩) | ((with_reducible refine gate_callee (f := 16) rfl ?_); refine goesL_ (some 37) rfl rfl Try.func16 (by kernel_rfl) rfl #[.int .i64 a1, .int .i64 t207] rfl (by (try simp only [List.map_toArray, List.map_cons, List.map_nil]); first | done | rfl | (simp only [List.length_drop, List.length_take]; rfl)) ?_; (with_reducible refine (spec_Masked.calls a1 t207 t208 _ A17.out).mono ?_); rintro e w' ⟨rfl, ⟨nd, rfl⟩⟩; refine ⟨_, rfl, ?_⟩))
              go_ret2
              exact ⟨by first | rfl | (simp; done) | (simp [*]; done), by repeat (first | exact Drawn0.refl _ | apply Drawn0.step)⟩

/-! ### laws_FnDivided: function 5 -/
def laws_FnDivided.j0 : Nat → Int → Int → Int → Int → Int → Int → Int → Int → Int → Bool → Option (Bool)
  | 0, _, _, _, _, _, _, _, _, _, _ => none
  | k + 1, x4, x5, x6, x7, x8, x9, x10, x11, x12, x67 => if x67 = true then (if x7 = x9 then (if x8 = x10 then (if x12 = x8 then (if x8 = 1 then (some (x6 == 0)) else (some true)) else (some false)) else (some false)) else (some false)) else ((impl_Binary.f k 5 x4 x5 x6).bind fun bt220 => ((impl_Binary.f k 7 x4 x5 x6).bind fun bt222 => ((impl_Binary.f k 3 x4 bt220.1 x6).bind fun bt224 => ((impl_Binary.f k 1 x4 bt224.1 bt222.1).bind fun bt226 => (if (wrap64 ((wrap64 (x7 * x6)) + x11)) = x5 then (if x11 < x6 then (some (bt226.1 == x5)) else (some false)) else (some false))))))
def laws_FnDivided.f (k : Nat) (l0 : List Int) : Option (Bool) := (laws_big.f l0).bind fun t209 => (if t209 = true then (some true) else ((spec_DrawBinary.f k l0).bind fun bt210 => ((impl_Binary.f k 4 bt210.2.1 bt210.2.2.1 bt210.2.2.2).bind fun bt214 => ((spec_Binary.f k 4 bt210.2.1 bt210.2.2.1 bt210.2.2.2).bind fun bt216 => ((impl_Binary.f k 6 bt210.2.1 bt210.2.2.1 bt210.2.2.2).bind fun bt218 => (if bt214.1 = bt216.1 then (if bt214.2 = bt216.2 then (if bt218.2 = bt214.2 then (laws_FnDivided.j0 k bt210.2.1 bt210.2.2.1 bt210.2.2.2 bt214.1 bt214.2 bt216.1 bt216.2 bt218.1 bt218.2 (bt214.2 != 0)) else (laws_FnDivided.j0 k bt210.2.1 bt210.2.2.1 bt210.2.2.2 bt214.1 bt214.2 bt216.1 bt216.2 bt218.1 bt218.2 true)) else (laws_FnDivided.j0 k bt210.2.1 bt210.2.2.1 bt210.2.2.2 bt214.1 bt214.2 bt216.1 bt216.2 bt218.1 bt218.2 true)) else (laws_FnDivided.j0 k bt210.2.1 bt210.2.2.1 bt210.2.2.2 bt214.1 bt214.2 bt216.1 bt216.2 bt218.1 bt218.2 true)))))))
theorem laws_FnDivided.mono_l : ∀ k, (∀ y0 y1 y2 y3 y4 y5 y6 y7 y8 y9, LeO (laws_FnDivided.j0 k y0 y1 y2 y3 y4 y5 y6 y7 y8 y9) (laws_FnDivided.j0 (k + 1) y0 y1 y2 y3 y4 y5 y6 y7 y8 y9))
  | 0 => fun _ _ _ _ _ _ _ _ _ _ r h => by simp [laws_FnDivided.j0] at h
  | k + 1 => by
    have ih0 := laws_FnDivided.mono_l k
    · intro y0 y1 y2 y3 y4 y5 y6 y7 y8 y9
      unfold laws_FnDivided.j0
      repeat' first
      | (with_reducible exact ih0 _ _ _ _ _ _ _ _ _ _)
      | (with_reducible exact impl_Binary.mono _ _ _ _ _)
      | (with_reducible exact spec_Binary.mono _ _ _ _ _)
      | (with_reducible exact spec_DrawBinary.mono _ _)
      | (with_reducible exact LeO.refl _)
      | (with_reducible exact LeO.none _)
      | (with_reducible refine LeO.ite ?_ ?_)
      | (with_reducible refine LeO.bind ?_ (fun _ => ?_))
      | exact ih0 _ _ _ _ _ _ _ _ _ _
      | exact impl_Binary.mono _ _ _ _ _
      | exact spec_Binary.mono _ _ _ _ _
      | exact spec_DrawBinary.mono _ _
      | exact LeO.none _
      | refine LeO.ite ?_ ?_
      | refine LeO.bind ?_ (fun _ => ?_)
theorem laws_FnDivided.mono : ∀ a0 k, LeO (laws_FnDivided.f k a0) (laws_FnDivided.f (k + 1) a0) := by
  intro a0 k
  have ih0 := laws_FnDivided.mono_l k
  unfold laws_FnDivided.f
  repeat' first
      | (with_reducible exact ih0 _ _ _ _ _ _ _ _ _ _)
      | (with_reducible exact impl_Binary.mono _ _ _ _ _)
      | (with_reducible exact spec_Binary.mono _ _ _ _ _)
      | (with_reducible exact spec_DrawBinary.mono _ _)
      | (with_reducible exact LeO.refl _)
      | (with_reducible exact LeO.none _)
      | (with_reducible refine LeO.ite ?_ ?_)
      | (with_reducible refine LeO.bind ?_ (fun _ => ?_))
      | exact ih0 _ _ _ _ _ _ _ _ _ _
      | exact impl_Binary.mono _ _ _ _ _
      | exact spec_Binary.mono _ _ _ _ _
      | exact spec_DrawBinary.mono _ _
      | exact LeO.none _
      | refine LeO.ite ?_ ?_
      | refine LeO.bind ?_ (fun _ => ?_)
set_option maxHeartbeats 8000000 in
set_option maxRecDepth 100000 in
theorem laws_FnDivided.calls (k : Nat) (A0 : Option Addr) (c0 : Nat) (l0 : List Int) (r : Bool) (w : World) (hr0 : Kd.C (Kd.int .u8) w A0 l0.length l0) (hc0 : l0.length ≤ c0) (h : laws_FnDivided.f k l0 = some r) :
    Calls Try.prog 5 #[.slice A0 l0.length c0] w fun e w' => e = .returned (.bool r) ∧ Below w.heap.size w w' := by
  have HR0 := Aside0.mk hr0
  have HC0 := Aside0.mk hc0
  clear hr0 hc0
  have HB := Aside0.mk (Below.refl w.heap.size w)
  have H : ((laws_big.f l0).bind fun t209 => (if t209 = true then (some true) else ((spec_DrawBinary.f k l0).bind fun bt210 => ((impl_Binary.f k 4 bt210.2.1 bt210.2.2.1 bt210.2.2.2).bind fun bt214 => ((spec_Binary.f k 4 bt210.2.1 bt210.2.2.1 bt210.2.2.2).bind fun bt216 => ((impl_Binary.f k 6 bt210.2.1 bt210.2.2.1 bt210.2.2.2).bind fun bt218 => (if bt214.1 = bt216.1 then (if bt214.2 = bt216.2 then (if bt218.2 = bt214.2 then (laws_FnDivided.j0 k bt210.2.1 bt210.2.2.1 bt210.2.2.2 bt214.1 bt214.2 bt216.1 bt216.2 bt218.1 bt218.2 (bt214.2 != 0)) else (laws_FnDivided.j0 k bt210.2.1 bt210.2.2.1 bt210.2.2.2 bt214.1 bt214.2 bt216.1 bt216.2 bt218.1 bt218.2 true)) else (laws_FnDivided.j0 k bt210.2.1 bt210.2.2.1 bt210.2.2.2 bt214.1 bt214.2 bt216.1 bt216.2 bt218.1 bt218.2 true)) else (laws_FnDivided.j0 k bt210.2.1 bt210.2.2.1 bt210.2.2.2 bt214.1 bt214.2 bt216.1 bt216.2 bt218.1 bt218.2 true)))))))) = some r := h
  clear h
  replace H := Option.bind_eq_some_iff.mp H
  obtain ⟨t209, A20, H⟩ := H
  replace H : (if t209 = true then (some true) else ((spec_DrawBinary.f k l0).bind fun bt210 => ((impl_Binary.f k 4 bt210.2.1 bt210.2.2.1 bt210.2.2.2).bind fun bt214 => ((spec_Binary.f k 4 bt210.2.1 bt210.2.2.1 bt210.2.2.2).bind fun bt216 => ((impl_Binary.f k 6 bt210.2.1 bt210.2.2.1 bt210.2.2.2).bind fun bt218 => (if bt214.1 = bt216.1 then (if bt214.2 = bt216.2 then (if bt218.2 = bt214.2 then (laws_FnDivided.j0 k bt210.2.1 bt210.2.2.1 bt210.2.2.2 bt214.1 bt214.2 bt216.1 bt216.2 bt218.1 bt218.2 (bt214.2 != 0)) else (laws_FnDivided.j0 k bt210.2.1 bt210.2.2.1 bt210.2.2.2 bt214.1 bt214.2 bt216.1 bt216.2 bt218.1 bt218.2 true)) else (laws_FnDivided.j0 k bt210.2.1 bt210.2.2.1 bt210.2.2.2 bt214.1 bt214.2 bt216.1 bt216.2 bt218.1 bt218.2 true)) else (laws_FnDivided.j0 k bt210.2.1 bt210.2.2.1 bt210.2.2.2 bt214.1 bt214.2 bt216.1 bt216.2 bt218.1 bt218.2 true))))))) = some r := H
  have A2 := Aside0.mk A20
  clear A20
  by_cases c3 : t209 = true
  · subst c3
    have H1 : (some true) = some r := by rw [if_pos rfl] at H; exact H
    clear H
    have H := H1
    clear H1
    obtain rfl := Option.some.inj H
    go_enter Try.func5, Try.ntmps5
    go_wp2_with (first | ((with_reducible refine gate_callee (f := 8) rfl ?_); refine goesL_ (some 22) rfl rfl Try.func8 (by kernel_rfl) rfl #[.slice A0 l0.length c0] rfl (by (try simp only [List.map_toArray, List.map_cons, List.map_nil]); first | done | rfl | (simp only [List.length_drop, List.length_take]; rfl)) ?_; (with_reducible refine (laws_big.calls _ _ l0 true _ ?side1 ?side2 A2.out).mono ?_); (case side1 => repeat (first | exact HR0.out | (with_reducible refine Kd.C_alloc ?_ _) | (with_reducible refine Kd.C_drewN ?_ _) | (with_reducible refine Kd.C_drew ?_))); (case side2 => exact HC0.out); rintro e w' ⟨rfl, ⟨nd, rfl⟩⟩; refine ⟨_, rfl, ?_⟩))
    go_ret
    exact ⟨by first | rfl | (simp [errW_none, errW_some] <;> rfl) | (simp [*, errW_none, errW_some] <;> rfl), by repeat (first | (with_reducible first | exact HB.out | apply below_alloc | apply pw_below_drewN | apply below_drew1) | exact HB.out)⟩
  · replace c3 := Bool.eq_false_iff.mpr c3
    subst c3
    have H1 : ((spec_DrawBinary.f k l0).bind fun bt210 => ((impl_Binary.f k 4 bt210.2.1 bt210.2.2.1 bt210.2.2.2).bind fun bt214 => ((spec_Binary.f k 4 bt210.2.1 bt210.2.2.1 bt210.2.2.2).bind fun bt216 => ((impl_Binary.f k 6 bt210.2.1 bt210.2.2.1 bt210.2.2.2).bind fun bt218 => (if bt214.1 = bt216.1 then (if bt214.2 = bt216.2 then (if bt218.2 = bt214.2 then (laws_FnDivided.j0 k bt210.2.1 bt210.2.2.1 bt210.2.2.2 bt214.1 bt214.2 bt216.1 bt216.2 bt218.1 bt218.2 (bt214.2 != 0)) else (laws_FnDivided.j0 k bt210.2.1 bt210.2.2.1 bt210.2.2.2 bt214.1 bt214.2 bt216.1 bt216.2 bt218.1 bt218.2 true)) else (laws_FnDivided.j0 k bt210.2.1 bt210.2.2.1 bt210.2.2.2 bt214.1 bt214.2 bt216.1 bt216.2 bt218.1 bt218.2 true)) else (laws_FnDivided.j0 k bt210.2.1 bt210.2.2.1 bt210.2.2.2 bt214.1 bt214.2 bt216.1 bt216.2 bt218.1 bt218.2 true)))))) = some r := by rw [if_neg (show ¬ (false = true) by decide)] at H; exact H
    clear H
    have H := H1
    clear H1
    replace H := Option.bind_eq_some_iff.mp H
    obtain ⟨⟨t210, t211, t212, t213⟩, A40, H⟩ := H
    replace H : ((impl_Binary.f k 4 t211 t212 t213).bind fun bt214 => ((spec_Binary.f k 4 t211 t212 t213).bind fun bt216 => ((impl_Binary.f k 6 t211 t212 t213).bind fun bt218 => (if bt214.1 = bt216.1 then (if bt214.2 = bt216.2 then (if bt218.2 = bt214.2 then (laws_FnDivided.j0 k t211 t212 t213 bt214.1 bt214.2 bt216.1 bt216.2 bt218.1 bt218.2 (bt214.2 != 0)) else (laws_FnDivided.j0 k t211 t212 t213 bt214.1 bt214.2 bt216.1 bt216.2 bt218.1 bt218.2 true)) else (laws_FnDivided.j0 k t211 t212 t213 bt214.1 bt214.2 bt216.1 bt216.2 bt218.1 bt218.2 true)) else (laws_FnDivided.j0 k t211 t212 t213 bt214.1 bt214.2 bt216.1 bt216.2 bt218.1 bt218.2 true))))) = some r := H
    have A4 := Aside0.mk A40
    clear A40
    replace H := Option.bind_eq_some_iff.mp H
    obtain ⟨⟨t214, t215⟩, A50, H⟩ := H
    replace H : ((spec_Binary.f k 4 t211 t212 t213).bind fun bt216 => ((impl_Binary.f k 6 t211 t212 t213).bind fun bt218 => (if t214 = bt216.1 then (if t215 = bt216.2 then (if bt218.2 = t215 then (laws_FnDivided.j0 k t211 t212 t213 t214 t215 bt216.1 bt216.2 bt218.1 bt218.2 (t215 != 0)) else (laws_FnDivided.j0 k t211 t212 t213 t214 t215 bt216.1 bt216.2 bt218.1 bt218.2 true)) else (laws_FnDivided.j0 k t211 t212 t213 t214 t215 bt216.1 bt216.2 bt218.1 bt218.2 true)) else (laws_FnDivided.j0 k t211 t212 t213 t214 t215 bt216.1 bt216.2 bt218.1 bt218.2 true)))) = some r := H
    have A5 := Aside0.mk A50
    clear A50
    replace H := Option.bind_eq_some_iff.mp H
    obtain ⟨⟨t216, t217⟩, A60, H⟩ := H
    replace H : ((impl_Binary.f k 6 t211 t212 t213).bind fun bt218 => (if t214 = t216 then (if t215 = t217 then (if bt218.2 = t215 then (laws_FnDivided.j0 k t211 t212 t213 t214 t215 t216 t217 bt218.1 bt218.2 (t215 != 0)) else (laws_FnDivided.j0 k t211 t212 t213 t214 t215 t216 t217 bt218.1 bt218.2 true)) else (laws_FnDivided.j0 k t211 t212 t213 t214 t215 t216 t217 bt218.1 bt218.2 true)) else (laws_FnDivided.j0 k t211 t212 t213 t214 t215 t216 t217 bt218.1 bt218.2 true))) = some r := H
    have A6 := Aside0.mk A60
    clear A60
    replace H := Option.bind_eq_some_iff.mp H
    obtain ⟨⟨t218, t219⟩, A70, H⟩ := H
    replace H : (if t214 = t216 then (if t215 = t217 then (if t219 = t215 then (laws_FnDivided.j0 k t211 t212 t213 t214 t215 t216 t217 t218 t219 (t215 != 0)) else (laws_FnDivided.j0 k t211 t212 t213 t214 t215 t216 t217 t218 t219 true)) else (laws_FnDivided.j0 k t211 t212 t213 t214 t215 t216 t217 t218 t219 true)) else (laws_FnDivided.j0 k t211 t212 t213 t214 t215 t216 t217 t218 t219 true)) = some r := H
    have A7 := Aside0.mk A70
    clear A70
    have HC8 := Aside0.mk H
    clear H
    go_enter Try.func5, Try.ntmps5
    go_upto_region 7 with (first | ((with_reducible refine gate_callee (f := 8) rfl ?_); refine goesL_ (some 22) rfl rfl Try.func8 (by kernel_rfl) rfl #[.slice A0 l0.length c0] rfl (by (try simp only [List.map_toArray, List.map_cons, List.map_nil]); first | done | rfl | (simp only [List.length_drop, List.length_take]; rfl)) ?_; (with_reducible refine (laws_big.calls _ _ l0 false _ ?side1 ?side2 A2.out).mono ?_); (case side1 => repeat (first | exact HR0.out | (with_reducible refine Kd.C_alloc ?_ _) | (with_reducible refine Kd.C_drewN ?_ _) | (with_reducible refine Kd.C_drew ?_))); (case side2 => exact HC0.out); rintro e w' ⟨rfl, ⟨nd, rfl⟩⟩; refine ⟨_, rfl, ?_⟩) | ((with_reducible refine gate_callee (f := 20) rfl ?_); refine goesL_ (some 25) rfl rfl Try.func20 (by kernel_rfl) rfl #[.slice A0 l0.length c0] rfl (by (try simp only [List.map_toArray, List.map_cons, List.map_nil]); first | done | rfl | (simp only [List.length_drop, List.length_take]; rfl)) ?_; (with_reducible refine (spec_DrawBinary.calls k _ _ l0 t210 t211 t212 t213 _ ?side1 ?side2 A4.out).mono ?_); (case side1 => repeat (first | exact HR0.out | (with_reducible refine Kd.C_alloc ?_ _) | (with_reducible refine Kd.C_drewN ?_ _) | (with_reducible refine Kd.C_drew ?_))); (case side2 => exact HC0.out); rintro e w9 ⟨rfl, hb⟩; refine ⟨_, rfl, ?_⟩; have n0_ := Aside0.mk (below_step (by repeat (first | (with_reducible first | exact HB.out | apply below_alloc | apply pw_below_drewN | apply below_drew1) | exact HB.out)) hb); clear HB; have HB := n0_; clear n0_; (try clear hb); (try clear hb2); (try clear hk); (try clear hi)) | ((with_reducible refine gate_callee (f := 21) rfl ?_); refine goesL_ (some 34) rfl rfl Try.func21 (by kernel_rfl) rfl #[.int .i64 4, .int .i64 t211, .int .i64 t212, .int .i64 t213] rfl (by (try simp only [List.map_toArray, List.map_cons, List.map_nil]); first | done | rfl | (simp only [List.length_drop, List.length_take]; rfl)) ?_; (with_reducible refine (impl_Binary.calls k 4 t211 t212 t213 t214 t215 _ A5.out).mono ?_); rintro e w10 ⟨rfl, hb⟩; refine ⟨_, rfl, ?_⟩; have n0_ := Aside0.mk (below_step (by repeat (first | (with_reducible first | exact HB.out | apply below_alloc | apply pw_below_drewN | apply below_drew1) | exact HB.out)) hb); clear HB; have HB := n0_; clear n0_; (try clear hb); (try clear hb2); (try clear hk); (try clear hi)) | ((with_reducible refine gate_callee (f := 22) rfl ?_); refine goesL_ (some 41) rfl rfl Try.func22 (by kernel_rfl) rfl #[.int .i64 4, .int .i64 t211, .int .i64 t212, .int .i64 t213] rfl (by (try simp only [List.map_toArray, List.map_cons, List.map_nil]); first | done | rfl | (simp only [List.length_drop, List.length_take]; rfl)) ?_; (with_reducible refine (spec_Binary.calls k 4 t211 t212 t213 t216 t217 _ A6.out).mono ?_); rintro e w' ⟨rfl, ⟨nd, rfl⟩⟩; refine ⟨_, rfl, ?_⟩) | ((with_reducible refine gate_callee (f := 21) rfl ?_); refine goesL_ (some 48) rfl rfl Try.func21 (by kernel_rfl) rfl #[.int .i64 6, .int .i64 t211, .int .i64 t212, .int .i64 t213] rfl (by (try simp only [List.map_toArray, List.map_cons, List.map_nil]); first | done | rfl | (simp only [List.length_drop, List.length_take]; rfl)) ?_; (with_reducible refine (impl_Binary.calls k 6 t211 t212 t213 t218 t219 _ A7.out).mono ?_); rintro e w11 ⟨rfl, hb⟩; refine ⟨_, rfl, ?_⟩; have n0_ := Aside0.mk (below_step (by repeat (first | (with_reducible first | exact HB.out | apply below_alloc | apply pw_below_drewN | apply below_drew1) | exact HB.out)) hb); clear HB; have HB := n0_; clear n0_; (try clear hb); (try clear hb2); (try clear hk); (try clear hi)))
    (try simp only [Act.put, List.setIfInBounds_toArray, List.set_cons_zero, List.set_cons_succ])
    go_cut [67] (fun v67 wc => ∃ (kq : Nat) (x67_7 : Bool), v67 = .bool x67_7 ∧ Aside0 (laws_FnDivided.j0 kq t211 t212 t213 t214 t215 t216 t217 t218 t219 x67_7 = some r) ∧ Aside0 (kq ≤ k) ∧ Aside0 (Below w.heap.size w wc))
    case first =>
      have H := HC8.out
      clear HC8
      by_cases c12 : t214 = t216
      · rw [if_pos c12] at H
        have c12b0 : (t214 == t216) = true := beq_iff_eq.mpr c12
        have c12b1 : (t214 != t216) = false := bne_eq_false_iff_eq.mpr c12
        clear c12
        (first | rw [c12b0] | (simp only [i64_w, i32_w]; rw [c12b0]) | skip)
        by_cases c13 : t215 = t217
        · rw [if_pos c13] at H
          have c13b0 : (t215 == t217) = true := beq_iff_eq.mpr c13
          have c13b1 : (t215 != t217) = false := bne_eq_false_iff_eq.mpr c13
          clear c13
          by_cases c14 : t219 = t215
          · rw [if_pos c14] at H
            have c14b0 : (t219 == t215) = true := beq_iff_eq.mpr c14
            have c14b1 : (t219 != t215) = false := bne_eq_false_iff_eq.mpr c14
            clear c14
            have H' := Aside0.mk H
            clear H
            go_wp2
            go_meet
            case rel => exact ⟨_, ((t215 != 0)), (by first | rfl | (simp; done) | (simp [*]; done)), H', ⟨by first | omega | exact Nat.le_refl _⟩, ⟨by repeat (first | (with_reducible first | exact HB.out | apply below_alloc | apply pw_below_drewN | apply below_drew1) | exact HB.out)⟩⟩
          · rw [if_neg c14] at H
            have c14b0 : (t219 == t215) = false := beq_eq_false_iff_ne.mpr c14
            have c14b1 : (t219 != t215) = true := bne_iff_ne.mpr c14
            have H' := Aside0.mk H
            clear H
            go_wp2
            go_meet
            case rel => exact ⟨_, (true), (by first | rfl | (simp; done) | (simp [*]; done)), H', ⟨by first | omega | exact Nat.le_refl _⟩, ⟨by repeat (first | (with_reducible first | exact HB.out | apply below_alloc | apply pw_below_drewN | apply below_drew1) | exact HB.out)⟩⟩
        · rw [if_neg c13] at H
          have c13b0 : (t215 == t217) = false := beq_eq_false_iff_ne.mpr c13
          have c13b1 : (t215 != t217) = true := bne_iff_ne.mpr c13
          have H' := Aside0.mk H
          clear H
          go_wp2
          go_meet
          case rel => exact ⟨_, (true), (by first | rfl | (simp; done) | (simp [*]; done)), H', ⟨by first | omega | exact Nat.le_refl _⟩, ⟨by repeat (first | (with_reducible first | exact HB.out | apply below_alloc | apply pw_below_drewN | apply below_drew1) | exact HB.out)⟩⟩
      · rw [if_neg c12] at H
        have c12b0 : (t214 == t216) = false := beq_eq_false_iff_ne.mpr c12
        have c12b1 : (t214 != t216) = true := bne_iff_ne.mpr c12
        (first | rw [c12b0] | (simp only [i64_w, i32_w]; rw [c12b0]) | skip)
        have H' := Aside0.mk H
        clear H
        go_wp2
        go_meet
        case rel => exact ⟨_, (true), (by first | rfl | (simp; done) | (simp [*]; done)), H', ⟨by first | omega | exact Nat.le_refl _⟩, ⟨by repeat (first | (with_reducible first | exact HB.out | apply below_alloc | apply pw_below_drewN | apply below_drew1) | exact HB.out)⟩⟩
    case rest =>
      clear HC8
      try clear c1
      try clear c2
      try clear p2
      try clear c3
      try clear c5
      try clear c8
      try clear c12
      try clear c12b0
      try clear c12b1
      try clear c13
      try clear c13b0
      try clear c13b1
      try clear c14
      try clear c14b0
      try clear c14b1
      obtain ⟨kq, x67_7, rfl, HA, HJ7, HB⟩ := hcut
      cases kq with
      | zero => exact absurd HA.out (by simp [laws_FnDivided.j0])
      | succ kj7 =>
        have H := HA.out
        clear HA
        simp only [laws_FnDivided.j0] at H
        by_cases c15 : x67_7 = true
        · subst c15
          have H1 : (if t214 = t216 then (if t215 = t217 then (if t219 = t215 then (if t215 = 1 then (some (t213 == 0)) else (some true)) else (some false)) else (some false)) else (some false)) = some r := by rw [if_pos rfl] at H; exact H
          clear H
          have H := H1
          clear H1
          by_cases c16 : t214 = t216
          · rw [if_pos c16] at H
            have c16b0 : (t214 == t216) = true := beq_iff_eq.mpr c16
            have c16b1 : (t214 != t216) = false := bne_eq_false_iff_eq.mpr c16
            clear c16
            by_cases c17 : t215 = t217
            · rw [if_pos c17] at H
              have c17b0 : (t215 == t217) = true := beq_iff_eq.mpr c17
              have c17b1 : (t215 != t217) = false := bne_eq_false_iff_eq.mpr c17
              clear c17
              by_cases c18 : t219 = t215
              · rw [if_pos c18] at H
                have c18b0 : (t219 == t215) = true := beq_iff_eq.mpr c18
                have c18b1 : (t219 != t215) = false := bne_eq_false_iff_eq.mpr c18
                clear c18
                by_cases c19 : t215 = 1
                · rw [if_pos c19] at H
                  have c19b0 : (t215 == 1) = true := beq_iff_eq.mpr c19
                  have c19b1 : (t215 != 1) = false := bne_eq_false_iff_eq.mpr c19
                  clear c19
                  obtain rfl := Option.some.inj H
                  go_wp2
                  go_ret
                  exact ⟨by first | rfl | (simp [errW_none, errW_some] <;> rfl) | (simp [*, errW_none, errW_some] <;> rfl), by repeat (first | (with_reducible first | exact HB.out | apply below_alloc | apply pw_below_drewN | apply below_drew1) | exact HB.out)⟩
                · rw [if_neg c19] at H
                  have c19b0 : (t215 == 1) = false := beq_eq_false_iff_ne.mpr c19
                  have c19b1 : (t215 != 1) = true := bne_iff_ne.mpr c19
                  obtain rfl := Option.some.inj H
                  go_wp2
                  go_ret
                  exact ⟨by first | rfl | (simp [errW_none, errW_some] <;> rfl) | (simp [*, errW_none, errW_some] <;> rfl), by repeat (first | (with_reducible first | exact HB.out | apply below_alloc | apply pw_below_drewN | apply below_drew1) | exact HB.out)⟩
              · rw [if_neg c18] at H
                have c18b0 : (t219 == t215) = false := beq_eq_false_iff_ne.mpr c18
                have c18b1 : (t219 != t215) = true := bne_iff_ne.mpr c18
                obtain rfl := Option.some.inj H
                go_wp2
                go_ret
                exact ⟨by first | rfl | (simp [errW_none, errW_some] <;> rfl) | (simp [*, errW_none, errW_some] <;> rfl), by repeat (first | (with_reducible first | exact HB.out | apply below_alloc | apply pw_below_drewN | apply below_drew1) | exact HB.out)⟩
            · rw [if_neg c17] at H
              have c17b0 : (t215 == t217) = false := beq_eq_false_iff_ne.mpr c17
              have c17b1 : (t215 != t217) = true := bne_iff_ne.mpr c17
              obtain rfl := Option.some.inj H
              go_wp2
              go_ret
              exact ⟨by first | rfl | (simp [errW_none, errW_some] <;> rfl) | (simp [*, errW_none, errW_some] <;> rfl), by repeat (first | (with_reducible first | exact HB.out | apply below_alloc | apply pw_below_drewN | apply below_drew1) | exact HB.out)⟩
          · rw [if_neg c16] at H
            have c16b0 : (t214 == t216) = false := beq_eq_false_iff_ne.mpr c16
            have c16b1 : (t214 != t216) = true := bne_iff_ne.mpr c16
            obtain rfl := Option.some.inj H
            go_wp2
            go_ret
            exact ⟨by first | rfl | (simp [errW_none, errW_some] <;> rfl) | (simp [*, errW_none, errW_some] <;> rfl), by repeat (first | (with_reducible first | exact HB.out | apply below_alloc | apply pw_below_drewN | apply below_drew1) | exact HB.out)⟩
        · replace c15 := Bool.eq_false_iff.mpr c15
          subst c15
          have H1 : ((impl_Binary.f kj7 5 t211 t212 t213).bind fun bt220 => ((impl_Binary.f kj7 7 t211 t212 t213).bind fun bt222 => ((impl_Binary.f kj7 3 t211 bt220.1 t213).bind fun bt224 => ((impl_Binary.f kj7 1 t211 bt224.1 bt222.1).bind fun bt226 => (if (wrap64 ((wrap64 (t214 * t213)) + t218)) = t212 then (if t218 < t213 then (some (bt226.1 == t212)) else (some false)) else (some false)))))) = some r := by rw [if_neg (show ¬ (false = true) by decide)] at H; exact H
          clear H
          have H := H1
          clear H1
          replace H := Option.bind_eq_some_iff.mp H
          obtain ⟨⟨t220, t221⟩, A200, H⟩ := H
          replace H : ((impl_Binary.f kj7 7 t211 t212 t213).bind fun bt222 => ((impl_Binary.f kj7 3 t211 t220 t213).bind fun bt224 => ((impl_Binary.f kj7 1 t211 bt224.1 bt222.1).bind fun bt226 => (if (wrap64 ((wrap64 (t214 * t213)) + t218)) = t212 then (if t218 < t213 then (some (bt226.1 == t212)) else (some false)) else (some false))))) = some r := H
          have A20 := Aside0.mk A200
          clear A200
          replace H := Option.bind_eq_some_iff.mp H
          obtain ⟨⟨t222, t223⟩, A210, H⟩ := H
          replace H : ((impl_Binary.f kj7 3 t211 t220 t213).bind fun bt224 => ((impl_Binary.f kj7 1 t211 bt224.1 t222).bind fun bt226 => (if (wrap64 ((wrap64 (t214 * t213)) + t218)) = t212 then (if t218 < t213 then (some (bt226.1 == t212)) else (some false)) else (some false)))) = some r := H
          have A21 := Aside0.mk A210
          clear A210
          replace H := Option.bind_eq_some_iff.mp H
          obtain ⟨⟨t224, t225⟩, A220, H⟩ := H
          replace H : ((impl_Binary.f kj7 1 t211 t224 t222).bind fun bt226 => (if (wrap64 ((wrap64 (t214 * t213)) + t218)) = t212 then (if t218 < t213 then (some (bt226.1 == t212)) else (some false)) else (some false))) = some r := H
          have A22 := Aside0.mk A220
          clear A220
          replace H := Option.bind_eq_some_iff.mp H
          obtain ⟨⟨t226, t227⟩, A230, H⟩ := H
          replace H : (if (wrap64 ((wrap64 (t214 * t213)) + t218)) = t212 then (if t218 < t213 then (some (t226 == t212)) else (some false)) else (some false)) = some r := H
          have A23 := Aside0.mk A230
          clear A230
          by_cases c24 : (wrap64 ((wrap64 (t214 * t213)) + t218)) = t212
          · rw [if_pos c24] at H
            have c24b0 : ((wrap64 ((wrap64 (t214 * t213)) + t218)) == t212) = true := beq_iff_eq.mpr c24
            have c24b1 : ((wrap64 ((wrap64 (t214 * t213)) + t218)) != t212) = false := bne_eq_false_iff_eq.mpr c24
            clear c24
            by_cases c25 : t218 < t213
            · rw [if_pos c25] at H
              have c25b0 : decide (t218 < t213) = true := decide_eq_true c25
              clear c25
              obtain rfl := Option.some.inj H
              go_wp2_with (first | ((with_reducible refine gate_callee (f := 21) rfl ?_); refine goesL_ (some 93) rfl rfl Try.func21 (by kernel_rfl) rfl #[.int .i64 5, .int .i64 t211, .int .i64 t212, .int .i64 t213] rfl (by (try simp only [List.map_toArray, List.map_cons, List.map_nil]); first | done | rfl | (simp only [List.length_drop, List.length_take]; rfl)) ?_; (with_reducible refine (impl_Binary.calls kj7 5 t211 t212 t213 t220 t221 _ A20.out).mono ?_); rintro e w26 ⟨rfl, hb⟩; refine ⟨_, rfl, ?_⟩; have n0_ := Aside0.mk (below_step (by repeat (first | (with_reducible first | exact HB.out | apply below_alloc | apply pw_below_drewN | apply below_drew1) | exact HB.out)) hb); clear HB; have HB := n0_; clear n0_; (try clear hb); (try clear hb2); (try clear hk); (try clear hi)) | ((with_reducible refine gate_callee (f := 21) rfl ?_); refine goesL_ (some 100) rfl rfl Try.func21 (by kernel_rfl) rfl #[.int .i64 7, .int .i64 t211, .int .i64 t212, .int .i64 t213] rfl (by (try simp only [List.map_toArray, List.map_cons, List.map_nil]); first | done | rfl | (simp only [List.length_drop, List.length_take]; rfl)) ?_; (with_reducible refine (impl_Binary.calls kj7 7 t211 t212 t213 t222 t223 _ A21.out).mono ?_); rintro e w27 ⟨rfl, hb⟩; refine ⟨_, rfl, ?_⟩; have n0_ := Aside0.mk (below_step (by repeat (first | (with_reducible first | exact HB.out | apply below_alloc | apply pw_below_drewN | apply below_drew1) | exact HB.out)) hb); clear HB; have HB := n0_; clear n0_; (try clear hb); (try clear hb2); (try clear hk); (try clear hi)) | ((with_reducible refine gate_callee (f := 21) rfl ?_); refine goesL_ (some 107) rfl rfl Try.func21 (by kernel_rfl) rfl #[.int .i64 3, .int .i64 t211, .int .i64 t220, .int .i64 t213] rfl (by (try simp only [List.map_toArray, List.map_cons, List.map_nil]); first | done | rfl | (simp only [List.length_drop, List.length_take]; rfl)) ?_; (with_reducible refine (impl_Binary.calls kj7 3 t211 t220 t213 t224 t225 _ A22.out).mono ?_); rintro e w28 ⟨rfl, hb⟩; refine ⟨_, rfl, ?_⟩; have n0_ := Aside0.mk (below_step (by repeat (first | (with_reducible first | exact HB.out | apply below_alloc | apply pw_below_drewN | apply below_drew1) | exact HB.out)) hb); clear HB; have HB := n0_; clear n0_; (try clear hb); (try clear hb2); (try clear hk); (try clear hi)) | ((with_reducible refine gate_callee (f := 21) rfl ?_); refine goesL_ (some 114) rfl rfl Try.func21 (by kernel_rfl) rfl #[.int .i64 1, .int .i64 t211, .int .i64 t224, .int .i64 t222] rfl (by (try simp only [List.map_toArray, List.map_cons, List.map_nil]); first | done | rfl | (simp only [List.length_drop, List.length_take]; rfl)) ?_; (with_reducible refine (impl_Binary.calls kj7 1 t211 t224 t222 t226 t227 _ A23.out).mono ?_); rintro e w29 ⟨rfl, hb⟩; refine ⟨_, rfl, ?_⟩; have n0_ := Aside0.mk (below_step (by repeat (first | (with_reducible first | exact HB.out | apply below_alloc | apply pw_below_drewN | apply below_drew1) | exact HB.out)) hb); clear HB; have HB := n0_; clear n0_; (try clear hb); (try clear hb2); (try clear hk); (try clear hi)))
              go_ret
              exact ⟨by first | rfl | (simp [errW_none, errW_some] <;> rfl) | (simp [*, errW_none, errW_some] <;> rfl), by repeat (first | (with_reducible first | exact HB.out | apply below_alloc | apply pw_below_drewN | apply below_drew1) | exact HB.out)⟩
            · rw [if_neg c25] at H
              have c25b0 : decide (t218 < t213) = false := decide_eq_false c25
              clear c25
              obtain rfl := Option.some.inj H
              go_wp2_with (first | ((with_reducible refine gate_callee (f := 21) rfl ?_); refine goesL_ (some 93) rfl rfl Try.func21 (by kernel_rfl) rfl #[.int .i64 5, .int .i64 t211, .int .i64 t212, .int .i64 t213] rfl (by (try simp only [List.map_toArray, List.map_cons, List.map_nil]); first | done | rfl | (simp only [List.length_drop, List.length_take]; rfl)) ?_; (with_reducible refine (impl_Binary.calls kj7 5 t211 t212 t213 t220 t221 _ A20.out).mono ?_); rintro e w30 ⟨rfl, hb⟩; refine ⟨_, rfl, ?_⟩; have n0_ := Aside0.mk (below_step (by repeat (first | (with_reducible first | exact HB.out | apply below_alloc | apply pw_below_drewN | apply below_drew1) | exact HB.out)) hb); clear HB; have HB := n0_; clear n0_; (try clear hb); (try clear hb2); (try clear hk); (try clear hi)) | ((with_reducible refine gate_callee (f := 21) rfl ?_); refine goesL_ (some 100) rfl rfl Try.func21 (by kernel_rfl) rfl #[.int .i64 7, .int .i64 t211, .int .i64 t212, .int .i64 t213] rfl (by (try simp only [List.map_toArray, List.map_cons, List.map_nil]); first | done | rfl | (simp only [List.length_drop, List.length_take]; rfl)) ?_; (with_reducible refine (impl_Binary.calls kj7 7 t211 t212 t213 t222 t223 _ A21.out).mono ?_); rintro e w31 ⟨rfl, hb⟩; refine ⟨_, rfl, ?_⟩; have n0_ := Aside0.mk (below_step (by repeat (first | (with_reducible first | exact HB.out | apply below_alloc | apply pw_below_drewN | apply below_drew1) | exact HB.out)) hb); clear HB; have HB := n0_; clear n0_; (try clear hb); (try clear hb2); (try clear hk); (try clear hi)) | ((with_reducible refine gate_callee (f := 21) rfl ?_); refine goesL_ (some 107) rfl rfl Try.func21 (by kernel_rfl) rfl #[.int .i64 3, .int .i64 t211, .int .i64 t220, .int .i64 t213] rfl (by (try simp only [List.map_toArray, List.map_cons, List.map_nil]); first | done | rfl | (simp only [List.length_drop, List.length_take]; rfl)) ?_; (with_reducible refine (impl_Binary.calls kj7 3 t211 t220 t213 t224 t225 _ A22.out).mono ?_); rintro e w32 ⟨rfl, hb⟩; refine ⟨_, rfl, ?_⟩; have n0_ := Aside0.mk (below_step (by repeat (first | (with_reducible first | exact HB.out | apply below_alloc | apply pw_below_drewN | apply below_drew1) | exact HB.out)) hb); clear HB; have HB := n0_; clear n0_; (try clear hb); (try clear hb2); (try clear hk); (try clear hi)) | ((with_reducible refine gate_callee (f := 21) rfl ?_); refine goesL_ (some 114) rfl rfl Try.func21 (by kernel_rfl) rfl #[.int .i64 1, .int .i64 t211, .int .i64 t224, .int .i64 t222] rfl (by (try simp only [List.map_toArray, List.map_cons, List.map_nil]); first | done | rfl | (simp only [List.length_drop, List.length_take]; rfl)) ?_; (with_reducible refine (impl_Binary.calls kj7 1 t211 t224 t222 t226 t227 _ A23.out).mono ?_); rintro e w33 ⟨rfl, hb⟩; refine ⟨_, rfl, ?_⟩; have n0_ := Aside0.mk (below_step (by repeat (first | (with_reducible first | exact HB.out | apply below_alloc | apply pw_below_drewN | apply below_drew1) | exact HB.out)) hb); clear HB; have HB := n0_; clear n0_; (try clear hb); (try clear hb2); (try clear hk); (try clear hi)))
              go_ret
              exact ⟨by first | rfl | (simp [errW_none, errW_some] <;> rfl) | (simp [*, errW_none, errW_some] <;> rfl), by repeat (first | (with_reducible first | exact HB.out | apply below_alloc | apply pw_below_drewN | apply below_drew1) | exact HB.out)⟩
          · rw [if_neg c24] at H
            have c24b0 : ((wrap64 ((wrap64 (t214 * t213)) + t218)) == t212) = false := beq_eq_false_iff_ne.mpr c24
            have c24b1 : ((wrap64 ((wrap64 (t214 * t213)) + t218)) != t212) = true := bne_iff_ne.mpr c24
            obtain rfl := Option.some.inj H
            go_wp2_with (first | ((with_reducible refine gate_callee (f := 21) rfl ?_); refine goesL_ (some 93) rfl rfl Try.func21 (by kernel_rfl) rfl #[.int .i64 5, .int .i64 t211, .int .i64 t212, .int .i64 t213] rfl (by (try simp only [List.map_toArray, List.map_cons, List.map_nil]); first | done | rfl | (simp only [List.length_drop, List.length_take]; rfl)) ?_; (with_reducible refine (impl_Binary.calls kj7 5 t211 t212 t213 t220 t221 _ A20.out).mono ?_); rintro e w34 ⟨rfl, hb⟩; refine ⟨_, rfl, ?_⟩; have n0_ := Aside0.mk (below_step (by repeat (first | (with_reducible first | exact HB.out | apply below_alloc | apply pw_below_drewN | apply below_drew1) | exact HB.out)) hb); clear HB; have HB := n0_; clear n0_; (try clear hb); (try clear hb2); (try clear hk); (try clear hi)) | ((with_reducible refine gate_callee (f := 21) rfl ?_); refine goesL_ (some 100) rfl rfl Try.func21 (by kernel_rfl) rfl #[.int .i64 7, .int .i64 t211, .int .i64 t212, .int .i64 t213] rfl (by (try simp only [List.map_toArray, List.map_cons, List.map_nil]); first | done | rfl | (simp only [List.length_drop, List.length_take]; rfl)) ?_; (with_reducible refine (impl_Binary.calls kj7 7 t211 t212 t213 t222 t223 _ A21.out).mono ?_); rintro e w35 ⟨rfl, hb⟩; refine ⟨_, rfl, ?_⟩; have n0_ := Aside0.mk (below_step (by repeat (first | (with_reducible first | exact HB.out | apply below_alloc | apply pw_below_drewN | apply below_drew1) | exact HB.out)) hb); clear HB; have HB := n0_; clear n0_; (try clear hb); (try clear hb2); (try clear hk); (try clear hi)) | ((with_reducible refine gate_callee (f := 21) rfl ?_); refine goesL_ (some 107) rfl rfl Try.func21 (by kernel_rfl) rfl #[.int .i64 3, .int .i64 t211, .int .i64 t220, .int .i64 t213] rfl (by (try simp only [List.map_toArray, List.map_cons, List.map_nil]); first | done | rfl | (simp only [List.length_drop, List.length_take]; rfl)) ?_; (with_reducible refine (impl_Binary.calls kj7 3 t211 t220 t213 t224 t225 _ A22.out).mono ?_); rintro e w36 ⟨rfl, hb⟩; refine ⟨_, rfl, ?_⟩; have n0_ := Aside0.mk (below_step (by repeat (first | (with_reducible first | exact HB.out | apply below_alloc | apply pw_below_drewN | apply below_drew1) | exact HB.out)) hb); clear HB; have HB := n0_; clear n0_; (try clear hb); (try clear hb2); (try clear hk); (try clear hi)) | ((with_reducible refine gate_callee (f := 21) rfl ?_); refine goesL_ (some 114) rfl rfl Try.func21 (by kernel_rfl) rfl #[.int .i64 1, .int .i64 t211, .int .i64 t224, .int .i64 t222] rfl (by (try simp only [List.map_toArray, List.map_cons, List.map_nil]); first | done | rfl | (simp only [List.length_drop, List.length_take]; rfl)) ?_; (with_reducible refine (impl_Binary.calls kj7 1 t211 t224 t222 t226 t227 _ A23.out).mono ?_); rintro e w37 ⟨rfl, hb⟩; refine ⟨_, rfl, ?_⟩; have n0_ := Aside0.mk (below_step (by repeat (first | (with_reducible first | exact HB.out | apply below_alloc | apply pw_below_drewN | apply below_drew1) | exact HB.out)) hb); clear HB; have HB := n0_; clear n0_; (try clear hb); (try clear hb2); (try clear hk); (try clear hi)))
            go_ret
            exact ⟨by first | rfl | (simp [errW_none, errW_some] <;> rfl) | (simp [*, errW_none, errW_some] <;> rfl), by repeat (first | (with_reducible first | exact HB.out | apply below_alloc | apply pw_below_drewN | apply below_drew1) | exact HB.out)⟩

/-- THE ONE PURE STATEMENT of laws_FnDivided: yours. -/
def laws_FnDivided.Pure : Prop := ∀ (l0 : List Int), l0.length ≤ maxLen → l0.length * 1 ≤ 140737488351232 → (∀ x ∈ l0, (Lit.int .u8 x).wf = true) → ∃ k, laws_FnDivided.f k l0 = some true
theorem laws_FnDivided.walk (P : laws_FnDivided.Pure) (a0 : Option Addr) (len0 cap0 : Nat) (z0 : List Int) (w : World) (w0 : (a0 = none ∧ len0 = 0 ∧ cap0 = 0 ∧ z0 = []) ∨ ∃ x, a0 = some x ∧ len0 ≤ cap0 ∧ cap0 ≤ maxLen ∧ z0.length = cap0 ∧ (∀ i, i < z0.length → w.cell? (x.add i) = some (.int .u8 (z0.getD i 0))) ∧ ∀ n ∈ z0, (Lit.int .u8 n).wf = true) (y0 : len0 * 1 ≤ 140737488351232) :
    Calls Try.prog 5 #[.slice a0 len0 cap0] w fun e w' => e = .returned (.bool true) ∧ Below w.heap.size w w' := by
  obtain ⟨l0, rfl, hr0, hm0, hw0, hc0⟩ := ReadsInt.ofRowC w0
  obtain ⟨k, h⟩ := P l0 hm0 y0 hw0
  refine (laws_FnDivided.calls k _ _ l0 true w (Kd.C_of_reads (d := (0 : Int)) (h1 := fun _ => rfl) hr0) hc0 h).mono ?_
  rintro e w' ⟨rfl, hd⟩
  exact ⟨rfl, hd⟩

end Go.Proofs.Ytkjfiaieoppphaa.PFnDivided
