import Derived.Test.YtmckcjoacfekcaaLawProgram
/-! Plain law: ProgramOk, the program's and the reference's, are one. -/
namespace Go.Proofs.Ytmckcjoacfekcaa.AM
open Go
set_option linter.unusedSimpArgs false
set_option linter.unusedVariables false

theorem ite_some {α : Type} {c : Prop} [Decidable c] (x y : α) : (if c then some x else some y) = some (if c then x else y) := by split <;> rfl
def valueB (w v : Int) : Bool := decide ((w = 1 ∧ 0 ≤ v ∧ v ≤ 1) ∨ (w = 8 ∧ 0 ≤ v ∧ v ≤ 255) ∨ (w = 16 ∧ 0 ≤ v ∧ v ≤ 65535) ∨ (w = 32 ∧ 0 ≤ v ∧ v ≤ 4294967295))
theorem top_eq : spec_l1Top_m 1 = some 2 ∧ spec_l1Top_m 8 = some 256 ∧ spec_l1Top_m 16 = some 65536 ∧ spec_l1Top_m 32 = some 4294967296 := by
  refine ⟨?_, ?_, ?_, ?_⟩ <;> decide +kernel
theorem mask_eq : impl_mask_m 1 = some 1 ∧ impl_mask_m 8 = some 255 ∧ impl_mask_m 16 = some 65535 ∧ impl_mask_m 32 = some 4294967295 := by
  unfold impl_mask_m inI
  refine ⟨?_, ?_, ?_, ?_⟩ <;> decide +kernel
theorem value_s (w v : Int) : spec_l1Value_m w v = some (valueB w v) := by
  unfold spec_l1Value_m
  by_cases h1 : w = 1
  · subst h1; simp [spec_WidthOk_m, top_eq, spec_l1In_m, valueB, inI]
  by_cases h2 : w = 8
  · subst h2; simp [spec_WidthOk_m, top_eq, spec_l1In_m, valueB, inI]
  by_cases h3 : w = 16
  · subst h3; simp [spec_WidthOk_m, top_eq, spec_l1In_m, valueB, inI]
  by_cases h4 : w = 32
  · subst h4; simp [spec_WidthOk_m, top_eq, spec_l1In_m, valueB, inI]
  · simp [spec_WidthOk_m, valueB, h1, h2, h3, h4]
theorem value_i (w v : Int) : impl_isValue_m w v = some (valueB w v) := by
  unfold impl_isValue_m
  by_cases h1 : w = 1
  · subst h1; simp [impl_WidthOk_m, mask_eq, impl_within_m, valueB, inI]
  by_cases h2 : w = 8
  · subst h2; simp [impl_WidthOk_m, mask_eq, impl_within_m, valueB, inI]
  by_cases h3 : w = 16
  · subst h3; simp [impl_WidthOk_m, mask_eq, impl_within_m, valueB, inI]
  by_cases h4 : w = 32
  · subst h4; simp [impl_WidthOk_m, mask_eq, impl_within_m, valueB, inI]
  · simp [impl_WidthOk_m, valueB, h1, h2, h3, h4]
theorem contains_b (s : List Int) (v : Int) (h : s.length ≤ LIM) : slices_Contains_byte_byte_m s v = some (s.any (fun x => v == x)) := by
  have hL : LIM = 140737488355328 := rfl
  unfold slices_Contains_byte_byte_m slices_Index_byte_byte_m
  generalize hB : loopO _ (0 : Int) = L
  have K := loop_any' hB s (fun x => v == x) (fun k => (k : Int)) (by
    intro k hk
    rw [if_pos (by simpa using hk), if_pos (by omega)]
    split
    · rfl
    · rw [if_pos (inI_le (by omega) (by omega))]
    ) (by
    rw [if_neg (by simp)]
    )
  rcases K with ⟨h1, k, hk, h⟩ | ⟨h1, h⟩
  · subst h
    rw [h1]; simp
  · subst h
    rw [h1]; simp
theorem contains_i (s : List Int) (v : Int) (h : s.length ≤ LIM) : slices_Contains_int64_int64_m s v = some (s.any (fun x => v == x)) := by
  obtain ⟨r, h1, h2⟩ := index_i s v h
  unfold slices_Contains_int64_int64_m
  rw [h1, Option.bind_some, h2]
def letters : List UInt8 := [87, 68, 65, 66, 67, 73]
def fields (x : GMIns) : List Int := [x.w, x.d, x.a, x.b, x.c, x.imm]
def badB (x : GMIns) (uses : List UInt8) (k : Nat) : Bool := (at_ (fields x) (k : Int) != 0) && !((byI uses).any fun y => sat letters (k : Int) == y)
theorem blank_i (x : GMIns) (uses : List UInt8) (h : uses.length ≤ LIM) : impl_isBlank_m x uses = some (!((List.range 6).any (badB x uses))) := by
  unfold impl_isBlank_m
  generalize hB : loopO _ (0 : Int) = L
  have K := loop_anyN' hB 6 (badB x uses) (fun _ => ()) (by
    intro k hk
    have e1 : decide ((k : Int) < (List.length [x.w, x.d, x.a, x.b, x.c, x.imm] : Int)) = true := by simp; omega
    have e2 : 0 ≤ (k : Int) ∧ (k : Int) < (List.length [x.w, x.d, x.a, x.b, x.c, x.imm] : Int) := by simp; omega
    have e3 : 0 ≤ (k : Int) ∧ (k : Int) < (List.length ([87, 68, 65, 66, 67, 73] : List Nat) : Int) := by simp; omega
    rw [if_pos e1, if_pos e2, if_pos h, if_pos e3, contains_b _ _ (by rw [byI_length]; exact h)]
    simp only [Option.bind_some, ite_some]
    rw [if_pos (inI_le (by omega) (by omega))]
    clear hB
    unfold badB fields letters
    generalize (at_ [x.w, x.d, x.a, x.b, x.c, x.imm] (k : Int) != 0) = b1
    generalize (List.any (byI uses) fun y => sat [87, 68, 65, 66, 67, 73] (k : Int) == y) = b2
    cases b1 <;> cases b2 <;> rfl
    ) (by
    rw [if_neg (by simp)]
    )
  rcases K with ⟨k, hk, hc, _, h⟩ | ⟨hc, h⟩
  · subst h
    have : (List.range 6).any (badB x uses) = true := List.any_eq_true.2 ⟨k, List.mem_range.2 hk, hc⟩
    rw [this]; rfl
  · subst h
    have : (List.range 6).any (badB x uses) = false := by
      rw [List.any_eq_false]
      intro k hk
      rw [hc k (List.mem_range.1 hk)]
      simp
    rw [this]; rfl
theorem within_i (R : Int) (p : GProgram) (hp : p.regs = R) (hR : 1 ≤ R ∧ R ≤ 130) (x : Int) : impl_Program_isReg_m p x = some (decide (0 ≤ x) && decide (x ≤ R - 1)) := by
  unfold impl_Program_isReg_m impl_within_m
  rw [hp, if_pos (inI_le (by omega) (by omega))]
def regB (R : Int) (x : Int) : Bool := decide (0 ≤ x) && decide (x ≤ R - 1)
/-- The fields that an operation leaves blank. -/
def blankB (x : GMIns) (uses : List UInt8) : Bool := !((List.range 6).any (badB x uses))
noncomputable def usesOf (o : Int) : List UInt8 := (impl_used_m o).1
noncomputable def placedB (n : Int) (x : GMIns) : Bool :=
  if x.op_ = 31 ∨ x.op_ = 32 then decide (0 ≤ x.imm ∧ x.imm ≤ n - 1)
  else if x.op_ = 24 ∨ x.op_ = 25 ∨ x.op_ = 34 then true
  else if x.op_ = 21 then valueB x.w x.imm
  else if x.op_ = 23 then x.w == 8
  else impl_WidthOk_m x.w
theorem placed_i (p : GProgram) (x : GMIns) : impl_Program_isPlaced_m p x = some (placedB (p.code.length : Int) x) := by
  unfold impl_Program_isPlaced_m placedB
  rw [value_i]
  by_cases h1 : x.op_ = 31 ∨ x.op_ = 32
  · rw [if_pos (by simpa using h1), if_pos h1]; simp [impl_within_m]
  · rw [if_neg (by simpa using h1), if_neg h1]
    by_cases h2 : x.op_ = 24 ∨ x.op_ = 25 ∨ x.op_ = 34
    · rw [if_pos (by simpa using h2), if_pos h2]
    · rw [if_neg (by simpa using h2), if_neg h2]
      by_cases h3 : x.op_ = 21
      · rw [if_pos (by simpa using h3), if_pos h3]; rfl
      · rw [if_neg (by simpa using h3), if_neg h3]
        by_cases h4 : x.op_ = 23
        · rw [if_pos (by simpa using h4), if_pos h4]
        · rw [if_neg (by simpa using h4), if_neg h4]
noncomputable def castB (x : GMIns) (R : Int) : Bool :=
  if 18 ≤ x.op_ ∧ x.op_ ≤ 20 then impl_WidthOk_m x.c && (if x.c < x.w then x.op_ != 20 else decide (x.c > x.w) && x.op_ == 20) else regB R x.c
theorem mins_i (R : Int) (p : GProgram) (hp : p.regs = R) (hR : 1 ≤ R ∧ R ≤ 130) (x : GMIns) (hu : (usesOf x.op_).length ≤ LIM) :
    impl_Program_isMIns_m p x = some ((impl_used_m x.op_).2 && (blankB x (usesOf x.op_) && (regB R x.d && (regB R x.a && (regB R x.b && (placedB (p.code.length : Int) x && castB x R)))))) := by
  have hc : impl_isCast_m x.op_ = decide (18 ≤ x.op_ ∧ x.op_ ≤ 20) := by
    unfold impl_isCast_m impl_within_m
    rw [Bool.eq_iff_iff]; simp
  have hcast : (if impl_isCast_m x.op_ = true then
        some (impl_WidthOk_m x.c && (if decide (x.c < x.w) = true then ((x.op_ != 20) || (decide (x.c > x.w) && (x.op_ == 20))) else (decide (x.c > x.w) && (x.op_ == 20))))
      else Option.bind (impl_Program_isReg_m p x.c) fun x26 => some x26) = some (castB x R) := by
    unfold castB
    rw [hc, within_i R p hp hR, Option.bind_some]
    by_cases h : 18 ≤ x.op_ ∧ x.op_ ≤ 20
    · rw [if_pos (by simpa using h), if_pos h]
      by_cases h2 : x.c < x.w
      · rw [if_pos (by simpa using h2), if_pos h2]
        have : decide (x.c > x.w) = false := by simp; omega
        rw [this]; simp
      · rw [if_neg (by simpa using h2), if_neg h2]
    · rw [if_neg (by simpa using h), if_neg h]; rfl
  unfold impl_Program_isMIns_m
  rw [hcast]
  have hb : impl_isBlank_m x (impl_used_m x.op_).1 = some (blankB x (usesOf x.op_)) := blank_i x _ hu
  simp only [hb, within_i R p hp hR, placed_i, Option.bind_some]
  show _ = _
  change ((if (!(impl_used_m x.op_).2) = true then some true else if (!(blankB x (usesOf x.op_))) = true then some true else if (!(regB R x.d)) = true then some true else if (!(regB R x.a)) = true then some true
    else if (!(regB R x.b)) = true then some true else some (!(placedB (p.code.length : Int) x))).bind fun j1 => if j1 = true then some false else some (castB x R)) = _
  generalize (impl_used_m x.op_).2 = b1
  generalize blankB x (usesOf x.op_) = b2
  generalize regB R x.d = b3
  generalize regB R x.a = b4
  generalize regB R x.b = b5
  generalize placedB (p.code.length : Int) x = b6
  generalize castB x R = b7
  cases b1 <;> cases b2 <;> cases b3 <;> cases b4 <;> cases b5 <;> cases b6 <;> rfl
-- the reference
theorem regs_s (x : GMIns) (R : Int) (hR : 1 ≤ R ∧ R ≤ 130) : spec_l17Regs_m x R = some (regB R x.d && (regB R x.a && (regB R x.b && regB R x.c))) := by
  unfold spec_l17Regs_m spec_l1In_m regB
  simp only [if_pos (inI_le (n := R - 1) (by omega) (by omega)), ite_some, Option.bind_some, ge_iff_le]
  congr 1
  generalize (decide (0 ≤ x.d) && decide (x.d ≤ R - 1)) = b1
  generalize (decide (0 ≤ x.a) && decide (x.a ≤ R - 1)) = b2
  generalize (decide (0 ≤ x.b) && decide (x.b ≤ R - 1)) = b3
  generalize (decide (0 ≤ x.c) && decide (x.c ≤ R - 1)) = b4
  cases b1 <;> cases b2 <;> cases b3 <;> cases b4 <;> rfl
theorem used_b (o : Int) (h : 1 ≤ o ∧ o ≤ 17) : impl_used_m o = ([87, 68, 65, 66], true) := by
  unfold impl_used_m
  rw [if_pos (by simp [impl_isBinary_m, impl_within_m]; omega)]
theorem used_c (o : Int) (h : 18 ≤ o ∧ o ≤ 20) : impl_used_m o = ([87, 68, 65, 67], true) := by
  unfold impl_used_m
  rw [if_neg (by simp [impl_isBinary_m, impl_within_m]; omega), if_pos (by simp [impl_isCast_m, impl_within_m]; omega)]
theorem used_o (o : Int) (h : o < 1 ∨ 20 < o) : impl_used_m o = (Option.getD (lkE [(21, [87, 68, 73]), (22, [87, 68, 65, 66, 67]), (23, [87, 68, 65]), (24, [65, 66]), (25, [65]), (31, [73]), (32, [65, 73]), (33, [87, 65]), (35, [87, 68, 65]), (34, [])] o) [],
    Option.isSome (lkE [(21, [87, 68, 73]), (22, [87, 68, 65, 66, 67]), (23, [87, 68, 65]), (24, [65, 66]), (25, [65]), (31, [73]), (32, [65, 73]), (33, [87, 65]), (35, [87, 68, 65]), (34, [])] o)) := by
  unfold impl_used_m
  rw [if_neg (by simp [impl_isBinary_m, impl_within_m]; omega), if_neg (by simp [impl_isCast_m, impl_within_m]; omega)]
theorem blank_list (x : GMIns) (uses : List UInt8) : blankB x uses = (!(badB x uses 0) && (!(badB x uses 1) && (!(badB x uses 2) && (!(badB x uses 3) && (!(badB x uses 4) && !(badB x uses 5)))))) := by
  unfold blankB
  have : List.range 6 = [0, 1, 2, 3, 4, 5] := rfl
  rw [this]
  simp [Bool.and_assoc]
theorem bad_0 (x : GMIns) (u : List UInt8) : badB x u 0 = ((x.w != 0) && !((byI u).any fun y => 87 == y)) := rfl
theorem bad_1 (x : GMIns) (u : List UInt8) : badB x u 1 = ((x.d != 0) && !((byI u).any fun y => 68 == y)) := rfl
theorem bad_2 (x : GMIns) (u : List UInt8) : badB x u 2 = ((x.a != 0) && !((byI u).any fun y => 65 == y)) := rfl
theorem bad_3 (x : GMIns) (u : List UInt8) : badB x u 3 = ((x.b != 0) && !((byI u).any fun y => 66 == y)) := rfl
theorem bad_4 (x : GMIns) (u : List UInt8) : badB x u 4 = ((x.c != 0) && !((byI u).any fun y => 67 == y)) := rfl
theorem bad_5 (x : GMIns) (u : List UInt8) : badB x u 5 = ((x.imm != 0) && !((byI u).any fun y => 73 == y)) := rfl
end Go.Proofs.Ytmckcjoacfekcaa.AM
