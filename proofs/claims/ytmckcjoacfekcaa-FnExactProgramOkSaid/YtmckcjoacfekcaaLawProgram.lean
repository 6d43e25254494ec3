import Derived.Test.YtmckcjoacfekcaaG1
import Derived.Test.YtmckcjoacfekcaaAm37
import Derived.Test.YtmckcjoacfekcaaAm36
/-! Plain laws: programs carried over, and compared. -/
namespace Go.Proofs.Ytmckcjoacfekcaa.AM
open Go
set_option linter.unusedSimpArgs false
set_option linter.unusedVariables false

theorem inI_le {n : Int} (h1 : -9223372036854775808 ≤ n) (h2 : n ≤ 9223372036854775807) : inI n := ⟨h1, h2⟩
theorem reach_eq : reachBytes = 140737488351232 := rfl
theorem toInt64S_eq (a : List Int) (h : a.length * 8 ≤ reachBytes) : laws_toInt64S_m a = some a := by
  have hr := reach_eq
  unfold laws_toInt64S_m
  rw [if_pos (by omega), Int.toNat_natCast]
  rw [loop_fill (n := a.length) (f := fun k => at_ a (k : Int)) (h1 := ?_) (h2 := ?_)]
  · rw [map_at_range]; rfl
  · intro l k hk hl
    rw [if_pos (by simpa using hk), if_pos (by omega), if_pos (by simp only; omega), if_pos (inI_le (by simp only; omega) (by simp only; omega))]
    simp
  · intro l hl
    rw [if_neg (by simp)]
theorem toMIns_eq (a : GMIns) : laws_toMIns_m a = a := rfl
theorem toMInsS_eq (a : List GMIns) (h : a.length * 56 ≤ reachBytes) : laws_toMInsS_m a = some a := by
  have hr := reach_eq
  unfold laws_toMInsS_m
  rw [if_pos (by omega), Int.toNat_natCast]
  rw [loop_fill (n := a.length) (f := fun k => at_ a (k : Int)) (h1 := ?_) (h2 := ?_)]
  · rw [map_at_range]; rfl
  · intro l k hk hl
    rw [if_pos (by simpa using hk), if_pos (by omega), if_pos (by simp only; omega), if_pos (inI_le (by simp only; omega) (by simp only; omega))]
    simp [toMIns_eq]
  · intro l hl
    rw [if_neg (by simp)]
theorem eqInt64S_self (a : List Int) (h : a.length * 8 ≤ reachBytes) : laws_eqInt64S_m a a = some true := by
  have hr := reach_eq
  unfold laws_eqInt64S_m
  rw [if_neg (by simp)]
  generalize hB : loopO _ (0 : Int) = L
  have K := loop_anyN' hB a.length (fun _ => false) (fun _ => ()) (by
    intro k hk
    rw [if_pos (by simpa using hk), if_pos (by omega), if_pos (by omega), if_neg (by simp), if_pos (inI_le (by omega) (by omega))]
    simp
    ) (by
    rw [if_neg (by simp)]
    )
  rcases K with ⟨k, _, h, _⟩ | ⟨_, h⟩
  · cases h
  · subst h; rfl
theorem eqMIns_self (a : GMIns) : laws_eqMIns_m a a = true := by
  unfold laws_eqMIns_m
  simp
theorem eqMInsS_self (a : List GMIns) (h : a.length * 56 ≤ reachBytes) : laws_eqMInsS_m a a = some true := by
  have hr := reach_eq
  unfold laws_eqMInsS_m
  rw [if_neg (by simp)]
  generalize hB : loopO _ (0 : Int) = L
  have K := loop_anyN' hB a.length (fun _ => false) (fun _ => ()) (by
    intro k hk
    rw [if_pos (by simpa using hk), if_pos (by omega), if_pos (by omega), if_neg (by simp [eqMIns_self]), if_pos (inI_le (by omega) (by omega))]
    simp
    ) (by
    rw [if_neg (by simp)]
    )
  rcases K with ⟨k, _, h, _⟩ | ⟨_, h⟩
  · cases h
  · subst h; rfl
/-- A program that fits into memory. -/
def Fit (p : GProgram) : Prop := p.params.length * 8 ≤ reachBytes ∧ p.widths.length * 8 ≤ reachBytes ∧ p.code.length * 56 ≤ reachBytes
theorem toProgram_eq (p : GProgram) (h : Fit p) : laws_toProgram_m p = some p := by
  unfold laws_toProgram_m
  rw [toInt64S_eq _ h.1, Option.bind_some, toInt64S_eq _ h.2.1, Option.bind_some, toMInsS_eq _ h.2.2, Option.bind_some]
theorem eqProgram_self (p : GProgram) (h : Fit p) : laws_eqProgram_m p p = some true := by
  unfold laws_eqProgram_m
  rw [if_neg (by simp), eqInt64S_self _ h.1, Option.bind_some, if_neg (by simp), eqInt64S_self _ h.2.1, Option.bind_some, if_neg (by simp), eqMInsS_self _ h.2.2, Option.bind_some, if_neg (by simp)]
theorem szInt64S_ok (a : List Int) (h : a.length * 8 ≤ reachBytes) {n : Int} (h0 : 0 ≤ n) (h1 : n ≤ 1048576) : ∃ v, laws_szInt64S_m a n = some v ∧ v ≤ 1048576 := by
  have hr := reach_eq
  unfold laws_szInt64S_m
  rw [if_pos (inI_le (by omega) (by omega))]
  split
  · exact ⟨_, rfl, by omega⟩
  · exact ⟨_, rfl, by omega⟩
theorem szMInsS_ok (a : List GMIns) (h : a.length * 56 ≤ reachBytes) {n : Int} (h0 : 0 ≤ n) (h1 : n ≤ 1048576) : ∃ v, laws_szMInsS_m a n = some v ∧ v ≤ 1048576 := by
  have hr := reach_eq
  unfold laws_szMInsS_m
  rw [if_pos (inI_le (by omega) (by omega))]
  split
  · exact ⟨_, rfl, by omega⟩
  · exact ⟨_, rfl, by omega⟩
theorem szProgram_ok (p : GProgram) (h : Fit p) : ∃ v, laws_szProgram_m p 1048576 = some v := by
  unfold laws_szProgram_m
  obtain ⟨v1, e1, b1⟩ := szInt64S_ok _ h.1 (n := 1048576) (by omega) (by omega)
  rw [e1, Option.bind_some]
  by_cases c1 : decide (v1 < 0) = true
  · rw [if_pos c1]; exact ⟨_, rfl⟩
  rw [if_neg c1]
  simp only [decide_eq_true_eq] at c1
  obtain ⟨v2, e2, b2⟩ := szInt64S_ok _ h.2.1 (n := v1) (by omega) (by omega)
  rw [e2, Option.bind_some]
  by_cases c2 : decide (v2 < 0) = true
  · rw [if_pos c2]; exact ⟨_, rfl⟩
  rw [if_neg c2]
  simp only [decide_eq_true_eq] at c2
  obtain ⟨v3, e3, b3⟩ := szMInsS_ok _ h.2.2 (n := v2) (by omega) (by omega)
  rw [e3, Option.bind_some]
  split <;> exact ⟨_, rfl⟩
-- searching
theorem index_i (s : List Int) (v : Int) (h : s.length ≤ LIM) : ∃ r, slices_Index_int64_int64_m s v = some r ∧ decide (r ≥ 0) = s.any (fun x => v == x) := by
  have hL : LIM = 140737488355328 := rfl
  unfold slices_Index_int64_int64_m
  generalize hB : loopO _ (0 : Int) = L
  have K := loop_any' hB s (fun x => v == x) (fun k => (k : Int)) (by
    intro k hk
    rw [if_pos (by simpa using hk), if_pos (by omega)]
    split
    · rfl
    · rw [if_pos (inI_le (by omega) (by omega))]
    ) (by
    rw [if_neg (by simp)]
    )
  rcases K with ⟨h1, k, hk, h⟩ | ⟨h1, h⟩
  · subst h
    exact ⟨_, rfl, by rw [h1]; simp⟩
  · subst h
    exact ⟨_, rfl, by rw [h1]; simp⟩
end Go.Proofs.Ytmckcjoacfekcaa.AM
