import Derived.Test.YtkjfiaieoppphaaNums
import Derived.Test.YtkjfiaieoppphaaPFnMaskedx2
/-! The reader of drawn bytes: it always answers, and its numbers lie where they should. -/
namespace Go.Proofs.Ytkjfiaieoppphaa.PFnMaskedy
open Go Go.RowKit Go.Proofs.Ytkjfiaieoppphaa.PFnMasked Go.Proofs.YtkjfiaieoppphaaW.PrintWords Go.Proofs.YtkjfiaieoppphaaW.PrintLast Go.Proofs.Ytkjfiaieoppphaa.Nums

def Byt (l : List Int) : Prop := l.length ≤ 140737488351232 ∧ ∀ x ∈ l, 0 ≤ x ∧ x < 256
def RP (l : List Int) (p : Int) : Prop := 0 ≤ p ∧ p ≤ l.length
theorem byt_of {l : List Int} (h : l.length * 1 ≤ 140737488351232) (hw : ∀ x ∈ l, (Lit.int .u8 x).wf = true) : Byt l := by
  refine ⟨by omega, fun x hx => ?_⟩
  have := hw x hx
  simp [Lit.wf, IntKind.min, IntKind.max, IntKind.bits, IntKind.signed] at this
  omega
theorem rd_byte {l : List Int} (h : Byt l) (i : Int) : 0 ≤ rd l i ∧ rd l i < 256 := by
  unfold rd
  rw [List.getD_eq_getElem?_getD]
  by_cases hi : i.toNat < l.length
  · rw [List.getElem?_eq_getElem hi]; exact h.2 _ (List.getElem_mem hi)
  · rw [List.getElem?_eq_none (by omega)]; simp
theorem next_ok {l : List Int} (h : Byt l) {p : Int} (hp : RP l p) : ∃ x p', spec_l1Rd_next.f l p = some (x, p') ∧ 0 ≤ x ∧ x < 256 ∧ RP l p' := by
  obtain ⟨h0, h1⟩ := hp
  have hl := h.1
  unfold spec_l1Rd_next.f
  by_cases hc : p ≥ (l.length : Int)
  · rw [if_pos hc]; exact ⟨0, p, rfl, by omega, by omega, h0, h1⟩
  · have e1 : wrap64 (p + 1) = p + 1 := wrap64_id (by omega) (by omega)
    have e2 : wrap64 (p + 1 - 1) = p := by rw [wrap64_id (by omega) (by omega)]; omega
    have hr := rd_byte h p
    rw [if_neg hc, e1, e2, if_pos h0, if_pos (by omega), wrap64_id (by omega) (by omega)]
    exact ⟨_, _, rfl, hr.1, hr.2, by omega, by omega⟩
theorem below_ok {l : List Int} (h : Byt l) {p : Int} (hp : RP l p) (n : Int) : ∃ x p', spec_l1Rd_below.f l p n = some (x, p') ∧ 0 ≤ x ∧ (x < n ∨ n ≤ 1 ∧ x = 0) ∧ RP l p' := by
  unfold spec_l1Rd_below.f
  by_cases h1 : n ≤ 1
  · rw [if_pos h1]; exact ⟨0, p, rfl, by omega, Or.inr ⟨h1, rfl⟩, hp⟩
  rw [if_neg h1]
  by_cases h2 : n ≤ 256
  · obtain ⟨x, p', e, hx, hx', hp'⟩ := next_ok h hp
    rw [if_pos h2, e]; simp only [Option.bind_some]; rw [if_neg (by omega)]
    refine ⟨_, _, rfl, ?_, Or.inl ?_, hp'⟩
    · exact Int.tmod_nonneg _ hx
    · rw [Int.tmod_eq_emod_of_nonneg hx]; exact Int.emod_lt_of_pos _ (by omega)
  · obtain ⟨x, p', e, hx, hx', hp'⟩ := next_ok h hp
    obtain ⟨y, q, e', hy, hy', hq⟩ := next_ok h hp'
    rw [if_neg h2, e]; simp only [Option.bind_some]; rw [e']; simp only [Option.bind_some]
    rw [if_neg (by omega), wrap64_id (n := x * 256) (by omega) (by omega), wrap64_id (n := x * 256 + y) (by omega) (by omega)]
    refine ⟨_, _, rfl, ?_, Or.inl ?_, hq⟩
    · exact Int.tmod_nonneg _ (by omega)
    · rw [Int.tmod_eq_emod_of_nonneg (by omega)]; exact Int.emod_lt_of_pos _ (by omega)
theorem four {x : Int} (h0 : 0 ≤ x) (h1 : x < 4) : x = 0 ∨ x = 1 ∨ x = 2 ∨ x = 3 := by omega
theorem width_ok {l : List Int} (h : Byt l) {p : Int} (hp : RP l p) : ∃ w p', spec_l1Rd_width.f l p = some (w, p') ∧ wok w = true ∧ RP l p' := by
  obtain ⟨x, p', e, hx, hx', hp'⟩ := below_ok h hp 4
  unfold spec_l1Rd_width.f
  simp only [Option.bind_some]
  rw [e]; simp only [Option.bind_some]
  rcases four hx (by omega) with rfl | rfl | rfl | rfl
  · exact ⟨32, p', rfl, rfl, hp'⟩
  · exact ⟨8, p', rfl, rfl, hp'⟩
  · exact ⟨1, p', rfl, rfl, hp'⟩
  · exact ⟨16, p', rfl, rfl, hp'⟩
theorem u64_bits (op : BinOp) (x y : Int) : 0 ≤ Go.bits op .u64 x y ∧ Go.bits op .u64 x y < 18446744073709551616 := by
  unfold Go.bits
  simp [IntKind.wrap, IntKind.bits, IntKind.signed]
  omega
theorem word_ok {l : List Int} (h : Byt l) (d : Nat) : ∀ (x i p : Int), 0 ≤ x → x < 18446744073709551616 → 0 ≤ i → i ≤ 8 → 8 - i = d → RP l p →
    ∃ y p', Ev (fun k => spec_l1Rd_word.l0 k x i l p) (y, p') ∧ 0 ≤ y ∧ y < 18446744073709551616 ∧ RP l p' := by
  induction d with
  | zero =>
    intro x i p hx hx' hi hi' hd hp
    exact ⟨x, p, Ev.step (fun k => by simp only [spec_l1Rd_word.l0]; rw [if_neg (by omega)]) (Ev.now _), hx, hx', hp⟩
  | succ d ih =>
    intro x i p hx hx' hi hi' hd hp
    obtain ⟨b, p', e, hb, hb', hp'⟩ := next_ok h hp
    obtain ⟨y, q, ev, hy, hy', hq⟩ := ih _ (i + 1) p' (u64_bits .or (IntKind.u64.wrap (x * 256)) (IntKind.u64.wrap b)).1 (u64_bits .or _ _).2 (by omega) (by omega) (by omega) hp'
    refine ⟨y, q, Ev.step (fun k => ?_) ev, hy, hy', hq⟩
    simp only [spec_l1Rd_word.l0]
    rw [if_pos (by omega), e, wrap64_id (n := i + 1) (by omega) (by omega)]
    rfl
theorem word_f {l : List Int} (h : Byt l) {p : Int} (hp : RP l p) : ∃ y p', Ev (fun k => spec_l1Rd_word.f k l p) (y, p') ∧ 0 ≤ y ∧ y < 18446744073709551616 ∧ RP l p' :=
  word_ok h 8 0 0 p (by omega) (by omega) (by omega) (by omega) (by omega) hp
theorem shl_top {w : Int} (h : wok w = true) : shl .i64 1 (IntKind.u64.wrap w) = top w := by
  rw [u64_id (by rcases wok_cases h with rfl | rfl | rfl | rfl <;> decide) (by rcases wok_cases h with rfl | rfl | rfl | rfl <;> decide)]
  rcases wok_cases h with rfl | rfl | rfl | rfl <;> simp [shl1_1, shl1_8, shl1_16, shl1_32, top]
theorem value_ok {l : List Int} (h : Byt l) {p w : Int} (hp : RP l p) (hw : wok w = true) : ∃ y p', Ev (fun k => spec_l1Rd_value.f k l p w) (y, p') ∧ 0 ≤ y ∧ y < top w ∧ RP l p' := by
  obtain ⟨x, p1, e, hx, hx', hp1⟩ := below_ok h hp 7
  obtain ⟨y, p2, ev, hy, hy', hp2⟩ := word_f h hp1
  have ht : 2 ≤ top w ∧ top w ≤ 4294967296 := by rcases wok_cases hw with rfl | rfl | rfl | rfl <;> decide
  unfold spec_l1Rd_value.f
  simp only [shl_top hw, if_pos (u64_nonneg w), e, Option.bind_some]
  by_cases h0 : x = 0
  · exact ⟨0, p1, by simp only [if_pos h0]; exact Ev.now _, by omega, by omega, hp1⟩
  by_cases h1 : x = 1
  · exact ⟨1, p1, by simp only [if_neg h0, if_pos h1]; exact Ev.now _, by omega, by omega, hp1⟩
  by_cases h2 : x = 2
  · exact ⟨top w - 1, p1, by simp only [if_neg h0, if_neg h1, if_pos h2]; rw [wrap64_id (by omega) (by omega)]; exact Ev.now _, by omega, by omega, hp1⟩
  by_cases h3 : x = 3
  · refine ⟨top w / 2, p1, by simp only [if_neg h0, if_neg h1, if_neg h2, if_pos h3]; rw [Int.tdiv_eq_ediv_of_nonneg (by omega), wrap64_id (by omega) (by omega)]; exact Ev.now _, by omega, by omega, hp1⟩
  · simp only [if_neg h0, if_neg h1, if_neg h2, if_neg h3]
    refine ⟨y / 2 % top w, p2, Ev.bind ev ?_, Int.emod_nonneg _ (by omega), Int.emod_lt_of_pos _ (by omega), hp2⟩
    simp only [if_neg (show ¬ top w = 0 by omega), wrap64_id (n := y / 2) (by omega) (by omega), Int.tmod_eq_emod_of_nonneg (show 0 ≤ y / 2 by omega)]
    exact Ev.now _
theorem once_ok {l : List Int} (h : Byt l) {p : Int} (hp : RP l p) (n : Int) : ∃ b p', spec_l1Rd_once.f l p n = some (b, p') ∧ RP l p' := by
  obtain ⟨x, p1, e, hx, hx', hp1⟩ := below_ok h hp n
  unfold spec_l1Rd_once.f
  rw [e]
  exact ⟨_, p1, rfl, hp1⟩
theorem near_ok {l : List Int} (h : Byt l) {p lo hi : Int} (hp : RP l p) (h1 : -4611686018427387904 ≤ lo) (h2 : hi ≤ 4611686018427387900) : ∃ y p', Ev (fun k => spec_l1Rd_near.f k l p lo hi) (y, p') ∧ RP l p' := by
  obtain ⟨x, p1, e, hx, hx', hp1⟩ := below_ok h hp 8
  obtain ⟨y, p2, ev, hy, hy', hp2⟩ := word_f h hp1
  unfold spec_l1Rd_near.f
  simp only [e, Option.bind_some]
  by_cases h3 : x = 0
  · exact ⟨lo, p1, by simp only [if_pos h3]; exact Ev.now _, hp1⟩
  by_cases h4 : x = 1
  · exact ⟨hi, p1, by simp only [if_neg h3, if_pos h4]; exact Ev.now _, hp1⟩
  by_cases h5 : hi < lo
  · exact ⟨lo, p1, by simp only [if_neg h3, if_neg h4, if_pos h5]; exact Ev.now _, hp1⟩
  · simp only [if_neg h3, if_neg h4, if_neg h5]
    have e1 : IntKind.u64.wrap (wrap64 (wrap64 (hi - lo) + 1)) = hi - lo + 1 := by
      rw [wrap64_id (n := hi - lo) (by omega) (by omega), wrap64_id (by omega) (by omega), u64_id (by omega) (by omega)]
    refine ⟨wrap64 (lo + wrap64 (Int.tmod (y / 2) (hi - lo + 1))), p2, Ev.bind ev ?_, hp2⟩
    simp only [e1, if_neg (show ¬ hi - lo + 1 = 0 by omega)]
    exact Ev.now _
theorem off_ok {l : List Int} (h : Byt l) {p lo hi : Int} (hp : RP l p) (h1 : -4611686018427387904 ≤ lo) (h2 : hi ≤ 4611686018427387900) : ∃ y p', Ev (fun k => spec_l1Rd_off.f k l p lo hi) (y, p') ∧ RP l p' := by
  obtain ⟨b, p1, e, hp1⟩ := once_ok h hp 24
  unfold spec_l1Rd_off.f
  simp only [e, Option.bind_some]
  cases b with
  | true =>
    obtain ⟨x, p2, e2, hx, hx', hp2⟩ := below_ok h hp1 4
    simp only [e2, Option.bind_some, if_true]
    rcases four hx (by omega) with rfl | rfl | rfl | rfl <;> exact ⟨_, p2, Ev.now _, hp2⟩
  | false =>
    obtain ⟨y, p2, ev, hp2⟩ := near_ok h hp1 h1 h2
    refine ⟨y, p2, ?_, hp2⟩
    simp only [Bool.false_eq_true, if_false]
    exact Ev.bind ev (Ev.now _)
end Go.Proofs.Ytkjfiaieoppphaa.PFnMaskedy
