/- Whatever bytes a case is drawn from: what an op gives is of its width; what is added and taken away, or turned twice, is what it was. Of every slice of bytes. -/
import Derived.Test.YtkjfiaieoppphaaFnTwosD
namespace Go.Proofs.Ytkjfiaieoppphaa.PFnTwosy
open Go Go.RowKit Go.Proofs.Ytkjfiaieoppphaa.PFnTwos Go.Proofs.YtkjfiaieoppphaaW.PrintWords Go.Proofs.YtkjfiaieoppphaaW.PrintLast Go.Proofs.Ytkjfiaieoppphaa.Nums

theorem impl_rw (k : Nat) (op w : Int) (h1 : 1 ≤ op) (h2 : op ≤ 17) (hw : wok w = true) : impl_ResultWidth.f (k + 1) op w = some (if op ≥ 14 then 1 else w) := by
  unfold impl_ResultWidth.f impl_isBinary.f
  rw [impl_within_eq, decide_eq_true ⟨h1, h2⟩]; simp only [Option.bind_some, if_true, impl_wok, hw, impl_ResultWidth.j0, Bool.not_true, Bool.false_eq_true, if_false]
  split <;> rfl
theorem truth_bd (b : Bool) : 0 ≤ truth b ∧ truth b < 2 := by unfold truth; split <;> omega
theorem two_bit {op w a b : Int} (h : op ≥ 14) (h' : op ≤ 17) : 0 ≤ two op w a b ∧ two op w a b < 2 := by
  obtain rfl | rfl | rfl | rfl : op = 14 ∨ op = 15 ∨ op = 16 ∨ op = 17 := by omega
  · exact truth_bd _
  · exact truth_bd _
  · exact truth_bd _
  · exact truth_bd _
theorem add_sub {a b t : Int} (h0 : 0 ≤ a) (h1 : a < t) : ((a + b) % t - b) % t = a := by
  rw [Int.emod_sub_emod, Int.add_sub_cancel, Int.emod_eq_of_lt h0 h1]
theorem xor_two {a b : Int} (h0 : 0 ≤ a) (h1 : a < 4294967296) (h2 : 0 ≤ b) (h3 : b < 4294967296) : ∃ c : Nat, Go.bits .xor .i64 a b = (c : Int) ∧ c = a.toNat ^^^ b.toNat := ⟨_, bits_xor h0 h1 h2 h3, rfl⟩
theorem xor_bd {w a b : Int} (ha : isval w a = true) (hb : isval w b = true) : 0 ≤ Go.bits .xor .i64 a b ∧ Go.bits .xor .i64 a b < top w := by
  obtain ⟨hw, a0, a1⟩ := isval_w ha
  obtain ⟨_, b0, b1⟩ := isval_w hb
  have la := isval_lt ha
  have lb := isval_lt hb
  rw [bits_xor la.1 la.2 lb.1 lb.2]
  refine ⟨by omega, ?_⟩
  have key : ∀ j : Nat, top w = ((2 ^ j : Nat) : Int) → ((a.toNat ^^^ b.toNat : Nat) : Int) < top w := by
    intro j hj
    have : a.toNat ^^^ b.toNat < 2 ^ j := Nat.xor_lt_two_pow (by omega) (by omega)
    omega
  rcases wok_cases hw with rfl | rfl | rfl | rfl
  · exact key 1 rfl
  · exact key 8 rfl
  · exact key 16 rfl
  · exact key 32 rfl
theorem xor_back {a b : Int} (h0 : 0 ≤ a) (h1 : a < 4294967296) (h2 : 0 ≤ b) (h3 : b < 4294967296) (hx : Go.bits .xor .i64 a b < 4294967296) : Go.bits .xor .i64 (Go.bits .xor .i64 a b) b = a := by
  have e := bits_xor h0 h1 h2 h3
  have hn : 0 ≤ Go.bits .xor .i64 a b := by rw [e]; omega
  rw [bits_xor hn hx h2 h3, e, Int.toNat_natCast, Nat.xor_assoc, Nat.xor_self, Nat.xor_zero]
  omega

theorem law : laws_FnTwos.Pure := by
  intro l h1 h2 hw
  have hb := byt_of h2 hw
  apply Ev.rounds
  unfold laws_FnTwos.f laws_big.f
  simp only [Option.bind_some]
  by_cases hbig : (l.length : Int) > 1048576
  · simp only [decide_eq_true hbig, if_true]; exact Ev.now _
  simp only [decide_eq_false hbig, Bool.false_eq_true, if_false]
  obtain ⟨⟨op, w, a, b⟩, hd⟩ := draw_ok hb
  refine Ev.bind hd (Ev.bind (ei _ _ _ _) (Ev.bind (es _ _ _ _) ?_))
  simp only [if_true]
  by_cases hc : (binv op w a b).2 = 0
  case neg =>
    refine Ev.step (fun k => ?_) (Ev.now true)
    simp only [laws_FnTwos.j0, bne_iff_ne.2 hc, if_true, beq_self_eq_true]
  obtain ⟨o1, o2, va, vb, hz, e⟩ := bin_ok hc
  have hwk := (isval_w va).1
  have ht := top_pos hwk
  have la := isval_lt va
  have lb := isval_lt vb
  have xb := xor_bd va vb
  have ez : binv 10 w a b = (Go.bits .xor .i64 a b, 0) := by
    rw [bin_eq (by decide) (by decide) va vb (by omega)]
    show (Go.bits .xor .i64 a b % top w, _) = _
    rw [Int.emod_eq_of_lt xb.1 xb.2]
  have vx : isval w (Go.bits .xor .i64 a b) = true := by
    have := isval_mod hwk (Go.bits .xor .i64 a b)
    rwa [Int.emod_eq_of_lt xb.1 xb.2] at this
  have eu : binv 10 w (Go.bits .xor .i64 a b) b = (a, 0) := by
    rw [bin_eq (by decide) (by decide) vx vb (by omega)]
    show (Go.bits .xor .i64 (Go.bits .xor .i64 a b) b % top w, _) = _
    rw [xor_back la.1 la.2 lb.1 lb.2 (isval_lt vx).2, isval_id va]
  have ex : binv 1 w a b = ((a + b) % top w, 0) := bin_eq (by decide) (by decide) va vb (by omega)
  have ey : binv 2 w ((a + b) % top w) b = (a, 0) := by
    rw [bin_eq (by decide) (by decide) (isval_mod hwk _) vb (by omega)]
    show (((a + b) % top w - b) % top w, _) = _
    rw [add_sub (isval_w va).2.1 (isval_w va).2.2]
  refine Ev.step (f := fun k => (impl_Binary.f k 1 w a b).bind fun bt220 => (impl_Binary.f k 2 w bt220.1 b).bind fun bt222 => (impl_Binary.f k 10 w a b).bind fun bt224 => (impl_Binary.f k 10 w bt224.1 b).bind fun bt226 => (impl_ResultWidth.f k op w).bind fun t228 => if bt222.1 = a then (if bt226.1 = a then ((impl_Masked.f t228 (binv op w a b).1).bind fun t229 => if t229 = (binv op w a b).1 then some (decide ((binv op w a b).1 ≥ 0)) else some false) else some false) else some false) (fun k => ?_) ?_
  · simp only [laws_FnTwos.j0, hc, bne_self_eq_false, Bool.false_eq_true, if_false]
  have er : Ev (fun k => impl_ResultWidth.f k op w) (if op ≥ 14 then 1 else w) := ⟨1, fun k hk => by obtain ⟨m, rfl⟩ : ∃ m, k = m + 1 := ⟨k - 1, by omega⟩; exact impl_rw m op w o1 o2 hwk⟩
  refine Ev.bind (ei _ _ _ _) (Ev.bind (ei _ _ _ _) (Ev.bind (ei _ _ _ _) (Ev.bind (ei _ _ _ _) (Ev.bind er ?_))))
  rw [ex, ez]
  simp only [ey, eu, if_true, impl_masked, Option.bind_some, e]
  have h0 : 0 ≤ two op w a b % top w := Int.emod_nonneg _ (by omega)
  have hm : masked (if op ≥ 14 then 1 else w) (two op w a b % top w) = two op w a b % top w := by
    unfold masked
    by_cases h14 : op ≥ 14
    · have tb := two_bit (w := w) (a := a) (b := b) h14 o2
      rw [if_pos h14, if_pos (show wok 1 = true from rfl), Int.emod_eq_of_lt (a := two op w a b) (b := top w) tb.1 (by omega)]
      exact Int.emod_eq_of_lt tb.1 tb.2
    · rw [if_neg h14, if_pos hwk, Int.emod_emod]
  rw [hm, if_pos rfl, decide_eq_true h0]
  exact Ev.now _
end Go.Proofs.Ytkjfiaieoppphaa.PFnTwosy
namespace Go.Proofs.Ytkjfiaieoppphaa.Pure
open Go.Proofs.Ytkjfiaieoppphaa.PFnTwos
theorem FnTwos : laws_FnTwos.Pure := Go.Proofs.Ytkjfiaieoppphaa.PFnTwosy.law
end Go.Proofs.Ytkjfiaieoppphaa.Pure
