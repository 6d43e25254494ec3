import Derived.Test.YtghdhjgoicnbcaaGreatMf5
set_option linter.unusedVariables false
set_option linter.unusedSimpArgs false
namespace Go.Proofs.YtghdhjgoicnbcaaGreat.AM
open Go
set_option linter.unusedSimpArgs false
set_option linter.unusedVariables false
abbrev KM : Nat := 1000000
def isW (w : Int) : Prop := w = 1 ∨ w = 8 ∨ w = 16 ∨ w = 32
theorem LIM_eq : LIM = 140737488355328 := rfl
theorem below_run {r : Gl1Rd} (h : okRd r) (n : Int) : Run (spec_l1Rd_below_m r n) (fun y => okRd y.2 ∧ 0 ≤ y.1 ∧ (1 ≤ n → y.1 < n)) := by
  obtain ⟨x, r', e, h1, h2⟩ := below_ok h n
  exact ⟨_, e, h1, h2⟩
theorem once_run {r : Gl1Rd} (h : okRd r) {n : Int} (hn : inI (n - 1)) : Run (spec_l1Rd_once_m r n) (fun y => okRd y.2) := by
  obtain ⟨x, r', e, h1⟩ := once_ok h n hn
  exact ⟨_, e, h1⟩
theorem off_run {r : Gl1Rd} (h : okRd r) {low high : Int} (hl : inI (low - 1)) (hh : inI (high + 1)) (h1 : ¬ high < low → inI (IntKind.i64.wrap (high - low) + 1) ∧ IntKind.u64.wrap (IntKind.i64.wrap (high - low) + 1) ≠ 0) : Run (spec_l1Rd_off_m r low high) (fun y => okRd y.2) := by
  obtain ⟨x, r', e, h1⟩ := off_ok h low high hl hh h1
  exact ⟨_, e, h1⟩
theorem width_run {r : Gl1Rd} (h : okRd r) : Run (spec_l1Rd_width_m r) (fun y => okRd y.2 ∧ isW y.1) := by
  unfold spec_l1Rd_width_m
  refine Run.bind (below_run h 4) ?_
  rintro ⟨x, r'⟩ ⟨h1, h2, h3⟩
  have h3 := h3 (by omega)
  refine Run.yes ⟨h2, by simpa using h3⟩ (Run.mk ⟨h1, ?_⟩)
  have : x = 0 ∨ x = 1 ∨ x = 2 ∨ x = 3 := by simp only at h2 h3; omega
  rcases this with rfl | rfl | rfl | rfl <;> simp [isW, at_]
def topW (w : Int) : Int := if w = 1 then 1 else if w = 8 then 255 else if w = 16 then 65535 else 4294967295
theorem topW_in {w : Int} (hw : isW w) : 1 ≤ topW w ∧ topW w ≤ 4294967295 := by rcases hw with rfl | rfl | rfl | rfl <;> decide
theorem topW_pow {w : Int} (hw : isW w) : IntKind.i64.wrap (1 * 2 ^ min (Int.toNat (IntKind.u64.wrap w)) (IntKind.bits .i64)) = topW w + 1 := by rcases hw with rfl | rfl | rfl | rfl <;> decide
theorem value_run {r : Gl1Rd} (h : okRd r) {w : Int} (hw : isW w) : Run (spec_l1Rd_value_m r w) (fun y => okRd y.2 ∧ 0 ≤ y.1 ∧ y.1 ≤ topW w) := by
  unfold spec_l1Rd_value_m
  have h1 : 0 ≤ IntKind.u64.wrap w := by rcases hw with rfl | rfl | rfl | rfl <;> decide
  have h4 := topW_in hw
  have h5 : 0 ≤ IntKind.i64.wrap (Int.tdiv (topW w + 1) 2) ∧ IntKind.i64.wrap (Int.tdiv (topW w + 1) 2) ≤ topW w := by rcases hw with rfl | rfl | rfl | rfl <;> decide
  rw [topW_pow hw]
  refine Run.yes h1 (Run.bind (below_run h 7) ?_)
  rintro ⟨x, r'⟩ ⟨g1, _, _⟩
  refine Run.if (fun _ => Run.mk ⟨g1, Int.le_refl _, by simp only; omega⟩) (fun _ => Run.if (fun _ => Run.mk ⟨g1, by simp only; omega, h4.1⟩) (fun _ => Run.if (fun _ => Run.yes (inI_le (by omega) (by omega)) (Run.mk ⟨g1, by simp only; omega, by simp only; omega⟩)) (fun _ => Run.if (fun _ => Run.mk ⟨g1, h5⟩) (fun _ => Run.bind (R := fun y => okRd y.2 ∧ 0 ≤ y.1 ∧ y.1 ≤ 18446744073709551615) ?_ ?_))))
  · obtain ⟨x2, r2, e, k1, k2⟩ := word_in g1
    exact ⟨_, e, k1, k2⟩
  rintro ⟨y, r2⟩ ⟨g2, g3, g4⟩
  refine Run.yes (by omega) (Run.mk ⟨g2, ?_⟩)
  simp only at g3 g4 ⊢
  have e2 : ((2 : Int) ^ min (Int.toNat 1) (IntKind.bits .u64)) = 2 := by decide
  rw [e2, wrap_in (by omega) (by omega)]
  have := tmod_lt (a := y / 2) (n := topW w + 1) (by omega) (by omega)
  omega
/-- What tells out or stores gives nothing. -/
def okI (i : GInst) : Prop := i.w = 0 ∨ (i.op_ ≠ 24 ∧ i.op_ ≠ 25)
def sz (b : GBlock) : Nat := b.phis.length + b.insts.length
def sumz (bs : List GBlock) : Nat := (bs.map sz).sum
def cnt (f : GFunc) : Nat := f.params.length + sumz f.blocks
/-- What an instruction names. -/
def opsI (i : GInst) : List Int :=
  if (1 ≤ i.op_ ∧ i.op_ ≤ 17) ∨ i.op_ = 24 then [i.a, i.b]
  else if (18 ≤ i.op_ ∧ i.op_ ≤ 20) ∨ i.op_ = 23 ∨ i.op_ = 25 ∨ i.op_ = 27 then [i.a]
  else if i.op_ = 22 then [i.a, i.b, i.c]
  else if i.op_ = 26 then i.args else []
def inN (n : Int) (l : List Int) : Prop := ∀ x ∈ l, 0 ≤ x ∧ x < n
theorem inN.mono {n m : Int} {l : List Int} (h : inN n l) (hm : n ≤ m) : inN m l := fun x hx => ⟨(h x hx).1, by have := (h x hx).2; omega⟩
/-- An instruction's form, whatever it names. -/
structure frI (i : GInst) : Prop where
  op : 1 ≤ i.op_ ∧ i.op_ ≤ 27
  args : i.args.length ≤ 4
  noargs : i.op_ ≠ 26 → i.args = []
  zero : (if i.op_ = 26 then 0 else (opsI i).length) < 1 → i.a = 0
  zerob : (if i.op_ = 26 then 0 else (opsI i).length) < 2 → i.b = 0
  zeroc : (if i.op_ = 26 then 0 else (opsI i).length) < 3 → i.c = 0
  w0 : i.op_ = 24 ∨ i.op_ = 25 → i.w = 0
  w1 : ¬ (i.op_ = 24 ∨ i.op_ = 25) → isW i.w
  w8 : i.op_ = 23 → i.w = 8
  const : i.op_ = 21 → 0 ≤ i.imm ∧ i.imm ≤ topW i.w
  call : i.op_ = 26 → 0 ≤ i.imm ∧ i.imm < 3
  imm : i.op_ ≠ 21 → i.op_ ≠ 26 → i.imm = 0
theorem fr_const {w v : Int} (hw : isW w) (hv : 0 ≤ v ∧ v ≤ topW w) : frI ⟨21, w, 0, 0, 0, v, []⟩ := by
  constructor <;> simp [opsI, hw, hv]
theorem fr_select {w a b c : Int} (hw : isW w) : frI ⟨22, w, a, b, c, 0, []⟩ := by
  constructor <;> simp [opsI, hw]
theorem fr_cast {o w a : Int} (hw : isW w) (ho : 18 ≤ o ∧ o ≤ 20) : frI ⟨o, w, a, 0, 0, 0, []⟩ := by
  have : o = 18 ∨ o = 19 ∨ o = 20 := by omega
  rcases this with rfl | rfl | rfl <;> constructor <;> simp [opsI, hw]
theorem fr_load {a : Int} : frI ⟨23, 8, a, 0, 0, 0, []⟩ := by
  constructor <;> simp [opsI, isW]
theorem fr_store {a b : Int} : frI ⟨24, 0, a, b, 0, 0, []⟩ := by
  constructor <;> simp [opsI, isW]
theorem fr_print {a : Int} : frI ⟨25, 0, a, 0, 0, 0, []⟩ := by
  constructor <;> simp [opsI, isW]
theorem fr_copy {w a : Int} (hw : isW w) : frI ⟨27, w, a, 0, 0, 0, []⟩ := by
  constructor <;> simp [opsI, hw]
theorem fr_call {w k : Int} {l : List Int} (hw : isW w) (hk : 0 ≤ k ∧ k < 3) (hl : l.length ≤ 4) : frI ⟨26, w, 0, 0, 0, k, l⟩ := by
  constructor <;> simp [opsI, hw, hk, hl]
theorem fr_bin {o w a b : Int} (hw : isW w) (ho : 1 ≤ o ∧ o ≤ 17) : frI ⟨o, w, a, b, 0, 0, []⟩ := by
  have e : (opsI ⟨o, w, a, b, 0, 0, []⟩) = [a, b] := by simp only [opsI]; rw [if_pos (.inl ho)]
  have n1 : o ≠ 26 := by omega
  refine ⟨⟨by simp only; omega, by simp only; omega⟩, by simp, fun _ => rfl, ?_, ?_, fun _ => rfl, fun h => by simp only at h; omega, fun _ => hw, fun h => by simp only at h; omega, fun h => by simp only at h; omega, fun h => by simp only at h; omega, fun _ _ => rfl⟩ <;> (rw [e]; simp [n1])
def okIn (n : Int) (i : GInst) : Prop := okI i ∧ inN n (opsI i) ∧ i.args.length ≤ 10 ∧ frI i
def okPn (n : Int) (p : GPhi) : Prop := inN n p.ins ∧ p.ins.length ≤ 10 ∧ isW p.w
def zT (t : GTerm) : Prop := (t.kind = 1 ∧ t.x = 0 ∧ t.y = 0) ∨ (t.kind = 2 ∧ t.a = 0 ∧ t.y = 0) ∨ t.kind = 3 ∨ (t.kind = 4 ∧ t.a = 0 ∧ t.x = 0 ∧ t.y = 0)
def okT (n : Int) (t : GTerm) : Prop := (t.kind = 1 ∨ t.kind = 3 → 0 ≤ t.a ∧ t.a < n) ∧ zT t
/-- Where an end leads. -/
def okX (m : Int) (t : GTerm) : Prop := (t.kind = 2 ∨ t.kind = 3 → 0 ≤ t.x ∧ t.x ≤ m) ∧ (t.kind = 3 → 0 ≤ t.y ∧ t.y ≤ m ∧ t.x ≠ t.y)
theorem okX.mono {m n : Int} {t : GTerm} (h : okX m t) (hm : m ≤ n) : okX n t := ⟨fun k => by have := h.1 k; omega, fun k => by have := h.2 k; omega⟩
def tgt (g : Gl2G) : Prop := ∀ b ∈ g.f.blocks, okX g.f.blocks.length b.term
structure okB (n : Int) (ps : List GPhi) (is : List GInst) : Prop where
  ps : ∀ p ∈ ps, okPn n p
  is : ∀ i ∈ is, okIn n i
theorem okB.mono {n m : Int} {ps : List GPhi} {is : List GInst} (h : okB n ps is) (hm : n ≤ m) : okB m ps is :=
  ⟨fun p hp => ⟨(h.ps p hp).1.mono hm, (h.ps p hp).2⟩, fun i hi => ⟨(h.is i hi).1, (h.is i hi).2.1.mono hm, (h.is i hi).2.2⟩⟩
theorem okT.mono {n m : Int} {t : GTerm} (h : okT n t) (hm : n ≤ m) : okT m t := ⟨fun ht => ⟨(h.1 ht).1, by have := (h.1 ht).2; omega⟩, h.2⟩
def okBl (n : Int) (b : GBlock) : Prop := okB n b.phis b.insts ∧ okT n b.term
theorem okBl.mono {n m : Int} {b : GBlock} (h : okBl n b) (hm : n ≤ m) : okBl m b := ⟨h.1.mono hm, h.2.mono hm⟩
/-- What grows is small; d: what is not numbered yet. -/
structure okGd (d : Int) (k : Nat) (g : Gl2G) : Prop where
  ids : g.ids.length ≤ k
  ws : g.ws.length = g.ids.length
  n0 : 0 ≤ g.next
  n1 : g.next ≤ (k : Int)
  insts : g.b.insts.length ≤ k
  phis : g.b.phis.length ≤ k
  blocks : g.f.blocks.length ≤ k
  params : g.f.params.length ≤ k
  pw : ∀ w ∈ g.f.params, isW w
  ret : isW g.f.ret
  rows : ∀ b ∈ g.f.blocks, b.phis.length ≤ k ∧ b.insts.length ≤ k
  cur : okB (g.next + d) g.b.phis g.b.insts
  okbs : ∀ b ∈ g.f.blocks, okBl (g.next + d) b
  idsIn : inN g.next g.ids
  nx : g.next + d = (g.f.params.length : Int) + sumz g.f.blocks + g.b.phis.length + g.b.insts.length
abbrev okG (k : Nat) (g : Gl2G) : Prop := okGd 0 k g
theorem okGd.mono {d : Int} {k k' : Nat} {g : Gl2G} (h : okGd d k g) (hk : k ≤ k') : okGd d k' g :=
  ⟨Nat.le_trans h.ids hk, h.ws, h.n0, by have := h.n1; omega, Nat.le_trans h.insts hk, Nat.le_trans h.phis hk, Nat.le_trans h.blocks hk, Nat.le_trans h.params hk, h.pw, h.ret, fun b hb => ⟨Nat.le_trans (h.rows b hb).1 hk, Nat.le_trans (h.rows b hb).2 hk⟩, h.cur, h.okbs, h.idsIn, h.nx⟩
/-- The same function, the same phis. -/
def Sm (g g' : Gl2G) : Prop := g'.f = g.f ∧ g'.b.phis = g.b.phis
theorem Sm.trans {a b c : Gl2G} (h : Sm a b) (h' : Sm b c) : Sm a c := ⟨h'.1.trans h.1, h'.2.trans h.2⟩
theorem Sm.refl (a : Gl2G) : Sm a a := ⟨rfl, rfl⟩
structure okP (rets : List Int) (pars : List (List Int)) : Prop where
  len : pars.length = rets.length
  small : rets.length ≤ 2
  rw_ : ∀ w ∈ rets, isW w
  rows : ∀ l ∈ pars, l.length ≤ 4 ∧ ∀ w ∈ l, isW w
section
variable {k : Nat} {g : Gl2G} {gr : Gl1Rd} {rets : List Int} {pars : List (List Int)}
theorem add_run (h : okGd 1 k g) (hk : k ≤ KM) (w : Int) : Run (spec_l2G_add_m g gr rets pars w) (fun y => okG (k + 1) y.2.1 ∧ y.2.2 = gr ∧ y.2.1.f = g.f ∧ y.2.1.b = g.b ∧ y.1 = g.next ∧ y.2.1.next = g.next + 1) := by
  have hL := LIM_eq
  obtain ⟨h1, h2, h3, h4, h5, h6, h7, h8, h9, h10, h11, h12, h13, h14, h15⟩ := h
  unfold KM at hk
  unfold spec_l2G_add_m
  refine Run.bind (R := fun _ => True) (Run.yes (by simp only [List.length_nil]; omega) (Run.yes (by simp only [List.nil_append, List.length_singleton]; omega) (Run.mk trivial))) (fun _ _ => ?_)
  refine Run.yes (by simp only [List.length_nil]; omega) (Run.yes (by simp only [List.nil_append, List.length_singleton]; omega) (Run.yes (inI_le (by simp only; omega) (by simp only; omega)) (Run.yes (inI_le (by simp only; omega) (by simp only; omega)) (Run.mk ⟨?_, rfl, rfl, rfl, by simp only; omega, by simp only⟩))))
  refine ⟨by simp; omega, by simp [h2], by simp only; omega, by simp only; omega, by simp only; omega, by simp only; omega, by simp only; omega, by simp only; omega, h9, h10, fun b hb => ⟨by have := (h11 b hb).1; omega, by have := (h11 b hb).2; omega⟩, by simpa using h12, by simpa using h13, fun x hx => ?_, by simp only; omega⟩
  simp only [List.nil_append, List.mem_append, List.mem_singleton] at hx
  simp only
  rcases hx with hx | rfl
  · have := h14 x hx
    omega
  · omega
theorem put_run (h : okG k g) (hr : okRd gr) (hk : k + 1 ≤ KM) (i : GInst) (hi : okIn g.next i) : Run (spec_l2G_put_m g gr rets pars i) (fun y => okG (k + 2) y.2.1 ∧ okRd y.2.2 ∧ Sm g y.2.1 ∧ (spec_l2Width_m i ≠ 0 → 0 ≤ y.1 ∧ y.1 < y.2.1.next) ∧ g.next ≤ y.2.1.next) := by
  have hL := LIM_eq
  have h0 := h
  obtain ⟨h1, h2, h3, h4, h5, h6, h7, h8, h9, h10, h11, h12, h13, h14, h15⟩ := h
  unfold KM at hk
  have h12' : okB (g.next + 1) g.b.phis (g.b.insts ++ [i]) := by
    refine ⟨fun p hp => (h12.mono (by omega)).ps p hp, fun j hj => ?_⟩
    rcases List.mem_append.1 hj with hj | hj
    · exact (h12.mono (by omega)).is j hj
    · simp only [List.mem_singleton] at hj
      subst hj
      exact ⟨hi.1, hi.2.1.mono (by omega), hi.2.2⟩
  have h13' : ∀ b ∈ g.f.blocks, okBl (g.next + 1) b := fun b hb => (h13 b hb).mono (by omega)
  unfold spec_l2G_put_m
  refine Run.yes (by simp only [List.length_singleton]; omega) (Run.if (fun hw => Run.yes (inI_le (by omega) (by omega)) (Run.mk ⟨?_, hr, ⟨rfl, rfl⟩, fun hn => absurd (by simpa using hw) hn, by simp only; omega⟩)) (fun _ => ?_))
  · exact ⟨by simp only; omega, h2, by simp only; omega, by simp only; omega, by simp; omega, by simp only; omega, by simp only; omega, by simp only; omega, h9, h10, fun b hb => ⟨by have := (h11 b hb).1; omega, by have := (h11 b hb).2; omega⟩, by simpa using h12', by simpa using h13', h14.mono (by simp only; omega), by simp; omega⟩
  · refine Run.bind (add_run (k := k + 1) ?_ (by unfold KM; omega) _) ?_
    · exact ⟨by simp only; omega, h2, by simp only; omega, by simp only; omega, by simp; omega, by simp only; omega, by simp only; omega, by simp only; omega, h9, h10, fun b hb => ⟨by have := (h11 b hb).1; omega, by have := (h11 b hb).2; omega⟩, h12', h13', h14, by simp; omega⟩
    · rintro ⟨x, g', r'⟩ ⟨g1, rfl, g3, g4, g5, g6⟩
      simp only at g5 g6
      exact Run.mk ⟨g1, hr, ⟨g3, by simp only at g4 ⊢; rw [g4]⟩, fun _ => by simp only; omega, by simp only; omega⟩
theorem pick_run (h : okG k g) (hr : okRd gr) (hk : k + 1 ≤ KM) {w : Int} (hw : isW w) : Run (spec_l2G_pick_m g gr rets pars w) (fun y => okG (k + 2) y.2.1 ∧ okRd y.2.2 ∧ Sm g y.2.1 ∧ 0 ≤ y.1 ∧ y.1 < y.2.1.next ∧ g.next ≤ y.2.1.next) := by
  have hL := LIM_eq
  have h1 := h.ids
  have h2 := h.ws
  have hk' := hk
  unfold KM at hk
  unfold spec_l2G_pick_m
  refine Run.bind (R := fun l => l.length ≤ k ∧ inN g.next l) (Run.loop (fun s => 0 ≤ s.2 ∧ s.2 ≤ (g.ids.length : Int) ∧ (s.1.length : Int) ≤ s.2 ∧ inN g.next s.1) (fun s => (g.ids.length - s.2).toNat) ⟨Int.le_refl _, by omega, by simp, by simp [inN]⟩ ?_) ?_
  · rintro ⟨l, i⟩ ⟨a1, a2, a3, a4⟩
    simp only at a1 a2 a3 a4 ⊢
    refine Run.if (fun hi => ?_) (fun hi => Run.out ⟨by omega, a4⟩)
    have hi : i < (g.ids.length : Int) := by simpa using hi
    refine Run.yes (by omega) (Run.if (fun _ => Run.yes (by omega) (Run.yes (by simp only [List.length_singleton]; omega) (Run.yes (inI_le (by omega) (by omega)) (Run.nx ?_)))) (fun _ => Run.yes (inI_le (by omega) (by omega)) (Run.nx ?_)))
    · refine ⟨⟨by simp only; omega, by simp only; omega, by simp; omega, fun x hx => ?_⟩, by simp only; omega⟩
      rcases List.mem_append.1 hx with hx | hx
      · exact a4 x hx
      · simp only [List.mem_singleton] at hx
        subst hx
        exact h.idsIn _ (at_mem (by omega))
    · exact ⟨⟨by simp only; omega, by simp only; omega, by simp only; omega, a4⟩, by simp only; omega⟩
  rintro fit ⟨hf, hfi⟩
  refine Run.bind (R := fun y => okRd y.1 ∧ (y.2 = false → fit ≠ [])) (Run.if (fun _ => Run.mk ⟨hr, fun h => by cases h⟩) (fun hn => Run.bind (once_run hr (inI_le (by omega) (by omega))) ?_)) ?_
  · rintro ⟨b, r'⟩ g1
    exact Run.mk ⟨g1, fun _ e => hn (by simp [e])⟩
  rintro ⟨r', b⟩ ⟨g1, g2⟩
  simp only at g1 g2 ⊢
  refine Run.if (fun _ => Run.bind (value_run g1 hw) ?_) (fun hb => Run.bind (below_run g1 _) ?_)
  · rintro ⟨x, r2⟩ ⟨g3, gv, _⟩
    have e1 : 0 ≤ IntKind.u64.wrap w := by rcases hw with rfl | rfl | rfl | rfl <;> decide
    have e3 : IntKind.i64.wrap (1 * 2 ^ min (Int.toNat (IntKind.u64.wrap w)) (IntKind.bits .i64)) ≠ 0 := by rcases hw with rfl | rfl | rfl | rfl <;> decide
    refine Run.yes e1 (Run.yes e3 (Run.bind (put_run h g3 hk' _ ⟨.inr ⟨by simp, by simp⟩, by simp [inN, opsI], by simp, fr_const hw (by
      have ht := topW_in hw
      have m1 := tmod_lt (a := x) (n := 7) gv (by omega)
      have m2 := tmod_lt (a := Int.tmod x 7) (n := topW w + 1) m1.1 (by omega)
      rw [topW_pow hw]
      show 0 ≤ Int.tmod (Int.tmod x 7) (topW w + 1) ∧ Int.tmod (Int.tmod x 7) (topW w + 1) ≤ topW w
      omega)⟩) ?_))
    rintro ⟨x, g', r3⟩ ⟨g4, g5, g6, g7, g8⟩
    have g9 := g7 (by rcases hw with rfl | rfl | rfl | rfl <;> simp [spec_l2Width_m, spec_l1In_m])
    exact Run.mk ⟨g4, g5, g6, g9.1, g9.2, g8⟩
  · rintro ⟨x, r2⟩ ⟨g3, g4, _⟩
    have hne : fit ≠ [] := g2 (by simpa using hb)
    have hp : 0 < fit.length := List.length_pos_iff.2 hne
    simp only at g3 g4 ⊢
    generalize hz : (if decide (x ≥ (fit.length : Int)) = true then (fit.length : Int) - 1 else x) = z
    have hx : 0 ≤ z ∧ z < (fit.length : Int) := by
      subst hz
      split
      · omega
      · rename_i hx
        have hx : ¬ x ≥ (fit.length : Int) := by simpa using hx
        omega
    exact Run.yes hx (Run.mk ⟨h.mono (by omega), g3, Sm.refl _, (hfi _ (at_mem hx)).1, (hfi _ (at_mem hx)).2, Int.le_refl _⟩)
theorem sumz_snoc (bs : List GBlock) (b : GBlock) : sumz (bs ++ [b]) = sumz bs + sz b := by simp [sumz]
theorem close_run (h : okG k g) (hr : okRd gr) (hk : k ≤ KM) (t : GTerm) (ht : okT g.next t) : Run (spec_l2G_close_m g gr rets pars t) (fun y => okG (k + 1) y.1 ∧ okRd y.2 ∧ y.1.f.blocks = g.f.blocks ++ [⟨g.b.phis, g.b.insts, t⟩] ∧ y.1.f.params = g.f.params ∧ y.1.b.phis = [] ∧ y.1.next = g.next ∧ y.1.b.insts = []) := by
  have hL := LIM_eq
  obtain ⟨h1, h2, h3, h4, h5, h6, h7, h8, h9, h10, h11, h12, h13, h14, h15⟩ := h
  unfold KM at hk
  unfold spec_l2G_close_m
  refine Run.yes (by omega) (Run.mk ⟨?_, hr, rfl, rfl, rfl, rfl, rfl⟩)
  refine ⟨by simp only; omega, h2, by simp only; omega, by simp only; omega, by simp, by simp, by simp; omega, by simp only; omega, h9, h10, fun b hb => ?_, ⟨by simp, by simp⟩, fun b hb => ?_, h14, ?_⟩
  · rcases List.mem_append.1 hb with hb | hb
    · exact ⟨by have := (h11 b hb).1; omega, by have := (h11 b hb).2; omega⟩
    · simp only [List.mem_singleton] at hb
      subst hb
      exact ⟨by simp only; omega, by simp only; omega⟩
  · rcases List.mem_append.1 hb with hb | hb
    · exact h13 b hb
    · simp only [List.mem_singleton] at hb
      subst hb
      exact ⟨h12, by simpa using ht⟩
  · rw [sumz_snoc]
    simp only [sz, List.length_nil]
    omega
theorem phi_run (h : okG k g) (hr : okRd gr) (hk : k + 1 ≤ KM) (w : Int) (ins : List Int) (hi : inN g.next ins) (hi2 : ins.length ≤ 10) (hw : isW w) : Run (spec_l2G_phi_m g gr rets pars w ins) (fun y => okG (k + 2) y.2.1 ∧ okRd y.2.2 ∧ y.2.1.f = g.f ∧ y.2.1.b.phis = g.b.phis ++ [⟨w, ins⟩] ∧ 0 ≤ y.1 ∧ y.1 < y.2.1.next ∧ g.next ≤ y.2.1.next) := by
  have hL := LIM_eq
  obtain ⟨h1, h2, h3, h4, h5, h6, h7, h8, h9, h10, h11, h12, h13, h14, h15⟩ := h
  unfold KM at hk
  unfold spec_l2G_phi_m
  refine Run.yes (by omega) (Run.bind (add_run (k := k + 1) ?_ (by unfold KM; omega) _) ?_)
  · refine ⟨by simp only; omega, h2, by simp only; omega, by simp only; omega, by simp only; omega, by simp; omega, by simp only; omega, by simp only; omega, h9, h10, fun b hb => ⟨by have := (h11 b hb).1; omega, by have := (h11 b hb).2; omega⟩, ⟨fun p hp => ?_, (h12.mono (by simp only; omega)).is⟩, fun b hb => (h13 b hb).mono (by simp only; omega), h14, by simp; omega⟩
    rcases List.mem_append.1 hp with hp | hp
    · exact (h12.mono (by simp only; omega)).ps p hp
    · simp only [List.mem_singleton] at hp
      subst hp
      exact ⟨hi.mono (by simp only; omega), hi2, hw⟩
  · rintro ⟨x, g', r'⟩ ⟨g1, rfl, g3, g4, g5, g6⟩
    simp only at g5 g6
    exact Run.mk ⟨g1, hr, g3, by simp only at g4 ⊢; rw [g4], by simp only; omega, by simp only; omega, by simp only; omega⟩
theorem call_run (h : okG k g) (hr : okRd gr) (hp : okP rets pars) (hk : k + 30 ≤ KM) : Run (spec_l2G_call_m g gr rets pars) (fun y => okG (k + 30) y.1 ∧ okRd y.2 ∧ Sm g y.1 ∧ g.next ≤ y.1.next) := by
  have hL := LIM_eq
  have hl := hp.len
  have hs := hp.small
  unfold KM at hk
  unfold spec_l2G_call_m
  refine Run.if (fun _ => Run.mk ⟨h.mono (by omega), hr, Sm.refl _, Int.le_refl _⟩) (fun hn => Run.bind (below_run hr _) ?_)
  have hn : ¬ (rets.length : Int) = 0 := by simpa using hn
  rintro ⟨c, r1⟩ ⟨g1, g2, g3⟩
  have g3 := g3 (by omega)
  simp only at g1 g2 g3 ⊢
  have hc : 0 ≤ c ∧ c < (pars.length : Int) := by omega
  have hrow := hp.rows _ (at_mem hc)
  refine Run.bind (R := fun y => okG (k + 20) y.1 ∧ okRd y.2.1 ∧ Sm g y.1 ∧ y.2.2.length ≤ 4 ∧ g.next ≤ y.1.next ∧ inN y.1.next y.2.2) (Run.loop (fun s => okG (k + 2 * s.2.2.2.toNat) s.1 ∧ okRd s.2.1 ∧ Sm g s.1 ∧ 0 ≤ s.2.2.2 ∧ s.2.2.2 ≤ ((at_ pars c).length : Int) ∧ (s.2.2.1.length : Int) = s.2.2.2 ∧ g.next ≤ s.1.next ∧ inN s.1.next s.2.2.1) (fun s => ((at_ pars c).length - s.2.2.2).toNat) ⟨h, g1, Sm.refl _, Int.le_refl _, by simp only; omega, rfl, Int.le_refl _, by simp [inN]⟩ ?_) ?_
  · rintro ⟨ga, ra, l, i⟩ ⟨b1, b2, b3, b4, b5, b6, b7, b8⟩
    simp only at b1 b2 b3 b4 b5 b6 b7 b8 ⊢
    have hrl := hrow.1
    refine Run.yes hc (Run.if (fun hi => ?_) (fun hi => Run.out ⟨b1.mono (by omega), b2, b3, by simp only; omega, b7, b8⟩))
    have hi : i < ((at_ pars c).length : Int) := by simpa using hi
    refine Run.yes hc (Run.yes ⟨b4, hi⟩ (Run.bind (pick_run b1 b2 (by unfold KM; omega) (hrow.2 _ (at_mem ⟨b4, hi⟩))) ?_))
    rintro ⟨x, gb, rb⟩ ⟨c1, c2, c3, c4, c5, c6⟩
    simp only at c4 c5 c6
    refine Run.yes (by simp only [List.length_singleton]; omega) (Run.yes (inI_le (by omega) (by omega)) (Run.nx ⟨⟨c1.mono (by simp only; omega), c2, b3.trans c3, by simp only; omega, by simp only; omega, by simp; omega, by simp only; omega, fun z hz => ?_⟩, by simp only; omega⟩))
    rcases List.mem_append.1 hz with hz | hz
    · exact b8.mono c6 z hz
    · simp only [List.mem_singleton] at hz
      subst hz
      exact ⟨c4, c5⟩
  · rintro ⟨ga, ra, l⟩ ⟨b1, b2, b3, b4, b5, b6⟩
    simp only at b1 b2 b3 b4 b5 b6 ⊢
    refine Run.yes ⟨g2, g3⟩ (Run.bind (put_run b1 b2 (by unfold KM; omega) _ ⟨.inr ⟨by simp, by simp⟩, by simpa [opsI] using b6, Nat.le_trans b4 (by decide), fr_call (hp.rw_ _ (at_mem ⟨g2, g3⟩)) ⟨g2, by omega⟩ b4⟩) ?_)
    rintro ⟨x, gb, rb⟩ ⟨c1, c2, c3, c4, c5⟩
    exact Run.mk ⟨c1.mono (by omega), c2, b3.trans c3, (by (try simp only at *) <;> omega)⟩
theorem some_run (h : okG k g) (hr : okRd gr) (hp : okP rets pars) {n : Int} (hn : n ≤ 10) (hk : k + 400 ≤ KM) : Run (spec_l2G_some_m g gr rets pars n) (fun y => okG (k + 400) y.1 ∧ okRd y.2 ∧ Sm g y.1 ∧ g.next ≤ y.1.next) := by
  unfold KM at hk
  unfold spec_l2G_some_m
  refine Run.bind (R := fun (y : Gl2G × Gl1Rd) => okG (k + 400) y.1 ∧ okRd y.2 ∧ Sm g y.1 ∧ g.next ≤ y.1.next) (Run.loop (fun s => okG (k + 30 * s.2.2.toNat) s.1 ∧ okRd s.2.1 ∧ Sm g s.1 ∧ 0 ≤ s.2.2 ∧ s.2.2 ≤ 10 ∧ g.next ≤ s.1.next) (fun s => (10 - s.2.2).toNat) ⟨h, hr, Sm.refl _, by simp only; omega, by simp only; omega, Int.le_refl _⟩ ?_) (fun y hy => Run.mk hy)
  rintro ⟨ga, ra, i⟩ ⟨b1, b2, b3, b4, b5, b6⟩
  simp only at b1 b2 b3 b4 b5 b6 ⊢
  refine Run.if (fun hi => ?_) (fun hi => Run.out ⟨b1.mono (by omega), b2, b3, b6⟩)
  have hi : i < n := by simp only [Bool.and_eq_true, decide_eq_true_eq] at hi; exact hi.1
  refine Run.bind (width_run b2) ?_
  rintro ⟨w, r1⟩ ⟨c1, c2⟩
  refine Run.bind (below_run c1 14) ?_
  rintro ⟨x, r2⟩ ⟨d1, d2, d3⟩
  simp only at c1 c2 d1 d2 d3 ⊢
  have fin : ∀ {m : Nat} {ga' : Gl2G} {ra' : Gl1Rd}, okG m ga' → okRd ra' → Sm ga ga' → ga.next ≤ ga'.next → m ≤ k + 30 * i.toNat + 30 → Run (if inI (i + 1) then some (Sum.inl (ga', ra', i + 1) : (Gl2G × Gl1Rd × Int) ⊕ (Gl2G × Gl1Rd)) else none)
      (LoopQ (fun s => okG (k + 30 * s.2.2.toNat) s.1 ∧ okRd s.2.1 ∧ Sm g s.1 ∧ 0 ≤ s.2.2 ∧ s.2.2 ≤ 10 ∧ g.next ≤ s.1.next) (fun s => (10 - s.2.2).toNat) ((10 - i).toNat) (fun r => okG (k + 400) r.1 ∧ okRd r.2 ∧ Sm g r.1 ∧ g.next ≤ r.1.next)) := fun k1 k2 k3 k5 k4 =>
    Run.yes (inI_le (by omega) (by omega)) (Run.nx ⟨⟨k1.mono (by simp only; omega), k2, b3.trans k3, by simp only; omega, by simp only; omega, by simp only; omega⟩, by simp only; omega⟩)
  refine Run.if (fun _ => ?_) (fun _ => Run.if (fun _ => ?_) (fun _ => Run.if (fun _ => ?_) (fun _ => Run.if (fun _ => ?_) (fun _ => Run.if (fun _ => ?_) (fun _ => Run.if (fun _ => ?_) (fun _ => Run.if (fun _ => ?_) (fun _ => Run.if (fun _ => ?_) (fun _ => Run.if (fun _ => ?_) (fun _ => ?_)))))))))
  · refine Run.bind (value_run d1 c2) ?_
    rintro ⟨v, r3⟩ ⟨e1, e2⟩
    refine Run.bind (put_run b1 e1 (by unfold KM; omega) _ ⟨.inr ⟨by simp, by simp⟩, by intro z hz; simp [opsI] at hz <;> (try simp only at *) <;> omega, by simp, fr_const c2 e2⟩) ?_
    rintro ⟨y, g4, r4⟩ ⟨f1, f2, f3, f4, f5⟩
    exact fin f1 f2 f3 (by (try simp only at *) <;> omega) (by omega)
  · refine Run.bind (pick_run b1 d1 (by unfold KM; omega) (.inl rfl)) ?_
    rintro ⟨y, g3, r3⟩ ⟨e1, e2, e3, e4, e5, e6⟩
    refine Run.bind (pick_run e1 e2 (by unfold KM; omega) c2) ?_
    rintro ⟨y, g4, r4⟩ ⟨f1, f2, f3, f4, f5, f6⟩
    refine Run.bind (pick_run f1 f2 (by unfold KM; omega) c2) ?_
    rintro ⟨y, g5, r5⟩ ⟨a1, a2, a3, a4, a5, a6⟩
    refine Run.bind (put_run a1 a2 (by unfold KM; omega) _ ⟨.inr ⟨by simp, by simp⟩, by intro z hz; simp [opsI] at hz <;> (try simp only at *) <;> omega, by simp, fr_select c2⟩) ?_
    rintro ⟨y, g6, r6⟩ ⟨q1, q2, q3, q4, q5⟩
    exact fin q1 q2 (((e3.trans f3).trans a3).trans q3) (by (try simp only at *) <;> omega) (by omega)
  · refine Run.bind (pick_run b1 d1 (by unfold KM; omega) (.inr (.inl rfl))) ?_
    rintro ⟨y, g3, r3⟩ ⟨e1, e2, e3, e4, e5, e6⟩
    refine Run.bind (R := fun y => okG (k + 30 * i.toNat + 2 + 2) y.1 ∧ okRd y.2 ∧ Sm ga y.1 ∧ ga.next ≤ y.1.next) (Run.bind (below_run e2 2) ?_) ?_
    · rintro ⟨y1, r4⟩ ⟨f1, f2, f3⟩
      have f3 := f3 (by omega)
      refine Run.yes ⟨f2, by simpa using f3⟩ (Run.bind (below_run f1 2) ?_)
      rintro ⟨y2, r5⟩ ⟨a1, a2, a3⟩
      have a3 := a3 (by omega)
      refine Run.yes ⟨a2, by simpa using a3⟩ (Run.bind (put_run e1 a1 (by unfold KM; omega) _ ⟨.inr (by have : y1 = 0 ∨ y1 = 1 := (by simp only at f2 f3; omega); rcases this with rfl | rfl <;> simp [at_]), by have : y1 = 0 ∨ y1 = 1 := (by simp only at f2 f3; omega); rcases this with rfl | rfl <;> (intro z hz; simp [opsI, at_] at hz <;> (try simp only at *) <;> omega), by simp, fr_cast (by have : y2 = 0 ∨ y2 = 1 := (by simp only at a2 a3; omega); rcases this with rfl | rfl <;> simp [at_, isW]) (by have : y1 = 0 ∨ y1 = 1 := (by simp only at f2 f3; omega); rcases this with rfl | rfl <;> simp [at_])⟩) ?_)
      rintro ⟨y3, g6, r6⟩ ⟨q1, q2, q3, q4, q5⟩
      exact Run.mk ⟨q1, q2, e3.trans q3, (by (try simp only at *) <;> omega)⟩
    · rintro ⟨g7, r7⟩ ⟨q1, q2, q3, q4⟩
      exact fin q1 q2 q3 (by (try simp only at *) <;> omega) (by omega)
  · refine Run.bind (pick_run b1 d1 (by unfold KM; omega) (.inr (.inr (.inr rfl)))) ?_
    rintro ⟨y, g3, r3⟩ ⟨e1, e2, e3, e4, e5, e6⟩
    refine Run.bind (below_run e2 3) ?_
    rintro ⟨y1, r4⟩ ⟨f1, f2, f3⟩
    have f3 := f3 (by omega)
    refine Run.yes ⟨f2, by simpa using f3⟩ (Run.bind (put_run e1 f1 (by unfold KM; omega) _ ⟨.inr ⟨by simp, by simp⟩, by intro z hz; simp [opsI] at hz <;> (try simp only at *) <;> omega, by simp, fr_cast (by have : y1 = 0 ∨ y1 = 1 ∨ y1 = 2 := (by simp only at f2 f3; omega); rcases this with rfl | rfl | rfl <;> simp [at_, isW]) (by decide)⟩) ?_)
    rintro ⟨y3, g6, r6⟩ ⟨q1, q2, q3, q4, q5⟩
    exact fin q1 q2 (e3.trans q3) (by (try simp only at *) <;> omega) (by omega)
  · refine Run.bind (below_run d1 34) ?_
    rintro ⟨y1, r4⟩ ⟨f1, f2, f3⟩
    refine Run.bind (put_run b1 f1 (by unfold KM; omega) _ ⟨.inr ⟨by simp, by simp⟩, by intro z hz; simp [opsI] at hz <;> (try simp only at *) <;> omega, by simp, fr_const (.inr (.inr (.inr rfl))) ⟨f2, by have := f3 (by omega); simp only at this; simp [topW]; omega⟩⟩) ?_
    rintro ⟨y3, g6, r6⟩ ⟨q1, q2, q3, q4, q5⟩
    have q4 := q4 (by simp [spec_l2Width_m, spec_l1In_m, spec_ResultWidth_m, spec_WidthOk_m])
    refine Run.bind (put_run q1 q2 (by unfold KM; omega) _ ⟨.inr ⟨by simp, by simp⟩, by intro z hz; simp [opsI] at hz <;> (try simp only at *) <;> omega, by simp, fr_load⟩) ?_
    rintro ⟨y4, g7, r7⟩ ⟨e1, e2, e3, e4, e5⟩
    exact fin e1 e2 (q3.trans e3) (by (try simp only at *) <;> omega) (by omega)
  · refine Run.bind (below_run d1 33) ?_
    rintro ⟨y1, r4⟩ ⟨f1, f2, f3⟩
    refine Run.bind (put_run b1 f1 (by unfold KM; omega) _ ⟨.inr ⟨by simp, by simp⟩, by intro z hz; simp [opsI] at hz <;> (try simp only at *) <;> omega, by simp, fr_const (.inr (.inr (.inr rfl))) ⟨f2, by have := f3 (by omega); simp only at this; simp [topW]; omega⟩⟩) ?_
    rintro ⟨y3, g6, r6⟩ ⟨q1, q2, q3, q4, q5⟩
    have q4 := q4 (by simp [spec_l2Width_m, spec_l1In_m, spec_ResultWidth_m, spec_WidthOk_m])
    refine Run.bind (pick_run q1 q2 (by unfold KM; omega) (.inr (.inl rfl))) ?_
    rintro ⟨y5, g8, r8⟩ ⟨a1, a2, a3, a4, a5, a6⟩
    refine Run.bind (put_run a1 a2 (by unfold KM; omega) _ ⟨.inl rfl, by intro z hz; simp [opsI] at hz <;> (try simp only at *) <;> omega, by simp, fr_store⟩) ?_
    rintro ⟨y4, g7, r7⟩ ⟨e1, e2, e3, e4, e5⟩
    exact fin e1 e2 ((q3.trans a3).trans e3) (by (try simp only at *) <;> omega) (by omega)
  · refine Run.bind (pick_run b1 d1 (by unfold KM; omega) c2) ?_
    rintro ⟨y, g3, r3⟩ ⟨e1, e2, e3, e4, e5, e6⟩
    refine Run.bind (put_run e1 e2 (by unfold KM; omega) _ ⟨.inl rfl, by intro z hz; simp [opsI] at hz <;> (try simp only at *) <;> omega, by simp, fr_print⟩) ?_
    rintro ⟨y3, g6, r6⟩ ⟨q1, q2, q3, q4, q5⟩
    exact fin q1 q2 (e3.trans q3) (by (try simp only at *) <;> omega) (by omega)
  · refine Run.bind (pick_run b1 d1 (by unfold KM; omega) c2) ?_
    rintro ⟨y, g3, r3⟩ ⟨e1, e2, e3, e4, e5, e6⟩
    refine Run.bind (put_run e1 e2 (by unfold KM; omega) _ ⟨.inr ⟨by simp, by simp⟩, by intro z hz; simp [opsI] at hz <;> (try simp only at *) <;> omega, by simp, fr_copy c2⟩) ?_
    rintro ⟨y3, g6, r6⟩ ⟨q1, q2, q3, q4, q5⟩
    exact fin q1 q2 (e3.trans q3) (by (try simp only at *) <;> omega) (by omega)
  · refine Run.bind (call_run b1 d1 hp (by unfold KM; omega)) ?_
    rintro ⟨g6, r6⟩ ⟨q1, q2, q3, q4⟩
    exact fin q1 q2 q3 (by (try simp only at *) <;> omega) (by omega)
  · refine Run.bind (pick_run b1 d1 (by unfold KM; omega) c2) ?_
    rintro ⟨y, g3, r3⟩ ⟨e1, e2, e3, e4, e5, e6⟩
    refine Run.bind (pick_run e1 e2 (by unfold KM; omega) c2) ?_
    rintro ⟨y, g4, r4⟩ ⟨f1, f2, f3, f4, f5, f6⟩
    refine Run.bind (below_run f2 17) ?_
    rintro ⟨y1, r5⟩ ⟨a1, a2, a3⟩
    have a3 := a3 (by omega)
    simp only at a1 a2 a3 ⊢
    refine Run.yes (inI_le (by omega) (by omega)) (Run.bind (put_run f1 a1 (by unfold KM; omega) _ ⟨.inr ⟨by simp only; omega, by simp only; omega⟩, by intro z hz; simp only [opsI] at hz; rw [if_pos (.inl ⟨by omega, by omega⟩)] at hz; simp at hz; (try simp only at *); omega, by simp, fr_bin c2 ⟨by omega, by omega⟩⟩) ?_)
    rintro ⟨y3, g6, r6⟩ ⟨q1, q2, q3, q4, q5⟩
    exact fin q1 q2 ((e3.trans f3).trans q3) (by (try simp only at *) <;> omega) (by omega)
theorem tgt_snoc {g' : Gl2G} {b : GBlock} (e : g'.f.blocks = g.f.blocks ++ [b]) (hg : tgt g) (hb : okX (g.f.blocks.length : Int) b.term) : ∀ x ∈ g'.f.blocks, okX ((g'.f.blocks.length : Int) - 1) x.term := by
  intro x hx
  have el : ((g'.f.blocks.length : Int) - 1) = (g.f.blocks.length : Int) := by rw [e]; simp
  rw [el]
  rw [e] at hx
  rcases List.mem_append.1 hx with hx | hx
  · exact hg x hx
  · simp only [List.mem_singleton] at hx
    subst hx
    exact hb
theorem tgt_three {g' : Gl2G} {a b c : GBlock} (e : g'.f.blocks = ((g.f.blocks ++ [a]) ++ [b]) ++ [c]) (hg : tgt g) (ha : okX ((g.f.blocks.length : Int) + 3) a.term) (hb : okX ((g.f.blocks.length : Int) + 3) b.term) (hc : okX ((g.f.blocks.length : Int) + 3) c.term) : tgt g' := by
  intro x hx
  have el : (g'.f.blocks.length : Int) = (g.f.blocks.length : Int) + 3 := by rw [e]; simp
  rw [el]
  rw [e] at hx
  simp only [List.mem_append, List.mem_singleton] at hx
  rcases hx with ((hx | rfl) | rfl) | rfl
  · exact (hg x hx).mono (by omega)
  · exact ha
  · exact hb
  · exact hc
theorem ends_run (h : okG k g) (hr : okRd gr) (hk : k + 10 ≤ KM) : Run (spec_l2G_ends_m g gr rets pars) (fun y => okG (k + 10) y.1 ∧ okRd y.2 ∧ y.1.f.params = g.f.params ∧ 0 < y.1.f.blocks.length ∧ y.1.b.phis = [] ∧ y.1.b.insts = [] ∧ (tgt g → ∀ b ∈ y.1.f.blocks, okX ((y.1.f.blocks.length : Int) - 1) b.term)) := by
  unfold KM at hk
  unfold spec_l2G_ends_m
  refine Run.bind (once_run hr (inI_le (by omega) (by omega))) ?_
  rintro ⟨b, r1⟩ e1
  refine Run.if (fun _ => Run.bind (close_run h e1 (by unfold KM; omega) _ ⟨by intro ht; simp at ht, .inr (.inr (.inr ⟨rfl, rfl, rfl, rfl⟩))⟩) ?_) (fun _ => Run.bind (pick_run h e1 (by unfold KM; omega) h.ret) ?_)
  · rintro ⟨g2, r2⟩ ⟨a1, a2, a5, a4, a6, a7, a8⟩
    exact Run.mk ⟨a1.mono (by omega), a2, a4, by simp only at a5 ⊢; rw [a5]; simp, a6, a8, fun hg => tgt_snoc a5 hg (by constructor <;> simp)⟩
  · rintro ⟨y, g2, r2⟩ ⟨a1, a2, a3, a4, a5, a6⟩
    refine Run.bind (close_run a1 a2 (by unfold KM; omega) _ ⟨fun _ => ⟨a4, a5⟩, .inl ⟨rfl, rfl, rfl⟩⟩) ?_
    rintro ⟨g3, r3⟩ ⟨b1, b2, b5, b4, b6, b7, b8⟩
    exact Run.mk ⟨b1.mono (by omega), b2, b4.trans (congrArg GFunc.params a3.1), by simp only at b5 ⊢; rw [b5]; simp, b6, b8, fun hg => tgt_snoc (by rw [b5, a3.1]) hg (by constructor <;> simp)⟩
theorem okG.put {ids ws : List Int} {k' : Nat} {g' : Gl2G} (h : okG k g) (h' : okG k' g') (hk : k ≤ k') (hn : g.next ≤ g'.next) : okG k' ({ f := g'.f, b := g'.b, next := g'.next, ids := g.ids, ws := g.ws } : Gl2G) :=
  ⟨Nat.le_trans h.ids hk, h.ws, h'.n0, h'.n1, h'.insts, h'.phis, h'.blocks, h'.params, h'.pw, h'.ret, h'.rows, h'.cur, h'.okbs, h.idsIn.mono hn, h'.nx⟩
theorem fork_run (h : okG k g) (hr : okRd gr) (hp : okP rets pars) (hk : k + 1000 ≤ KM) : Run (spec_l2G_fork_m g gr rets pars) (fun y => okG (k + 1000) y.1 ∧ okRd y.2 ∧ y.1.f.params = g.f.params ∧ g.next ≤ y.1.next ∧ (tgt g → tgt y.1)) := by
  unfold KM at hk
  unfold spec_l2G_fork_m
  refine Run.bind (pick_run h hr (by unfold KM; omega) (.inl rfl)) ?_
  rintro ⟨c, g1, r1⟩ ⟨a1, a2, a3, a4, a5, a6⟩
  refine Run.bind (close_run a1 a2 (by unfold KM; omega) _ ⟨fun _ => ⟨a4, a5⟩, .inr (.inr (.inl rfl))⟩) ?_
  rintro ⟨g2, r2⟩ ⟨b1, b2, b3, b4, _, b6, _⟩
  refine Run.bind (below_run b2 3) ?_
  rintro ⟨n1, r3⟩ ⟨c1, c2, c3⟩
  have c3 := c3 (by omega)
  refine Run.bind (some_run b1 c1 hp (by simp only at c3 ⊢; omega) (by unfold KM; omega)) ?_
  rintro ⟨g4, r4⟩ ⟨d1, d2, d3, d4⟩
  refine Run.bind (width_run d2) ?_
  rintro ⟨w, r5⟩ ⟨e1, e2⟩
  refine Run.bind (pick_run d1 e1 (by unfold KM; omega) e2) ?_
  rintro ⟨x6, g6, r6⟩ ⟨f1, f2, f3, f4, f5, f6⟩
  refine Run.bind (pick_run f1 f2 (by unfold KM; omega) (.inr (.inl rfl))) ?_
  rintro ⟨x7, g7, r7⟩ ⟨p1, p2, p3, p4, p5, p6⟩
  refine Run.bind (close_run p1 p2 (by unfold KM; omega) _ ⟨by intro ht; simp at ht, .inr (.inl ⟨rfl, rfl, rfl⟩)⟩) ?_
  rintro ⟨g8, r8⟩ ⟨q1, q2, q3, q4, _, q6, _⟩
  refine Run.bind (below_run q2 3) ?_
  rintro ⟨n2, r9⟩ ⟨s1, s2, s3⟩
  have s3 := s3 (by omega)
  refine Run.bind (some_run (b1.put (ids := []) (ws := []) q1 (by omega) (by (try simp only at *) <;> omega)) s1 hp (by simp only at s3 ⊢; omega) (by unfold KM; omega)) ?_
  rintro ⟨g10, r10⟩ ⟨t1, t2, t3, t4⟩
  refine Run.bind (pick_run t1 t2 (by unfold KM; omega) e2) ?_
  rintro ⟨x11, g11, r11⟩ ⟨u1, u2, u3, u4, u5, u6⟩
  refine Run.bind (pick_run u1 u2 (by unfold KM; omega) (.inr (.inl rfl))) ?_
  rintro ⟨x12, g12, r12⟩ ⟨v1, v2, v3, v4, v5, v6⟩
  refine Run.bind (close_run v1 v2 (by unfold KM; omega) _ ⟨by intro ht; simp at ht, .inr (.inl ⟨rfl, rfl, rfl⟩)⟩) ?_
  rintro ⟨g13, r13⟩ ⟨w1, w2, w3, w4, _, w6, _⟩
  refine Run.bind (phi_run (b1.put (ids := []) (ws := []) w1 (by omega) (by (try simp only at *) <;> omega)) w2 (by unfold KM; omega) _ _ (by intro z hz; simp at hz; (try simp only at *) <;> omega) (by simp) e2) ?_
  rintro ⟨x14, g14, r14⟩ ⟨y1, y2, y3, y4, y5, y6, y7⟩
  refine Run.bind (phi_run y1 y2 (by unfold KM; omega) _ _ (by intro z hz; simp at hz; (try simp only at *) <;> omega) (by simp) (.inr (.inl rfl))) ?_
  rintro ⟨x15, g15, r15⟩ ⟨z1, z2, z3, z4, z5, z6, z7⟩
  refine Run.mk ⟨z1.mono (by omega), z2, ?_, (by (try simp only at *) <;> omega), ?_⟩
  rotate_left
  · intro hg
    simp only at b3 q3 w3 z3 y3
    refine tgt_three (g := g) (by rw [z3, y3, w3, v3.1, u3.1, t3.1, q3, p3.1, f3.1, d3.1, b3, a3.1]) hg ?_ ?_ ?_
    · constructor <;> simp <;> omega
    · constructor <;> simp <;> omega
    · constructor <;> simp <;> omega
  have e1 := congrArg GFunc.params a3.1
  have e2 := congrArg GFunc.params d3.1
  have e3 := congrArg GFunc.params f3.1
  have e4' := congrArg GFunc.params p3.1
  have e5' := congrArg GFunc.params t3.1
  have e6' := congrArg GFunc.params u3.1
  have e7 := congrArg GFunc.params v3.1
  have e8 := congrArg GFunc.params y3
  have e9 := congrArg GFunc.params z3
  simp only at e1 e2 e3 e4' e5' e6' e7 e8 e9 b4 q4 w4 ⊢
  rw [e9, e8, w4, e7, e6', e5', q4, e4', e3, e2, b4, e1]
theorem at_mid (l : List GBlock) (a b c : GBlock) : at_ (((l ++ [a]) ++ [b]) ++ [c]) ((l.length : Int) + 1) = b := by
  have e : ((l.length : Int) + 1) = ((l.length + 1 : Nat) : Int) := by omega
  rw [e, at_nat (by simp)]
  simp [List.getElem_append]
theorem at_set_self {α : Type} [Inhabited α] {xs : List α} {n : Int} (h : 0 ≤ n ∧ n < (xs.length : Int)) (x : α) : at_ (xs.set n.toNat x) n = x := by
  obtain ⟨m, rfl⟩ := Int.eq_ofNat_of_zero_le h.1
  rw [at_nat (by simp; omega)]
  simp
theorem sumz_set {bs : List GBlock} {n : Int} (h : 0 ≤ n ∧ n < (bs.length : Int)) {x : GBlock} (hx : sz x = sz (at_ bs n)) : sumz (bs.set n.toNat x) = sumz bs := by
  obtain ⟨m, rfl⟩ := Int.eq_ofNat_of_zero_le h.1
  have hm : m < bs.length := by omega
  rw [at_nat hm] at hx
  simp only [Int.toNat_natCast, sumz]
  clear h
  induction bs generalizing m with
  | nil => simp at hm
  | cons b bs ih =>
    cases m with
    | zero => simp at hx; simp [hx]
    | succ m =>
      simp only [List.set_cons_succ, List.map_cons, List.sum_cons]
      rw [ih m (by simpa using hm) (by simpa using hx)]
theorem loop_run (h : okG k g) (hr : okRd gr) (hp : okP rets pars) (hk : k + 1000 ≤ KM) : Run (spec_l2G_loop_m g gr rets pars) (fun y => okG (k + 1000) y.1 ∧ okRd y.2 ∧ y.1.f.params = g.f.params ∧ g.next ≤ y.1.next ∧ (tgt g → tgt y.1)) := by
  unfold KM at hk
  unfold spec_l2G_loop_m
  refine Run.bind (below_run hr 5) ?_
  rintro ⟨x1, r1⟩ ⟨a1, av, av2⟩
  have av2 := av2 (by omega)
  refine Run.bind (put_run h a1 (by unfold KM; omega) _ ⟨.inr ⟨by simp, by simp⟩, by intro z hz; simp [opsI] at hz <;> (try simp only at *) <;> omega, by simp, fr_const (.inr (.inl rfl)) ⟨av, by simp only at av2; simp [topW]; omega⟩⟩) ?_
  rintro ⟨x2, g2, r2⟩ ⟨b1, b2, b3, b4, b5⟩
  have b4 := b4 (by simp [spec_l2Width_m, spec_l1In_m, spec_ResultWidth_m, spec_WidthOk_m])
  refine Run.bind (width_run b2) ?_
  rintro ⟨w, r3⟩ ⟨c1, c2⟩
  refine Run.bind (pick_run b1 c1 (by unfold KM; omega) c2) ?_
  rintro ⟨x4, g4, r4⟩ ⟨d1, d2, d3, d4, d5, d6⟩
  refine Run.bind (close_run d1 d2 (by unfold KM; omega) _ ⟨by intro ht; simp at ht, .inr (.inl ⟨rfl, rfl, rfl⟩)⟩) ?_
  rintro ⟨g5, r5⟩ ⟨e1, e2, e3, e4, e5, e6, _⟩
  refine Run.bind (phi_run e1 e2 (by unfold KM; omega) _ _ (by intro z hz; simp at hz; (try simp only at *) <;> omega) (by simp) (.inr (.inl rfl))) ?_
  rintro ⟨x6, g6, r6⟩ ⟨f1, f2, f3, f4, f5, f6, f7⟩
  refine Run.bind (phi_run f1 f2 (by unfold KM; omega) _ _ (by intro z hz; simp at hz; (try simp only at *) <;> omega) (by simp) c2) ?_
  rintro ⟨x7, g7, r7⟩ ⟨p1, p2, p3, p4, p5, p6, p7⟩
  refine Run.bind (put_run p1 p2 (by unfold KM; omega) _ ⟨.inr ⟨by simp, by simp⟩, by intro z hz; simp [opsI] at hz <;> (try simp only at *) <;> omega, by simp, fr_const (.inr (.inl rfl)) (by decide)⟩) ?_
  rintro ⟨x8, g8, r8⟩ ⟨q1, q2, q3, q4, q5⟩
  have q4 := q4 (by simp [spec_l2Width_m, spec_l1In_m, spec_ResultWidth_m, spec_WidthOk_m])
  refine Run.bind (put_run q1 q2 (by unfold KM; omega) _ ⟨.inr ⟨by simp, by simp⟩, by intro z hz; simp [opsI] at hz <;> (try simp only at *) <;> omega, by simp, fr_bin (.inr (.inl rfl)) (by decide)⟩) ?_
  rintro ⟨x9, g9, r9⟩ ⟨s1, s2, s3, s4, s5⟩
  have s4 := s4 (by simp [spec_l2Width_m, spec_l1In_m, spec_ResultWidth_m, spec_WidthOk_m])
  refine Run.bind (close_run s1 s2 (by unfold KM; omega) _ ⟨fun _ => s4, .inr (.inr (.inl rfl))⟩) ?_
  rintro ⟨g10, r10⟩ ⟨t1, t2, t3, t4, t5, t6, _⟩
  refine Run.bind (put_run t1 t2 (by unfold KM; omega) _ ⟨.inr ⟨by simp, by simp⟩, by intro z hz; simp [opsI] at hz <;> (try simp only at *) <;> omega, by simp, fr_const (.inr (.inl rfl)) (by decide)⟩) ?_
  rintro ⟨x11, g11, r11⟩ ⟨u1, u2, u3, u4, u5⟩
  have u4 := u4 (by simp [spec_l2Width_m, spec_l1In_m, spec_ResultWidth_m, spec_WidthOk_m])
  refine Run.bind (put_run u1 u2 (by unfold KM; omega) _ ⟨.inr ⟨by simp, by simp⟩, by intro z hz; simp [opsI] at hz <;> (try simp only at *) <;> omega, by simp, fr_bin (.inr (.inl rfl)) (by decide)⟩) ?_
  rintro ⟨x12, g12, r12⟩ ⟨v1, v2, v3, v4, v5⟩
  have v4 := v4 (by simp [spec_l2Width_m, spec_l1In_m, spec_ResultWidth_m, spec_WidthOk_m])
  refine Run.bind (below_run v2 3) ?_
  rintro ⟨n13, r13⟩ ⟨w1, w2, w3⟩
  have w3 := w3 (by omega)
  refine Run.bind (some_run v1 w1 hp (by simp only at w3 ⊢; omega) (by unfold KM; omega)) ?_
  rintro ⟨g14, r14⟩ ⟨y1, y2, y3, y4⟩
  refine Run.bind (pick_run y1 y2 (by unfold KM; omega) c2) ?_
  rintro ⟨x15, g15, r15⟩ ⟨z1, z2, z3, z4, z5, z6⟩
  refine Run.bind (R := fun (y : Gl2G × Gl1Rd × Int) => okG (k + 500) y.1 ∧ okRd y.2.1 ∧ Sm g15 y.1 ∧ 0 ≤ y.2.2 ∧ y.2.2 < y.1.next ∧ g15.next ≤ y.1.next) (Run.if (fun _ => Run.bind (put_run z1 z2 (by unfold KM; omega) _ ⟨.inr ⟨by simp, by simp⟩, by intro z hz; simp [opsI] at hz <;> (try simp only at *) <;> omega, by simp, fr_bin c2 (by decide)⟩) ?_) (fun _ => Run.mk ⟨z1.mono (by omega), z2, Sm.refl _, z4, z5, Int.le_refl _⟩)) ?_
  · rintro ⟨x16, g16, r16⟩ ⟨j1, j2, j3, j4, j5⟩
    have j4 := j4 (by rcases c2 with h | h | h | h <;> simp only at h <;> simp [h, spec_l2Width_m, spec_l1In_m, spec_ResultWidth_m, spec_WidthOk_m])
    exact Run.mk ⟨j1.mono (by omega), j2, j3, j4.1, j4.2, j5⟩
  rintro ⟨g16, r16, x16⟩ ⟨j1, j2, j3, j4, j5, j6⟩
  refine Run.bind (close_run j1 j2 (by unfold KM; omega) _ ⟨by intro ht; simp at ht, .inr (.inl ⟨rfl, rfl, rfl⟩)⟩) ?_
  rintro ⟨g17, r17⟩ ⟨k1, k2, k3, k4, k5, k6, _⟩
  simp only at *
  have hb10 : g10.f.blocks = (g.f.blocks ++ [⟨g4.b.phis, g4.b.insts, { kind := 2, a := 0, x := (g.f.blocks.length : Int) + 1, y := 0 }⟩]) ++ [⟨[⟨8, [x2, 0]⟩, ⟨w, [x4, 0]⟩], g9.b.insts, { kind := 3, a := x9, x := (g.f.blocks.length : Int) + 2, y := (g.f.blocks.length : Int) + 3 }⟩] := by
    rw [t3, s3.1, q3.1, p3, f3, e3, d3.1, b3.1, s3.2, q3.2, p4, f4, e5]
    rfl
  have hb17 : g17.f.blocks = (((g.f.blocks ++ [⟨g4.b.phis, g4.b.insts, { kind := 2, a := 0, x := (g.f.blocks.length : Int) + 1, y := 0 }⟩]) ++ [⟨[⟨8, [x2, 0]⟩, ⟨w, [x4, 0]⟩], g9.b.insts, { kind := 3, a := x9, x := (g.f.blocks.length : Int) + 2, y := (g.f.blocks.length : Int) + 3 }⟩]) ++ [⟨g16.b.phis, g16.b.insts, { kind := 2, a := 0, x := (g.f.blocks.length : Int) + 1, y := 0 }⟩]) := by
    rw [k3, j3.1, z3.1, y3.1, v3.1, u3.1, hb10]
  have hat : at_ g17.f.blocks ((g.f.blocks.length : Int) + 1) = ⟨[⟨8, [x2, 0]⟩, ⟨w, [x4, 0]⟩], g9.b.insts, { kind := 3, a := x9, x := (g.f.blocks.length : Int) + 2, y := (g.f.blocks.length : Int) + 3 }⟩ := by rw [hb17]; exact at_mid _ _ _ _
  have hlt : 0 ≤ (g.f.blocks.length : Int) + 1 ∧ (g.f.blocks.length : Int) + 1 < (g17.f.blocks.length : Int) := by rw [hb17]; simp; omega
  have hpar : g17.f.params = g.f.params := by
    rw [k4, j3.1, z3.1, y3.1, v3.1, u3.1, t4, s3.1, q3.1, p3, f3, e4, d3.1, b3.1]
  have hi9 := s1.insts
  have hid := t1.ids
  have hws := t1.ws
  have hidn := t1.idsIn
  obtain ⟨h1, h2, h3, h4, h5, h6, h7, h8, h9, h10, h11, h12, h13, h14, h15⟩ := k1
  have hold := h13 _ (at_mem hlt)
  have hw8 : isW 8 := .inr (.inl rfl)
  rw [hat] at hold
  simp only [hat]
  refine Run.yes hlt (Run.yes (by simp) (Run.yes (by simp [at_]) (Run.yes (by simpa using hlt) ?_)))
  simp only [at_set_self hlt]
  refine Run.yes (by simp) (Run.yes (by simp [at_]) (Run.mk ⟨?_, k2, ?_, ?_, ?_⟩))
  rotate_left
  · exact hpar
  · simp only
    omega
  · intro hg
    have h17 : tgt g17 := by
      refine tgt_three (g := g) hb17 hg ?_ ?_ ?_
      · constructor <;> simp <;> omega
      · constructor <;> simp <;> omega
      · constructor <;> simp <;> omega
    have hx := h17 _ (at_mem hlt)
    rw [hat] at hx
    intro b hb
    simp only [List.length_set] at hb ⊢
    rcases List.mem_or_eq_of_mem_set hb with hb | rfl
    · rcases List.mem_or_eq_of_mem_set hb with hb | rfl
      · exact h17 b hb
      · exact hx
    · exact hx
  refine ⟨by simp only; omega, hws, by simp only; omega, by simp only; omega, by simp only; omega, by simp only; omega, by simp; omega, by simp only; omega, h9, h10, fun b hb => ?_, h12, fun b hb => ?_, hidn.mono (by simp only; omega), ?_⟩
  · rcases List.mem_or_eq_of_mem_set hb with hb | rfl
    · rcases List.mem_or_eq_of_mem_set hb with hb | rfl
      · exact ⟨by have := (h11 b hb).1; omega, by have := (h11 b hb).2; omega⟩
      · exact ⟨by simp, by simp only; omega⟩
    · exact ⟨by simp, by simp only; omega⟩
  · rcases List.mem_or_eq_of_mem_set hb with hb | rfl
    · rcases List.mem_or_eq_of_mem_set hb with hb | rfl
      · exact h13 b hb
      · refine ⟨⟨?_, hold.1.is⟩, hold.2⟩
        simp [okPn, inN, at_, c2, hw8]
        omega
    · refine ⟨⟨?_, hold.1.is⟩, hold.2⟩
      simp [okPn, inN, at_, c2, hw8]
      omega
  · rw [List.set_set, sumz_set hlt (by rw [hat]; simp [sz])]
    exact h15
end
/-- A drawn function is small. -/
structure okFn (f : GFunc) : Prop where
  okbs : ∀ b ∈ f.blocks, okBl (cnt f) b
  params : f.params.length ≤ 4
  pw : ∀ w ∈ f.params, isW w
  ret : isW f.ret
  blocks : f.blocks.length ≤ 100000
  ne : 0 < f.blocks.length
  rows : ∀ b ∈ f.blocks, b.phis.length ≤ 100000 ∧ b.insts.length ≤ 100000
  tg : ∀ b ∈ f.blocks, okX ((f.blocks.length : Int) - 1) b.term
theorem tgt_f {g g' : Gl2G} (e : g'.f = g.f) (h : tgt g) : tgt g' := by
  unfold tgt
  rw [e]
  exact h
theorem fn_run {r : Gl1Rd} {rets : List Int} {pars : List (List Int)} (hr : okRd r) (hp : okP rets pars) : Run (spec_l1Rd_fn_m r rets pars) (fun y => okFn y.1 ∧ okRd y.2) := by
  have hL := LIM_eq
  unfold spec_l1Rd_fn_m
  refine Run.bind (width_run hr) ?_
  rintro ⟨w, r1⟩ ⟨a1, a2⟩
  refine Run.bind (below_run a1 3) ?_
  rintro ⟨n, r2⟩ ⟨b1, b2, b3⟩
  have b3 := b3 (by omega)
  simp only at a1 a2 b1 b2 b3 ⊢
  refine Run.bind (R := fun y => okRd y.1 ∧ okG 4 y.2 ∧ y.2.f.blocks = []) (Run.loop (fun s => okRd s.1 ∧ okG (2 * (n - s.2.2).toNat) s.2.1 ∧ 0 ≤ s.2.2 ∧ s.2.2 ≤ n ∧ s.2.1.f.blocks = []) (fun s => s.2.2.toNat) ⟨b1, ?_, b2, Int.le_refl _, rfl⟩ ?_) ?_
  · exact ⟨by simp, rfl, Int.le_refl _, by simp only; omega, by simp, by simp, by simp, by simp, by simp, a2, by simp, ⟨by simp, by simp⟩, by simp, by simp [inN], by simp [sumz]⟩
  · rintro ⟨ra, ga, i⟩ ⟨c1, c2, c3, c4, c5⟩
    simp only at c1 c2 c3 c4 c5 ⊢
    refine Run.if (fun hi => ?_) (fun hi => Run.out ⟨c1, c2.mono (by omega), c5⟩)
    have hi : i > 0 := by simpa using hi
    refine Run.bind (width_run c1) ?_
    rintro ⟨v, rb⟩ ⟨d1, d2⟩
    have hcp := c2.params
    refine Run.yes (by simp only [List.length_singleton]; omega) (Run.bind (add_run (k := 2 * (n - i).toNat + 1) ?_ (by unfold KM; omega) _) ?_)
    · obtain ⟨h1, h2, h3, h4, h5, h6, h7, h8, h9, h10, h11, h12, h13, h14, h15⟩ := c2
      refine ⟨by simp only; omega, h2, by simp only; omega, by simp only; omega, by simp only; omega, by simp only; omega, by simp only; omega, by simp; omega, fun x hx => ?_, h10, fun b hb => ⟨by have := (h11 b hb).1; omega, by have := (h11 b hb).2; omega⟩, h12.mono (by simp only; omega), fun b hb => (h13 b hb).mono (by simp only; omega), h14, by simp; omega⟩
      rcases List.mem_append.1 hx with hx | hx
      · exact h9 x hx
      · simp only [List.mem_singleton] at hx
        subst hx
        exact d2
    · rintro ⟨x, gb, rc⟩ ⟨e1, rfl, e3, _, _, _⟩
      exact Run.yes (inI_le (by omega) (by omega)) (Run.nx ⟨⟨d1, e1.mono (by simp only; omega), by simp only; omega, by simp only; omega, (congrArg GFunc.blocks e3).trans c5⟩, by simp only; omega⟩)
  rintro ⟨r3, g3⟩ ⟨c1, c2, cb⟩
  have ct : tgt g3 := fun b hb => by simp only at cb; rw [cb] at hb; cases hb
  have hpl := c2.params
  have hpw := c2.pw
  simp only at hpl hpw c1 c2 ⊢
  refine Run.bind (below_run c1 5) ?_
  rintro ⟨n4, r4⟩ ⟨d1, d2, d3⟩
  have d3 := d3 (by omega)
  simp only at d1 d2 d3 ⊢
  refine Run.yes (inI_le (by omega) (by omega)) (Run.bind (some_run c2 d1 hp (by omega) (by unfold KM; omega)) ?_)
  rintro ⟨g5, r5⟩ ⟨e1, e2, e3, _⟩
  have q5 := congrArg GFunc.params e3.1
  have t5 : tgt g5 := tgt_f e3.1 ct
  simp only at q5
  refine Run.bind (R := fun y => okG 5000 y.2 ∧ okRd y.1 ∧ y.2.f.params = g3.f.params ∧ tgt y.2) (Run.bind (below_run e2 4) ?_) ?_
  · rintro ⟨n6, r6⟩ ⟨f1, f2, f3⟩
    refine Run.if (fun _ => Run.bind (fork_run e1 f1 hp (by unfold KM; omega)) ?_) (fun _ => Run.if (fun _ => Run.bind (loop_run e1 f1 hp (by unfold KM; omega)) ?_) (fun _ => Run.if (fun _ => Run.bind (fork_run e1 f1 hp (by unfold KM; omega)) ?_) (fun _ => Run.mk ⟨e1.mono (by omega), f1, q5, t5⟩)))
    · rintro ⟨g7, r7⟩ ⟨p1, p2, p3, _, p5⟩
      exact Run.mk ⟨p1.mono (by omega), p2, p3.trans q5, p5 t5⟩
    · rintro ⟨g7, r7⟩ ⟨p1, p2, p3, _, p5⟩
      exact Run.mk ⟨p1.mono (by omega), p2, p3.trans q5, p5 t5⟩
    · rintro ⟨g7, r7⟩ ⟨p1, p2, p3, _, p5⟩
      refine Run.bind (below_run p2 3) ?_
      rintro ⟨n8, r8⟩ ⟨s1, s2, s3⟩
      have s3 := s3 (by omega)
      refine Run.bind (some_run p1 s1 hp (by simp only at s3 ⊢; omega) (by unfold KM; omega)) ?_
      rintro ⟨g9, r9⟩ ⟨t1, t2, t3, _⟩
      refine Run.bind (loop_run t1 t2 hp (by unfold KM; omega)) ?_
      rintro ⟨g10, r10⟩ ⟨u1, u2, u3, _, u5⟩
      exact Run.mk ⟨u1.mono (by omega), u2, u3.trans ((congrArg GFunc.params t3.1).trans (p3.trans q5)), u5 (tgt_f t3.1 (p5 t5))⟩
  rintro ⟨r11, g11⟩ ⟨p1, p2, p3, p4⟩
  refine Run.bind (below_run p2 3) ?_
  rintro ⟨n12, r12⟩ ⟨s1, s2, s3⟩
  have s3 := s3 (by omega)
  refine Run.bind (some_run p1 s1 hp (by simp only at s3 ⊢; omega) (by unfold KM; omega)) ?_
  rintro ⟨g13, r13⟩ ⟨t1, t2, t3, _⟩
  refine Run.bind (ends_run t1 t2 (by unfold KM; omega)) ?_
  rintro ⟨g14, r14⟩ ⟨u1, u2, u3, u4, u5, u6, u7⟩
  have q : g14.f.params = g3.f.params := u3.trans ((congrArg GFunc.params t3.1).trans p3)
  have hc : g14.next = (cnt g14.f : Int) := by
    have := u1.nx
    simp only at u5 u6 this
    rw [u5, u6] at this
    simp only [List.length_nil] at this
    unfold cnt
    omega
  have hb : ∀ b ∈ g14.f.blocks, okBl (cnt g14.f) b := fun b hb => (u1.okbs b hb).mono (by simp only; omega)
  refine Run.mk ⟨⟨hb, ?_, ?_, u1.ret, Nat.le_trans u1.blocks (by omega), u4, fun b hb => ⟨Nat.le_trans (u1.rows b hb).1 (by omega), Nat.le_trans (u1.rows b hb).2 (by omega)⟩, u7 (tgt_f t3.1 p4)⟩, u2⟩
  · simp only
    rw [q]
    exact hpl
  · simp only
    rw [q]
    exact hpw
end Go.Proofs.YtghdhjgoicnbcaaGreat.AM

namespace Go.Proofs.YtghdhjgoicnbcaaGreat.AM
open Go
set_option linter.unusedSimpArgs false
set_option linter.unusedVariables false
def pre (f : GFunc) (k : Nat) : Nat := f.params.length + sumz (f.blocks.take k)
theorem pre_succ {f : GFunc} {k : Nat} (h : k < f.blocks.length) : pre f (k + 1) = pre f k + sz (at_ f.blocks (k : Int)) := by
  unfold pre sumz
  rw [at_nat h, List.take_add_one, List.getElem?_eq_getElem h, List.map_append, List.sum_append]
  simp only [Option.toList, List.map_cons, List.map_nil, List.sum_cons, List.sum_nil]
  omega
theorem sumz_le {bs : List GBlock} {n : Nat} (h : ∀ b ∈ bs, sz b ≤ n) : sumz bs ≤ bs.length * n := by
  induction bs with
  | nil => simp [sumz]
  | cons b bs ih =>
    have h1 := ih (fun c hc => h c (List.mem_cons_of_mem _ hc))
    have h2 := h b (List.mem_cons_self ..)
    unfold sumz at h1 ⊢
    simp only [List.map_cons, List.sum_cons, List.length_cons, Nat.add_mul]
    omega
theorem okFn.szle {f : GFunc} (h : okFn f) : ∀ b ∈ f.blocks, sz b ≤ 200000 := fun b hb => by
  have := h.rows b hb
  unfold sz
  omega
theorem okFn.pre_le {f : GFunc} (h : okFn f) (k : Nat) : pre f k ≤ 100000000000 := by
  have h1 := sumz_le (bs := f.blocks.take k) (n := 200000) (fun b hb => h.szle b (List.mem_of_mem_take hb))
  have h2 := h.blocks
  have h3 := h.params
  have h4 : (f.blocks.take k).length ≤ 100000 := by rw [List.length_take]; omega
  have h5 : (f.blocks.take k).length * 200000 ≤ 100000 * 200000 := Nat.mul_le_mul_right _ h4
  unfold pre
  omega
theorem pre_all (f : GFunc) : pre f f.blocks.length = cnt f := by
  unfold pre cnt
  rw [List.take_length]
theorem okFn.cnt_le {f : GFunc} (h : okFn f) : cnt f ≤ 100000000000 := by rw [← pre_all]; exact h.pre_le _
theorem spec_count {f : GFunc} (h : okFn f) : spec_CountOf_m f = some (cnt f : Int) := by
  unfold spec_CountOf_m
  generalize hB : loopO _ _ = L
  have hb := h.blocks
  rw [loop_cnt hB (fun k => ((pre f k : Int), (k : Int))) f.blocks.length (cnt f : Int) ?_ ?_ ?_]
  · rfl
  · simp [pre, sumz]
  · intro k hk
    have h0 : 0 ≤ (k : Int) ∧ (k : Int) < (f.blocks.length : Int) := by omega
    have h1 := h.rows _ (at_mem h0)
    have h2 := h.pre_le k
    have e : ((at_ f.blocks (k : Int)).phis.length : Int) + ((at_ f.blocks (k : Int)).insts.length : Int) = (sz (at_ f.blocks (k : Int)) : Int) := by simp [sz]
    have h3 := h.szle _ (at_mem h0)
    simp only
    rw [if_pos (by simp; omega), if_pos h0, if_pos h0, if_pos (inI_le (by omega) (by omega)), e, wrap_in (n := (sz _ : Int)) (by omega) (by omega), wrap_in (by omega) (by omega), pre_succ hk]
    simp
  · simp only
    rw [if_neg (by simp), pre_all]
theorem impl_count {f : GFunc} (h : okFn f) : impl_CountOf_m f = some (cnt f : Int) := by
  unfold impl_CountOf_m
  generalize hB : loopO _ _ = L
  have hb := h.blocks
  rw [loop_cnt hB (fun k => ((k : Int), (pre f k : Int))) f.blocks.length (cnt f : Int) ?_ ?_ ?_]
  · rfl
  · simp [pre, sumz]
  · intro k hk
    have h0 : 0 ≤ (k : Int) ∧ (k : Int) < (f.blocks.length : Int) := by omega
    have h1 := h.rows _ (at_mem h0)
    have h2 := h.pre_le k
    have e : ((at_ f.blocks (k : Int)).phis.length : Int) + ((at_ f.blocks (k : Int)).insts.length : Int) = (sz (at_ f.blocks (k : Int)) : Int) := by simp [sz]
    have h3 := h.szle _ (at_mem h0)
    simp only
    rw [if_pos (by simp; omega), if_pos h0, e, if_pos (inI_le (by omega) (by omega)), if_pos (inI_le (by omega) (by omega)), pre_succ hk]
    simp
  · simp only
    rw [if_neg (by simp), pre_all]
/-- A function of a drawn module. -/
structure okF (f : GFunc) : Prop where
  ok : okFn f
  nb : f.blocks.length ≤ 10
  nv : cnt f ≤ 60
theorem okF_small : okF { params := ([] : List Int), ret := 8, blocks := [({ phis := ([] : List GPhi), insts := [({ op_ := 21, w := 8, a := 0, b := 0, c := 0, imm := 7, args := ([] : List Int) } : GInst)], term := (({ kind := 1, a := 0, x := 0, y := 0 } : GTerm)) } : GBlock)] } := by
  refine ⟨⟨?_, by simp, by simp, .inr (.inl rfl), by simp, by simp, by simp, ?_⟩, by simp, by simp [cnt, sumz, sz]⟩
  · intro b hb
    simp only [List.mem_singleton] at hb
    subst hb
    refine ⟨⟨by simp, fun i hi => ?_⟩, fun _ => by simp [cnt, sumz, sz], .inl ⟨rfl, rfl, rfl⟩⟩
    simp only [List.mem_singleton] at hi
    subst hi
    exact ⟨.inr ⟨by simp, by simp⟩, by simp [inN, opsI], by simp, fr_const (.inr (.inl rfl)) (by decide)⟩
  · intro b hb
    simp only [List.mem_singleton] at hb
    subst hb
    constructor <;> simp
theorem module_run {r : Gl1Rd} (hr : okRd r) : Run (spec_l1Rd_module_m r) (fun y => okRd y.2 ∧ 0 < y.1.funcs.length ∧ y.1.funcs.length ≤ 2 ∧ ∀ f ∈ y.1.funcs, okF f) := by
  have hL := LIM_eq
  unfold spec_l1Rd_module_m
  refine Run.bind (below_run hr 2) ?_
  rintro ⟨n, r1⟩ ⟨a1, a2, a3⟩
  have a3 := a3 (by omega)
  simp only at a1 a2 a3 ⊢
  refine Run.yes (inI_le (by omega) (by omega)) (Run.bind (R := fun y => okRd y.1 ∧ 0 < y.2.length ∧ y.2.length ≤ 2 ∧ ∀ f ∈ y.2, okF f) (Run.loop (fun s => okRd s.1 ∧ ((s.2.1.length : Int) + s.2.2.2.2 = 1 + n) ∧ 0 ≤ s.2.2.2.2 ∧ s.2.2.1.length = s.2.1.length ∧ okP s.2.2.1 s.2.2.2.1 ∧ ∀ f ∈ s.2.1, okF f) (fun s => s.2.2.2.2.toNat) ⟨a1, by simp, by simp only; omega, rfl, ⟨rfl, by simp, by simp, by simp⟩, by simp⟩ ?_) ?_)
  · rintro ⟨ra, fs, rets, pars, i⟩ ⟨b1, b2, b3, b4, b5, b6⟩
    simp only at b1 b2 b3 b4 b5 b6 ⊢
    refine Run.if (fun hi => ?_) (fun hi => Run.out ⟨b1, ?_, ?_, b6⟩)
    · have hi : i > 0 := by simpa using hi
      refine Run.bind (fn_run b1 b5) ?_
      rintro ⟨f, rb⟩ ⟨c1, c2⟩
      simp only at c1 c2 ⊢
      refine Run.bind (R := okF) (Run.bind (R := fun b => b = false → okF f) (Run.bind (R := fun x => x = (cnt f : Int)) ⟨_, spec_count c1, rfl⟩ ?_) ?_) ?_
      · rintro x rfl
        refine Run.if (fun _ => Run.mk (fun h => by cases h)) (fun hx => Run.mk (fun h => ?_))
        have hx : ¬ (cnt f : Int) > 60 := by simpa using hx
        have h : ¬ (f.blocks.length : Int) > 10 := by simpa using h
        exact ⟨c1, by omega, by omega⟩
      · intro b hb
        refine Run.if (fun _ => Run.mk okF_small) (fun h => Run.mk (hb (by simpa using h)))
      · intro g hg
        have hp := b5.len
        refine Run.yes (by simp only [List.length_singleton]; omega) (Run.yes (by simp only [List.length_singleton]; omega) (Run.yes (by simp only [List.length_singleton]; omega) (Run.yes (inI_le (by omega) (by omega)) (Run.nx ⟨⟨c2, by simp; omega, by simp only; omega, by simp; omega, ⟨by simp; omega, by simp; omega, ?_, ?_⟩, ?_⟩, by simp only; omega⟩))))
        · intro w hw
          rcases List.mem_append.1 hw with hw | hw
          · exact b5.rw_ w hw
          · simp only [List.mem_singleton] at hw
            subst hw
            exact hg.ok.ret
        · intro w hw
          rcases List.mem_append.1 hw with hw | hw
          · exact b5.rows w hw
          · simp only [List.mem_singleton] at hw
            subst hw
            exact ⟨hg.ok.params, hg.ok.pw⟩
        · intro w hw
          rcases List.mem_append.1 hw with hw | hw
          · exact b6 w hw
          · simp only [List.mem_singleton] at hw
            subst hw
            exact hg
    · have hi : ¬ i > 0 := by simpa using hi
      simp only; omega
    · have hi : ¬ i > 0 := by simpa using hi
      simp only; omega
  · rintro ⟨r2, fs⟩ ⟨b1, b2, b3, b4⟩
    exact Run.mk ⟨b1, b2, b3, b4⟩
end Go.Proofs.YtghdhjgoicnbcaaGreat.AM

namespace Go.Proofs.YtghdhjgoicnbcaaGreat.AM
open Go
set_option linter.unusedSimpArgs false
set_option linter.unusedVariables false
theorem wrap_le (k : Int) : IntKind.i64.wrap k ≤ 9223372036854775807 := by
  have h1 := Int.emod_lt_of_pos k (show (0 : Int) < 18446744073709551616 by omega)
  have e : IntKind.i64.wrap k = if (true && decide (k % 18446744073709551616 ≥ 9223372036854775808)) = true then k % 18446744073709551616 - 18446744073709551616 else k % 18446744073709551616 := rfl
  rw [e]
  by_cases h : k % 18446744073709551616 ≥ 9223372036854775808
  · rw [if_pos (by simpa using h)]; omega
  · rw [if_neg (by simpa using h)]; omega
theorem near_le {r : Gl1Rd} {low high : Int} {y : Int × Gl1Rd} (h : spec_l1Rd_near_m r low high = some y) (h1 : low ≤ 9223372036854775807) (h2 : high ≤ 9223372036854775807) : y.1 ≤ 9223372036854775807 := by
  unfold spec_l1Rd_near_m at h
  cases e : spec_l1Rd_below_m r 8 with
  | none => rw [e] at h; cases h
  | some x =>
    rw [e, obs] at h
    split at h
    · cases h; exact h1
    · split at h
      · cases h; exact h2
      · split at h
        · cases h; exact h1
        · cases e2 : spec_l1Rd_word_m x.2 with
          | none => rw [e2] at h; cases h
          | some w =>
            rw [e2, obs] at h
            split at h
            · split at h
              · cases h; exact wrap_le _
              · cases h
            · cases h
theorem off_le {r : Gl1Rd} {low high : Int} {y : Int × Gl1Rd} (h : spec_l1Rd_off_m r low high = some y) (h1 : low ≤ 9223372036854775807) (h2 : high ≤ 9223372036854775806) : y.1 ≤ 9223372036854775807 := by
  unfold spec_l1Rd_off_m at h
  cases e : spec_l1Rd_once_m r 24 with
  | none => rw [e] at h; cases h
  | some x =>
    rw [e, obs] at h
    split at h
    · split at h
      · split at h
        · cases e2 : spec_l1Rd_below_m x.2 4 with
          | none => rw [e2] at h; cases h
          | some w =>
            rw [e2, obs] at h
            split at h
            · rename_i hw
              have hm := at_mem hw
              cases h
              simp only [List.mem_cons, List.not_mem_nil, or_false] at hm
              simp only
              omega
            · cases h
        · cases h
      · cases h
    · cases e2 : spec_l1Rd_near_m x.2 low high with
      | none => rw [e2] at h; cases h
      | some w =>
        rw [e2, obs] at h
        cases h
        exact near_le e2 h1 (by omega)
theorem off_run' {r : Gl1Rd} (h : okRd r) {low high : Int} (hl : -1000000 ≤ low) (hlh : low ≤ high) (hh : high ≤ 1000000) : Run (spec_l1Rd_off_m r low high) (fun y => okRd y.2 ∧ y.1 ≤ 9223372036854775807) := by
  obtain ⟨y, e, hy⟩ := off_run h (low := low) (high := high) (inI_le (by omega) (by omega)) (inI_le (by omega) (by omega)) (fun _ => by
    rw [wrap_in (by omega) (by omega)]
    refine ⟨inI_le (by omega) (by omega), ?_⟩
    have hk : IntKind.u64.wrap (high - low + 1) = high - low + 1 := IntWalk.u64_in _ (by omega)
    omega)
  exact ⟨y, e, hy, off_le e (by omega) (by omega)⟩
theorem drawType_run {code : List Int} (hl : code.length ≤ 140737488355328) (hb : ∀ x ∈ code, 0 ≤ x ∧ x ≤ 255) : Run (spec_DrawTypeOf_m code) (fun y => okF y.1 ∧ y.2 ≤ 9223372036854775807) := by
  unfold spec_DrawTypeOf_m
  refine Run.bind (module_run (open_ok hl hb)) ?_
  rintro ⟨m, r⟩ ⟨h1, h2, h3, h4⟩
  simp only at h1 h2 h3 h4 ⊢
  have h0 : (0 : Int) ≤ 0 ∧ 0 < (m.funcs.length : Int) := by omega
  refine Run.yes h0 (Run.bind (R := fun y => y ≤ 9223372036854775807) (Run.bind (off_run' h1 (by omega) (by omega) (by omega)) (fun y hy => Run.mk hy.2)) (fun y hy => Run.mk ⟨h4 _ (at_mem h0), hy⟩))
end Go.Proofs.YtghdhjgoicnbcaaGreat.AM

namespace Go.Proofs.YtghdhjgoicnbcaaGreat.AM
open Go
set_option linter.unusedSimpArgs false
set_option linter.unusedVariables false
theorem flat_len {α β : Type} {xs : List α} {f : α → List β} {n : Nat} (h : ∀ x ∈ xs, (f x).length ≤ n) : (xs.flatMap f).length ≤ xs.length * n := by
  induction xs with
  | nil => simp
  | cons x xs ih =>
    have h1 := ih (fun y hy => h y (List.mem_cons_of_mem _ hy))
    have h2 := h x (List.mem_cons_self ..)
    simp only [List.flatMap_cons, List.length_append, List.length_cons, Nat.add_mul]
    omega
theorem flat_take_len {α β : Type} {xs : List α} {f : α → List β} {n m : Nat} (h : ∀ x ∈ xs, (f x).length ≤ n) (hm : xs.length ≤ m) (k : Nat) : ((xs.take k).flatMap f).length ≤ m * n := by
  refine Nat.le_trans (flat_len (n := n) fun x hx => h x (List.mem_of_mem_take hx)) (Nat.mul_le_mul_right _ ?_)
  rw [List.length_take]
  omega
theorem ops_len {i : GInst} (h : i.args.length ≤ 10) : (opsI i).length ≤ 10 := by
  unfold opsI
  split
  · simp
  · split
    · simp
    · split
      · simp
      · split
        · exact h
        · simp
def endL (t : GTerm) : List Int := if t.kind = 1 ∨ t.kind = 3 then [t.a] else []
def namedB (b : GBlock) : List Int := b.phis.flatMap (·.ins) ++ b.insts.flatMap opsI ++ endL b.term
theorem end_len (t : GTerm) : (endL t).length ≤ 1 := by
  unfold endL
  split <;> simp
/-- A block that is small. -/
structure smB (b : GBlock) : Prop where
  np : b.phis.length ≤ 60
  ni : b.insts.length ≤ 60
  ps : ∀ p ∈ b.phis, p.ins.length ≤ 10
  is : ∀ i ∈ b.insts, i.args.length ≤ 10
theorem smB.nm {b : GBlock} (h : smB b) : (namedB b).length ≤ 1201 := by
  have h1 := flat_take_len (f := fun p : GPhi => p.ins) h.ps h.np b.phis.length
  have h2 := flat_take_len (f := opsI) (fun i hi => ops_len (h.is i hi)) h.ni b.insts.length
  rw [List.take_length] at h1 h2
  have h3 := end_len b.term
  simp only [namedB, List.length_append]
  omega
def all (f : GFunc) : List Int := f.blocks.flatMap namedB
/-- A function that is small. -/
structure smF (f : GFunc) : Prop where
  nb : f.blocks.length ≤ 10
  bs : ∀ b ∈ f.blocks, smB b
theorem smF.len {f : GFunc} (h : smF f) (k : Nat) : ((f.blocks.take k).flatMap namedB).length ≤ 10 * 1201 := flat_take_len (fun b hb => (h.bs b hb).nm) h.nb k
theorem smF.cnt {f : GFunc} (h : smF f) (k : Nat) (id : Int) : ((f.blocks.take k).flatMap namedB).count id ≤ 10 * 1201 := Nat.le_trans List.count_le_length (h.len k)
end Go.Proofs.YtghdhjgoicnbcaaGreat.AM

namespace Go.Proofs.YtghdhjgoicnbcaaGreat.AM
open Go
set_option linter.unusedSimpArgs false
set_option linter.unusedVariables false
def pl : List GBlock → Nat → Nat → Option (Nat × Nat)
  | [], _, _ => none
  | x :: xs, b, n => if n < sz x then some (b, n) else pl xs (b + 1) (n - sz x)
def plI : Option (Nat × Nat) → Int × Int
  | none => (-2, 0)
  | some x => ((x.1 : Int), (x.2 : Int))
def placeOf (f : GFunc) (id : Int) : Int × Int :=
  if id < 0 then (-2, 0) else if id < (f.params.length : Int) then (-1, id) else plI (pl f.blocks 0 (id - f.params.length).toNat)
theorem pl_none : ∀ (xs : List GBlock) (b n : Nat), sumz xs ≤ n → pl xs b n = none
  | [], _, _, _ => rfl
  | x :: xs, b, n, h => by
    have h' : sz x + sumz xs ≤ n := by simpa [sumz] using h
    unfold pl
    rw [if_neg (by omega)]
    exact pl_none xs _ _ (by omega)
theorem pl_in : ∀ (xs : List GBlock) (b n c a : Nat), pl xs b n = some (c, a) → b ≤ c ∧ a ≤ n ∧ ∃ x, xs[c - b]? = some x ∧ a < sz x
  | [], _, _, _, _, h => by simp [pl] at h
  | x :: xs, b, n, c, a, h => by
    unfold pl at h
    by_cases hn : n < sz x
    · rw [if_pos hn] at h
      simp only [Option.some.injEq, Prod.mk.injEq] at h
      obtain ⟨rfl, rfl⟩ := h
      exact ⟨Nat.le_refl _, Nat.le_refl _, x, by simp, hn⟩
    · rw [if_neg hn] at h
      obtain ⟨h1, h2, y, h3, h4⟩ := pl_in xs _ _ _ _ h
      refine ⟨by omega, by omega, y, ?_, h4⟩
      rw [show c - b = (c - (b + 1)) + 1 from by omega, List.getElem?_cons_succ]
      exact h3
theorem placeOf_none {f : GFunc} {id : Int} (h : id < 0 ∨ (cnt f : Int) ≤ id) : placeOf f id = (-2, 0) := by
  unfold placeOf
  by_cases h0 : id < 0
  · rw [if_pos h0]
  · have h1 : (cnt f : Int) ≤ id := by omega
    unfold cnt at h1
    rw [if_neg h0, if_neg (by omega), pl_none _ _ _ (by omega)]
    rfl
theorem drop_at {f : GFunc} {k : Nat} (h : k < f.blocks.length) : f.blocks.drop k = at_ f.blocks (k : Int) :: f.blocks.drop (k + 1) := by
  rw [at_nat h]
  exact List.drop_eq_getElem_cons h
theorem impl_place {f : GFunc} (h : okFn f) (id : Int) : impl_PlaceOf_m f id = some (placeOf f id) := by
  have hc := h.cnt_le
  unfold impl_PlaceOf_m impl_isId_m impl_within_m
  rw [impl_count h]
  simp only [obs]
  rw [if_pos (inI_le (by omega) (by omega))]
  simp only [obs]
  by_cases h0 : id < 0 ∨ (cnt f : Int) ≤ id
  · rw [if_pos (by simp; omega), placeOf_none h0]
  · rw [if_neg (by simp; omega)]
    by_cases hp : id < (f.params.length : Int)
    · rw [if_pos (by simpa using hp)]
      unfold placeOf
      rw [if_neg (by omega), if_pos hp]
    · rw [if_neg (by simpa using hp)]
      unfold placeOf
      rw [if_neg (by omega), if_neg hp]
      have key : ∀ m k, k + m = f.blocks.length → (pre f k : Int) ≤ id → loopO (fun (st7 : Int × Int) =>
              ((if decide (st7.1 < ((List.length f.blocks : Int))) = true then
                  (if 0 ≤ st7.1 ∧ st7.1 < (List.length f.blocks : Int) then
                    (if inI (st7.2 + (((List.length ((at_ f.blocks st7.1).phis) : Int)) + ((List.length ((at_ f.blocks st7.1).insts) : Int)))) then
                      (if decide (id < (st7.2 + (((List.length ((at_ f.blocks st7.1).phis) : Int)) + ((List.length ((at_ f.blocks st7.1).insts) : Int))))) = true then
                        (some (Sum.inr ((Sum.inl ((st7.1, IntKind.i64.wrap (id - st7.2)))))))
                        else
                        (if inI (st7.2 + (((List.length ((at_ f.blocks st7.1).phis) : Int)) + ((List.length ((at_ f.blocks st7.1).insts) : Int)))) then
                        (if inI (st7.1 + 1) then
                        (some (Sum.inl ((st7.1 + 1, st7.2 + (((List.length ((at_ f.blocks st7.1).phis) : Int)) + ((List.length ((at_ f.blocks st7.1).insts) : Int)))))))
                        else none)
                        else none))
                      else none)
                    else none)
                  else
                  (some (Sum.inr ((Sum.inr (())))))) : Option ((Int × Int) ⊕ ((Int × Int) ⊕ Unit)))) ((k : Int), (pre f k : Int))
              = some (match pl (f.blocks.drop k) k (id - pre f k).toNat with | some x => Sum.inl ((x.1 : Int), (x.2 : Int)) | none => Sum.inr ()) := by
        intro m
        induction m with
        | zero =>
          intro k hk hle
          rw [loopO_step]
          simp only
          rw [if_neg (by simp; omega), List.drop_of_length_le (by omega)]
          rfl
        | succ m ih =>
          intro k hk hle
          have hk' : k < f.blocks.length := by omega
          have h0 : 0 ≤ (k : Int) ∧ (k : Int) < (f.blocks.length : Int) := by omega
          have h1 := h.rows _ (at_mem h0)
          have h2 := h.pre_le k
          have e : ((at_ f.blocks (k : Int)).phis.length : Int) + ((at_ f.blocks (k : Int)).insts.length : Int) = (sz (at_ f.blocks (k : Int)) : Int) := by simp [sz]
          have h3 := h.szle _ (at_mem h0)
          have h4 := pre_succ hk'
          have h5 := h.blocks
          rw [loopO_step, drop_at hk']
          simp only [e, pl]
          rw [if_pos (by simp; omega), if_pos h0, if_pos (inI_le (by omega) (by omega))]
          by_cases hn : (id - (pre f k : Int)).toNat < sz (at_ f.blocks (k : Int))
          · rw [if_pos (by simp; omega), if_pos hn, wrap_in (by omega) (by omega), obs]
            simp only
            rw [show ((id - (pre f k : Int)).toNat : Int) = id - (pre f k : Int) from by omega]
          · rw [if_neg (by simp; omega), if_pos (inI_le (by omega) (by omega)), if_neg hn]
            have := ih (k + 1) (by omega) (by omega)
            rw [if_pos (inI_le (by omega) (by omega)), obs]
            simp only
            rw [show ((k : Int) + 1) = ((k + 1 : Nat) : Int) from by omega, show (pre f k : Int) + (sz (at_ f.blocks (k : Int)) : Int) = ((pre f (k + 1) : Nat) : Int) from by omega, show (id - (pre f k : Int)).toNat - sz (at_ f.blocks (k : Int)) = (id - (pre f (k + 1) : Int)).toNat from by omega]
            exact this
      have k0 := key f.blocks.length 0 (by omega) (by simp [pre, sumz]; omega)
      have e0 : (pre f 0 : Int) = (f.params.length : Int) := by simp [pre, sumz]
      rw [e0] at k0
      rw [show ((0 : Nat) : Int) = (0 : Int) from rfl] at k0
      rw [k0]
      simp only [obs, List.drop_zero]
      cases pl f.blocks 0 (id - (f.params.length : Int)).toNat with
      | none => rfl
      | some x => rfl
theorem spec_place {f : GFunc} (h : okFn f) {id : Int} (hi : id ≤ 9223372036854775807) : spec_l2Place_m f id = some (placeOf f id) := by
  have hc := h.cnt_le
  unfold spec_l2Place_m
  by_cases h0 : id < 0
  · rw [if_pos (by simpa using h0), placeOf_none (.inl h0)]
  · rw [if_neg (by simpa using h0)]
    by_cases hp : id < (f.params.length : Int)
    · rw [if_pos (by simpa using hp)]
      unfold placeOf
      rw [if_neg (by omega), if_pos hp]
    · rw [if_neg (by simpa using hp), if_pos (inI_le (by omega) (by omega))]
      unfold placeOf
      rw [if_neg (by omega), if_neg hp]
      obtain ⟨n, hn⟩ := Int.eq_ofNat_of_zero_le (show 0 ≤ id - (f.params.length : Int) by omega)
      have hn' : (n : Int) ≤ 9223372036854775807 := by omega
      rw [hn]
      have key : ∀ m k (n : Nat), k + m = f.blocks.length → (n : Int) ≤ 9223372036854775807 → loopO (fun (st6 : Int × Int) =>
              ((if decide (st6.2 < ((List.length f.blocks : Int))) = true then
                  (if 0 ≤ st6.2 ∧ st6.2 < (List.length f.blocks : Int) then
                    (if 0 ≤ st6.2 ∧ st6.2 < (List.length f.blocks : Int) then
                      (if decide (st6.1 < (IntKind.i64.wrap (((List.length ((at_ f.blocks st6.2).phis) : Int)) + ((List.length ((at_ f.blocks st6.2).insts) : Int))))) = true then
                        (some (Sum.inr ((Sum.inl ((st6.2, st6.1))))))
                        else
                        (if inI (st6.2 + 1) then
                        (some (Sum.inl ((IntKind.i64.wrap (st6.1 - (IntKind.i64.wrap (((List.length ((at_ f.blocks st6.2).phis) : Int)) + ((List.length ((at_ f.blocks st6.2).insts) : Int))))), st6.2 + 1))))
                        else none))
                      else none)
                    else none)
                  else
                  (some (Sum.inr ((Sum.inr (())))))) : Option ((Int × Int) ⊕ ((Int × Int) ⊕ Unit)))) ((n : Int), (k : Int))
              = some (match pl (f.blocks.drop k) k n with | some x => Sum.inl ((x.1 : Int), (x.2 : Int)) | none => Sum.inr ()) := by
        intro m
        induction m with
        | zero =>
          intro k n hk hle
          rw [loopO_step]
          simp only
          rw [if_neg (by simp; omega), List.drop_of_length_le (by omega)]
          rfl
        | succ m ih =>
          intro k n hk hle
          have hk' : k < f.blocks.length := by omega
          have h0 : 0 ≤ (k : Int) ∧ (k : Int) < (f.blocks.length : Int) := by omega
          have h1 := h.rows _ (at_mem h0)
          have e : ((at_ f.blocks (k : Int)).phis.length : Int) + ((at_ f.blocks (k : Int)).insts.length : Int) = (sz (at_ f.blocks (k : Int)) : Int) := by simp [sz]
          have h3 := h.szle _ (at_mem h0)
          have h5 := h.blocks
          rw [loopO_step, drop_at hk']
          simp only [e, pl]
          rw [if_pos (by simp; omega), if_pos h0, if_pos h0, wrap_in (n := (sz _ : Int)) (by omega) (by omega)]
          by_cases hn : n < sz (at_ f.blocks (k : Int))
          · rw [if_pos (by simp; omega), if_pos hn, obs]
          · rw [if_neg (by simp; omega), if_neg hn, if_pos (inI_le (by omega) (by omega)), wrap_in (by omega) (by omega), obs]
            have := ih (k + 1) (n - sz (at_ f.blocks (k : Int))) (by omega) (by omega)
            simp only
            rw [show ((k : Int) + 1) = ((k + 1 : Nat) : Int) from by omega, show (n : Int) - (sz (at_ f.blocks (k : Int)) : Int) = ((n - sz (at_ f.blocks (k : Int)) : Nat) : Int) from by omega]
            exact this
      have k0 := key f.blocks.length 0 n (by omega) hn'
      rw [show ((0 : Nat) : Int) = (0 : Int) from rfl] at k0
      rw [k0]
      simp only [obs, List.drop_zero]
      rw [show ((n : Int)).toNat = n from by omega]
      cases pl f.blocks 0 n with
      | none => rfl
      | some x => rfl
noncomputable def typ (f : GFunc) (id : Int) : Int :=
  if (placeOf f id).1 = -2 then -1 else if (placeOf f id).1 = -1 then at_ f.params (placeOf f id).2 else
  if (placeOf f id).2 < ((at_ f.blocks (placeOf f id).1).phis.length : Int) then (at_ (at_ f.blocks (placeOf f id).1).phis (placeOf f id).2).w
  else spec_l2Width_m (at_ (at_ f.blocks (placeOf f id).1).insts ((placeOf f id).2 - (at_ f.blocks (placeOf f id).1).phis.length))
theorem placeOf_cases (f : GFunc) (id : Int) : placeOf f id = (-2, 0) ∨ (placeOf f id = (-1, id) ∧ 0 ≤ id ∧ id < (f.params.length : Int)) ∨
    ((0 ≤ (placeOf f id).1 ∧ (placeOf f id).1 < (f.blocks.length : Int)) ∧ 0 ≤ (placeOf f id).2 ∧ (placeOf f id).2 < (sz (at_ f.blocks (placeOf f id).1) : Int)) := by
  unfold placeOf
  by_cases h0 : id < 0
  · rw [if_pos h0]; exact .inl rfl
  · rw [if_neg h0]
    by_cases hp : id < (f.params.length : Int)
    · rw [if_pos hp]; exact .inr (.inl ⟨rfl, by omega, hp⟩)
    · rw [if_neg hp]
      cases e : pl f.blocks 0 (id - (f.params.length : Int)).toNat with
      | none => exact .inl rfl
      | some x =>
        obtain ⟨c, a⟩ := x
        obtain ⟨_, _, x, h1, h2⟩ := pl_in _ _ _ _ _ e
        have hc : c < f.blocks.length := by
          have := (List.getElem?_eq_some_iff.1 h1).1
          omega
        refine .inr (.inr ⟨⟨by simp [plI], by simp only [plI]; omega⟩, by simp [plI], ?_⟩)
        simp only [plI]
        rw [at_nat hc]
        have := (List.getElem?_eq_some_iff.1 h1).2
        simp only [Nat.sub_zero] at this
        rw [this]
        omega
theorem width_eq {i : GInst} (h : okI i) : impl_widthOf_m i = spec_l2Width_m i := by
  unfold impl_widthOf_m spec_l2Width_m impl_isBinary_m impl_within_m spec_l1In_m impl_ResultWidth_m spec_ResultWidth_m impl_isBinary_m impl_within_m spec_l1In_m impl_WidthOk_m spec_WidthOk_m
  by_cases h1 : i.op_ ≥ 1 ∧ i.op_ ≤ 17
  · have e : (decide (i.op_ ≥ 1) && decide (i.op_ ≤ 17)) = true := by simp [h1.1, h1.2]
    simp [e]
  · have e : (decide (i.op_ ≥ 1) && decide (i.op_ ≤ 17)) = false := by
      cases hx : (decide (i.op_ ≥ 1) && decide (i.op_ ≤ 17)) with
      | false => rfl
      | true => exact absurd (by simpa using hx) h1
    simp only [e]
    rcases h with h | ⟨h2, h3⟩
    · simp [h]
    · simp [h2, h3]
theorem impl_type {f : GFunc} (h : okFn f) (id : Int) : impl_TypeOf_m f id = some (typ f id) := by
  unfold impl_TypeOf_m typ impl_instOf_m
  rw [impl_place h]
  simp only [obs]
  rcases placeOf_cases f id with hp | ⟨hp, h1, h2⟩ | ⟨h1, h2, h3⟩
  · rw [hp]; rfl
  · rw [hp]
    simp only
    rw [if_neg (by decide), if_pos (by decide), if_pos ⟨h1, h2⟩, if_neg (by decide)]
    simp only [if_true]
  · generalize placeOf f id = p at h1 h2 h3 ⊢
    have hb := h.rows _ (at_mem h1)
    have hi := fun i hi => ((h.okbs _ (at_mem h1)).1.is i hi).1
    unfold sz at h3
    have e1 : (p.1 == (-2)) = false := by simp; omega
    have e2 : (p.1 == (-1)) = false := by simp; omega
    have e3 : ¬ p.1 = -2 := by omega
    have e4 : ¬ p.1 = -1 := by omega
    have e5 : decide (p.1 < 0) = false := by simp; omega
    simp only [e1, e2, e3, e4, e5, Bool.false_eq_true, if_false, if_pos h1]
    by_cases hq : p.2 < ((at_ f.blocks p.1).phis.length : Int)
    · simp only [hq, decide_true, if_true]
      rw [if_pos ⟨h2, trivial⟩]
    · have hz : 0 ≤ p.2 - ((at_ f.blocks p.1).phis.length : Int) ∧ p.2 - ((at_ f.blocks p.1).phis.length : Int) < ((at_ f.blocks p.1).insts.length : Int) := by omega
      simp only [hq, decide_false, Bool.false_eq_true, if_false, obs, if_pos h1]
      rw [wrap_in (by omega) (by omega), if_pos hz]
      simp only [obs]
      exact congrArg some (width_eq (hi _ (at_mem hz)))
theorem spec_type {f : GFunc} (h : okFn f) {id : Int} (hid : id ≤ 9223372036854775807) : spec_TypeOf_m f id = some (typ f id) := by
  unfold spec_TypeOf_m typ
  rw [spec_place h hid]
  simp only [obs]
  rcases placeOf_cases f id with hp | ⟨hp, h1, h2⟩ | ⟨h1, h2, h3⟩
  · rw [hp]; rfl
  · rw [hp]
    simp only
    rw [if_neg (by decide), if_pos (by decide), if_pos ⟨h1, h2⟩, if_neg (by decide)]
    simp only [if_true]
  · generalize placeOf f id = p at h1 h2 h3 ⊢
    have hb := h.rows _ (at_mem h1)
    unfold sz at h3
    have e1 : (p.1 == (-2)) = false := by simp; omega
    have e2 : (p.1 == (-1)) = false := by simp; omega
    have e3 : ¬ p.1 = -2 := by omega
    have e4 : ¬ p.1 = -1 := by omega
    have e5 : decide (p.1 < 0) = false := by simp; omega
    simp only [e1, e2, e3, e4, e5, Bool.false_eq_true, if_false, if_pos h1]
    by_cases hq : p.2 < ((at_ f.blocks p.1).phis.length : Int)
    · simp only [hq, decide_true, if_true]
      rw [if_pos ⟨h2, trivial⟩]
    · have hz : 0 ≤ p.2 - ((at_ f.blocks p.1).phis.length : Int) ∧ p.2 - ((at_ f.blocks p.1).phis.length : Int) < ((at_ f.blocks p.1).insts.length : Int) := by omega
      simp only [hq, decide_false, Bool.false_eq_true, if_false]
      rw [if_pos (inI_le (by omega) (by omega)), if_pos hz]
end Go.Proofs.YtghdhjgoicnbcaaGreat.AM

namespace Go.Proofs.YtghdhjgoicnbcaaGreat.AM
open Go
set_option linter.unusedSimpArgs false
set_option linter.unusedVariables false

/-- Not too large. -/
structure bndF (f : GFunc) : Prop where
  params : f.params.length ≤ 1000000000000
  blocks : f.blocks.length ≤ 2000000
  rows : ∀ b ∈ f.blocks, b.phis.length ≤ 2000000 ∧ b.insts.length ≤ 2000000
  ins : ∀ b ∈ f.blocks, ∀ p ∈ b.phis, p.ins.length ≤ 1000000000000
  args : ∀ b ∈ f.blocks, ∀ i ∈ b.insts, i.args.length ≤ 1000000000000
theorem okFn.bnd {f : GFunc} (h : okFn f) : bndF f :=
  ⟨Nat.le_trans h.params (by decide), Nat.le_trans h.blocks (by decide), fun b hb => ⟨Nat.le_trans (h.rows b hb).1 (by decide), Nat.le_trans (h.rows b hb).2 (by decide)⟩, fun b hb p hp => Nat.le_trans ((h.okbs b hb).1.ps p hp).2.1 (by decide), fun b hb i hi => Nat.le_trans ((h.okbs b hb).1.is i hi).2.2.1 (by decide)⟩
theorem bndF.szle {f : GFunc} (h : bndF f) : ∀ b ∈ f.blocks, sz b ≤ 4000000 := fun b hb => by
  have := h.rows b hb
  unfold sz
  omega
theorem bndF.pre_le {f : GFunc} (h : bndF f) (k : Nat) : pre f k ≤ 10000000000000 := by
  have h1 := sumz_le (bs := f.blocks.take k) (n := 4000000) (fun b hb => h.szle b (List.mem_of_mem_take hb))
  have h2 := h.blocks
  have h3 := h.params
  have h4 : (f.blocks.take k).length ≤ 2000000 := by rw [List.length_take]; omega
  have h5 : (f.blocks.take k).length * 4000000 ≤ 2000000 * 4000000 := Nat.mul_le_mul_right _ h4
  unfold pre
  omega
theorem bndF.cnt_le {f : GFunc} (h : bndF f) : cnt f ≤ 10000000000000 := by rw [← pre_all]; exact h.pre_le _
theorem specCount {f : GFunc} (h : bndF f) : spec_CountOf_m f = some (cnt f : Int) := by
  unfold spec_CountOf_m
  generalize hB : loopO _ _ = L
  have hb := h.blocks
  rw [loop_cnt hB (fun k => ((pre f k : Int), (k : Int))) f.blocks.length (cnt f : Int) ?_ ?_ ?_]
  · rfl
  · simp [pre, sumz]
  · intro k hk
    have h0 : 0 ≤ (k : Int) ∧ (k : Int) < (f.blocks.length : Int) := by omega
    have h1 := h.rows _ (at_mem h0)
    have h2 := h.pre_le k
    have e : ((at_ f.blocks (k : Int)).phis.length : Int) + ((at_ f.blocks (k : Int)).insts.length : Int) = (sz (at_ f.blocks (k : Int)) : Int) := by simp [sz]
    have h3 := h.szle _ (at_mem h0)
    simp only
    rw [if_pos (by simp; omega), if_pos h0, if_pos h0, if_pos (inI_le (by omega) (by omega)), e, wrap_in (n := (sz _ : Int)) (by omega) (by omega), wrap_in (by omega) (by omega), pre_succ hk]
    simp
  · simp only
    rw [if_neg (by simp), pre_all]
theorem implCount {f : GFunc} (h : bndF f) : impl_CountOf_m f = some (cnt f : Int) := by
  unfold impl_CountOf_m
  generalize hB : loopO _ _ = L
  have hb := h.blocks
  rw [loop_cnt hB (fun k => ((k : Int), (pre f k : Int))) f.blocks.length (cnt f : Int) ?_ ?_ ?_]
  · rfl
  · simp [pre, sumz]
  · intro k hk
    have h0 : 0 ≤ (k : Int) ∧ (k : Int) < (f.blocks.length : Int) := by omega
    have h1 := h.rows _ (at_mem h0)
    have h2 := h.pre_le k
    have e : ((at_ f.blocks (k : Int)).phis.length : Int) + ((at_ f.blocks (k : Int)).insts.length : Int) = (sz (at_ f.blocks (k : Int)) : Int) := by simp [sz]
    have h3 := h.szle _ (at_mem h0)
    simp only
    rw [if_pos (by simp; omega), if_pos h0, e, if_pos (inI_le (by omega) (by omega)), if_pos (inI_le (by omega) (by omega)), pre_succ hk]
    simp
  · simp only
    rw [if_neg (by simp), pre_all]
theorem implPlace {f : GFunc} (h : bndF f) (id : Int) : impl_PlaceOf_m f id = some (placeOf f id) := by
  have hc := h.cnt_le
  unfold impl_PlaceOf_m impl_isId_m impl_within_m
  rw [implCount h]
  simp only [obs]
  rw [if_pos (inI_le (by omega) (by omega))]
  simp only [obs]
  by_cases h0 : id < 0 ∨ (cnt f : Int) ≤ id
  · rw [if_pos (by simp; omega), placeOf_none h0]
  · rw [if_neg (by simp; omega)]
    by_cases hp : id < (f.params.length : Int)
    · rw [if_pos (by simpa using hp)]
      unfold placeOf
      rw [if_neg (by omega), if_pos hp]
    · rw [if_neg (by simpa using hp)]
      unfold placeOf
      rw [if_neg (by omega), if_neg hp]
      have key : ∀ m k, k + m = f.blocks.length → (pre f k : Int) ≤ id → loopO (fun (st7 : Int × Int) =>
              ((if decide (st7.1 < ((List.length f.blocks : Int))) = true then
                  (if 0 ≤ st7.1 ∧ st7.1 < (List.length f.blocks : Int) then
                    (if inI (st7.2 + (((List.length ((at_ f.blocks st7.1).phis) : Int)) + ((List.length ((at_ f.blocks st7.1).insts) : Int)))) then
                      (if decide (id < (st7.2 + (((List.length ((at_ f.blocks st7.1).phis) : Int)) + ((List.length ((at_ f.blocks st7.1).insts) : Int))))) = true then
                        (some (Sum.inr ((Sum.inl ((st7.1, IntKind.i64.wrap (id - st7.2)))))))
                        else
                        (if inI (st7.2 + (((List.length ((at_ f.blocks st7.1).phis) : Int)) + ((List.length ((at_ f.blocks st7.1).insts) : Int)))) then
                        (if inI (st7.1 + 1) then
                        (some (Sum.inl ((st7.1 + 1, st7.2 + (((List.length ((at_ f.blocks st7.1).phis) : Int)) + ((List.length ((at_ f.blocks st7.1).insts) : Int)))))))
                        else none)
                        else none))
                      else none)
                    else none)
                  else
                  (some (Sum.inr ((Sum.inr (())))))) : Option ((Int × Int) ⊕ ((Int × Int) ⊕ Unit)))) ((k : Int), (pre f k : Int))
              = some (match pl (f.blocks.drop k) k (id - pre f k).toNat with | some x => Sum.inl ((x.1 : Int), (x.2 : Int)) | none => Sum.inr ()) := by
        intro m
        induction m with
        | zero =>
          intro k hk hle
          rw [loopO_step]
          simp only
          rw [if_neg (by simp; omega), List.drop_of_length_le (by omega)]
          rfl
        | succ m ih =>
          intro k hk hle
          have hk' : k < f.blocks.length := by omega
          have h0 : 0 ≤ (k : Int) ∧ (k : Int) < (f.blocks.length : Int) := by omega
          have h1 := h.rows _ (at_mem h0)
          have h2 := h.pre_le k
          have e : ((at_ f.blocks (k : Int)).phis.length : Int) + ((at_ f.blocks (k : Int)).insts.length : Int) = (sz (at_ f.blocks (k : Int)) : Int) := by simp [sz]
          have h3 := h.szle _ (at_mem h0)
          have h4 := pre_succ hk'
          have h5 := h.blocks
          rw [loopO_step, drop_at hk']
          simp only [e, pl]
          rw [if_pos (by simp; omega), if_pos h0, if_pos (inI_le (by omega) (by omega))]
          by_cases hn : (id - (pre f k : Int)).toNat < sz (at_ f.blocks (k : Int))
          · rw [if_pos (by simp; omega), if_pos hn, wrap_in (by omega) (by omega), obs]
            simp only
            rw [show ((id - (pre f k : Int)).toNat : Int) = id - (pre f k : Int) from by omega]
          · rw [if_neg (by simp; omega), if_pos (inI_le (by omega) (by omega)), if_neg hn]
            have := ih (k + 1) (by omega) (by omega)
            rw [if_pos (inI_le (by omega) (by omega)), obs]
            simp only
            rw [show ((k : Int) + 1) = ((k + 1 : Nat) : Int) from by omega, show (pre f k : Int) + (sz (at_ f.blocks (k : Int)) : Int) = ((pre f (k + 1) : Nat) : Int) from by omega, show (id - (pre f k : Int)).toNat - sz (at_ f.blocks (k : Int)) = (id - (pre f (k + 1) : Int)).toNat from by omega]
            exact this
      have k0 := key f.blocks.length 0 (by omega) (by simp [pre, sumz]; omega)
      have e0 : (pre f 0 : Int) = (f.params.length : Int) := by simp [pre, sumz]
      rw [e0] at k0
      rw [show ((0 : Nat) : Int) = (0 : Int) from rfl] at k0
      rw [k0]
      simp only [obs, List.drop_zero]
      cases pl f.blocks 0 (id - (f.params.length : Int)).toNat with
      | none => rfl
      | some x => rfl
theorem specPlace {f : GFunc} (h : bndF f) {id : Int} (hi : id ≤ 9223372036854775807) : spec_l2Place_m f id = some (placeOf f id) := by
  have hc := h.cnt_le
  unfold spec_l2Place_m
  by_cases h0 : id < 0
  · rw [if_pos (by simpa using h0), placeOf_none (.inl h0)]
  · rw [if_neg (by simpa using h0)]
    by_cases hp : id < (f.params.length : Int)
    · rw [if_pos (by simpa using hp)]
      unfold placeOf
      rw [if_neg (by omega), if_pos hp]
    · rw [if_neg (by simpa using hp), if_pos (inI_le (by omega) (by omega))]
      unfold placeOf
      rw [if_neg (by omega), if_neg hp]
      obtain ⟨n, hn⟩ := Int.eq_ofNat_of_zero_le (show 0 ≤ id - (f.params.length : Int) by omega)
      have hn' : (n : Int) ≤ 9223372036854775807 := by omega
      rw [hn]
      have key : ∀ m k (n : Nat), k + m = f.blocks.length → (n : Int) ≤ 9223372036854775807 → loopO (fun (st6 : Int × Int) =>
              ((if decide (st6.2 < ((List.length f.blocks : Int))) = true then
                  (if 0 ≤ st6.2 ∧ st6.2 < (List.length f.blocks : Int) then
                    (if 0 ≤ st6.2 ∧ st6.2 < (List.length f.blocks : Int) then
                      (if decide (st6.1 < (IntKind.i64.wrap (((List.length ((at_ f.blocks st6.2).phis) : Int)) + ((List.length ((at_ f.blocks st6.2).insts) : Int))))) = true then
                        (some (Sum.inr ((Sum.inl ((st6.2, st6.1))))))
                        else
                        (if inI (st6.2 + 1) then
                        (some (Sum.inl ((IntKind.i64.wrap (st6.1 - (IntKind.i64.wrap (((List.length ((at_ f.blocks st6.2).phis) : Int)) + ((List.length ((at_ f.blocks st6.2).insts) : Int))))), st6.2 + 1))))
                        else none))
                      else none)
                    else none)
                  else
                  (some (Sum.inr ((Sum.inr (())))))) : Option ((Int × Int) ⊕ ((Int × Int) ⊕ Unit)))) ((n : Int), (k : Int))
              = some (match pl (f.blocks.drop k) k n with | some x => Sum.inl ((x.1 : Int), (x.2 : Int)) | none => Sum.inr ()) := by
        intro m
        induction m with
        | zero =>
          intro k n hk hle
          rw [loopO_step]
          simp only
          rw [if_neg (by simp; omega), List.drop_of_length_le (by omega)]
          rfl
        | succ m ih =>
          intro k n hk hle
          have hk' : k < f.blocks.length := by omega
          have h0 : 0 ≤ (k : Int) ∧ (k : Int) < (f.blocks.length : Int) := by omega
          have h1 := h.rows _ (at_mem h0)
          have e : ((at_ f.blocks (k : Int)).phis.length : Int) + ((at_ f.blocks (k : Int)).insts.length : Int) = (sz (at_ f.blocks (k : Int)) : Int) := by simp [sz]
          have h3 := h.szle _ (at_mem h0)
          have h5 := h.blocks
          rw [loopO_step, drop_at hk']
          simp only [e, pl]
          rw [if_pos (by simp; omega), if_pos h0, if_pos h0, wrap_in (n := (sz _ : Int)) (by omega) (by omega)]
          by_cases hn : n < sz (at_ f.blocks (k : Int))
          · rw [if_pos (by simp; omega), if_pos hn, obs]
          · rw [if_neg (by simp; omega), if_neg hn, if_pos (inI_le (by omega) (by omega)), wrap_in (by omega) (by omega), obs]
            have := ih (k + 1) (n - sz (at_ f.blocks (k : Int))) (by omega) (by omega)
            simp only
            rw [show ((k : Int) + 1) = ((k + 1 : Nat) : Int) from by omega, show (n : Int) - (sz (at_ f.blocks (k : Int)) : Int) = ((n - sz (at_ f.blocks (k : Int)) : Nat) : Int) from by omega]
            exact this
      have k0 := key f.blocks.length 0 n (by omega) hn'
      rw [show ((0 : Nat) : Int) = (0 : Int) from rfl] at k0
      rw [k0]
      simp only [obs, List.drop_zero]
      rw [show ((n : Int)).toNat = n from by omega]
      cases pl f.blocks 0 n with
      | none => rfl
      | some x => rfl
end Go.Proofs.YtghdhjgoicnbcaaGreat.AM

namespace Go.Proofs.YtghdhjgoicnbcaaGreat.AM
open Go
set_option linter.unusedSimpArgs false
set_option linter.unusedVariables false
theorem indexFunc_int_ok (s : List Int) (f : Int → Option Bool) (c : Int → Bool) (h : ∀ x ∈ s, f x = some (c x)) (hl : s.length ≤ 140737488355328) : slices_ContainsFunc_int64_int64_m s f = some (s.any c) := by
  unfold slices_ContainsFunc_int64_int64_m slices_IndexFunc_int64_int64_m
  generalize hB : loopO _ (0 : Int) = L
  have K := loop_any' hB s c (fun k : Nat => (k : Int)) (by
    intro k hk
    rw [if_pos (by simpa using hk), if_pos (by omega), h _ (at_mem (by omega))]
    simp only [Option.bind_some]
    cases c (at_ s (k : Int))
    · rw [if_neg (by simp), if_pos (inI_le (by omega) (by omega)), if_neg (by simp)]
    · rw [if_pos rfl, if_pos rfl]) (by rw [if_neg (by simp)])
  rcases K with ⟨h1, k, h2, rfl⟩ | ⟨h1, rfl⟩
  · rw [h1]; simp
  · rw [h1]; simp
theorem contains_int_ok (s : List Int) (v : Int) (hl : s.length ≤ 140737488355328) : slices_Contains_int64_int64_m s v = some (s.any (fun x => v == x)) := by
  unfold slices_Contains_int64_int64_m slices_Index_int64_int64_m
  generalize hB : loopO _ (0 : Int) = L
  have K := loop_any' hB s (fun x => v == x) (fun k : Nat => (k : Int)) (by
    intro k hk
    rw [if_pos (by simpa using hk), if_pos (by omega)]
    cases (v == at_ s (k : Int))
    · rw [if_neg (by simp), if_pos (inI_le (by omega) (by omega)), if_neg (by simp)]
    · rw [if_pos rfl, if_pos rfl]) (by rw [if_neg (by simp)])
  rcases K with ⟨h1, k, h2, rfl⟩ | ⟨h1, rfl⟩
  · rw [h1]; simp
  · rw [h1]; simp
theorem sameInts_ok (a : List Int) (ha : a.length ≤ 140737488355328) : laws_sameInts_m a a = some true := by
  unfold laws_sameInts_m
  rw [if_neg (by simp)]
  generalize hB : loopO _ (0 : Int) = L
  have K := loop_anyN' hB a.length (fun _ => false) (fun _ => ()) (by
    intro k hk
    rw [if_pos (by simpa using hk), if_pos (by omega), if_pos (by omega), if_neg (by simp), if_pos (inI_le (by omega) (by omega)), if_neg (by simp)]) (by rw [if_neg (by simp)])
  rcases K with ⟨k, _, h1, _⟩ | ⟨_, rfl⟩
  · cases h1
  · rfl
abbrev Rising (l : List Int) : Prop := l.Pairwise (· < ·)
theorem l1Copy_ok (l : List Int) (hl : l.length * 8 ≤ 140737488355328) : spec_l1Copy_m l = some l := by
  have hLIM : LIM = 140737488355328 := rfl
  unfold spec_l1Copy_m
  rw [if_pos (by simp only [List.length_nil]; omega)]
  rfl
end Go.Proofs.YtghdhjgoicnbcaaGreat.AM

namespace Go.Proofs.YtghdhjgoicnbcaaGreat.AM
open Go
set_option linter.unusedSimpArgs false
set_option linter.unusedVariables false
theorem implOps {i : GInst} (h : i.args.length ≤ 1000000000000) : impl_OperandsOf_m i = some (opsI i) := by
  have hL := LIM_eq
  unfold impl_OperandsOf_m opsI impl_isBinary_m impl_isCast_m impl_within_m slices_Clone_int64_int64_m
  by_cases h1 : (1 ≤ i.op_ ∧ i.op_ ≤ 17) ∨ i.op_ = 24
  · rw [if_pos (by simpa using h1), if_pos h1]
  · rw [if_neg (by simpa using h1), if_neg h1]
    by_cases h2 : (18 ≤ i.op_ ∧ i.op_ ≤ 20) ∨ i.op_ = 23 ∨ i.op_ = 25 ∨ i.op_ = 27
    · rw [if_pos (by simpa using h2), if_pos h2]
    · rw [if_neg (by simpa using h2), if_neg h2]
      by_cases h3 : i.op_ = 22
      · rw [if_pos (by simpa using h3), if_pos h3]
      · rw [if_neg (by simpa using h3), if_neg h3]
        by_cases h4 : i.op_ = 26
        · rw [if_pos (by simpa using h4), if_pos h4, if_pos (by simp only [List.length_nil]; omega)]
          rfl
        · rw [if_neg (by simpa using h4), if_neg h4]
theorem specOps {i : GInst} (h : i.args.length ≤ 1000000000000) : spec_l2Operands_m i = some (opsI i) := by
  have hL := LIM_eq
  unfold spec_l2Operands_m opsI spec_l1In_m spec_l1Copy_m
  by_cases h1 : (1 ≤ i.op_ ∧ i.op_ ≤ 17) ∨ i.op_ = 24
  · rw [if_pos (by simpa using h1), if_pos h1]
  · rw [if_neg (by simpa using h1), if_neg h1]
    by_cases h2 : (18 ≤ i.op_ ∧ i.op_ ≤ 20) ∨ i.op_ = 23 ∨ i.op_ = 25 ∨ i.op_ = 27
    · rw [if_pos (by simpa using h2), if_pos h2]
    · rw [if_neg (by simpa using h2), if_neg h2]
      by_cases h3 : i.op_ = 22
      · rw [if_pos (by simpa using h3), if_pos h3]
      · rw [if_neg (by simpa using h3), if_neg h3]
        by_cases h4 : i.op_ = 26
        · rw [if_pos (by simpa using h4), if_pos h4, if_pos (by simp only [List.length_nil]; omega)]
          rfl
        · rw [if_neg (by simpa using h4), if_neg h4]
theorem opsLen {i : GInst} : (opsI i).length ≤ 3 ∨ (opsI i = i.args ∧ i.op_ = 26) := by
  unfold opsI
  split
  · simp
  · split
    · simp
    · split
      · simp
      · split
        · exact .inr ⟨rfl, by assumption⟩
        · simp
theorem contains_phi_ok (s : List GPhi) (f : GPhi → Option Bool) (c : GPhi → Bool) (h : ∀ x ∈ s, f x = some (c x)) (hl : s.length ≤ 140737488355328) : slices_ContainsFunc_impl_Phi_impl_Phi_m s f = some (s.any c) := by
  unfold slices_ContainsFunc_impl_Phi_impl_Phi_m slices_IndexFunc_impl_Phi_impl_Phi_m
  generalize hB : loopO _ (0 : Int) = L
  have K := loop_any' hB s c (fun k : Nat => (k : Int)) (by
    intro k hk
    rw [if_pos (by simpa using hk), if_pos (by omega), h _ (at_mem (by omega))]
    simp only [Option.bind_some]
    cases c (at_ s (k : Int))
    · rw [if_neg (by simp), if_pos (inI_le (by omega) (by omega)), if_neg (by simp)]
    · rw [if_pos rfl, if_pos rfl]) (by rw [if_neg (by simp)])
  rcases K with ⟨h1, k, h2, rfl⟩ | ⟨h1, rfl⟩
  · rw [h1]; simp
  · rw [h1]; simp
theorem contains_inst_ok (s : List GInst) (f : GInst → Option Bool) (c : GInst → Bool) (h : ∀ x ∈ s, f x = some (c x)) (hl : s.length ≤ 140737488355328) : slices_ContainsFunc_impl_Inst_impl_Inst_m s f = some (s.any c) := by
  unfold slices_ContainsFunc_impl_Inst_impl_Inst_m slices_IndexFunc_impl_Inst_impl_Inst_m
  generalize hB : loopO _ (0 : Int) = L
  have K := loop_any' hB s c (fun k : Nat => (k : Int)) (by
    intro k hk
    rw [if_pos (by simpa using hk), if_pos (by omega), h _ (at_mem (by omega))]
    simp only [Option.bind_some]
    cases c (at_ s (k : Int))
    · rw [if_neg (by simp), if_pos (inI_le (by omega) (by omega)), if_neg (by simp)]
    · rw [if_pos rfl, if_pos rfl]) (by rw [if_neg (by simp)])
  rcases K with ⟨h1, k, h2, rfl⟩ | ⟨h1, rfl⟩
  · rw [h1]; simp
  · rw [h1]; simp
/-- A width; within; a value of a width. -/
noncomputable abbrev wB (w : Int) : Bool := impl_WidthOk_m w
noncomputable abbrev iB (n lo hi : Int) : Bool := impl_within_m n lo hi
theorem iB_iff {n lo hi : Int} : iB n lo hi = true ↔ lo ≤ n ∧ n ≤ hi := by simp [iB, impl_within_m]
theorem wB_iff {w : Int} : wB w = true ↔ isW w := by simp [wB, impl_WidthOk_m, isW]
theorem spec_in (n lo hi : Int) : spec_l1In_m n lo hi = iB n lo hi := rfl
theorem spec_w (w : Int) : spec_WidthOk_m w = wB w := rfl
noncomputable def valB (w v : Int) : Bool := wB w && iB v 0 (topW w)
theorem impl_val (w v : Int) : impl_isValue_m w v = some (valB w v) := by
  unfold impl_isValue_m valB
  by_cases h : isW w
  · have e : impl_WidthOk_m w = true := wB_iff.2 h
    simp only [e, if_true, wB, Bool.true_and]
    have hm : impl_mask_m w = some (topW w) := by
      rcases h with rfl | rfl | rfl | rfl <;> decide +kernel
    rw [hm]
    rfl
  · have e : impl_WidthOk_m w = false := by
      cases hx : impl_WidthOk_m w with
      | false => rfl
      | true => exact absurd (wB_iff.1 hx) h
    simp only [e, Bool.false_eq_true, if_false, wB, Bool.false_and]
    rfl
theorem spec_val (w v : Int) : spec_l1Value_m w v = some (valB w v) := by
  unfold spec_l1Value_m valB
  by_cases h : isW w
  · have e : impl_WidthOk_m w = true := wB_iff.2 h
    rw [spec_w]
    simp only [wB, e, if_true, Bool.true_and]
    have hm : spec_l1Top_m w = some (topW w + 1) := by
      rcases h with rfl | rfl | rfl | rfl <;> decide +kernel
    rw [hm]
    simp only [obs]
    have ht : 1 ≤ topW w ∧ topW w ≤ 4294967295 := by rcases h with rfl | rfl | rfl | rfl <;> decide
    rw [if_pos (inI_le (by omega) (by omega)), show topW w + 1 - 1 = topW w from by omega]
    rfl
  · have e : impl_WidthOk_m w = false := by
      cases hx : impl_WidthOk_m w with
      | false => rfl
      | true => exact absurd (wB_iff.1 hx) h
    rw [spec_w]
    simp only [wB, e, Bool.false_eq_true, if_false, Bool.false_and]
    rfl
/-- An instruction in its form. -/
structure fmI (i : GInst) (ids funcs : Int) : Prop where
  op : 1 ≤ i.op_ ∧ i.op_ ≤ 27
  args : i.args.length ≤ 4
  noargs : i.op_ ≠ 26 → i.args = []
  ids : inN ids (opsI i)
  zero : (if i.op_ = 26 then 0 else (opsI i).length) < 1 → i.a = 0
  zerob : (if i.op_ = 26 then 0 else (opsI i).length) < 2 → i.b = 0
  zeroc : (if i.op_ = 26 then 0 else (opsI i).length) < 3 → i.c = 0
  w0 : i.op_ = 24 ∨ i.op_ = 25 → i.w = 0
  w1 : ¬ (i.op_ = 24 ∨ i.op_ = 25) → isW i.w
  w8 : i.op_ = 23 → i.w = 8
  const : i.op_ = 21 → valB i.w i.imm = true
  call : i.op_ = 26 → 0 ≤ i.imm ∧ i.imm < funcs
  imm : i.op_ ≠ 21 → i.op_ ≠ 26 → i.imm = 0
theorem inst_ok {i : GInst} {ids funcs : Int} (ha : i.args.length ≤ 1000000000000) (h1 : inI (ids - 1)) (h2 : inI (funcs - 1)) : ∃ b, impl_isInst_m i ids funcs = some b ∧ spec_l2Inst_m i ids funcs = some b ∧ (b = true ↔ fmI i ids funcs) := by
  by_cases hop : 1 ≤ i.op_ ∧ i.op_ ≤ 27
  rotate_left
  · refine ⟨false, ?_, ?_, by simp, fun h => absurd h.op hop⟩
    · unfold impl_isInst_m
      rw [if_pos (by simp [impl_within_m]; omega)]
    · unfold spec_l2Inst_m
      rw [if_pos (by simp [spec_l1In_m]; omega)]
  have e1 : impl_within_m i.op_ 1 27 = true := iB_iff.2 hop
  have e1' : spec_l1In_m i.op_ 1 27 = true := iB_iff.2 hop
  by_cases hna : i.op_ = 26 ∨ i.args.length = 0
  rotate_left
  · refine ⟨false, ?_, ?_, by simp, fun h => absurd ((Classical.em (i.op_ = 26)).imp id (fun hn => by rw [h.noargs hn]; rfl)) hna⟩
    · unfold impl_isInst_m
      rw [if_pos (by simp [e1]; omega)]
    · unfold spec_l2Inst_m
      rw [if_pos (by simp [e1']; omega)]
  have g0 : ((i.op_ != 26) && decide ((i.args.length : Int) > 0)) = false := by
    rcases hna with h | h
    · simp [h]
    · rw [h]; simp
  have g0' : (decide ((i.args.length : Int) > 0) && (i.op_ != 26)) = false := by rw [Bool.and_comm]; exact g0
  have hl : (opsI i).length ≤ 1000000000000 := by
    rcases opsLen (i := i) with h | ⟨h, _⟩
    · omega
    · rw [h]; exact ha
  have HS : ∀ r, ((opsI i).any (fun x => !iB x 0 (ids - 1)) = true → r = some false) → ((opsI i).any (fun x => !iB x 0 (ids - 1)) = false →
      (if (if (!((((i.op_ == 24) || (i.op_ == 25))) == ((i.w == 0)))) = true then true else (if (!(((i.op_ == 24) || (i.op_ == 25)))) = true then ((!((spec_WidthOk_m i.w))) || decide (((List.length i.args : Int)) > 4)) else decide (((List.length i.args : Int)) > 4))) = true then some false
       else if (if decide (((if (i.op_ == 26) = true then 0 else (List.length (opsI i) : Int))) < 1) = true then (if (i.a != 0) = true then true else (if decide (((if (i.op_ == 26) = true then 0 else (List.length (opsI i) : Int))) < 2) = true then (if (i.b != 0) = true then true else (if decide (((if (i.op_ == 26) = true then 0 else (List.length (opsI i) : Int))) < 3) = true then (i.c != 0) else false)) else (if decide (((if (i.op_ == 26) = true then 0 else (List.length (opsI i) : Int))) < 3) = true then (i.c != 0) else false))) else (if decide (((if (i.op_ == 26) = true then 0 else (List.length (opsI i) : Int))) < 2) = true then (if (i.b != 0) = true then true else (if decide (((if (i.op_ == 26) = true then 0 else (List.length (opsI i) : Int))) < 3) = true then (i.c != 0) else false)) else (if decide (((if (i.op_ == 26) = true then 0 else (List.length (opsI i) : Int))) < 3) = true then (i.c != 0) else false))) = true then some false
       else if (i.op_ == 21) = true then some (valB i.w i.imm) else if (i.op_ == 26) = true then some (iB i.imm 0 (funcs - 1)) else if (i.op_ == 23) = true then some ((i.w == 8) && (i.imm == 0)) else some (i.imm == 0)) = r) → spec_l2Inst_m i ids funcs = r := by
    intro r r1 r2
    unfold spec_l2Inst_m
    rw [if_neg (by rw [e1', g0]; decide), specOps ha]
    simp only [obs]
    generalize hB : loopO _ (0 : Int) = L
    have K := loop_any' hB (opsI i) (fun x => !iB x 0 (ids - 1)) (fun _ => ()) (by
      intro k hk
      rw [if_pos (by simpa using hk), if_pos (by omega), if_pos h1, spec_in]
      cases iB (at_ (opsI i) (k : Int)) 0 (ids - 1)
      · rw [if_pos (by rfl), if_pos (by rfl)]
      · rw [if_neg (by simp), if_pos (inI_le (by omega) (by omega)), if_neg (by simp)]) (by rw [if_neg (by simp)])
    rcases K with ⟨k1, k, k2, rfl⟩ | ⟨k1, rfl⟩
    · rw [r1 k1]; rfl
    · rw [← r2 k1]
      simp only [obs, spec_val, if_pos h2, spec_in]
  by_cases h4 : i.args.length ≤ 4
  rotate_left
  · refine ⟨false, ?_, HS _ (fun _ => rfl) (fun _ => ?_), by simp, fun h => absurd h.args h4⟩
    · unfold impl_isInst_m
      rw [if_pos (by simp [e1]; omega)]
    · rw [if_pos]
      have : decide ((i.args.length : Int) > 4) = true := by simp; omega
      simp [this]
  have HI : impl_isInst_m i ids funcs = if (opsI i).any (fun x => !iB x 0 (ids - 1)) = true then some false else
      if (List.drop (if i.op_ = 26 then ([] : List Int) else opsI i).length [i.a, i.b, i.c]).any (fun n => n != 0) = true then some false else
      if impl_isWidth_m i = true then (if (i.op_ == 21) = true then some (valB i.w i.imm) else if (i.op_ == 26) = true then some (iB i.imm 0 (funcs - 1)) else some (i.imm == 0)) else some false := by
    unfold impl_isInst_m
    rw [if_neg (by rw [e1, g0', show decide ((i.args.length : Int) > 4) = false from by simp; omega]; decide), implOps ha]
    simp only [obs]
    rw [indexFunc_int_ok _ _ (fun x => !iB x 0 (ids - 1)) (fun x _ => by unfold impl_isInst_1_m; rw [if_pos h1]) (by omega)]
    simp only [obs]
    have hj : (if (i.op_ == 26) = true then some ([] : List Int) else some (opsI i)) = some (if i.op_ = 26 then ([] : List Int) else opsI i) := by
      by_cases h : i.op_ = 26 <;> simp [h]
    have hn : (if i.op_ = 26 then ([] : List Int) else opsI i).length ≤ 3 := by
      by_cases h : i.op_ = 26
      · simp [h]
      · rcases opsLen (i := i) with h' | ⟨_, h'⟩
        · simpa [h] using h'
        · exact absurd h' h
    by_cases hA : (opsI i).any (fun x => !iB x 0 (ids - 1)) = true
    · rw [if_pos hA, if_pos hA]
    · rw [if_neg hA, if_neg hA, hj]
      simp only [obs]
      generalize (if i.op_ = 26 then ([] : List Int) else opsI i) = J at hn ⊢
      simp only [Int.toNat_natCast]
      rw [if_pos (by simp; omega), indexFunc_int_ok _ (fun z0 => some (impl_isInst_2_m z0)) (fun n => n != 0) (fun x _ => rfl) (by simp; omega)]
      simp only [obs]
      have him : impl_isImm_m i funcs = (if (i.op_ == 21) = true then some (valB i.w i.imm) else if (i.op_ == 26) = true then some (iB i.imm 0 (funcs - 1)) else some (i.imm == 0)) := by
        unfold impl_isImm_m
        rw [impl_val, if_pos h2]
        rfl
      rw [him]
      split
      · rfl
      · split
        · split
          · rfl
          · split <;> rfl
        · rfl
  have hA : (opsI i).any (fun x => !iB x 0 (ids - 1)) = false ↔ inN ids (opsI i) := by
    simp only [List.any_eq_false, Bool.not_eq_true, Bool.not_eq_false', iB_iff, inN]
    exact ⟨fun h x hx => by have := h x hx; omega, fun h x hx => by have := h x hx; omega⟩
  by_cases hin : inN ids (opsI i)
  rotate_left
  · have : (opsI i).any (fun x => !iB x 0 (ids - 1)) = true := by
      cases hx : (opsI i).any (fun x => !iB x 0 (ids - 1)) with
      | true => rfl
      | false => exact absurd (hA.1 hx) hin
    exact ⟨false, by rw [HI, if_pos this], HS _ (fun _ => rfl) (fun h => by rw [h] at this; cases this), by simp, fun h => absurd h.ids hin⟩
  have hany := hA.2 hin
  rw [hany] at HI HS
  rw [if_neg (by simp)] at HI
  -- what is not used is 0
  have hz : (List.drop (if i.op_ = 26 then ([] : List Int) else opsI i).length [i.a, i.b, i.c]).any (fun n => n != 0) = false ↔
      (((if i.op_ = 26 then 0 else (opsI i).length) < 1 → i.a = 0) ∧ ((if i.op_ = 26 then 0 else (opsI i).length) < 2 → i.b = 0) ∧ ((if i.op_ = 26 then 0 else (opsI i).length) < 3 → i.c = 0)) := by
    have e : (if i.op_ = 26 then ([] : List Int) else opsI i).length = (if i.op_ = 26 then 0 else (opsI i).length) := by split <;> rfl
    rw [e]
    generalize (if i.op_ = 26 then 0 else (opsI i).length) = n
    match n with
    | 0 => simp
    | 1 => simp
    | 2 => simp
    | n + 3 => simp; omega
  have hz2 : (if decide (((if (i.op_ == 26) = true then 0 else (List.length (opsI i) : Int))) < 1) = true then (if (i.a != 0) = true then true else (if decide (((if (i.op_ == 26) = true then 0 else (List.length (opsI i) : Int))) < 2) = true then (if (i.b != 0) = true then true else (if decide (((if (i.op_ == 26) = true then 0 else (List.length (opsI i) : Int))) < 3) = true then (i.c != 0) else false)) else (if decide (((if (i.op_ == 26) = true then 0 else (List.length (opsI i) : Int))) < 3) = true then (i.c != 0) else false))) else (if decide (((if (i.op_ == 26) = true then 0 else (List.length (opsI i) : Int))) < 2) = true then (if (i.b != 0) = true then true else (if decide (((if (i.op_ == 26) = true then 0 else (List.length (opsI i) : Int))) < 3) = true then (i.c != 0) else false)) else (if decide (((if (i.op_ == 26) = true then 0 else (List.length (opsI i) : Int))) < 3) = true then (i.c != 0) else false))) = false ↔
      (((if i.op_ = 26 then 0 else (opsI i).length) < 1 → i.a = 0) ∧ ((if i.op_ = 26 then 0 else (opsI i).length) < 2 → i.b = 0) ∧ ((if i.op_ = 26 then 0 else (opsI i).length) < 3 → i.c = 0)) := by
    have e : (if (i.op_ == 26) = true then 0 else (List.length (opsI i) : Int)) = (((if i.op_ = 26 then 0 else (opsI i).length) : Nat) : Int) := by by_cases h : i.op_ = 26 <;> simp [h]
    rw [e]
    generalize (if i.op_ = 26 then 0 else (opsI i).length) = n
    match n with
    | 0 => by_cases ha : i.a = 0 <;> by_cases hb : i.b = 0 <;> by_cases hc : i.c = 0 <;> simp [ha, hb, hc]
    | 1 => by_cases hb : i.b = 0 <;> by_cases hc : i.c = 0 <;> simp [hb, hc]
    | 2 => by_cases hc : i.c = 0 <;> simp [hc]
    | n + 3 =>
      have g1 : decide (((n + 3 : Nat) : Int) < 1) = false := by simp; omega
      have g2 : decide (((n + 3 : Nat) : Int) < 2) = false := by simp; omega
      have g3 : decide (((n + 3 : Nat) : Int) < 3) = false := by simp; omega
      rw [g1, g2, g3]
      simp; omega
  have h4' : decide ((i.args.length : Int) > 4) = false := by simp; omega
  by_cases hzz : (((if i.op_ = 26 then 0 else (opsI i).length) < 1 → i.a = 0) ∧ ((if i.op_ = 26 then 0 else (opsI i).length) < 2 → i.b = 0) ∧ ((if i.op_ = 26 then 0 else (opsI i).length) < 3 → i.c = 0))
  rotate_left
  · refine ⟨false, ?_, HS _ (fun h => by cases h) (fun _ => ?_), by simp, fun h => absurd ⟨h.zero, h.zerob, h.zeroc⟩ hzz⟩
    · rw [HI, if_pos]
      cases hx : (List.drop (if i.op_ = 26 then ([] : List Int) else opsI i).length [i.a, i.b, i.c]).any (fun n => n != 0) with
      | true => rfl
      | false => exact absurd (hz.1 hx) hzz
    · have hC3 : ¬ _ := fun hx => hzz (hz2.1 hx)
      rw [Bool.not_eq_false] at hC3
      rw [hC3]
      simp only [if_true, ite_self]
  rw [if_neg (by rw [hz.2 hzz]; simp)] at HI
  have HS2 : ∀ r, (if (if (!((((i.op_ == 24) || (i.op_ == 25))) == ((i.w == 0)))) = true then true else (if (!(((i.op_ == 24) || (i.op_ == 25)))) = true then ((!((spec_WidthOk_m i.w))) || decide (((List.length i.args : Int)) > 4)) else decide (((List.length i.args : Int)) > 4))) = true then some false
       else if (i.op_ == 21) = true then some (valB i.w i.imm) else if (i.op_ == 26) = true then some (iB i.imm 0 (funcs - 1)) else if (i.op_ == 23) = true then some ((i.w == 8) && (i.imm == 0)) else some (i.imm == 0)) = r → spec_l2Inst_m i ids funcs = r := fun r hr => by
    refine HS _ (fun h => by cases h) (fun _ => ?_)
    rw [if_neg (c := (if decide _ = true then _ else _) = true) (by rw [hz2.2 hzz]; simp)]
    exact hr
  have hna' : i.op_ ≠ 26 → i.args = [] := fun h => List.eq_nil_of_length_eq_zero (hna.resolve_left h)
  rw [h4'] at HS2
  unfold impl_isWidth_m at HI
  by_cases hv : i.op_ = 24 ∨ i.op_ = 25
  · have ev : ((i.op_ == 24) || (i.op_ == 25)) = true := by rcases hv with h | h <;> simp [h]
    have n1 : (i.op_ == 21) = false := by rcases hv with h | h <;> simp [h]
    have n2 : (i.op_ == 26) = false := by rcases hv with h | h <;> simp [h]
    have n3 : (i.op_ == 23) = false := by rcases hv with h | h <;> simp [h]
    simp only [ev, n1, n2, n3, if_true, Bool.false_eq_true, if_false, Bool.not_true] at HI HS2
    by_cases hw : i.w = 0
    · simp only [hw, BEq.rfl, if_true] at HI HS2
      refine ⟨_, HI, HS2 _ (by simp), fun h => ⟨hop, h4, hna', hin, hzz.1, hzz.2.1, hzz.2.2, fun _ => hw, fun h' => absurd hv h', fun h' => by omega, fun h' => by omega, fun h' => by omega, fun _ _ => by simpa using h⟩, fun h => by simpa using h.imm (by omega) (by omega)⟩
    · have : (i.w == 0) = false := by simpa using hw
      simp only [this, Bool.false_eq_true, if_false] at HI HS2
      exact ⟨false, HI, HS2 _ (by simp), by simp, fun h => absurd (h.w0 hv) hw⟩
  · have ev : ((i.op_ == 24) || (i.op_ == 25)) = false := by
      simp; omega
    simp only [ev, Bool.false_eq_true, if_false, Bool.not_false, if_true, Bool.or_false] at HI HS2
    by_cases hr : i.op_ = 23
    · have n1 : (i.op_ == 21) = false := by simp [hr]
      have n2 : (i.op_ == 26) = false := by simp [hr]
      simp only [hr, n1, n2, BEq.rfl, if_true, Bool.false_eq_true, if_false] at HI HS2
      by_cases hw : i.w = 8
      · simp only [hw, BEq.rfl, if_true, Bool.true_and] at HI HS2
        have : spec_WidthOk_m 8 = true := rfl
        refine ⟨_, HI, HS2 _ (by simp [this]), fun h => ⟨hop, h4, hna', hin, hzz.1, hzz.2.1, hzz.2.2, fun h' => absurd h' hv, fun _ => .inr (.inl hw), fun _ => hw, fun h' => by omega, fun h' => by omega, fun _ _ => by simpa using h⟩, fun h => by simpa using h.imm (by omega) (by omega)⟩
      · have e8 : (i.w == 8) = false := by simpa using hw
        simp only [e8, Bool.false_eq_true, if_false, Bool.false_and] at HI HS2
        refine ⟨false, HI, HS2 _ ?_, by simp, fun h => absurd (h.w8 hr) hw⟩
        cases spec_WidthOk_m i.w <;> cases (i.w == 0) <;> simp
    · have n3 : (i.op_ == 23) = false := by simpa using hr
      simp only [n3, Bool.false_eq_true, if_false] at HI HS2
      by_cases hw : isW i.w
      · have e8 : impl_WidthOk_m i.w = true := wB_iff.2 hw
        have e9 : spec_WidthOk_m i.w = true := wB_iff.2 hw
        have ez : (i.w == 0) = false := by rcases hw with h | h | h | h <;> simp [h]
        simp only [e8, e9, ez, if_true, Bool.not_true, BEq.rfl, Bool.false_eq_true, if_false] at HI HS2
        have hval : ∃ b, (if (i.op_ == 21) = true then some (valB i.w i.imm) else if (i.op_ == 26) = true then some (iB i.imm 0 (funcs - 1)) else some (i.imm == 0)) = some b := by
          split
          · exact ⟨_, rfl⟩
          · split <;> exact ⟨_, rfl⟩
        obtain ⟨b, hb⟩ := hval
        refine ⟨b, HI.trans hb, HS2 _ (by first | exact hb | simpa using hb), fun hbt => ⟨hop, h4, hna', hin, hzz.1, hzz.2.1, hzz.2.2, fun h' => absurd h' hv, fun _ => hw, fun h' => absurd h' hr, fun h' => ?_, fun h' => ?_, fun h' h'' => ?_⟩, fun h => ?_⟩
        · rw [if_pos (by simpa using h')] at hb
          rw [← hbt]; exact Option.some.inj hb
        · rw [if_neg (by simp [h']), if_pos (by simpa using h')] at hb
          have := Option.some.inj hb
          rw [hbt, iB_iff] at this
          omega
        · rw [if_neg (by simpa using h'), if_neg (by simpa using h'')] at hb
          have := Option.some.inj hb
          rw [hbt] at this
          simpa using this
        · have hb := Option.some.inj (show some b = some true from ?_)
          · exact hb
          rw [← hb]
          by_cases k1 : i.op_ = 21
          · rw [if_pos (by simpa using k1), h.const k1]
          · rw [if_neg (by simpa using k1)]
            by_cases k2 : i.op_ = 26
            · rw [if_pos (by simpa using k2), iB_iff.2 (by have := h.call k2; omega)]
            · rw [if_neg (by simpa using k2), h.imm k1 k2]
              rfl
      · have e8 : impl_WidthOk_m i.w = false := by
          cases hx : impl_WidthOk_m i.w with
          | false => rfl
          | true => exact absurd (wB_iff.1 hx) hw
        have e9 : spec_WidthOk_m i.w = false := e8
        simp only [e8, e9, Bool.not_false, Bool.true_or, if_true, Bool.false_eq_true, if_false] at HI HS2
        refine ⟨false, HI, HS2 _ ?_, by simp, fun h => absurd (h.w1 hv) hw⟩
        cases (i.w == 0) <;> rfl
/-- An end in its form. -/
structure fmT (t : GTerm) (ids blocks : Int) : Prop where
  kind : t.kind = 1 ∨ t.kind = 2 ∨ t.kind = 3 ∨ t.kind = 4
  a : t.kind = 1 ∨ t.kind = 3 → 0 ≤ t.a ∧ t.a < ids
  x : t.kind = 2 ∨ t.kind = 3 → 0 ≤ t.x ∧ t.x < blocks
  y : t.kind = 3 → 0 ≤ t.y ∧ t.y < blocks ∧ t.x ≠ t.y
  z1 : t.kind = 1 → t.x = 0 ∧ t.y = 0
  z2 : t.kind = 2 → t.a = 0 ∧ t.y = 0
  z4 : t.kind = 4 → t.a = 0 ∧ t.x = 0 ∧ t.y = 0
theorem term_ok {f : GFunc} {t : GTerm} {ids : Int} (h1 : inI (ids - 1)) (h2 : inI ((f.blocks.length : Int) - 1)) : ∃ b, impl_isTerm_m f t ids = some b ∧ spec_l2Term_m t ids (f.blocks.length : Int) = some b ∧ (b = true ↔ fmT t ids (f.blocks.length : Int)) := by
  unfold impl_isTerm_m spec_l2Term_m impl_isTerm_1_m
  have hi := fun a b : Int => @iB_iff a 0 b
  simp only [if_pos h1, if_pos h2, spec_in, iB] at hi ⊢
  by_cases k1 : t.kind = 1
  · simp only [k1, BEq.rfl, if_true]
    rcases Bool.eq_false_or_eq_true (impl_within_m t.a 0 (ids - 1)) with hA | hA
    rotate_left
    · exact ⟨false, by simp [hA], by simp [hA], by simp, fun h => by have := h.a (.inl k1); rw [(hi _ _).2 (by omega)] at hA; cases hA⟩
    · refine ⟨(t.x == 0) && (t.y == 0), ?_, ?_, fun h => ⟨.inl k1, fun _ => by have := (hi _ _).1 hA; omega, fun h => by omega, fun h => by omega, fun _ => by simpa using h, fun h => by omega, fun h => by omega⟩, fun h => by simpa using h.z1 k1⟩
      · cases (t.x == 0) <;> simp [hA]
      · cases (t.x == 0) <;> simp [hA]
  · have e1 : (t.kind == 1) = false := by simpa using k1
    simp only [e1, Bool.false_eq_true, if_false]
    by_cases k2 : t.kind = 2
    · simp only [k2, BEq.rfl, if_true]
      refine ⟨(t.a == 0) && (impl_within_m t.x 0 ((f.blocks.length : Int) - 1) && (t.y == 0)), rfl, ?_, fun h => ⟨.inr (.inl k2), fun h => by omega, fun _ => ?_, fun h => by omega, fun h => by omega, fun _ => ?_, fun h => by omega⟩, fun h => ?_⟩
      · cases (t.a == 0) <;> rcases Bool.eq_false_or_eq_true (impl_within_m t.x 0 ((f.blocks.length : Int) - 1)) with hX | hX <;> simp [hX]
      · simp only [Bool.and_eq_true] at h
        have := (hi _ _).1 h.2.1
        omega
      · simp only [Bool.and_eq_true] at h
        exact ⟨by simpa using h.1, by simpa using h.2.2⟩
      · have g1 := h.z2 k2
        have g2 := h.x (.inl k2)
        rw [(hi _ _).2 (by omega), g1.1, g1.2]
        rfl
    · have e2 : (t.kind == 2) = false := by simpa using k2
      simp only [e2, Bool.false_eq_true, if_false]
      by_cases k3 : t.kind = 3
      · simp only [k3, BEq.rfl, if_true]
        refine ⟨impl_within_m t.a 0 (ids - 1) && (impl_within_m t.x 0 ((f.blocks.length : Int) - 1) && (impl_within_m t.y 0 ((f.blocks.length : Int) - 1) && (t.x != t.y))), ?_, ?_, fun h => ?_, fun h => ?_⟩
        · show (Option.bind (if impl_within_m t.a 0 (ids - 1) = true then (if impl_within_m t.x 0 ((f.blocks.length : Int) - 1) = true then (if impl_within_m t.y 0 ((f.blocks.length : Int) - 1) = true then some (t.x != t.y) else some false) else some false) else some false) fun j => some j) = _
          rcases Bool.eq_false_or_eq_true (impl_within_m t.a 0 (ids - 1)) with hA | hA <;> rcases Bool.eq_false_or_eq_true (impl_within_m t.x 0 ((f.blocks.length : Int) - 1)) with hX | hX <;> rcases Bool.eq_false_or_eq_true (impl_within_m t.y 0 ((f.blocks.length : Int) - 1)) with hY | hY <;> simp [hA, hX, hY]
        · rcases Bool.eq_false_or_eq_true (impl_within_m t.a 0 (ids - 1)) with hA | hA <;> rcases Bool.eq_false_or_eq_true (impl_within_m t.x 0 ((f.blocks.length : Int) - 1)) with hX | hX <;> rcases Bool.eq_false_or_eq_true (impl_within_m t.y 0 ((f.blocks.length : Int) - 1)) with hY | hY <;> simp [hA, hX, hY]
        · simp only [Bool.and_eq_true] at h
          have g1 := (hi _ _).1 h.1
          have g2 := (hi _ _).1 h.2.1
          have g3 := (hi _ _).1 h.2.2.1
          have g4 := h.2.2.2
          exact ⟨.inr (.inr (.inl k3)), fun _ => by omega, fun _ => by omega, fun _ => ⟨by omega, by omega, by simpa using g4⟩, fun h => by omega, fun h => by omega, fun h => by omega⟩
        · have g1 := h.a (.inr k3)
          have g2 := h.x (.inr k3)
          have g3 := h.y k3
          rw [(hi _ _).2 (by omega), (hi _ _).2 (by omega), (hi _ _).2 (by omega)]
          simpa using g3.2.2
      · have e3 : (t.kind == 3) = false := by simpa using k3
        simp only [e3, Bool.false_eq_true, if_false]
        refine ⟨(t.kind == 4) && ((t.a == 0) && ((t.x == 0) && (t.y == 0))), ?_, rfl, fun h => ?_, fun h => ?_⟩
        · cases (t.kind == 4) <;> simp
        · simp only [Bool.and_eq_true] at h
          have : t.kind = 4 := by simpa using h.1
          exact ⟨.inr (.inr (.inr this)), fun h => by omega, fun h => by omega, fun h => by omega, fun h => by omega, fun h => by omega, fun _ => ⟨by simpa using h.2.1, by simpa using h.2.2.1, by simpa using h.2.2.2⟩⟩
        · have k4 : t.kind = 4 := by
            have := h.kind
            omega
          have g := h.z4 k4
          rw [k4, g.1, g.2.1, g.2.2]
          rfl
/-- A function in its form. -/
structure fmF (f : GFunc) (funcs : Int) : Prop where
  params : f.params.length ≤ 4
  pw : ∀ w ∈ f.params, isW w
  ret : isW f.ret
  blocks : 1 ≤ f.blocks.length ∧ f.blocks.length ≤ 10
  cnt : cnt f ≤ 60
  phis : ∀ b ∈ f.blocks, ∀ p ∈ b.phis, isW p.w ∧ p.ins.length ≤ 10 ∧ inN (AM.cnt f) p.ins
  insts : ∀ b ∈ f.blocks, ∀ i ∈ b.insts, fmI i (AM.cnt f) funcs
  terms : ∀ b ∈ f.blocks, fmT b.term (AM.cnt f) f.blocks.length
noncomputable def phiB (p : GPhi) (n : Int) : Bool := wB p.w && (decide (p.ins.length ≤ 10) && p.ins.all fun x => iB x 0 (n - 1))
theorem phi_impl {p : GPhi} {n : Int} (h1 : inI (n - 1)) (hl : p.ins.length ≤ 1000000000000) : impl_isFunc_2_m p n = some (!phiB p n) := by
  unfold impl_isFunc_2_m phiB
  cases hw : impl_WidthOk_m p.w
  · simp [wB, hw]
  · by_cases h : p.ins.length ≤ 10
    · rw [if_neg (by simp), if_neg (by simp; omega), indexFunc_int_ok _ _ (fun x => !iB x 0 (n - 1)) (fun x _ => by unfold impl_isFunc_2_1_m; rw [if_pos h1]) (by omega)]
      simp only [obs, wB, hw, Bool.true_and, h, decide_true]
      congr 1
      rw [List.all_eq_not_any_not, Bool.not_not]
    · rw [if_neg (by simp), if_pos (by simp; omega)]
      simp [wB, hw, h]
noncomputable def instB (i : GInst) (n funcs : Int) : Bool := (impl_isInst_m i n funcs).getD false
noncomputable def termB (f : GFunc) (t : GTerm) (n : Int) : Bool := (impl_isTerm_m f t n).getD false
theorem inst_impl {i : GInst} {n funcs : Int} (ha : i.args.length ≤ 1000000000000) (h1 : inI (n - 1)) (h2 : inI (funcs - 1)) : impl_isInst_m i n funcs = some (instB i n funcs) := by
  obtain ⟨b, e, _, _⟩ := inst_ok ha h1 h2
  rw [instB, e]; rfl
theorem inst_spec {i : GInst} {n funcs : Int} (ha : i.args.length ≤ 1000000000000) (h1 : inI (n - 1)) (h2 : inI (funcs - 1)) : spec_l2Inst_m i n funcs = some (instB i n funcs) := by
  obtain ⟨b, e, e2, _⟩ := inst_ok ha h1 h2
  rw [instB, e, e2]; rfl
theorem inst_fm {i : GInst} {n funcs : Int} (ha : i.args.length ≤ 1000000000000) (h1 : inI (n - 1)) (h2 : inI (funcs - 1)) (h : instB i n funcs = true) : fmI i n funcs := by
  obtain ⟨b, e, _, e3⟩ := inst_ok ha h1 h2
  rw [instB, e] at h
  exact e3.1 h
theorem inst_true {i : GInst} {n funcs : Int} (h1 : inI (n - 1)) (h2 : inI (funcs - 1)) (h : fmI i n funcs) : instB i n funcs = true := by
  obtain ⟨b, e, _, e3⟩ := inst_ok (Nat.le_trans h.args (by decide)) h1 h2
  rw [instB, e]
  exact e3.2 h
theorem term_impl {f : GFunc} {t : GTerm} {n : Int} (h1 : inI (n - 1)) (h2 : inI ((f.blocks.length : Int) - 1)) : impl_isTerm_m f t n = some (termB f t n) := by
  obtain ⟨b, e, _, _⟩ := term_ok (t := t) h1 h2
  rw [termB, e]; rfl
theorem term_spec {f : GFunc} {t : GTerm} {n : Int} (h1 : inI (n - 1)) (h2 : inI ((f.blocks.length : Int) - 1)) : spec_l2Term_m t n (f.blocks.length : Int) = some (termB f t n) := by
  obtain ⟨b, e, e2, _⟩ := term_ok (t := t) h1 h2
  rw [termB, e, e2]; rfl
theorem term_true {f : GFunc} {t : GTerm} {n : Int} (h1 : inI (n - 1)) (h2 : inI ((f.blocks.length : Int) - 1)) (h : fmT t n f.blocks.length) : termB f t n = true := by
  obtain ⟨b, e, _, e3⟩ := term_ok (t := t) h1 h2
  rw [termB, e]
  exact e3.2 h
theorem phi_true {p : GPhi} {n : Int} (h : isW p.w ∧ p.ins.length ≤ 10 ∧ inN n p.ins) : phiB p n = true := by
  simp only [phiB, Bool.and_eq_true, decide_eq_true_eq, List.all_eq_true]
  exact ⟨wB_iff.2 h.1, h.2.1, fun x hx => iB_iff.2 (by have := h.2.2 x hx; omega)⟩
/-- A block in its form. -/
noncomputable def blkB (f : GFunc) (funcs : Int) (b : GBlock) : Bool := b.phis.all (fun p => phiB p (cnt f)) && (b.insts.all (fun i => instB i (cnt f) funcs) && termB f b.term (cnt f))
theorem any_not {α : Type} (l : List α) (c : α → Bool) : l.any (fun x => !c x) = !l.all c := by rw [List.all_eq_not_any_not, Bool.not_not]
theorem blk_impl {f : GFunc} {funcs : Int} (h : bndF f) (h2 : inI (funcs - 1)) : ∀ L, loopO (fun (st15 : Int) =>
 ((if decide (st15 < ((List.length f.blocks : Int))) = true then
 (if 0 ≤ st15 ∧ st15 < (List.length f.blocks : Int) then
 (Option.bind (slices_ContainsFunc_impl_Phi_impl_Phi_m ((at_ f.blocks st15).phis) ((fun z0 => impl_isFunc_2_m z0 (cnt f : Int)))) fun x20 =>
 (if x20 = true then
 (some (Sum.inr ((Sum.inl (())))))
 else
 (Option.bind ((Option.bind (slices_ContainsFunc_impl_Inst_impl_Inst_m ((at_ f.blocks st15).insts) ((fun z0 => impl_isFunc_3_m z0 (cnt f : Int) funcs))) fun x24 =>
 (if x24 = true then
 (some true)
 else
 (Option.bind (impl_isTerm_m f (((at_ f.blocks st15).term)) (cnt f : Int)) fun x27 =>
 (some ((!x27))))))) fun (j23 : Bool) =>
 (if j23 = true then
 (some (Sum.inr ((Sum.inl (())))))
 else
 (if inI (st15 + 1) then
 (some (Sum.inl (st15 + 1)))
 else none)))))
 else none)
 else
 (some (Sum.inr ((Sum.inr (())))))) : Option ((Int) ⊕ (Unit ⊕ Unit)))) 0 = L → (f.blocks.all (blkB f funcs) = false ∧ L = some (.inl ())) ∨ (f.blocks.all (blkB f funcs) = true ∧ L = some (.inr ())) := by
  intro L hB
  have hc := h.cnt_le
  have hb := h.blocks
  have h1 : inI ((cnt f : Int) - 1) := inI_le (by omega) (by omega)
  have h3 : inI ((f.blocks.length : Int) - 1) := inI_le (by omega) (by omega)
  have K := loop_any' hB f.blocks (fun b => !blkB f funcs b) (fun _ => ()) (by
    intro k hk
    have h0 : 0 ≤ (k : Int) ∧ (k : Int) < (f.blocks.length : Int) := by omega
    have hm := at_mem h0
    have hr := h.rows _ hm
    rw [if_pos (by simpa using hk), if_pos h0, contains_phi_ok _ _ (fun p => !phiB p (cnt f)) (fun p hp => phi_impl h1 (h.ins _ hm p hp)) (by omega), any_not, obs]
    rw [contains_inst_ok _ _ (fun i => !instB i (cnt f) funcs) (fun i hi => by unfold impl_isFunc_3_m; rw [inst_impl (h.args _ hm i hi) h1 h2]; rfl) (by omega), any_not, obs, term_impl h1 h3, obs]
    simp only [blkB]
    rcases Bool.eq_false_or_eq_true ((at_ f.blocks (k : Int)).phis.all (fun p => phiB p (cnt f))) with hA | hA
    · rcases Bool.eq_false_or_eq_true ((at_ f.blocks (k : Int)).insts.all (fun i => instB i (cnt f) funcs)) with hB2 | hB2
      · rcases Bool.eq_false_or_eq_true (termB f (at_ f.blocks (k : Int)).term (cnt f)) with hC | hC
        · simp only [hA, hB2, hC, Bool.not_true, Bool.false_eq_true, if_false, obs, Bool.and_self]
          rw [if_pos (inI_le (by omega) (by omega))]
        · simp [hA, hB2, hC]
      · simp [hA, hB2]
    · simp [hA]) (by rw [if_neg (by simp)])
  rw [any_not] at K
  rcases K with ⟨k1, k, _, rfl⟩ | ⟨k1, rfl⟩
  · exact .inl ⟨by simpa using k1, rfl⟩
  · exact .inr ⟨by simpa using k1, rfl⟩
end Go.Proofs.YtghdhjgoicnbcaaGreat.AM

namespace Go.Proofs.YtghdhjgoicnbcaaGreat.AM
open Go
set_option linter.unusedSimpArgs false
set_option linter.unusedVariables false

theorem loop_all' {β : Type} [Inhabited β] {body : Int → Option (Int ⊕ (Unit ⊕ Unit))} {L : Option (Unit ⊕ Unit)} (hB : loopO body 0 = L) (xs : List β) (c : β → Bool)
    (h1 : ∀ k : Nat, k < xs.length → body (k : Int) = some (if c (at_ xs k) = true then .inl ((k : Int) + 1) else .inr (.inl ()))) (h2 : body (xs.length : Int) = some (.inr (.inr ()))) : L = some (if xs.all c = true then .inr () else .inl ()) := by
  have K := loop_any' hB xs (fun x => !c x) (fun _ => ()) (by
    intro k hk
    rw [h1 k hk]
    rcases Bool.eq_false_or_eq_true (c (at_ xs (k : Int))) with hA | hA <;> simp [hA]) h2
  rw [any_not] at K
  rcases K with ⟨k1, k, _, rfl⟩ | ⟨k1, rfl⟩
  · have : xs.all c = false := by simpa using k1
    rw [this]; rfl
  · have : xs.all c = true := by simpa using k1
    rw [this]; rfl
noncomputable def funcB (f : GFunc) (funcs : Int) : Bool := decide (f.params.length ≤ 4) && (wB f.ret && (iB f.blocks.length 1 10 && (f.params.all wB && (decide (cnt f ≤ 60) && f.blocks.all (blkB f funcs)))))
theorem func_impl {f : GFunc} {funcs : Int} (h : bndF f) (h2 : inI (funcs - 1)) : impl_isFunc_m f funcs = some (funcB f funcs) := by
  unfold impl_isFunc_m funcB
  have hc := h.cnt_le
  have hp := h.params
  rw [indexFunc_int_ok f.params (fun z0 => some (impl_isFunc_1_m z0)) (fun x => !wB x) (fun x _ => rfl) (by omega), any_not, implCount h]
  simp only [obs]
  generalize hB : loopO _ _ = L
  have K := blk_impl h h2 L hB
  by_cases e1 : f.params.length ≤ 4
  · rw [if_neg (by simp; omega)]
    rcases Bool.eq_false_or_eq_true (wB f.ret) with e2 | e2
    · have e2' : impl_WidthOk_m f.ret = true := e2
      rcases Bool.eq_false_or_eq_true (iB f.blocks.length 1 10) with e3 | e3
      · have e3' : impl_within_m (f.blocks.length : Int) 1 10 = true := e3
        rcases Bool.eq_false_or_eq_true (f.params.all wB) with e4 | e4
        · by_cases e5 : cnt f ≤ 60
          · have e5' : ¬((cnt f : Int) > 60) := by omega
            rcases K with ⟨k1, rfl⟩ | ⟨k1, rfl⟩ <;> simp [e1, e2, e2', e3, e3', e4, e5, e5', k1]
          · have e5' : ((cnt f : Int) > 60) := by omega
            simp [e1, e2, e2', e3, e3', e4, e5, e5']
        · simp [e1, e2, e2', e3, e3', e4]
      · have e3' : impl_within_m (f.blocks.length : Int) 1 10 = false := e3
        simp [e1, e2, e2', e3, e3']
    · have e2' : impl_WidthOk_m f.ret = false := e2
      simp [e1, e2, e2']
  · rw [if_pos (by simp; omega)]
    simp [e1]
theorem func_spec {f : GFunc} {funcs : Int} (h : bndF f) (h2 : inI (funcs - 1)) : spec_l2Func_m f funcs = some (funcB f funcs) := by
  unfold spec_l2Func_m funcB
  have hc := h.cnt_le
  have hp := h.params
  have hb := h.blocks
  have h1 : inI ((cnt f : Int) - 1) := inI_le (by omega) (by omega)
  have h3 : inI ((f.blocks.length : Int) - 1) := inI_le (by omega) (by omega)
  rw [specCount h, obs]
  simp only [spec_w, spec_in]
  generalize hB : loopO _ _ = L
  have K := loop_all' hB f.params wB (by
    intro k hk
    have h0 : 0 ≤ (k : Int) ∧ (k : Int) < (f.params.length : Int) := by omega
    rw [if_pos (by simpa using hk), if_pos h0, if_pos (inI_le (by omega) (by omega))]
    rcases Bool.eq_false_or_eq_true (wB (at_ f.params (k : Int))) with hA | hA <;> simp [hA]) (by rw [if_neg (by simp)])
  subst K
  by_cases e1 : f.params.length ≤ 4
  · have e1' : ¬((f.params.length : Int) > 4) := by omega
    rcases Bool.eq_false_or_eq_true (wB f.ret) with e2 | e2
    · rcases Bool.eq_false_or_eq_true (iB f.blocks.length 1 10) with e3 | e3
      · by_cases e5 : cnt f ≤ 60
        · have e5' : ¬((cnt f : Int) > 60) := by omega
          rcases Bool.eq_false_or_eq_true (f.params.all wB) with e4 | e4
          · simp only [e1, e1', e2, e3, e4, e5, e5', decide_true, decide_false, Bool.not_true, Bool.true_and, Bool.false_eq_true, if_false, if_true, obs]
            generalize hC : loopO _ _ = M
            have K := loop_all' hC f.blocks (blkB f funcs) (by
              intro k hk
              have h0 : 0 ≤ (k : Int) ∧ (k : Int) < (f.blocks.length : Int) := by omega
              have hm := at_mem h0
              have hr := h.rows _ hm
              have hi := h.ins _ hm
              have ha := h.args _ hm
              simp only [blkB]
              generalize at_ f.blocks (k : Int) = b at hm hr hi ha ⊢
              rw [if_pos (by simpa using hk), if_pos h0]
              generalize hD : loopO _ _ = P
              have K := loop_all' hD b.phis (fun p => phiB p (cnt f)) (by
                intro j hj
                have j0 : 0 ≤ (j : Int) ∧ (j : Int) < (b.phis.length : Int) := by omega
                have jm := at_mem j0
                have ji := hi _ jm
                simp only [phiB]
                rw [if_pos (by simpa using hj), if_pos j0, if_pos j0, if_pos (show inI ((j : Int) + 1) from inI_le (by omega) (by omega))]
                generalize at_ b.phis (j : Int) = p at jm ji ⊢
                rcases Bool.eq_false_or_eq_true (wB p.w) with g1 | g1
                · by_cases g2 : p.ins.length ≤ 10
                  · have g2' : ¬((p.ins.length : Int) > 10) := by omega
                    simp only [g1, g2, g2', decide_true, decide_false, Bool.not_true, Bool.true_and, Bool.false_eq_true, if_false, obs]
                    generalize hE : loopO _ _ = Q
                    have K := loop_all' hE p.ins (fun x => iB x 0 ((cnt f : Int) - 1)) (by
                      intro i hi
                      have i0 : 0 ≤ (i : Int) ∧ (i : Int) < (p.ins.length : Int) := by omega
                      rw [if_pos j0, if_pos (by simpa using hi), if_pos j0, if_pos i0, if_pos h1, if_pos (inI_le (by omega) (by omega))]
                      rcases Bool.eq_false_or_eq_true (iB (at_ p.ins (i : Int)) 0 ((cnt f : Int) - 1)) with hA | hA <;> simp [hA]) (by rw [if_pos j0, if_neg (by simp)])
                    subst K
                    rcases Bool.eq_false_or_eq_true (p.ins.all (fun x => iB x 0 ((cnt f : Int) - 1))) with hA | hA <;> simp [hA]
                  · have g2' : ((p.ins.length : Int) > 10) := by omega
                    simp [g1, g2, g2']
                · simp [g1]) (by rw [if_neg (by simp)])
              subst K
              rcases Bool.eq_false_or_eq_true (b.phis.all (fun p => phiB p (cnt f))) with g1 | g1
              · simp only [g1, if_true, obs, Bool.true_and]
                generalize hE : loopO _ _ = Q
                have K := loop_all' hE b.insts (fun i => instB i (cnt f) funcs) (by
                  intro j hj
                  have j0 : 0 ≤ (j : Int) ∧ (j : Int) < (b.insts.length : Int) := by omega
                  have jm := at_mem j0
                  rw [if_pos (by simpa using hj), if_pos j0, inst_spec (ha _ jm) h1 h2, obs, if_pos (show inI ((j : Int) + 1) from inI_le (by omega) (by omega))]
                  rcases Bool.eq_false_or_eq_true (instB (at_ b.insts (j : Int)) (cnt f) funcs) with hA | hA <;> simp [hA]) (by rw [if_neg (by simp)])
                subst K
                rcases Bool.eq_false_or_eq_true (b.insts.all (fun i => instB i (cnt f) funcs)) with g2 | g2
                · simp only [g2, if_true, obs, Bool.true_and]
                  rw [term_spec h1 h3, obs, if_pos (show inI ((k : Int) + 1) from inI_le (by omega) (by omega))]
                  rcases Bool.eq_false_or_eq_true (termB f b.term (cnt f)) with hA | hA <;> simp [hA]
                · simp [g2]
              · simp [g1]) (by rw [if_neg (by simp)])
            subst K
            rcases Bool.eq_false_or_eq_true (f.blocks.all (blkB f funcs)) with hA | hA <;> simp [hA]
          · simp [e1, e1', e2, e3, e4, e5, e5']
        · have e5' : ((cnt f : Int) > 60) := by omega
          simp [e1, e1', e2, e3, e5, e5']
      · simp [e1, e1', e2, e3]
    · simp [e1, e1', e2]
  · have e1' : ((f.params.length : Int) > 4) := by omega
    simp [e1, e1']
theorem func_true {f : GFunc} {funcs : Int} (h : bndF f) (h2 : inI (funcs - 1)) (hf : fmF f funcs) : funcB f funcs = true := by
  have hc := h.cnt_le
  have hb := h.blocks
  have h1 : inI ((cnt f : Int) - 1) := inI_le (by omega) (by omega)
  have h3 : inI ((f.blocks.length : Int) - 1) := inI_le (by omega) (by omega)
  simp only [funcB, Bool.and_eq_true, decide_eq_true_eq, List.all_eq_true, blkB]
  have hb := hf.blocks
  exact ⟨hf.params, wB_iff.2 hf.ret, iB_iff.2 (by omega), fun w hw => wB_iff.2 (hf.pw w hw), hf.cnt, fun b hm => ⟨fun p hp => phi_true (hf.phis b hm p hp), fun i hi => inst_true h1 h2 (hf.insts b hm i hi), term_true h1 h3 (hf.terms b hm)⟩⟩
/-- What is drawn is in its form. -/
theorem okF.fm {f : GFunc} (h : okF f) : fmF f 3 := by
  have hp := h.ok.params
  have hn := h.ok.ne
  refine ⟨h.ok.params, h.ok.pw, h.ok.ret, ⟨hn, h.nb⟩, h.nv, fun b hb p hp => ?_, fun b hb i hi => ?_, fun b hb => ?_⟩
  · have k := (h.ok.okbs b hb).1.ps p hp
    exact ⟨k.2.2, k.2.1, k.1⟩
  · have k := (h.ok.okbs b hb).1.is i hi
    obtain ⟨a1, a2, a3, a4, a5, a6, a7, a8, a9, a10, a11, a12⟩ := k.2.2.2
    exact ⟨a1, a2, a3, k.2.1, a4, a5, a6, a7, a8, a9, fun e => by
      have e1 := a10 e
      rw [valB, wB_iff.2 (a8 (by omega)), iB_iff.2 e1]
      rfl, a11, a12⟩
  · have k := (h.ok.okbs b hb).2
    have x := h.ok.tg b hb
    have z := k.2
    refine ⟨?_, k.1, fun e => by have := x.1 e; omega, fun e => by have := x.2 e; omega, fun e => ?_, fun e => ?_, fun e => ?_⟩
    · rcases z with z | z | z | z <;> omega
    · rcases z with z | z | z | z <;> omega
    · rcases z with z | z | z | z <;> omega
    · rcases z with z | z | z | z <;> omega
theorem okF.formed {f : GFunc} (h : okF f) : funcB f 3 = true := func_true h.ok.bnd (inI_le (by omega) (by omega)) h.fm
end Go.Proofs.YtghdhjgoicnbcaaGreat.AM

namespace Go.Proofs.YtghdhjgoicnbcaaGreat.AM
open Go
set_option linter.unusedSimpArgs false
set_option linter.unusedVariables false

theorem impl_mask_ok {w : Int} (hw : isW w) : impl_mask_m w = some (topW w) := by rcases hw with rfl | rfl | rfl | rfl <;> decide +kernel
theorem spec_top_ok {w : Int} (hw : isW w) : spec_l1Top_m w = some (topW w + 1) := by rcases hw with rfl | rfl | rfl | rfl <;> decide +kernel
theorem and_top {w : Int} (hw : isW w) (x : Int) : bits .and .i64 x (topW w) = x % (topW w + 1) := by
  have key : ∀ k : Nat, k ≤ 32 → bits .and .i64 x (((2 ^ k - 1 : Nat) : Int)) = x % ((2 ^ k : Nat) : Int) := by
    intro k hk
    have hp : 2 ^ k ≤ 2 ^ 32 := Nat.pow_le_pow_right (by decide) hk
    have hp0 : 0 < 2 ^ k := Nat.pow_pos (by decide)
    have e1 : (BitVec.ofInt 64 x &&& BitVec.ofInt 64 (((2 ^ k - 1 : Nat) : Int))).toNat = (x % ((2 ^ k : Nat) : Int)).toNat := by
      rw [BitVec.toNat_and, BitVec.toNat_ofInt, BitVec.toNat_ofInt]
      have e2 : ((((2 ^ k - 1 : Nat) : Int)) % ((2 ^ 64 : Nat) : Int)).toNat = 2 ^ k - 1 := by
        rw [Int.emod_eq_of_lt (by omega) (by omega)]
        rfl
      rw [e2, Nat.and_two_pow_sub_one_eq_mod]
      have e3 : ((x % ((2 ^ 64 : Nat) : Int)).toNat : Int) = x % ((2 ^ 64 : Nat) : Int) := Int.toNat_of_nonneg (Int.emod_nonneg _ (by decide))
      have e4 : x % ((2 ^ 64 : Nat) : Int) % ((2 ^ k : Nat) : Int) = x % ((2 ^ k : Nat) : Int) := Int.emod_emod_of_dvd x (Int.ofNat_dvd.2 (Nat.pow_dvd_pow 2 (by omega)))
      have e5 : (((x % ((2 ^ 64 : Nat) : Int)).toNat % 2 ^ k : Nat) : Int) = x % ((2 ^ k : Nat) : Int) := by rw [Int.natCast_emod, e3, e4]
      omega
    unfold bits
    show IntKind.i64.wrap ((BitVec.ofInt 64 x &&& BitVec.ofInt 64 (((2 ^ k - 1 : Nat) : Int))).toNat : Int) = _
    have h1 := Int.emod_nonneg x (show ((2 ^ k : Nat) : Int) ≠ 0 by omega)
    have h2 := Int.emod_lt_of_pos x (show (0 : Int) < ((2 ^ k : Nat) : Int) by omega)
    rw [e1, Int.toNat_of_nonneg h1, wrap_in (by omega) (by omega)]
  rcases hw with rfl | rfl | rfl | rfl
  · exact key 1 (by decide)
  · exact key 8 (by decide)
  · exact key 16 (by decide)
  · exact key 32 (by decide)
theorem impl_masked {w : Int} (hw : isW w) (n : Int) : impl_Masked_m w n = some (n % (topW w + 1)) := by
  have e : impl_WidthOk_m w = true := wB_iff.2 hw
  unfold impl_Masked_m
  rw [if_neg (by simp [e]), impl_mask_ok hw, obs, and_top hw]
theorem spec_masked {w : Int} (hw : isW w) (n : Int) : spec_Masked_m w n = some (n % (topW w + 1)) := by
  have e : spec_WidthOk_m w = true := wB_iff.2 hw
  have ht := topW_in hw
  unfold spec_Masked_m
  rw [if_neg (by simp [e]), spec_top_ok hw, obs, if_pos (inI_le (by omega) (by omega)), show topW w + 1 - 1 = topW w from by omega, and_top hw]
/-- A value with its sign. -/
def sgn (w v : Int) : Int := if topW w < 2 * v then v - (topW w + 1) else v
theorem impl_sgn {w v : Int} (hw : isW w) (hv : 0 ≤ v ∧ v ≤ topW w) : impl_signOf_m w v = some (sgn w v) := by
  have key : ∀ (k T : Int), v / k = 0 ∨ v / k = 1 → (v / k = 1 ↔ T < 2 * v) → 0 ≤ v → v ≤ T → T ≤ 4294967295 →
      (if (bits .and .i64 (v / k) 1 == 1) = true then (Option.bind (some T) fun x4 => (if inI ((IntKind.i64.wrap (v - x4)) - 1) then (some ((IntKind.i64.wrap (v - x4)) - 1)) else none)) else some v) = some (if T < 2 * v then v - (T + 1) else v) := by
    intro k T h1 h2 h3 h4 h5
    rcases h1 with h1 | h1
    · rw [h1, if_neg (by decide), if_neg (by omega)]
    · rw [h1, if_pos (by decide), obs, wrap_in (by omega) (by omega), if_pos (inI_le (by omega) (by omega)), if_pos (by omega)]
      congr 1
      omega
  have ht := topW_in hw
  unfold impl_signOf_m sgn
  rw [impl_mask_ok hw]
  rcases hw with rfl | rfl | rfl | rfl
  · have e : (2 : Int) ^ min (Int.toNat (1 - 1)) (IntKind.bits .i64) = 1 := by decide
    have et : topW 1 = 1 := rfl
    rw [if_pos (inI_le (by omega) (by omega)), if_pos (by omega), e]
    exact key 1 _ (by omega) (by omega) hv.1 hv.2 (by omega)
  · have e : (2 : Int) ^ min (Int.toNat (8 - 1)) (IntKind.bits .i64) = 128 := by decide
    have et : topW 8 = 255 := rfl
    rw [if_pos (inI_le (by omega) (by omega)), if_pos (by omega), e]
    exact key 128 _ (by omega) (by omega) hv.1 hv.2 (by omega)
  · have e : (2 : Int) ^ min (Int.toNat (16 - 1)) (IntKind.bits .i64) = 32768 := by decide
    have et : topW 16 = 65535 := rfl
    rw [if_pos (inI_le (by omega) (by omega)), if_pos (by omega), e]
    exact key 32768 _ (by omega) (by omega) hv.1 hv.2 (by omega)
  · have e : (2 : Int) ^ min (Int.toNat (32 - 1)) (IntKind.bits .i64) = 2147483648 := by decide
    have et : topW 32 = 4294967295 := rfl
    rw [if_pos (inI_le (by omega) (by omega)), if_pos (by omega), e]
    exact key 2147483648 _ (by omega) (by omega) hv.1 hv.2 (by omega)
theorem spec_sgn {w v : Int} (hw : isW w) (hv : 0 ≤ v ∧ v ≤ topW w) : spec_l1Sign_m w v = some (sgn w v) := by
  have ht := topW_in hw
  have e : IntKind.i64.wrap (Int.tdiv (topW w + 1) 2) = (topW w + 1) / 2 := by rcases hw with rfl | rfl | rfl | rfl <;> decide
  have ev : 2 * ((topW w + 1) / 2) = topW w + 1 := by rcases hw with rfl | rfl | rfl | rfl <;> decide
  unfold spec_l1Sign_m sgn
  rw [spec_top_ok hw, obs, obs, e]
  by_cases h : topW w < 2 * v
  · rw [if_pos (by simp; omega), if_pos h, wrap_in (by omega) (by omega)]
  · rw [if_neg (by simp; omega), if_neg h]
theorem sgn_in {w v : Int} (hw : isW w) (hv : 0 ≤ v ∧ v ≤ topW w) : -((topW w + 1) / 2) ≤ sgn w v ∧ sgn w v < (topW w + 1) / 2 := by
  have ev : 2 * ((topW w + 1) / 2) = topW w + 1 := by rcases hw with rfl | rfl | rfl | rfl <;> decide
  unfold sgn
  split <;> omega
theorem sgn_mod {w : Int} (v : Int) : sgn w v % (topW w + 1) = v % (topW w + 1) := by
  unfold sgn
  split
  · exact Int.sub_emod_right _ _
  · rfl
theorem wrap_mod {w : Int} (hw : isW w) (n : Int) : IntKind.i64.wrap n % (topW w + 1) = n % (topW w + 1) := by
  have e : IntKind.i64.wrap n = n % 18446744073709551616 ∨ IntKind.i64.wrap n = n % 18446744073709551616 - 18446744073709551616 := by
    unfold IntKind.wrap
    simp only [IntKind.bits, IntKind.signed, Bool.true_and]
    split
    · exact .inr rfl
    · exact .inl rfl
  rcases hw with rfl | rfl | rfl | rfl
  · have et : topW 1 + 1 = 2 := rfl
    rw [et]; omega
  · have et : topW 8 + 1 = 256 := rfl
    rw [et]; omega
  · have et : topW 16 + 1 = 65536 := rfl
    rw [et]; omega
  · have et : topW 32 + 1 = 4294967296 := rfl
    rw [et]; omega
theorem div_small {s P : Int} (hP : 0 < P) (h1 : -P ≤ s) (h2 : s < P) : s / P = if s < 0 then -1 else 0 := by
  split
  · have a1 : -1 ≤ s / P := Int.le_ediv_of_mul_le hP (by omega)
    have a2 : s / P < 0 := Int.ediv_lt_of_lt_mul hP (by omega)
    omega
  · exact Int.ediv_eq_zero_of_lt (by omega) h2
end Go.Proofs.YtghdhjgoicnbcaaGreat.AM

namespace Go.Proofs.YtghdhjgoicnbcaaGreat.AM
open Go
set_option linter.unusedSimpArgs false
set_option linter.unusedVariables false

theorem u64_self {n : Int} (h : 0 ≤ n) (h2 : n < 18446744073709551616) : IntKind.u64.wrap n = n := by
  unfold IntKind.wrap
  simp only [IntKind.bits, IntKind.signed, Bool.false_and, Bool.false_eq_true, if_false]
  exact Int.emod_eq_of_lt h h2
theorem shift_ok {op w a b : Int} (hw : isW w) (ha : 0 ≤ a ∧ a ≤ topW w) (hb : 0 ≤ b ∧ b ≤ topW w) (ho : op = 11 ∨ op = 12 ∨ op = 13) : ∃ r, impl_shifted_m op w a b = some r ∧ spec_l1Shift_m op w a b = some r := by
  have ht := topW_in hw
  have hs := sgn_in hw ha
  have hu := u64_self (n := b) (by omega) (by omega)
  unfold impl_shifted_m spec_l1Shift_m
  rw [impl_sgn hw ha, spec_sgn hw ha, hu]
  simp only [obs]
  have hb0 : (0 : Int) ≤ b := hb.1
  by_cases hbw : b ≥ w
  · have hbw' : decide (b ≥ w) = true := by simpa using hbw
    rcases ho with rfl | rfl | rfl
    · simp [hbw']
    · simp [hbw']
    · have hw1 : 1 ≤ w ∧ w ≤ 32 := by rcases hw with rfl | rfl | rfl | rfl <;> decide
      have hw2 := u64_self (n := w - 1) (by omega) (by omega)
      refine ⟨sgn w a / 2 ^ min (Int.toNat (min b 63)) (IntKind.bits .i64), ?_, ?_⟩
      · rw [if_pos (by decide), if_pos (by omega)]
      · rw [if_pos (by simp [hbw]), if_pos (inI_le (by omega) (by omega)), hw2, if_pos (by omega)]
        congr 1
        have hh : (topW w + 1) / 2 = 2 ^ (w - 1).toNat := by rcases hw with rfl | rfl | rfl | rfl <;> decide
        have k1 : ∀ n : Nat, (w - 1).toNat ≤ n → sgn w a / (2 : Int) ^ n = if sgn w a < 0 then -1 else 0 := by
          intro n hn
          have hp : (2 : Nat) ^ (w - 1).toNat ≤ 2 ^ n := Nat.pow_le_pow_right (by decide) hn
          have hpi : ((2 : Int) ^ (w - 1).toNat) ≤ (2 : Int) ^ n := by exact_mod_cast hp
          have hp0 : (0 : Int) < 2 ^ n := Int.pow_pos (by decide)
          rw [hh] at hs
          exact div_small hp0 (by omega) (by omega)
        have hbits : IntKind.bits .i64 = 64 := rfl
        rw [k1 _ (by rw [hbits]; omega), k1 _ (by rw [hbits]; omega)]
  · have hbw' : decide (b ≥ w) = false := by simpa using hbw
    have hm : min b 63 = b := by
      have : w ≤ 32 := by rcases hw with rfl | rfl | rfl | rfl <;> decide
      omega
    rcases ho with rfl | rfl | rfl
    · simp [hbw', hb0]
    · simp [hbw', hb0]
    · rw [hm]
      simp [hbw', hb0]
theorem two_ok {op w a b : Int} (hw : isW w) (ha : 0 ≤ a ∧ a ≤ topW w) (hb : 0 ≤ b ∧ b ≤ topW w) (ho : 1 ≤ op ∧ op ≤ 17) (hd : 4 ≤ op → op ≤ 7 → b ≠ 0) :
    ∃ r r', impl_reckoned_m op w a b = some r ∧ spec_l1Two_m op w a b = some r' ∧ r % (topW w + 1) = r' % (topW w + 1) := by
  have ht := topW_in hw
  have hsb : b ≠ 0 → sgn w b ≠ 0 := by
    intro h
    unfold sgn
    split <;> omega
  unfold impl_reckoned_m spec_l1Two_m
  rw [impl_sgn hw ha, impl_sgn hw hb, spec_sgn hw ha, spec_sgn hw hb]
  simp only [obs]
  have : op = 1 ∨ op = 2 ∨ op = 3 ∨ op = 4 ∨ op = 5 ∨ op = 6 ∨ op = 7 ∨ op = 8 ∨ op = 9 ∨ op = 10 ∨ op = 14 ∨ op = 15 ∨ op = 16 ∨ op = 17 ∨ (op = 11 ∨ op = 12 ∨ op = 13) := by omega
  rcases this with rfl | rfl | rfl | rfl | rfl | rfl | rfl | rfl | rfl | rfl | rfl | rfl | rfl | rfl | ho
  · exact ⟨_, _, rfl, rfl, rfl⟩
  · exact ⟨_, _, rfl, rfl, rfl⟩
  · refine ⟨_, _, rfl, rfl, ?_⟩
    rw [wrap_mod hw, wrap_mod hw, Int.mul_emod, Int.mul_emod (sgn w a), sgn_mod, sgn_mod]
  · have hb0 := hd (by decide) (by decide)
    exact ⟨IntKind.i64.wrap (Int.tdiv a b), IntKind.i64.wrap (Int.tdiv a b), by simp [hb0], by simp [hb0], rfl⟩
  · have hb0 := hsb (hd (by decide) (by decide))
    exact ⟨IntKind.i64.wrap (Int.tdiv (sgn w a) (sgn w b)), IntKind.i64.wrap (Int.tdiv (sgn w a) (sgn w b)), by simp [hb0], by simp [hb0], rfl⟩
  · have hb0 := hd (by decide) (by decide)
    exact ⟨Int.tmod a b, Int.tmod a b, by simp [hb0], by simp [hb0], rfl⟩
  · have hb0 := hsb (hd (by decide) (by decide))
    exact ⟨Int.tmod (sgn w a) (sgn w b), Int.tmod (sgn w a) (sgn w b), by simp [hb0], by simp [hb0], rfl⟩
  · exact ⟨_, _, rfl, rfl, rfl⟩
  · exact ⟨_, _, rfl, rfl, rfl⟩
  · exact ⟨_, _, rfl, rfl, rfl⟩
  · exact ⟨_, _, rfl, rfl, rfl⟩
  · exact ⟨_, _, rfl, rfl, rfl⟩
  · exact ⟨_, _, rfl, rfl, rfl⟩
  · exact ⟨_, _, rfl, rfl, rfl⟩
  · obtain ⟨r, e1, e2⟩ := shift_ok hw ha hb ho
    rw [e1, e2]
    refine ⟨r, r, ?_, ?_, rfl⟩
    · rcases ho with rfl | rfl | rfl <;> rfl
    · rcases ho with rfl | rfl | rfl <;> rfl
theorem valB_iff {w v : Int} : valB w v = true ↔ isW w ∧ 0 ≤ v ∧ v ≤ topW w := by
  unfold valB
  rw [Bool.and_eq_true, wB_iff, iB_iff]
theorem binary_ok (op w a b : Int) : ∃ x, impl_Binary_m op w a b = some x ∧ spec_Binary_m op w a b = some x := by
  have e0 : impl_isBinary_m op = iB op 1 17 := rfl
  have e1 : impl_isDivision_m op = iB op 4 7 := rfl
  have e2 : spec_l1Divides_m op = iB op 4 7 := rfl
  unfold impl_Binary_m spec_Binary_m
  rw [impl_val, impl_val, spec_val, spec_val, e0, e1, e2, spec_in]
  simp only [obs]
  rcases Bool.eq_false_or_eq_true (iB op 1 17) with h1 | h1
  · rcases Bool.eq_false_or_eq_true (valB w a) with h2 | h2
    · rcases Bool.eq_false_or_eq_true (valB w b) with h3 | h3
      · simp only [h1, h2, h3, Bool.not_true, Bool.false_eq_true, if_false, obs]
        rcases Bool.eq_false_or_eq_true (iB op 4 7 && (b == 0)) with h4 | h4
        · exact ⟨_, by rw [if_pos h4], by rw [if_pos h4]⟩
        · obtain ⟨hw, ha⟩ := valB_iff.1 h2
          obtain ⟨_, hb⟩ := valB_iff.1 h3
          have hd : 4 ≤ op → op ≤ 7 → b ≠ 0 := by
            intro o1 o2 hb0
            rw [iB_iff.2 ⟨o1, o2⟩, hb0] at h4
            cases h4
          obtain ⟨r, r', q1, q2, q3⟩ := two_ok hw ha hb (iB_iff.1 h1) hd
          refine ⟨(r % (topW w + 1), 0), ?_, ?_⟩
          · rw [if_neg (by simp [h4]), q1, obs, impl_masked hw]; rfl
          · rw [if_neg (by simp [h4]), q2, obs, spec_masked hw, q3]; rfl
      · exact ⟨(0, 2), by simp [h1, h2, h3], by simp [h1, h2, h3]⟩
    · exact ⟨(0, 2), by simp [h1, h2], by simp [h1, h2]⟩
  · exact ⟨(0, 2), by simp [h1], by simp [h1]⟩
theorem casted_ok (op w to v : Int) : ∃ x, impl_Casted_m op w to v = some x ∧ spec_Casted_m op w to v = some x := by
  have e0 : impl_WidthOk_m to = wB to := rfl
  unfold impl_Casted_m spec_Casted_m
  rw [impl_val, spec_val, e0, spec_w]
  simp only [obs, gt_iff_lt]
  rcases Bool.eq_false_or_eq_true (valB w v) with h1 | h1
  · rcases Bool.eq_false_or_eq_true (wB to) with h2 | h2
    · obtain ⟨hw, hv⟩ := valB_iff.1 h1
      have ht := wB_iff.1 h2
      rw [impl_sgn hw hv, spec_sgn hw hv]
      simp only [h1, h2, Bool.not_true, Bool.false_eq_true, if_false, obs]
      rw [impl_masked ht, spec_masked ht, impl_masked ht, spec_masked ht]
      simp only [obs]
      rcases Bool.eq_false_or_eq_true (op == 18 && decide (w < to)) with h3 | h3
      · exact ⟨_, by rw [if_pos h3], by rw [if_pos h3]⟩
      · rw [if_neg (by rw [h3]; decide)]
        rcases Bool.eq_false_or_eq_true (op == 19 && decide (w < to)) with h4 | h4
        · exact ⟨_, by rw [if_pos h4], by rw [if_pos h4]⟩
        · rw [if_neg (by rw [h4]; decide)]
          rcases Bool.eq_false_or_eq_true (op == 20 && decide (to < w)) with h5 | h5
          · exact ⟨_, by rw [if_pos h5], by rw [if_pos h5]⟩
          · rw [if_neg (by rw [h5]; decide)]
            exact ⟨_, rfl, rfl⟩
    · exact ⟨(0, false), by simp [h1, h2], by simp [h1, h2]⟩
  · exact ⟨(0, false), by simp [h1], by simp [h1]⟩
end Go.Proofs.YtghdhjgoicnbcaaGreat.AM

namespace Go.Proofs.YtghdhjgoicnbcaaGreat.AM
open Go
set_option linter.unusedSimpArgs false
set_option linter.unusedVariables false

theorem pl_inv : ∀ (xs : List GBlock) (b n c a : Nat), pl xs b n = some (c, a) → b ≤ c ∧ n = sumz (xs.take (c - b)) + a
  | [], _, _, _, _, h => by simp [pl] at h
  | x :: xs, b, n, c, a, h => by
    unfold pl at h
    by_cases hn : n < sz x
    · rw [if_pos hn] at h
      simp only [Option.some.injEq, Prod.mk.injEq] at h
      obtain ⟨rfl, rfl⟩ := h
      exact ⟨Nat.le_refl _, by simp [sumz]⟩
    · rw [if_neg hn] at h
      obtain ⟨h1, h2⟩ := pl_inv xs _ _ _ _ h
      refine ⟨by omega, ?_⟩
      rw [show c - b = (c - (b + 1)) + 1 from by omega]
      have e : sumz ((x :: xs).take (c - (b + 1) + 1)) = sz x + sumz (xs.take (c - (b + 1))) := by simp [sumz]
      omega
theorem place_inv {f : GFunc} {id : Int} (h : 0 ≤ (placeOf f id).1) : id = (pre f (placeOf f id).1.toNat : Int) + (placeOf f id).2 := by
  unfold placeOf at h ⊢
  by_cases h0 : id < 0
  · rw [if_pos h0] at h; simp at h
  · rw [if_neg h0] at h ⊢
    by_cases hp : id < (f.params.length : Int)
    · rw [if_pos hp] at h; simp at h
    · rw [if_neg hp] at h ⊢
      cases e : pl f.blocks 0 (id - (f.params.length : Int)).toNat with
      | none => rw [e] at h; simp [plI] at h
      | some x =>
        obtain ⟨c, a⟩ := x
        have := (pl_inv _ _ _ _ _ e).2
        simp only [plI, pre, Nat.sub_zero, Int.toNat_natCast] at this ⊢
        omega
/-- The instruction of an id. -/
noncomputable def instF (f : GFunc) (id : Int) : Option GInst :=
  if (placeOf f id).1 < 0 then none else
  if (placeOf f id).2 < ((at_ f.blocks (placeOf f id).1).phis.length : Int) then none else
  some (at_ (at_ f.blocks (placeOf f id).1).insts ((placeOf f id).2 - ((at_ f.blocks (placeOf f id).1).phis.length : Int)))
theorem instF_some {f : GFunc} {id : Int} {x : GInst} (h : instF f id = some x) : ∃ k i : Nat, k < f.blocks.length ∧ i < (at_ f.blocks (k : Int)).insts.length ∧ id = (pre f k : Int) + (at_ f.blocks (k : Int)).phis.length + i ∧ x = at_ (at_ f.blocks (k : Int)).insts (i : Int) := by
  unfold instF at h
  by_cases h0 : (placeOf f id).1 < 0
  · rw [if_pos h0] at h; cases h
  · rw [if_neg h0] at h
    have hi := place_inv (f := f) (id := id) (by omega)
    rcases placeOf_cases f id with hp | ⟨hp, h1, h2⟩ | ⟨h1, h2, h3⟩
    · rw [hp] at h0; simp at h0
    · rw [hp] at h0; simp at h0
    · generalize placeOf f id = p at h h0 hi h1 h2 h3
      obtain ⟨p1, p2⟩ := p
      simp only at h h0 hi h1 h2 h3
      obtain ⟨k, rfl⟩ := Int.eq_ofNat_of_zero_le h1.1
      by_cases hq : p2 < ((at_ f.blocks (k : Int)).phis.length : Int)
      · rw [if_pos hq] at h; cases h
      · rw [if_neg hq] at h
        cases h
        unfold sz at h3
        simp only [Int.toNat_natCast] at hi
        refine ⟨k, (p2 - ((at_ f.blocks (k : Int)).phis.length : Int)).toNat, by omega, by omega, by omega, ?_⟩
        congr 1
        omega
def noI : GInst := { op_ := 0, w := 0, a := 0, b := 0, c := 0, imm := 0, args := [] }
def orI : Option GInst → GInst × Bool
  | some i => (i, true)
  | none => (noI, false)
theorem impl_inst {f : GFunc} (h : bndF f) (id : Int) : impl_instOf_m f id = some (orI (instF f id)) := by
  unfold impl_instOf_m instF
  rw [implPlace h]
  simp only [obs]
  rcases placeOf_cases f id with hp | ⟨hp, h1, h2⟩ | ⟨h1, h2, h3⟩
  · rw [hp]; rfl
  · rw [hp]; rfl
  · generalize placeOf f id = p at h1 h2 h3 ⊢
    have hb := h.rows _ (at_mem h1)
    unfold sz at h3
    have e5 : decide (p.1 < 0) = false := by simp; omega
    simp only [e5, Bool.false_eq_true, if_false, if_pos h1, obs]
    rw [if_neg (show ¬ p.1 < 0 by omega)]
    by_cases hq : p.2 < ((at_ f.blocks p.1).phis.length : Int)
    · rw [if_pos (by simpa using hq), if_pos hq]
      rfl
    · have hz : 0 ≤ p.2 - ((at_ f.blocks p.1).phis.length : Int) ∧ p.2 - ((at_ f.blocks p.1).phis.length : Int) < ((at_ f.blocks p.1).insts.length : Int) := by omega
      rw [if_neg (by simpa using hq), if_neg hq, wrap_in (by omega) (by omega), if_pos hz]
      rfl
theorem spec_inst {f : GFunc} (h : bndF f) {id : Int} (hid : id ≤ 9223372036854775807) : spec_l9Inst_m f id = some (orI (instF f id)) := by
  unfold spec_l9Inst_m instF
  rw [specPlace h hid]
  simp only [obs]
  rcases placeOf_cases f id with hp | ⟨hp, h1, h2⟩ | ⟨h1, h2, h3⟩
  · rw [hp]; rfl
  · rw [hp]; rfl
  · generalize placeOf f id = p at h1 h2 h3 ⊢
    have hb := h.rows _ (at_mem h1)
    unfold sz at h3
    have e5 : decide (p.1 < 0) = false := by simp; omega
    simp only [e5, Bool.false_eq_true, if_false, if_pos h1, obs]
    rw [if_neg (show ¬ p.1 < 0 by omega)]
    by_cases hq : p.2 < ((at_ f.blocks p.1).phis.length : Int)
    · rw [if_pos (by simpa using hq), if_pos hq]
      rfl
    · have hz : 0 ≤ p.2 - ((at_ f.blocks p.1).phis.length : Int) ∧ p.2 - ((at_ f.blocks p.1).phis.length : Int) < ((at_ f.blocks p.1).insts.length : Int) := by omega
      rw [if_neg (by simpa using hq), if_neg hq, if_pos (inI_le (by omega) (by omega)), if_pos hz]
      rfl
noncomputable def cstF (f : GFunc) (id : Int) : Int × Bool := if ((!(orI (instF f id)).2) || ((orI (instF f id)).1.op_ != 21)) = true then (0, false) else ((orI (instF f id)).1.imm, true)
theorem impl_const {f : GFunc} (h : bndF f) (id : Int) : impl_ConstOf_m f id = some (cstF f id) := by
  unfold impl_ConstOf_m cstF
  rw [impl_inst h, obs]
  split <;> rfl
theorem spec_const {f : GFunc} (h : bndF f) {id : Int} (hid : id ≤ 9223372036854775807) : spec_ConstOf_m f id = some (cstF f id) := by
  unfold spec_ConstOf_m cstF
  rw [spec_inst h hid, obs]
  split <;> rfl
noncomputable def rootB (f : GFunc) (i : GInst) : Bool := if iB i.op_ 4 7 = true then ((!(cstF f i.b).2) || ((cstF f i.b).1 == 0)) else iB i.op_ 23 26
/-- What an id names. -/
noncomputable def namF (f : GFunc) (id : Int) : List Int :=
  if (placeOf f id).1 < 0 then [] else
  if (placeOf f id).2 < ((at_ f.blocks (placeOf f id).1).phis.length : Int) then (at_ (at_ f.blocks (placeOf f id).1).phis (placeOf f id).2).ins else
  opsI (at_ (at_ f.blocks (placeOf f id).1).insts ((placeOf f id).2 - ((at_ f.blocks (placeOf f id).1).phis.length : Int)))
/-- Is the instruction of an id a root? -/
noncomputable def isR (f : GFunc) (id : Int) : Bool := match instF f id with | some i => rootB f i | none => false
def isRoot (f : GFunc) (x : Int) : Prop := isR f x = true ∨ ∃ b ∈ f.blocks, x ∈ endL b.term
inductive Nd (f : GFunc) : Int → Prop
  | root {x : Int} : isRoot f x → Nd f x
  | step {a b : Int} : Nd f a → b ∈ namF f a → Nd f b
theorem pre_mono {f : GFunc} {k m : Nat} (h : k ≤ m) : pre f k ≤ pre f m := by
  induction m with
  | zero => simp only [Nat.le_zero] at h; subst h; exact Nat.le_refl _
  | succ m ih =>
    by_cases e : k = m + 1
    · subst e; exact Nat.le_refl _
    · refine Nat.le_trans (ih (by omega)) ?_
      by_cases hm : m < f.blocks.length
      · rw [pre_succ hm]; omega
      · unfold pre
        rw [List.take_of_length_le (by omega), List.take_of_length_le (by omega)]
        exact Nat.le_refl _
theorem isR_in {f : GFunc} {x : Int} (h : isR f x = true) : 0 ≤ x ∧ x < (cnt f : Int) := by
  unfold isR at h
  cases e : instF f x with
  | none => rw [e] at h; cases h
  | some i =>
    obtain ⟨k, j, h1, h2, rfl, _⟩ := instF_some e
    have h3 := pre_mono (f := f) (show k + 1 ≤ f.blocks.length from h1)
    rw [pre_all, pre_succ h1] at h3
    unfold sz at h3
    omega
theorem isRoot_in {f : GFunc} {n : Int} (hf : fmF f n) {x : Int} (h : isRoot f x) : 0 ≤ x ∧ x < (cnt f : Int) := by
  rcases h with h | ⟨b, hb, h⟩
  · exact isR_in h
  · unfold endL at h
    split at h
    · rename_i hk
      simp only [List.mem_singleton] at h
      subst h
      exact (hf.terms b hb).a hk
    · cases h
theorem nam_in {f : GFunc} {n : Int} (hf : fmF f n) (id : Int) : inN (cnt f) (namF f id) ∧ (namF f id).length ≤ 10 := by
  unfold namF
  rcases placeOf_cases f id with hp | ⟨hp, h1, h2⟩ | ⟨h1, h2, h3⟩
  · rw [hp]; exact ⟨by simp [inN], by simp⟩
  · rw [hp]; exact ⟨by simp [inN], by simp⟩
  · generalize placeOf f id = p at h1 h2 h3 ⊢
    unfold sz at h3
    rw [if_neg (show ¬ p.1 < 0 by omega)]
    split
    · rename_i hq
      have := hf.phis _ (at_mem h1) _ (at_mem ⟨h2, hq⟩)
      exact ⟨this.2.2, this.2.1⟩
    · have hz : 0 ≤ p.2 - ((at_ f.blocks p.1).phis.length : Int) ∧ p.2 - ((at_ f.blocks p.1).phis.length : Int) < ((at_ f.blocks p.1).insts.length : Int) := by omega
      have := hf.insts _ (at_mem h1) _ (at_mem hz)
      exact ⟨this.ids, ops_len (Nat.le_trans this.args (by decide))⟩
theorem Nd.lt {f : GFunc} {n : Int} (hf : fmF f n) {x : Int} (h : Nd f x) : 0 ≤ x ∧ x < (cnt f : Int) := by
  cases h with
  | root h => exact isRoot_in hf h
  | step _ h => exact (nam_in hf _).1 _ h
end Go.Proofs.YtghdhjgoicnbcaaGreat.AM

namespace Go.Proofs.YtghdhjgoicnbcaaGreat.AM
open Go
set_option linter.unusedSimpArgs false
set_option linter.unusedVariables false

theorem is_ok (op : Int) (l : List Int) (hl : l.length ≤ 100) : impl_is_m op l = some (l.any (fun x => op == x)) := by
  unfold impl_is_m
  rw [contains_int_ok _ _ (by omega)]
  rfl
theorem and2b (y p l : Bool) : (if y = true then (if p = true then l else false) else false) = (y && (p && l)) := by cases y <;> cases p <;> rfl
theorem or2c (x p y q l : Bool) : (if x = true then (if p = true then l else (y && (q && l))) else (y && (q && l))) = ((x && p || y && q) && l) := by
  cases x <;> cases p <;> cases y <;> cases q <;> cases l <;> rfl
theorem or2b (x p y q s t : Bool) : (if s = true then (if x = true then (p || (y && q)) else (y && q)) else (t && (if x = true then (p || (y && q)) else (y && q)))) = ((x && p || y && q) && (s || t)) := by
  cases x <;> cases p <;> cases y <;> cases q <;> cases s <;> cases t <;> rfl
theorem ite_some {α : Type} (c : Bool) (a b : α) : (if c = true then some a else some b) = some (if c = true then a else b) := by cases c <;> rfl
theorem copy_ok {i : GInst} (h : i.args.length ≤ 1000000000000) : spec_l2CopyInst_m i = some i := by
  unfold spec_l2CopyInst_m
  rw [l1Copy_ok _ (by omega)]
  rfl
theorem own_ok {i : GInst} (h : i.args.length ≤ 1000000000000) : impl_ownInst_m i = some i := by
  have hL := LIM_eq
  unfold impl_ownInst_m slices_Clone_int64_int64_m
  rw [if_pos (by simp only [List.length_nil]; omega)]
  rfl
/-- A constant; a copy. -/
noncomputable def ctI (i : GInst) (v : Int) : GInst := ⟨21, spec_l2Width_m i, 0, 0, 0, v, []⟩
noncomputable def cpI (i : GInst) (id : Int) : GInst := ⟨27, spec_l2Width_m i, id, 0, 0, 0, []⟩
/-- Two operands, one of them a constant or both one. -/
noncomputable def twoI (i : GInst) (a : Int) (x : Bool) (b : Int) (y : Bool) : GInst :=
  if (y && ((b == 0) && [1, 2, 9, 10, 11, 12, 13].any (fun z => i.op_ == z))) = true then cpI i i.a else
  if (x && ((a == 0) && [1, 9, 10].any (fun z => i.op_ == z))) = true then cpI i i.b else
  if (y && ((b == 1) && [3, 4].any (fun z => i.op_ == z))) = true then cpI i i.a else
  if (x && ((a == 1) && (i.op_ == 3))) = true then cpI i i.b else
  if ((x && (a == 0) || y && (b == 0)) && [3, 8].any (fun z => i.op_ == z)) = true then ctI i 0 else
  if (i.a != i.b) = true then i else
  if ([2, 10, 15, 16, 17].any (fun z => i.op_ == z)) = true then ctI i 0 else
  if (i.op_ == 14) = true then ctI i 1 else
  if ([8, 9].any (fun z => i.op_ == z)) = true then cpI i i.a else i
theorem spec_two {i : GInst} (h : i.args.length ≤ 1000000000000) (a : Int) (x : Bool) (b : Int) (y : Bool) : spec_l9Two_m i a x b y = some (twoI i a x b y) := by
  have l1 : ((i.op_ == 1) || ((i.op_ == 2) || ((i.op_ == 9) || ((i.op_ == 10) || (spec_l1In_m i.op_ 11 13))))) = [1, 2, 9, 10, 11, 12, 13].any (fun z => i.op_ == z) := by
    have e : spec_l1In_m i.op_ 11 13 = ((i.op_ == 11) || ((i.op_ == 12) || (i.op_ == 13))) := by
      rw [Bool.eq_iff_iff]
      simp [spec_l1In_m]
      omega
    rw [e]
    simp only [List.any_cons, List.any_nil, Bool.or_false]
  have l2 : ((i.op_ == 1) || ((i.op_ == 9) || (i.op_ == 10))) = [1, 9, 10].any (fun z => i.op_ == z) := by simp only [List.any_cons, List.any_nil, Bool.or_false]
  have l3 : ((i.op_ == 3) || (i.op_ == 4)) = [3, 4].any (fun z => i.op_ == z) := by simp only [List.any_cons, List.any_nil, Bool.or_false]
  have l5 : ((i.op_ == 3) || (i.op_ == 8)) = [3, 8].any (fun z => i.op_ == z) := by simp only [List.any_cons, List.any_nil, Bool.or_false]
  have l6 : ((i.op_ == 2) || ((i.op_ == 10) || ((i.op_ == 15) || ((i.op_ == 16) || (i.op_ == 17))))) = [2, 10, 15, 16, 17].any (fun z => i.op_ == z) := by simp only [List.any_cons, List.any_nil, Bool.or_false]
  have l7 : ((i.op_ == 8) || (i.op_ == 9)) = [8, 9].any (fun z => i.op_ == z) := by simp only [List.any_cons, List.any_nil, Bool.or_false]
  unfold spec_l9Two_m twoI
  rw [copy_ok h]
  simp only [and2b, or2b, l1, l2, l3, l5, l6, l7, obs, spec_l9Same_m, spec_l9Const_m, ite_some]
  rfl
theorem impl_two {f : GFunc} {i : GInst} (h : bndF f) (hw : impl_widthOf_m i = spec_l2Width_m i) : impl_foldedBinary_m f i =
    if ((cstF f i.a).2 && (cstF f i.b).2) = true then (Option.bind (impl_Binary_m i.op_ i.w (cstF f i.a).1 (cstF f i.b).1) fun x => some (if (x.2 == 0) = true then ctI i x.1 else i))
    else some (twoI i (cstF f i.a).1 (cstF f i.a).2 (cstF f i.b).1 (cstF f i.b).2) := by
  unfold impl_foldedBinary_m twoI
  rw [impl_const h, impl_const h]
  simp only [obs]
  generalize cstF f i.a = A
  generalize cstF f i.b = B
  rw [is_ok _ _ (by simp), is_ok _ _ (by simp), is_ok _ _ (by simp), is_ok _ _ (by simp), is_ok _ _ (by simp), is_ok _ _ (by simp)]
  simp only [obs, impl_copied_m, impl_constant_m, hw, ite_some, and2b]
  simp only [or2c]
  rfl
/-- What an instruction folds to. -/
theorem fold_ok {f : GFunc} {i : GInst} {n k : Int} (hF : okFn f) (hi : fmI i n k) (hn : n ≤ 1000000000000) : ∃ j, impl_folded_m f i = some j ∧ spec_l9Fold_m f i = some j ∧ (j = i ∨ j.op_ = 21 ∨ j.op_ = 27) ∧ j.args.length ≤ 4 := by
  have h := hF.bnd
  have ha4 := hi.args
  have hokI : okI i := by
    by_cases h2 : i.op_ = 24 ∨ i.op_ = 25
    · exact .inl (hi.w0 h2)
    · exact .inr ⟨fun e => h2 (.inl e), fun e => h2 (.inr e)⟩
  have hw := width_eq hokI
  have hiA : i.a ≤ 9223372036854775807 := by
    by_cases e : (if i.op_ = 26 then 0 else (opsI i).length) < 1
    · rw [hi.zero e]; omega
    · have hm : i.a ∈ opsI i := by
        by_cases e3 : i.op_ = 26
        · rw [if_pos e3] at e; omega
        · rw [if_neg e3] at e
          unfold opsI at e ⊢
          split at e
          · rename_i c; rw [if_pos c]; simp
          · rename_i c
            split at e
            · rename_i c2; rw [if_neg c, if_pos c2]; simp
            · rename_i c2
              split at e
              · rename_i c3; rw [if_neg c, if_neg c2, if_pos c3]; simp
              · simp at e
      have := (hi.ids _ hm).2
      omega
  have hiB : i.b ≤ 9223372036854775807 := by
    by_cases e : (if i.op_ = 26 then 0 else (opsI i).length) < 2
    · rw [hi.zerob e]; omega
    · have hm : i.b ∈ opsI i := by
        by_cases e3 : i.op_ = 26
        · rw [if_pos e3] at e; omega
        · rw [if_neg e3] at e
          unfold opsI at e ⊢
          split at e
          · rename_i c; rw [if_pos c]; simp
          · rename_i c
            split at e
            · simp at e
            · rename_i c2
              split at e
              · rename_i c3; rw [if_neg c, if_neg c2, if_pos c3]; simp
              · simp at e
      have := (hi.ids _ hm).2
      omega
  have ej : ∀ j : GInst, ({ op_ := j.op_, w := j.w, a := j.a, b := j.b, c := j.c, imm := j.imm, args := j.args } : GInst) = j := fun _ => rfl
  have eb : impl_isBinary_m i.op_ = iB i.op_ 1 17 := rfl
  have ec : impl_isCast_m i.op_ = iB i.op_ 18 20 := rfl
  unfold impl_folded_m spec_l9Fold_m
  rw [impl_const h, spec_const h hiA, spec_const h hiB, eb, ec, impl_two h hw, copy_ok (by omega), impl_type hF, spec_type hF hiA]
  simp only [obs, spec_in, ej, impl_val, spec_val]
  rcases Bool.eq_false_or_eq_true (iB i.op_ 1 17) with h1 | h1
  · rw [if_pos h1, if_pos h1]
    obtain ⟨x, q1, q2⟩ := binary_ok i.op_ i.w (cstF f i.a).1 (cstF f i.b).1
    rw [q1, q2]
    simp only [obs]
    rcases Bool.eq_false_or_eq_true ((cstF f i.a).2 && (cstF f i.b).2) with h2 | h2
    · rw [if_pos h2, if_pos h2]
      rcases Bool.eq_false_or_eq_true (x.2 == 0) with h3 | h3
      · rw [if_pos h3, if_pos h3]
        exact ⟨_, rfl, rfl, .inr (.inl rfl), by simp [ctI]⟩
      · rw [if_neg (by rw [h3]; decide), if_neg (by rw [h3]; decide)]
        exact ⟨_, rfl, rfl, .inl rfl, ha4⟩
    · rw [if_neg (by rw [h2]; decide), if_neg (by rw [h2]; decide), spec_two (by omega)]
      refine ⟨_, rfl, rfl, ?_⟩
      unfold twoI
      have c1 : ∀ v, ((ctI i v) = i ∨ (ctI i v).op_ = 21 ∨ (ctI i v).op_ = 27) ∧ (ctI i v).args.length ≤ 4 := fun v => ⟨.inr (.inl rfl), by simp [ctI]⟩
      have c2 : ∀ v, ((cpI i v) = i ∨ (cpI i v).op_ = 21 ∨ (cpI i v).op_ = 27) ∧ (cpI i v).args.length ≤ 4 := fun v => ⟨.inr (.inr rfl), by simp [cpI]⟩
      have c3 : (i = i ∨ i.op_ = 21 ∨ i.op_ = 27) ∧ i.args.length ≤ 4 := ⟨.inl rfl, ha4⟩
      split
      · exact c2 _
      · split
        · exact c2 _
        · split
          · exact c2 _
          · split
            · exact c2 _
            · split
              · exact c1 _
              · split
                · exact c3
                · split
                  · exact c1 _
                  · split
                    · exact c1 _
                    · split
                      · exact c2 _
                      · exact c3
  · have hnb : impl_widthOf_m i = if (i.op_ = 24 ∨ i.op_ = 25) then 0 else i.w := by
      unfold impl_widthOf_m
      rw [eb, if_neg (by rw [h1]; decide)]
      by_cases e : i.op_ = 24 ∨ i.op_ = 25
      · rw [if_pos (by rcases e with e | e <;> simp [e]), if_pos e]
      · rw [if_neg (by rw [not_or] at e; simp [e.1, e.2]), if_neg e]
    have hct : ∀ v, ¬ (i.op_ = 24 ∨ i.op_ = 25) → impl_constant_m i v = spec_l9Const_m i.w v := fun v e => by
      unfold impl_constant_m spec_l9Const_m
      rw [hnb, if_neg e]
    have hcp : ∀ v, ¬ (i.op_ = 24 ∨ i.op_ = 25) → impl_copied_m i v = spec_l9Same_m i.w v := fun v e => by
      unfold impl_copied_m spec_l9Same_m
      rw [hnb, if_neg e]
    have c1 : ∀ v, ((spec_l9Const_m i.w v) = i ∨ (spec_l9Const_m i.w v).op_ = 21 ∨ (spec_l9Const_m i.w v).op_ = 27) ∧ (spec_l9Const_m i.w v).args.length ≤ 4 := fun v => ⟨.inr (.inl rfl), by simp [spec_l9Const_m]⟩
    have c2 : ∀ v, ((spec_l9Same_m i.w v) = i ∨ (spec_l9Same_m i.w v).op_ = 21 ∨ (spec_l9Same_m i.w v).op_ = 27) ∧ (spec_l9Same_m i.w v).args.length ≤ 4 := fun v => ⟨.inr (.inr rfl), by simp [spec_l9Same_m]⟩
    have c3 : (i = i ∨ i.op_ = 21 ∨ i.op_ = 27) ∧ i.args.length ≤ 4 := ⟨.inl rfl, ha4⟩
    rw [if_neg (show ¬ iB i.op_ 1 17 = true by rw [h1]; decide), if_neg (show ¬ iB i.op_ 1 17 = true by rw [h1]; decide)]
    obtain ⟨x, q1, q2⟩ := casted_ok i.op_ (typ f i.a) i.w (cstF f i.a).1
    rw [q1, q2]
    simp only [obs]
    rcases Bool.eq_false_or_eq_true (iB i.op_ 18 20 && (cstF f i.a).2) with h2 | h2
    · rw [if_pos h2, if_pos h2]
      rw [Bool.and_eq_true, iB_iff] at h2
      rcases Bool.eq_false_or_eq_true x.2 with h3 | h3
      · rw [if_pos h3, if_pos h3, hct _ (by omega)]
        exact ⟨_, rfl, rfl, c1 _⟩
      · rw [if_neg (show ¬ x.2 = true by rw [h3]; decide), if_neg (show ¬ x.2 = true by rw [h3]; decide)]
        exact ⟨_, rfl, rfl, c3⟩
    · rw [if_neg (show ¬ (iB i.op_ 18 20 && (cstF f i.a).2) = true by rw [h2]; decide), if_neg (show ¬ (iB i.op_ 18 20 && (cstF f i.a).2) = true by rw [h2]; decide)]
      have e22 : ((i.op_ == 22) && (if (cstF f i.a).2 = true then (((cstF f i.a).1 == 1) || (i.b == i.c)) else (i.b == i.c))) = (((i.op_ == 22) && ((cstF f i.a).2 && ((cstF f i.a).1 == 1))) || ((i.op_ == 22) && (i.b == i.c))) := by
        generalize ((cstF f i.a).1 == 1) = p
        generalize (cstF f i.a).2 = q
        generalize (i.b == i.c) = r
        generalize (i.op_ == 22) = s
        cases p <;> cases q <;> cases r <;> cases s <;> rfl
      rw [e22]
      rcases Bool.eq_false_or_eq_true (((i.op_ == 22) && ((cstF f i.a).2 && ((cstF f i.a).1 == 1))) || ((i.op_ == 22) && (i.b == i.c))) with h3 | h3
      · rw [if_pos h3, if_pos h3]
        have ho : i.op_ = 22 := by
          simp only [Bool.or_eq_true, Bool.and_eq_true] at h3
          rcases h3 with h3 | h3 <;> simpa using h3.1
        rw [hcp _ (by omega)]
        exact ⟨_, rfl, rfl, c2 _⟩
      · rw [if_neg (show ¬ (((i.op_ == 22) && ((cstF f i.a).2 && ((cstF f i.a).1 == 1))) || ((i.op_ == 22) && (i.b == i.c))) = true by rw [h3]; decide), if_neg (show ¬ (((i.op_ == 22) && ((cstF f i.a).2 && ((cstF f i.a).1 == 1))) || ((i.op_ == 22) && (i.b == i.c))) = true by rw [h3]; decide)]
        rcases Bool.eq_false_or_eq_true ((i.op_ == 22) && (cstF f i.a).2) with h4 | h4
        · rw [if_pos h4, if_pos h4]
          have ho : i.op_ = 22 := by
            rw [Bool.and_eq_true] at h4
            simpa using h4.1
          rw [hcp _ (by omega)]
          exact ⟨_, rfl, rfl, c2 _⟩
        · rw [if_neg (show ¬ ((i.op_ == 22) && (cstF f i.a).2) = true by rw [h4]; decide), if_neg (show ¬ ((i.op_ == 22) && (cstF f i.a).2) = true by rw [h4]; decide)]
          have e27 : (if (i.op_ == 27) = true then (if (cstF f i.a).2 = true then (some (valB i.w (cstF f i.a).1)) else some false) else some false) = some ((i.op_ == 27) && ((cstF f i.a).2 && valB i.w (cstF f i.a).1)) := by
            generalize (i.op_ == 27) = s
            generalize (cstF f i.a).2 = q
            cases s <;> cases q <;> rfl
          rw [e27]
          simp only [obs]
          rcases Bool.eq_false_or_eq_true ((i.op_ == 27) && ((cstF f i.a).2 && valB i.w (cstF f i.a).1)) with h5 | h5
          · rw [if_pos h5, if_pos h5]
            have ho : i.op_ = 27 := by
              rw [Bool.and_eq_true] at h5
              simpa using h5.1
            rw [hct _ (by omega)]
            exact ⟨_, rfl, rfl, c1 _⟩
          · rw [if_neg (show ¬ ((i.op_ == 27) && ((cstF f i.a).2 && valB i.w (cstF f i.a).1)) = true by rw [h5]; decide), if_neg (show ¬ ((i.op_ == 27) && ((cstF f i.a).2 && valB i.w (cstF f i.a).1)) = true by rw [h5]; decide)]
            exact ⟨_, rfl, rfl, c3⟩
end Go.Proofs.YtghdhjgoicnbcaaGreat.AM

namespace Go.Proofs.YtghdhjgoicnbcaaGreat.AM
open Go
set_option linter.unusedSimpArgs false
set_option linter.unusedVariables false

theorem sameInst_ok {a : GInst} (h : a.args.length ≤ 140737488355328) : laws_sameInst_m a a = some true := by
  unfold laws_sameInst_m
  rw [sameInts_ok _ h]
  simp only [BEq.rfl, if_true, obs]
theorem sameInts_tot (a b : List Int) (ha : a.length ≤ 140737488355328) : ∃ r, laws_sameInts_m a b = some r := by
  unfold laws_sameInts_m
  by_cases hl : a.length = b.length
  · rw [if_neg (by simp [hl])]
    generalize hB : loopO _ (0 : Int) = L
    have K := loop_anyN' hB a.length (fun k => at_ a (k : Int) != at_ b (k : Int)) (fun _ => ()) (by
      intro k hk
      rw [if_pos (by simpa using hk), if_pos (by omega), if_pos (by omega), if_pos (inI_le (by omega) (by omega))]
      cases (at_ a (k : Int) != at_ b (k : Int)) <;> rfl) (by rw [if_neg (by simp)])
    rcases K with ⟨k, _, _, _, rfl⟩ | ⟨_, rfl⟩
    · exact ⟨_, rfl⟩
    · exact ⟨_, rfl⟩
  · rw [if_pos (by simp; omega)]
    exact ⟨_, rfl⟩
theorem sameInst_tot (a b : GInst) (ha : a.args.length ≤ 140737488355328) : ∃ r, laws_sameInst_m a b = some r := by
  obtain ⟨r, e⟩ := sameInts_tot a.args b.args ha
  unfold laws_sameInst_m
  rw [e]
  cases (a.op_ == b.op_) <;> cases (a.w == b.w) <;> cases (a.a == b.a) <;> cases (a.b == b.b) <;> cases (a.c == b.c) <;> cases (a.imm == b.imm) <;> exact ⟨_, rfl⟩
theorem off_free {r : Gl1Rd} (h : okRd r) {low high : Int} (hl : -1000000 ≤ low) (hl2 : low ≤ 1000000) (hh0 : -1000000 ≤ high) (hh : high ≤ 1000000) : Run (spec_l1Rd_off_m r low high) (fun y => okRd y.2) :=
  off_run h (low := low) (high := high) (inI_le (by omega) (by omega)) (inI_le (by omega) (by omega)) (fun hlh => by
    rw [wrap_in (by omega) (by omega)]
    refine ⟨inI_le (by omega) (by omega), ?_⟩
    have hk : IntKind.u64.wrap (high - low + 1) = high - low + 1 := IntWalk.u64_in _ (by omega)
    omega)
/-- What is folded of any instruction. -/
theorem folded_ok {f : GFunc} {i : GInst} (hF : okF f) (hl : i.args.length ≤ 1000000000000) : ∃ j, impl_FoldedInst_m f i = some j ∧ spec_FoldedInst_m f i = some j ∧ (j = i ∨ j.op_ = 21 ∨ j.op_ = 27 ∨ j.op_ = 0) ∧ j.args.length ≤ 4 := by
  have h := hF.ok.bnd
  have hc := hF.nv
  have h1 : inI ((cnt f : Int) - 1) := inI_le (by omega) (by omega)
  have h2 : inI ((3 : Int) - 1) := inI_le (by omega) (by omega)
  have hf := hF.formed
  unfold impl_FoldedInst_m spec_FoldedInst_m impl_isFormed_m
  rw [func_impl h h2, func_spec h h2, implCount h, specCount h, hf]
  simp only [obs, Bool.not_true, Bool.false_eq_true, if_false]
  rw [inst_impl hl h1 h2, inst_spec hl h1 h2]
  simp only [obs]
  rcases Bool.eq_false_or_eq_true (instB i (cnt f) 3) with hi | hi
  · obtain ⟨j, e1, e2, e3, e4⟩ := fold_ok hF.ok (inst_fm hl h1 h2 hi) (by omega)
    rw [e1, e2]
    simp only [hi, Bool.not_true, Bool.false_eq_true, if_false, obs]
    rw [own_ok (by omega)]
    refine ⟨j, rfl, rfl, ?_, e4⟩
    rcases e3 with e3 | e3 | e3
    · exact .inl e3
    · exact .inr (.inl e3)
    · exact .inr (.inr (.inl e3))
  · simp only [hi, Bool.not_false, if_true]
    exact ⟨_, rfl, rfl, .inr (.inr (.inr rfl)), by simp⟩
theorem drawFolded_run {code : List Int} (hl : code.length ≤ 140737488355328) (hb : ∀ x ∈ code, 0 ≤ x ∧ x ≤ 255) : Run (spec_DrawFoldedInst_m code) (fun y => okF y.1 ∧ y.2.args.length ≤ 4) := by
  unfold spec_DrawFoldedInst_m
  refine Run.bind (module_run (open_ok hl hb)) ?_
  rintro ⟨m, r⟩ ⟨h1, h2, h3, h4⟩
  simp only at h1 h2 h3 h4 ⊢
  have h0 : (0 : Int) ≤ 0 ∧ 0 < (m.funcs.length : Int) := by omega
  have hf := h4 _ (at_mem h0)
  generalize at_ m.funcs 0 = f at hf ⊢
  refine Run.yes h0 (Run.bind (R := fun y => okRd y.1 ∧ ∀ i ∈ y.2.insts, i.args.length ≤ 4) (Run.bind (below_run h1 _) ?_) ?_)
  · rintro ⟨x, r1⟩ ⟨a1, a2, a3⟩
    have hne := hf.ok.ne
    have a3 := a3 (by omega)
    refine Run.yes ⟨a2, a3⟩ (Run.mk ⟨a1, fun i hi => ?_⟩)
    exact ((hf.ok.okbs _ (at_mem ⟨a2, a3⟩)).1.is i hi).2.2.2.args
  · rintro ⟨r1, b⟩ ⟨b1, b2⟩
    simp only at b1 b2 ⊢
    refine Run.bind (R := fun y => okRd y.1 ∧ (y.2 = false → b.insts ≠ [])) (Run.if (fun _ => Run.mk ⟨b1, fun h => by cases h⟩) (fun hn => Run.bind (once_run b1 (inI_le (by omega) (by omega))) ?_)) ?_
    · rintro ⟨x, r2⟩ c1
      exact Run.mk ⟨c1, fun _ e => hn (by simp [e])⟩
    · rintro ⟨r2, c⟩ ⟨d1, d2⟩
      simp only at d1 d2 ⊢
      have hc := hf.nv
      refine Run.if (fun _ => ?_) (fun hcc => ?_)
      · refine Run.bind (R := fun x => x = (cnt f : Int)) ⟨_, spec_count hf.ok, rfl⟩ ?_
        rintro x rfl
        refine Run.yes (inI_le (by omega) (by omega)) (Run.bind (R := fun _ => True) (Run.bind (below_run d1 17) ?_) (fun y _ => Run.mk ⟨hf, by simp⟩))
        rintro ⟨x1, r3⟩ ⟨e1, e2, e3⟩
        have e3 := e3 (by omega)
        refine Run.yes (inI_le (by omega) (by omega)) (Run.bind (width_run e1) ?_)
        rintro ⟨w, r4⟩ ⟨f1, f2⟩
        refine Run.bind (off_free f1 (by omega) (by omega) (by omega) (by omega)) ?_
        rintro ⟨x2, r5⟩ g1
        refine Run.bind (off_free g1 (by omega) (by omega) (by omega) (by omega)) ?_
        rintro ⟨x3, r6⟩ g2
        exact Run.mk trivial
      · refine Run.bind (R := fun i => i.args.length ≤ 4) (Run.bind (below_run d1 _) ?_) (fun i hi => Run.mk ⟨hf, hi⟩)
        rintro ⟨x, r3⟩ ⟨e1, e2, e3⟩
        have hne : b.insts ≠ [] := d2 (by simpa using hcc)
        have hp : 0 < b.insts.length := List.length_pos_iff.2 hne
        have e3 := e3 (by omega)
        exact Run.yes ⟨e2, e3⟩ (Run.mk (b2 _ (at_mem ⟨e2, e3⟩)))
theorem drawConst_run {code : List Int} (hl : code.length ≤ 140737488355328) (hb : ∀ x ∈ code, 0 ≤ x ∧ x ≤ 255) : Run (spec_DrawConstOf_m code) (fun y => okF y.1 ∧ y.2 ≤ 9223372036854775807) := by
  unfold spec_DrawConstOf_m
  exact Run.bind (drawType_run hl hb) (fun y hy => Run.mk hy)
theorem law_FnFoldedInst (code : List Int) (hl : code.length ≤ 140737488355328) (hb : ∀ x ∈ code, 0 ≤ x ∧ x ≤ 255) : laws_FnFoldedInst_m code = some true := by
  unfold laws_FnFoldedInst_m
  by_cases hbig : laws_big_m code = true
  · rw [if_pos hbig]
  · rw [if_neg hbig]
    obtain ⟨⟨f, i⟩, e, hF, hi⟩ := drawFolded_run hl hb
    obtain ⟨⟨g, id⟩, e2, hG, hid⟩ := drawConst_run hl hb
    simp only at hF hi hG hid
    obtain ⟨j, q1, q2, q3, q4⟩ := folded_ok hF (Nat.le_trans hi (by decide))
    rw [e, obs, q1, obs, e2, obs, impl_const hG.ok.bnd, obs, spec_const hG.ok.bnd hid, obs, q2, obs, sameInst_ok (by omega), obs]
    simp only [Bool.not_true, Bool.false_eq_true, if_false, bne_self_eq_false, BEq.rfl, obs]
    rcases q3 with rfl | q3 | q3 | q3
    · rw [sameInst_ok (by omega)]
      simp only [obs, if_true]
      cases (j.op_ == 21) <;> cases (j.op_ == 27) <;> rfl
    · rw [q3]; rfl
    · rw [q3]; rfl
    · obtain ⟨b, hb⟩ := sameInst_tot j i (by omega)
      rw [hb, q3]
      cases b <;> rfl
end Go.Proofs.YtghdhjgoicnbcaaGreat.AM
