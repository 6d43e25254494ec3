import Derived.Test.YtaocimmckbhhbaaGreatMd5
set_option linter.unusedVariables false
set_option linter.unusedSimpArgs false
namespace Go.Proofs.YtaocimmckbhhbaaGreat.AM
open Go
section
abbrev KM : Nat := 1000000
def isW (w : Int) : Prop := w = 1 ∨ w = 8 ∨ w = 16 ∨ w = 32
theorem Y3u : LIM = 140737488355328 := rfl
theorem U4 {r : Gl1Rd} (h : okRd r) (n : Int) : Run (Z6 r n) (fun y => okRd y.2 ∧ 0 ≤ y.1 ∧ (1 ≤ n → y.1 < n)) := by
 obtain ⟨x, r', e, h1, h2⟩ := Y8v h n
 exact ⟨_, e, h1, h2⟩
theorem X3g {r : Gl1Rd} (h : okRd r) {n : Int} (hn : inI (n - 1)) : Run (J6 r n) (fun y => okRd y.2) := by
 obtain ⟨x, r', e, h1⟩ := W2t h n hn
 exact ⟨_, e, h1⟩
theorem off_run {r : Gl1Rd} (h : okRd r) {low high : Int} (hl : inI (low - 1)) (hh : inI (high + 1)) (h1 : ¬ high < low → inI (IntKind.i64.wrap (high - low) + 1) ∧ IntKind.u64.wrap (IntKind.i64.wrap (high - low) + 1) ≠ 0) : Run (V1 r low high) (fun y => okRd y.2) := by
 obtain ⟨x, r', e, h1⟩ := off_ok h low high hl hh h1
 exact ⟨_, e, h1⟩
theorem Y2h {r : Gl1Rd} (h : okRd r) : Run (J9 r) (fun y => okRd y.2 ∧ isW y.1) := by
 unfold J9
 refine Run.bind (U4 h 4) ?_
 rintro ⟨x, r'⟩ ⟨h1, h2, h3⟩
 have h3 := h3 (by omega)
 refine Run.yes ⟨h2, by simpa using h3⟩ (Run.mk ⟨h1, ?_⟩)
 have : x = 0 ∨ x = 1 ∨ x = 2 ∨ x = 3 := by simp only at h2 h3; omega
 rcases this with rfl | rfl | rfl | rfl <;> simp [isW, at_]
def topW (w : Int) : Int := if w = 1 then 1 else if w = 8 then 255 else if w = 16 then 65535 else 4294967295
theorem W1i {w : Int} (hw : isW w) : 1 ≤ topW w ∧ topW w ≤ 4294967295 := by rcases hw with rfl | rfl | rfl | rfl <;> decide
theorem X7w {w : Int} (hw : isW w) : IntKind.i64.wrap (1 * 2 ^ min (Int.toNat (IntKind.u64.wrap w)) (IntKind.bits .i64)) = topW w + 1 := by rcases hw with rfl | rfl | rfl | rfl <;> decide
theorem X4k {r : Gl1Rd} (h : okRd r) {w : Int} (hw : isW w) : Run (Z1b r w) (fun y => okRd y.2 ∧ 0 ≤ y.1 ∧ y.1 ≤ topW w) := by
 unfold Z1b
 have h1 : 0 ≤ IntKind.u64.wrap w := by rcases hw with rfl | rfl | rfl | rfl <;> decide
 have h4 := W1i hw
 have h5 : 0 ≤ IntKind.i64.wrap (Int.tdiv (topW w + 1) 2) ∧ IntKind.i64.wrap (Int.tdiv (topW w + 1) 2) ≤ topW w := by rcases hw with rfl | rfl | rfl | rfl <;> decide
 rw [X7w hw]
 refine Run.yes h1 (Run.bind (U4 h 7) ?_)
 rintro ⟨x, r'⟩ ⟨g1, _, _⟩
 refine Run.if (fun _ => Run.mk ⟨g1, Int.le_refl _, by simp only; omega⟩) (fun _ => Run.if (fun _ => Run.mk ⟨g1, by simp only; omega, h4.1⟩) (fun _ => Run.if (fun _ => Run.yes (Y5 (by omega) (by omega)) (Run.mk ⟨g1, by simp only; omega, by simp only; omega⟩)) (fun _ => Run.if (fun _ => Run.mk ⟨g1, h5⟩) (fun _ => Run.bind (R := fun y => okRd y.2 ∧ 0 ≤ y.1 ∧ y.1 ≤ 18446744073709551615) ?_ ?_))))
 ·obtain ⟨x2, r2, e, k1, k2⟩ := W1c g1
  exact ⟨_, e, k1, k2⟩
 rintro ⟨y, r2⟩ ⟨g2, g3, g4⟩
 refine Run.yes (by omega) (Run.mk ⟨g2, ?_⟩)
 simp only at g3 g4 ⊢
 have e2 : ((2 : Int) ^ min (Int.toNat 1) (IntKind.bits .u64)) = 2 := by decide
 rw [e2, Z6j (by omega) (by omega)]
 have := Y3x (a := y / 2) (n := topW w + 1) (by omega) (by omega)
 omega
def okI (i : GInst) : Prop := i.w = 0 ∨ (i.op_ ≠ 24 ∧ i.op_ ≠ 25)
def sz (b : GBlock) : Nat := b.phis.length + b.insts.length
def sumz (bs : List GBlock) : Nat := (bs.map sz).sum
def cnt (f : GFunc) : Nat := f.params.length + sumz f.blocks
def opsI (i : GInst) : List Int :=
 if (1 ≤ i.op_ ∧ i.op_ ≤ 17) ∨ i.op_ = 24 then [i.a, i.b]
 else if (18 ≤ i.op_ ∧ i.op_ ≤ 20) ∨ i.op_ = 23 ∨ i.op_ = 25 ∨ i.op_ = 27 then [i.a]
 else if i.op_ = 22 then [i.a, i.b, i.c]
 else if i.op_ = 26 then i.args else []
def inN (n : Int) (l : List Int) : Prop := ∀ x ∈ l, 0 ≤ x ∧ x < n
theorem inN.mono {n m : Int} {l : List Int} (h : inN n l) (hm : n ≤ m) : inN m l := fun x hx => ⟨(h x hx).1, by have := (h x hx).2; omega⟩
structure frI (i : GInst) : Prop where
 op : 1 ≤ i.op_ ∧ i.op_ ≤ 27
 args : i.args.length ≤ 4
 noargs : i.op_ ≠ 26 → i.args = []
 zero : (if i.op_ = 26 then 0 else (opsI i).length) < 1 → i.a = 0
 zerob : (if i.op_ = 26 then 0 else (opsI i).length) < 2 → i.b = 0
 zeroc : (if i.op_ = 26 then 0 else (opsI i).length) < 3 → i.c = 0
 w0 : i.op_ = 24 ∨ i.op_ = 25 → i.w = 0
 w1 : ¬ (i.op_ = 24 ∨ i.op_ = 25) → isW i.w
 w8 : i.op_ = 23 → i.w = 8
 const : i.op_ = 21 → 0 ≤ i.imm ∧ i.imm ≤ topW i.w
 call : i.op_ = 26 → 0 ≤ i.imm ∧ i.imm < 3
 imm : i.op_ ≠ 21 → i.op_ ≠ 26 → i.imm = 0
theorem Y0f {w v : Int} (hw : isW w) (hv : 0 ≤ v ∧ v ≤ topW w) : frI ⟨21, w, 0, 0, 0, v, []⟩ := by
 constructor <;> simp [opsI, hw, hv]
theorem W3t {w a b c : Int} (hw : isW w) : frI ⟨22, w, a, b, c, 0, []⟩ := by
 constructor <;> simp [opsI, hw]
theorem W3u {o w a : Int} (hw : isW w) (ho : 18 ≤ o ∧ o ≤ 20) : frI ⟨o, w, a, 0, 0, 0, []⟩ := by
 have : o = 18 ∨ o = 19 ∨ o = 20 := by omega
 rcases this with rfl | rfl | rfl <;> constructor <;> simp [opsI, hw]
theorem fr_load {a : Int} : frI ⟨23, 8, a, 0, 0, 0, []⟩ := by
 constructor <;> simp [opsI, isW]
theorem W6c {a b : Int} : frI ⟨24, 0, a, b, 0, 0, []⟩ := by
 constructor <;> simp [opsI, isW]
theorem W6d {a : Int} : frI ⟨25, 0, a, 0, 0, 0, []⟩ := by
 constructor <;> simp [opsI, isW]
theorem fr_copy {w a : Int} (hw : isW w) : frI ⟨27, w, a, 0, 0, 0, []⟩ := by
 constructor <;> simp [opsI, hw]
theorem fr_call {w k : Int} {l : List Int} (hw : isW w) (hk : 0 ≤ k ∧ k < 3) (hl : l.length ≤ 4) : frI ⟨26, w, 0, 0, 0, k, l⟩ := by
 constructor <;> simp [opsI, hw, hk, hl]
theorem X8x {o w a b : Int} (hw : isW w) (ho : 1 ≤ o ∧ o ≤ 17) : frI ⟨o, w, a, b, 0, 0, []⟩ := by
 have e : (opsI ⟨o, w, a, b, 0, 0, []⟩) = [a, b] := by simp only [opsI]; rw [if_pos (.inl ho)]
 have n1 : o ≠ 26 := by omega
 refine ⟨⟨by simp only; omega, by simp only; omega⟩, by simp, fun _ => rfl, ?_, ?_, fun _ => rfl, fun h => by simp only at h; omega, fun _ => hw, fun h => by simp only at h; omega, fun h => by simp only at h; omega, fun h => by simp only at h; omega, fun _ _ => rfl⟩ <;> (rw [e]; simp [n1])
def okIn (n : Int) (i : GInst) : Prop := okI i ∧ inN n (opsI i) ∧ i.args.length ≤ 10 ∧ frI i
def okPn (n : Int) (p : GPhi) : Prop := inN n p.ins ∧ p.ins.length ≤ 10 ∧ isW p.w ∧ 1 ≤ p.ins.length
def zT (t : GTerm) : Prop := (t.kind = 1 ∧ t.x = 0 ∧ t.y = 0) ∨ (t.kind = 2 ∧ t.a = 0 ∧ t.y = 0) ∨ t.kind = 3 ∨ (t.kind = 4 ∧ t.a = 0 ∧ t.x = 0 ∧ t.y = 0)
def okT (n : Int) (t : GTerm) : Prop := (t.kind = 1 ∨ t.kind = 3 → 0 ≤ t.a ∧ t.a < n) ∧ zT t
def okX (m : Int) (t : GTerm) : Prop := (t.kind = 2 ∨ t.kind = 3 → 0 ≤ t.x ∧ t.x ≤ m) ∧ (t.kind = 3 → 0 ≤ t.y ∧ t.y ≤ m ∧ t.x ≠ t.y)
theorem okX.mono {m n : Int} {t : GTerm} (h : okX m t) (hm : m ≤ n) : okX n t := ⟨fun k => by have := h.1 k; omega, fun k => by have := h.2 k; omega⟩
def tgt (g : Gl2G) : Prop := ∀ b ∈ g.f.blocks, okX g.f.blocks.length b.term
structure okB (n : Int) (ps : List GPhi) (is : List GInst) : Prop where
 ps : ∀ p ∈ ps, okPn n p
 is : ∀ i ∈ is, okIn n i
theorem okB.mono {n m : Int} {ps : List GPhi} {is : List GInst} (h : okB n ps is) (hm : n ≤ m) : okB m ps is :=
 ⟨fun p hp => ⟨(h.ps p hp).1.mono hm, (h.ps p hp).2⟩, fun i hi => ⟨(h.is i hi).1, (h.is i hi).2.1.mono hm, (h.is i hi).2.2⟩⟩
theorem okT.mono {n m : Int} {t : GTerm} (h : okT n t) (hm : n ≤ m) : okT m t := ⟨fun ht => ⟨(h.1 ht).1, by have := (h.1 ht).2; omega⟩, h.2⟩
def okBl (n : Int) (b : GBlock) : Prop := okB n b.phis b.insts ∧ okT n b.term
theorem okBl.mono {n m : Int} {b : GBlock} (h : okBl n b) (hm : n ≤ m) : okBl m b := ⟨h.1.mono hm, h.2.mono hm⟩
structure okGd (d : Int) (k : Nat) (g : Gl2G) : Prop where
 ids : g.ids.length ≤ k
 ws : g.ws.length = g.ids.length
 n0 : 0 ≤ g.next
 n1 : g.next ≤ (k : Int)
 insts : g.b.insts.length ≤ k
 phis : g.b.phis.length ≤ k
 blocks : g.f.blocks.length ≤ k
 params : g.f.params.length ≤ k
 pw : ∀ w ∈ g.f.params, isW w
 ret : isW g.f.ret
 rows : ∀ b ∈ g.f.blocks, b.phis.length ≤ k ∧ b.insts.length ≤ k
 cur : okB (g.next + d) g.b.phis g.b.insts
 okbs : ∀ b ∈ g.f.blocks, okBl (g.next + d) b
 idsIn : inN g.next g.ids
 nx : g.next + d = (g.f.params.length : Int) + sumz g.f.blocks + g.b.phis.length + g.b.insts.length
abbrev okG (k : Nat) (g : Gl2G) : Prop := okGd 0 k g
theorem okGd.mono {d : Int} {k k' : Nat} {g : Gl2G} (h : okGd d k g) (hk : k ≤ k') : okGd d k' g :=
 ⟨Nat.le_trans h.ids hk, h.ws, h.n0, by have := h.n1; omega, Nat.le_trans h.insts hk, Nat.le_trans h.phis hk, Nat.le_trans h.blocks hk, Nat.le_trans h.params hk, h.pw, h.ret, fun b hb => ⟨Nat.le_trans (h.rows b hb).1 hk, Nat.le_trans (h.rows b hb).2 hk⟩, h.cur, h.okbs, h.idsIn, h.nx⟩
def Sm (g g' : Gl2G) : Prop := g'.f = g.f ∧ g'.b.phis = g.b.phis
theorem Sm.trans {a b c : Gl2G} (h : Sm a b) (h' : Sm b c) : Sm a c := ⟨h'.1.trans h.1, h'.2.trans h.2⟩
theorem Sm.refl (a : Gl2G) : Sm a a := ⟨rfl, rfl⟩
structure okP (rets : List Int) (pars : List (List Int)) : Prop where
 len : pars.length = rets.length
 small : rets.length ≤ 2
 rw_ : ∀ w ∈ rets, isW w
 rows : ∀ l ∈ pars, l.length ≤ 4 ∧ ∀ w ∈ l, isW w
section
variable {k : Nat} {g : Gl2G} {gr : Gl1Rd} {rets : List Int} {pars : List (List Int)}
theorem X7p (h : okGd 1 k g) (hk : k ≤ KM) (w : Int) : Run (Z2b g gr rets pars w) (fun y => okG (k + 1) y.2.1 ∧ y.2.2 = gr ∧ y.2.1.f = g.f ∧ y.2.1.b = g.b ∧ y.1 = g.next ∧ y.2.1.next = g.next + 1) := by
 have hL := Y3u
 obtain ⟨h1, h2, h3, h4, h5, h6, h7, h8, h9, h10, h11, h12, h13, h14, h15⟩ := h
 unfold KM at hk
 unfold Z2b
 refine Run.bind (R := fun _ => True) (Run.yes (by simp only [List.length_nil]; omega) (Run.yes (by simp only [List.nil_append, List.length_singleton]; omega) (Run.mk trivial))) (fun _ _ => ?_)
 refine Run.yes (by simp only [List.length_nil]; omega) (Run.yes (by simp only [List.nil_append, List.length_singleton]; omega) (Run.yes (Y5 (by simp only; omega) (by simp only; omega)) (Run.yes (Y5 (by simp only; omega) (by simp only; omega)) (Run.mk ⟨?_, rfl, rfl, rfl, by simp only; omega, by simp only⟩))))
 refine ⟨by simp; omega, by simp [h2], by simp only; omega, by simp only; omega, by simp only; omega, by simp only; omega, by simp only; omega, by simp only; omega, h9, h10, fun b hb => ⟨by have := (h11 b hb).1; omega, by have := (h11 b hb).2; omega⟩, by simpa using h12, by simpa using h13, fun x hx => ?_, by simp only; omega⟩
 simp only [List.nil_append, List.mem_append, List.mem_singleton] at hx
 simp only
 rcases hx with hx | rfl
 ·have := h14 x hx
  omega
 ·omega
theorem Z3c (h : okG k g) (hr : okRd gr) (hk : k + 1 ≤ KM) (i : GInst) (hi : okIn g.next i) : Run (X3 g gr rets pars i) (fun y => okG (k + 2) y.2.1 ∧ okRd y.2.2 ∧ Sm g y.2.1 ∧ (W3 i ≠ 0 → 0 ≤ y.1 ∧ y.1 < y.2.1.next) ∧ g.next ≤ y.2.1.next) := by
 have hL := Y3u
 have h0 := h
 obtain ⟨h1, h2, h3, h4, h5, h6, h7, h8, h9, h10, h11, h12, h13, h14, h15⟩ := h
 unfold KM at hk
 have h12' : okB (g.next + 1) g.b.phis (g.b.insts ++ [i]) := by
  refine ⟨fun p hp => (h12.mono (by omega)).ps p hp, fun j hj => ?_⟩
  rcases List.mem_append.1 hj with hj | hj
  ·exact (h12.mono (by omega)).is j hj
  ·simp only [List.mem_singleton] at hj
   subst hj
   exact ⟨hi.1, hi.2.1.mono (by omega), hi.2.2⟩
 have h13' : ∀ b ∈ g.f.blocks, okBl (g.next + 1) b := fun b hb => (h13 b hb).mono (by omega)
 unfold X3
 refine Run.yes (by simp only [List.length_singleton]; omega) (Run.if (fun hw => Run.yes (Y5 (by omega) (by omega)) (Run.mk ⟨?_, hr, ⟨rfl, rfl⟩, fun hn => absurd (by simpa using hw) hn, by simp only; omega⟩)) (fun _ => ?_))
 ·exact ⟨by simp only; omega, h2, by simp only; omega, by simp only; omega, by simp; omega, by simp only; omega, by simp only; omega, by simp only; omega, h9, h10, fun b hb => ⟨by have := (h11 b hb).1; omega, by have := (h11 b hb).2; omega⟩, by simpa using h12', by simpa using h13', h14.mono (by simp only; omega), by simp; omega⟩
 ·refine Run.bind (X7p (k := k + 1) ?_ (by unfold KM; omega) _) ?_
  ·exact ⟨by simp only; omega, h2, by simp only; omega, by simp only; omega, by simp; omega, by simp only; omega, by simp only; omega, by simp only; omega, h9, h10, fun b hb => ⟨by have := (h11 b hb).1; omega, by have := (h11 b hb).2; omega⟩, h12', h13', h14, by simp; omega⟩
  ·rintro ⟨x, g', r'⟩ ⟨g1, rfl, g3, g4, g5, g6⟩
   simp only at g5 g6
   exact Run.mk ⟨g1, hr, ⟨g3, by simp only at g4 ⊢; rw [g4]⟩, fun _ => by simp only; omega, by simp only; omega⟩
theorem Z0s (h : okG k g) (hr : okRd gr) (hk : k + 1 ≤ KM) {w : Int} (hw : isW w) : Run (Y8 g gr rets pars w) (fun y => okG (k + 2) y.2.1 ∧ okRd y.2.2 ∧ Sm g y.2.1 ∧ 0 ≤ y.1 ∧ y.1 < y.2.1.next ∧ g.next ≤ y.2.1.next) := by
 have hL := Y3u
 have h1 := h.ids
 have h2 := h.ws
 have hk' := hk
 unfold KM at hk
 unfold Y8
 refine Run.bind (R := fun l => l.length ≤ k ∧ inN g.next l) (Run.loop (fun s => 0 ≤ s.2 ∧ s.2 ≤ (g.ids.length : Int) ∧ (s.1.length : Int) ≤ s.2 ∧ inN g.next s.1) (fun s => (g.ids.length - s.2).toNat) ⟨Int.le_refl _, by omega, by simp, by simp [inN]⟩ ?_) ?_
 ·rintro ⟨l, i⟩ ⟨a1, a2, a3, a4⟩
  simp only at a1 a2 a3 a4 ⊢
  refine Run.if (fun hi => ?_) (fun hi => Run.out ⟨by omega, a4⟩)
  have hi : i < (g.ids.length : Int) := by simpa using hi
  refine Run.yes (by omega) (Run.if (fun _ => Run.yes (by omega) (Run.yes (by simp only [List.length_singleton]; omega) (Run.yes (Y5 (by omega) (by omega)) (Run.nx ?_)))) (fun _ => Run.yes (Y5 (by omega) (by omega)) (Run.nx ?_)))
  ·refine ⟨⟨by simp only; omega, by simp only; omega, by simp; omega, fun x hx => ?_⟩, by simp only; omega⟩
   rcases List.mem_append.1 hx with hx | hx
   ·exact a4 x hx
   ·simp only [List.mem_singleton] at hx
    subst hx
    exact h.idsIn _ (X8 (by omega))
  ·exact ⟨⟨by simp only; omega, by simp only; omega, by simp only; omega, a4⟩, by simp only; omega⟩
 rintro fit ⟨hf, hfi⟩
 refine Run.bind (R := fun y => okRd y.1 ∧ (y.2 = false → fit ≠ [])) (Run.if (fun _ => Run.mk ⟨hr, fun h => by cases h⟩) (fun hn => Run.bind (X3g hr (Y5 (by omega) (by omega))) ?_)) ?_
 ·rintro ⟨b, r'⟩ g1
  exact Run.mk ⟨g1, fun _ e => hn (by simp [e])⟩
 rintro ⟨r', b⟩ ⟨g1, g2⟩
 simp only at g1 g2 ⊢
 refine Run.if (fun _ => Run.bind (X4k g1 hw) ?_) (fun hb => Run.bind (U4 g1 _) ?_)
 ·rintro ⟨x, r2⟩ ⟨g3, gv, _⟩
  have e1 : 0 ≤ IntKind.u64.wrap w := by rcases hw with rfl | rfl | rfl | rfl <;> decide
  have e3 : IntKind.i64.wrap (1 * 2 ^ min (Int.toNat (IntKind.u64.wrap w)) (IntKind.bits .i64)) ≠ 0 := by rcases hw with rfl | rfl | rfl | rfl <;> decide
  refine Run.yes e1 (Run.yes e3 (Run.bind (Z3c h g3 hk' _ ⟨.inr ⟨by simp, by simp⟩, by simp [inN, opsI], by simp, Y0f hw (by
   have ht := W1i hw
   have m1 := Y3x (a := x) (n := 7) gv (by omega)
   have m2 := Y3x (a := Int.tmod x 7) (n := topW w + 1) m1.1 (by omega)
   rw [X7w hw]
   show 0 ≤ Int.tmod (Int.tmod x 7) (topW w + 1) ∧ Int.tmod (Int.tmod x 7) (topW w + 1) ≤ topW w
   omega)⟩) ?_))
  rintro ⟨x, g', r3⟩ ⟨g4, g5, g6, g7, g8⟩
  have g9 := g7 (by rcases hw with rfl | rfl | rfl | rfl <;> simp [W3, Z8])
  exact Run.mk ⟨g4, g5, g6, g9.1, g9.2, g8⟩
 ·rintro ⟨x, r2⟩ ⟨g3, g4, _⟩
  have hne : fit ≠ [] := g2 (by simpa using hb)
  have hp : 0 < fit.length := List.length_pos_iff.2 hne
  simp only at g3 g4 ⊢
  generalize hz : (if decide (x ≥ (fit.length : Int)) = true then (fit.length : Int) - 1 else x) = z
  have hx : 0 ≤ z ∧ z < (fit.length : Int) := by
   subst hz
   split
   ·omega
   ·rename_i hx
    have hx : ¬ x ≥ (fit.length : Int) := by simpa using hx
    omega
  exact Run.yes hx (Run.mk ⟨h.mono (by omega), g3, Sm.refl _, (hfi _ (X8 hx)).1, (hfi _ (X8 hx)).2, Int.le_refl _⟩)
theorem W1n (bs : List GBlock) (b : GBlock) : sumz (bs ++ [b]) = sumz bs + sz b := by simp [sumz]
theorem Z8j (h : okG k g) (hr : okRd gr) (hk : k ≤ KM) (t : GTerm) (ht : okT g.next t) : Run (U2 g gr rets pars t) (fun y => okG (k + 1) y.1 ∧ okRd y.2 ∧ y.1.f.blocks = g.f.blocks ++ [⟨g.b.phis, g.b.insts, t⟩] ∧ y.1.f.params = g.f.params ∧ y.1.b.phis = [] ∧ y.1.next = g.next ∧ y.1.b.insts = []) := by
 have hL := Y3u
 obtain ⟨h1, h2, h3, h4, h5, h6, h7, h8, h9, h10, h11, h12, h13, h14, h15⟩ := h
 unfold KM at hk
 unfold U2
 refine Run.yes (by omega) (Run.mk ⟨?_, hr, rfl, rfl, rfl, rfl, rfl⟩)
 refine ⟨by simp only; omega, h2, by simp only; omega, by simp only; omega, by simp, by simp, by simp; omega, by simp only; omega, h9, h10, fun b hb => ?_, ⟨by simp, by simp⟩, fun b hb => ?_, h14, ?_⟩
 ·rcases List.mem_append.1 hb with hb | hb
  ·exact ⟨by have := (h11 b hb).1; omega, by have := (h11 b hb).2; omega⟩
  ·simp only [List.mem_singleton] at hb
   subst hb
   exact ⟨by simp only; omega, by simp only; omega⟩
 ·rcases List.mem_append.1 hb with hb | hb
  ·exact h13 b hb
  ·simp only [List.mem_singleton] at hb
   subst hb
   exact ⟨h12, by simpa using ht⟩
 ·rw [W1n]
  simp only [sz, List.length_nil]
  omega
theorem X3d (h : okG k g) (hr : okRd gr) (hk : k + 1 ≤ KM) (w : Int) (ins : List Int) (hi : inN g.next ins) (hi2 : ins.length ≤ 10) (hw : isW w) (hi3 : 1 ≤ ins.length := by simp) : Run (Z0w g gr rets pars w ins) (fun y => okG (k + 2) y.2.1 ∧ okRd y.2.2 ∧ y.2.1.f = g.f ∧ y.2.1.b.phis = g.b.phis ++ [⟨w, ins⟩] ∧ 0 ≤ y.1 ∧ y.1 < y.2.1.next ∧ g.next ≤ y.2.1.next) := by
 have hL := Y3u
 obtain ⟨h1, h2, h3, h4, h5, h6, h7, h8, h9, h10, h11, h12, h13, h14, h15⟩ := h
 unfold KM at hk
 unfold Z0w
 refine Run.yes (by omega) (Run.bind (X7p (k := k + 1) ?_ (by unfold KM; omega) _) ?_)
 ·refine ⟨by simp only; omega, h2, by simp only; omega, by simp only; omega, by simp only; omega, by simp; omega, by simp only; omega, by simp only; omega, h9, h10, fun b hb => ⟨by have := (h11 b hb).1; omega, by have := (h11 b hb).2; omega⟩, ⟨fun p hp => ?_, (h12.mono (by simp only; omega)).is⟩, fun b hb => (h13 b hb).mono (by simp only; omega), h14, by simp; omega⟩
  rcases List.mem_append.1 hp with hp | hp
  ·exact (h12.mono (by simp only; omega)).ps p hp
  ·simp only [List.mem_singleton] at hp
   subst hp
   exact ⟨hi.mono (by simp only; omega), hi2, hw, hi3⟩
 ·rintro ⟨x, g', r'⟩ ⟨g1, rfl, g3, g4, g5, g6⟩
  simp only at g5 g6
  exact Run.mk ⟨g1, hr, g3, by simp only at g4 ⊢; rw [g4], by simp only; omega, by simp only; omega, by simp only; omega⟩
theorem W6n (h : okG k g) (hr : okRd gr) (hp : okP rets pars) (hk : k + 30 ≤ KM) : Run (Z4h g gr rets pars) (fun y => okG (k + 30) y.1 ∧ okRd y.2 ∧ Sm g y.1 ∧ g.next ≤ y.1.next) := by
 have hL := Y3u
 have hl := hp.len
 have hs := hp.small
 unfold KM at hk
 unfold Z4h
 refine Run.if (fun _ => Run.mk ⟨h.mono (by omega), hr, Sm.refl _, Int.le_refl _⟩) (fun hn => Run.bind (U4 hr _) ?_)
 have hn : ¬ (rets.length : Int) = 0 := by simpa using hn
 rintro ⟨c, r1⟩ ⟨g1, g2, g3⟩
 have g3 := g3 (by omega)
 simp only at g1 g2 g3 ⊢
 have hc : 0 ≤ c ∧ c < (pars.length : Int) := by omega
 have hrow := hp.rows _ (X8 hc)
 refine Run.bind (R := fun y => okG (k + 20) y.1 ∧ okRd y.2.1 ∧ Sm g y.1 ∧ y.2.2.length ≤ 4 ∧ g.next ≤ y.1.next ∧ inN y.1.next y.2.2) (Run.loop (fun s => okG (k + 2 * s.2.2.2.toNat) s.1 ∧ okRd s.2.1 ∧ Sm g s.1 ∧ 0 ≤ s.2.2.2 ∧ s.2.2.2 ≤ ((at_ pars c).length : Int) ∧ (s.2.2.1.length : Int) = s.2.2.2 ∧ g.next ≤ s.1.next ∧ inN s.1.next s.2.2.1) (fun s => ((at_ pars c).length - s.2.2.2).toNat) ⟨h, g1, Sm.refl _, Int.le_refl _, by simp only; omega, rfl, Int.le_refl _, by simp [inN]⟩ ?_) ?_
 ·rintro ⟨ga, ra, l, i⟩ ⟨b1, b2, b3, b4, b5, b6, b7, b8⟩
  simp only at b1 b2 b3 b4 b5 b6 b7 b8 ⊢
  have hrl := hrow.1
  refine Run.yes hc (Run.if (fun hi => ?_) (fun hi => Run.out ⟨b1.mono (by omega), b2, b3, by simp only; omega, b7, b8⟩))
  have hi : i < ((at_ pars c).length : Int) := by simpa using hi
  refine Run.yes hc (Run.yes ⟨b4, hi⟩ (Run.bind (Z0s b1 b2 (by unfold KM; omega) (hrow.2 _ (X8 ⟨b4, hi⟩))) ?_))
  rintro ⟨x, gb, rb⟩ ⟨c1, c2, c3, c4, c5, c6⟩
  simp only at c4 c5 c6
  refine Run.yes (by simp only [List.length_singleton]; omega) (Run.yes (Y5 (by omega) (by omega)) (Run.nx ⟨⟨c1.mono (by simp only; omega), c2, b3.trans c3, by simp only; omega, by simp only; omega, by simp; omega, by simp only; omega, fun z hz => ?_⟩, by simp only; omega⟩))
  rcases List.mem_append.1 hz with hz | hz
  ·exact b8.mono c6 z hz
  ·simp only [List.mem_singleton] at hz
   subst hz
   exact ⟨c4, c5⟩
 ·rintro ⟨ga, ra, l⟩ ⟨b1, b2, b3, b4, b5, b6⟩
  simp only at b1 b2 b3 b4 b5 b6 ⊢
  refine Run.yes ⟨g2, g3⟩ (Run.bind (Z3c b1 b2 (by unfold KM; omega) _ ⟨.inr ⟨by simp, by simp⟩, by simpa [opsI] using b6, Nat.le_trans b4 (by decide), fr_call (hp.rw_ _ (X8 ⟨g2, g3⟩)) ⟨g2, by omega⟩ b4⟩) ?_)
  rintro ⟨x, gb, rb⟩ ⟨c1, c2, c3, c4, c5⟩
  exact Run.mk ⟨c1.mono (by omega), c2, b3.trans c3, (by (try simp only at *) <;> omega)⟩
theorem Y3b (h : okG k g) (hr : okRd gr) (hp : okP rets pars) {n : Int} (hn : n ≤ 10) (hk : k + 400 ≤ KM) : Run (K3 g gr rets pars n) (fun y => okG (k + 400) y.1 ∧ okRd y.2 ∧ Sm g y.1 ∧ g.next ≤ y.1.next) := by
 unfold KM at hk
 unfold K3
 refine Run.bind (R := fun (y : Gl2G × Gl1Rd) => okG (k + 400) y.1 ∧ okRd y.2 ∧ Sm g y.1 ∧ g.next ≤ y.1.next) (Run.loop (fun s => okG (k + 30 * s.2.2.toNat) s.1 ∧ okRd s.2.1 ∧ Sm g s.1 ∧ 0 ≤ s.2.2 ∧ s.2.2 ≤ 10 ∧ g.next ≤ s.1.next) (fun s => (10 - s.2.2).toNat) ⟨h, hr, Sm.refl _, by simp only; omega, by simp only; omega, Int.le_refl _⟩ ?_) (fun y hy => Run.mk hy)
 rintro ⟨ga, ra, i⟩ ⟨b1, b2, b3, b4, b5, b6⟩
 simp only at b1 b2 b3 b4 b5 b6 ⊢
 refine Run.if (fun hi => ?_) (fun hi => Run.out ⟨b1.mono (by omega), b2, b3, b6⟩)
 have hi : i < n := by simp only [Bool.and_eq_true, decide_eq_true_eq] at hi; exact hi.1
 refine Run.bind (Y2h b2) ?_
 rintro ⟨w, r1⟩ ⟨c1, c2⟩
 refine Run.bind (U4 c1 14) ?_
 rintro ⟨x, r2⟩ ⟨d1, d2, d3⟩
 simp only at c1 c2 d1 d2 d3 ⊢
 have fin : ∀ {m : Nat} {ga' : Gl2G} {ra' : Gl1Rd}, okG m ga' → okRd ra' → Sm ga ga' → ga.next ≤ ga'.next → m ≤ k + 30 * i.toNat + 30 → Run (if inI (i + 1) then some (Sum.inl (ga', ra', i + 1) : (Gl2G × Gl1Rd × Int) ⊕ (Gl2G × Gl1Rd)) else none)
   (W6w (fun s => okG (k + 30 * s.2.2.toNat) s.1 ∧ okRd s.2.1 ∧ Sm g s.1 ∧ 0 ≤ s.2.2 ∧ s.2.2 ≤ 10 ∧ g.next ≤ s.1.next) (fun s => (10 - s.2.2).toNat) ((10 - i).toNat) (fun r => okG (k + 400) r.1 ∧ okRd r.2 ∧ Sm g r.1 ∧ g.next ≤ r.1.next)) := fun k1 k2 k3 k5 k4 =>
  Run.yes (Y5 (by omega) (by omega)) (Run.nx ⟨⟨k1.mono (by simp only; omega), k2, b3.trans k3, by simp only; omega, by simp only; omega, by simp only; omega⟩, by simp only; omega⟩)
 refine Run.if (fun _ => ?_) (fun _ => Run.if (fun _ => ?_) (fun _ => Run.if (fun _ => ?_) (fun _ => Run.if (fun _ => ?_) (fun _ => Run.if (fun _ => ?_) (fun _ => Run.if (fun _ => ?_) (fun _ => Run.if (fun _ => ?_) (fun _ => Run.if (fun _ => ?_) (fun _ => Run.if (fun _ => ?_) (fun _ => ?_)))))))))
 ·refine Run.bind (X4k d1 c2) ?_
  rintro ⟨v, r3⟩ ⟨e1, e2⟩
  refine Run.bind (Z3c b1 e1 (by unfold KM; omega) _ ⟨.inr ⟨by simp, by simp⟩, by intro z hz; simp [opsI] at hz <;> (try simp only at *) <;> omega, by simp, Y0f c2 e2⟩) ?_
  rintro ⟨y, g4, r4⟩ ⟨f1, f2, f3, f4, f5⟩
  exact fin f1 f2 f3 (by (try simp only at *) <;> omega) (by omega)
 ·refine Run.bind (Z0s b1 d1 (by unfold KM; omega) (.inl rfl)) ?_
  rintro ⟨y, g3, r3⟩ ⟨e1, e2, e3, e4, e5, e6⟩
  refine Run.bind (Z0s e1 e2 (by unfold KM; omega) c2) ?_
  rintro ⟨y, g4, r4⟩ ⟨f1, f2, f3, f4, f5, f6⟩
  refine Run.bind (Z0s f1 f2 (by unfold KM; omega) c2) ?_
  rintro ⟨y, g5, r5⟩ ⟨a1, a2, a3, a4, a5, a6⟩
  refine Run.bind (Z3c a1 a2 (by unfold KM; omega) _ ⟨.inr ⟨by simp, by simp⟩, by intro z hz; simp [opsI] at hz <;> (try simp only at *) <;> omega, by simp, W3t c2⟩) ?_
  rintro ⟨y, g6, r6⟩ ⟨q1, q2, q3, q4, q5⟩
  exact fin q1 q2 (((e3.trans f3).trans a3).trans q3) (by (try simp only at *) <;> omega) (by omega)
 ·refine Run.bind (Z0s b1 d1 (by unfold KM; omega) (.inr (.inl rfl))) ?_
  rintro ⟨y, g3, r3⟩ ⟨e1, e2, e3, e4, e5, e6⟩
  refine Run.bind (R := fun y => okG (k + 30 * i.toNat + 2 + 2) y.1 ∧ okRd y.2 ∧ Sm ga y.1 ∧ ga.next ≤ y.1.next) (Run.bind (U4 e2 2) ?_) ?_
  ·rintro ⟨y1, r4⟩ ⟨f1, f2, f3⟩
   have f3 := f3 (by omega)
   refine Run.yes ⟨f2, by simpa using f3⟩ (Run.bind (U4 f1 2) ?_)
   rintro ⟨y2, r5⟩ ⟨a1, a2, a3⟩
   have a3 := a3 (by omega)
   refine Run.yes ⟨a2, by simpa using a3⟩ (Run.bind (Z3c e1 a1 (by unfold KM; omega) _ ⟨.inr (by have : y1 = 0 ∨ y1 = 1 := (by simp only at f2 f3; omega); rcases this with rfl | rfl <;> simp [at_]), by have : y1 = 0 ∨ y1 = 1 := (by simp only at f2 f3; omega); rcases this with rfl | rfl <;> (intro z hz; simp [opsI, at_] at hz <;> (try simp only at *) <;> omega), by simp, W3u (by have : y2 = 0 ∨ y2 = 1 := (by simp only at a2 a3; omega); rcases this with rfl | rfl <;> simp [at_, isW]) (by have : y1 = 0 ∨ y1 = 1 := (by simp only at f2 f3; omega); rcases this with rfl | rfl <;> simp [at_])⟩) ?_)
   rintro ⟨y3, g6, r6⟩ ⟨q1, q2, q3, q4, q5⟩
   exact Run.mk ⟨q1, q2, e3.trans q3, (by (try simp only at *) <;> omega)⟩
  ·rintro ⟨g7, r7⟩ ⟨q1, q2, q3, q4⟩
   exact fin q1 q2 q3 (by (try simp only at *) <;> omega) (by omega)
 ·refine Run.bind (Z0s b1 d1 (by unfold KM; omega) (.inr (.inr (.inr rfl)))) ?_
  rintro ⟨y, g3, r3⟩ ⟨e1, e2, e3, e4, e5, e6⟩
  refine Run.bind (U4 e2 3) ?_
  rintro ⟨y1, r4⟩ ⟨f1, f2, f3⟩
  have f3 := f3 (by omega)
  refine Run.yes ⟨f2, by simpa using f3⟩ (Run.bind (Z3c e1 f1 (by unfold KM; omega) _ ⟨.inr ⟨by simp, by simp⟩, by intro z hz; simp [opsI] at hz <;> (try simp only at *) <;> omega, by simp, W3u (by have : y1 = 0 ∨ y1 = 1 ∨ y1 = 2 := (by simp only at f2 f3; omega); rcases this with rfl | rfl | rfl <;> simp [at_, isW]) (by decide)⟩) ?_)
  rintro ⟨y3, g6, r6⟩ ⟨q1, q2, q3, q4, q5⟩
  exact fin q1 q2 (e3.trans q3) (by (try simp only at *) <;> omega) (by omega)
 ·refine Run.bind (U4 d1 34) ?_
  rintro ⟨y1, r4⟩ ⟨f1, f2, f3⟩
  refine Run.bind (Z3c b1 f1 (by unfold KM; omega) _ ⟨.inr ⟨by simp, by simp⟩, by intro z hz; simp [opsI] at hz <;> (try simp only at *) <;> omega, by simp, Y0f (.inr (.inr (.inr rfl))) ⟨f2, by have := f3 (by omega); simp only at this; simp [topW]; omega⟩⟩) ?_
  rintro ⟨y3, g6, r6⟩ ⟨q1, q2, q3, q4, q5⟩
  have q4 := q4 (by simp [W3, Z8, W6, Y4])
  refine Run.bind (Z3c q1 q2 (by unfold KM; omega) _ ⟨.inr ⟨by simp, by simp⟩, by intro z hz; simp [opsI] at hz <;> (try simp only at *) <;> omega, by simp, fr_load⟩) ?_
  rintro ⟨y4, g7, r7⟩ ⟨e1, e2, e3, e4, e5⟩
  exact fin e1 e2 (q3.trans e3) (by (try simp only at *) <;> omega) (by omega)
 ·refine Run.bind (U4 d1 33) ?_
  rintro ⟨y1, r4⟩ ⟨f1, f2, f3⟩
  refine Run.bind (Z3c b1 f1 (by unfold KM; omega) _ ⟨.inr ⟨by simp, by simp⟩, by intro z hz; simp [opsI] at hz <;> (try simp only at *) <;> omega, by simp, Y0f (.inr (.inr (.inr rfl))) ⟨f2, by have := f3 (by omega); simp only at this; simp [topW]; omega⟩⟩) ?_
  rintro ⟨y3, g6, r6⟩ ⟨q1, q2, q3, q4, q5⟩
  have q4 := q4 (by simp [W3, Z8, W6, Y4])
  refine Run.bind (Z0s q1 q2 (by unfold KM; omega) (.inr (.inl rfl))) ?_
  rintro ⟨y5, g8, r8⟩ ⟨a1, a2, a3, a4, a5, a6⟩
  refine Run.bind (Z3c a1 a2 (by unfold KM; omega) _ ⟨.inl rfl, by intro z hz; simp [opsI] at hz <;> (try simp only at *) <;> omega, by simp, W6c⟩) ?_
  rintro ⟨y4, g7, r7⟩ ⟨e1, e2, e3, e4, e5⟩
  exact fin e1 e2 ((q3.trans a3).trans e3) (by (try simp only at *) <;> omega) (by omega)
 ·refine Run.bind (Z0s b1 d1 (by unfold KM; omega) c2) ?_
  rintro ⟨y, g3, r3⟩ ⟨e1, e2, e3, e4, e5, e6⟩
  refine Run.bind (Z3c e1 e2 (by unfold KM; omega) _ ⟨.inl rfl, by intro z hz; simp [opsI] at hz <;> (try simp only at *) <;> omega, by simp, W6d⟩) ?_
  rintro ⟨y3, g6, r6⟩ ⟨q1, q2, q3, q4, q5⟩
  exact fin q1 q2 (e3.trans q3) (by (try simp only at *) <;> omega) (by omega)
 ·refine Run.bind (Z0s b1 d1 (by unfold KM; omega) c2) ?_
  rintro ⟨y, g3, r3⟩ ⟨e1, e2, e3, e4, e5, e6⟩
  refine Run.bind (Z3c e1 e2 (by unfold KM; omega) _ ⟨.inr ⟨by simp, by simp⟩, by intro z hz; simp [opsI] at hz <;> (try simp only at *) <;> omega, by simp, fr_copy c2⟩) ?_
  rintro ⟨y3, g6, r6⟩ ⟨q1, q2, q3, q4, q5⟩
  exact fin q1 q2 (e3.trans q3) (by (try simp only at *) <;> omega) (by omega)
 ·refine Run.bind (W6n b1 d1 hp (by unfold KM; omega)) ?_
  rintro ⟨g6, r6⟩ ⟨q1, q2, q3, q4⟩
  exact fin q1 q2 q3 (by (try simp only at *) <;> omega) (by omega)
 ·refine Run.bind (Z0s b1 d1 (by unfold KM; omega) c2) ?_
  rintro ⟨y, g3, r3⟩ ⟨e1, e2, e3, e4, e5, e6⟩
  refine Run.bind (Z0s e1 e2 (by unfold KM; omega) c2) ?_
  rintro ⟨y, g4, r4⟩ ⟨f1, f2, f3, f4, f5, f6⟩
  refine Run.bind (U4 f2 17) ?_
  rintro ⟨y1, r5⟩ ⟨a1, a2, a3⟩
  have a3 := a3 (by omega)
  simp only at a1 a2 a3 ⊢
  refine Run.yes (Y5 (by omega) (by omega)) (Run.bind (Z3c f1 a1 (by unfold KM; omega) _ ⟨.inr ⟨by simp only; omega, by simp only; omega⟩, by intro z hz; simp only [opsI] at hz; rw [if_pos (.inl ⟨by omega, by omega⟩)] at hz; simp at hz; (try simp only at *); omega, by simp, X8x c2 ⟨by omega, by omega⟩⟩) ?_)
  rintro ⟨y3, g6, r6⟩ ⟨q1, q2, q3, q4, q5⟩
  exact fin q1 q2 ((e3.trans f3).trans q3) (by (try simp only at *) <;> omega) (by omega)
theorem X7x {g' : Gl2G} {b : GBlock} (e : g'.f.blocks = g.f.blocks ++ [b]) (hg : tgt g) (hb : okX (g.f.blocks.length : Int) b.term) : ∀ x ∈ g'.f.blocks, okX ((g'.f.blocks.length : Int) - 1) x.term := by
 intro x hx
 have el : ((g'.f.blocks.length : Int) - 1) = (g.f.blocks.length : Int) := by rw [e]; simp
 rw [el]
 rw [e] at hx
 rcases List.mem_append.1 hx with hx | hx
 ·exact hg x hx
 ·simp only [List.mem_singleton] at hx
  subst hx
  exact hb
theorem X4p {g' : Gl2G} {a b c : GBlock} (e : g'.f.blocks = ((g.f.blocks ++ [a]) ++ [b]) ++ [c]) (hg : tgt g) (ha : okX ((g.f.blocks.length : Int) + 3) a.term) (hb : okX ((g.f.blocks.length : Int) + 3) b.term) (hc : okX ((g.f.blocks.length : Int) + 3) c.term) : tgt g' := by
 intro x hx
 have el : (g'.f.blocks.length : Int) = (g.f.blocks.length : Int) + 3 := by rw [e]; simp
 rw [el]
 rw [e] at hx
 simp only [List.mem_append, List.mem_singleton] at hx
 rcases hx with ((hx | rfl) | rfl) | rfl
 ·exact (hg x hx).mono (by omega)
 ·exact ha
 ·exact hb
 ·exact hc
theorem W6j (h : okG k g) (hr : okRd gr) (hk : k + 10 ≤ KM) : Run (Z4g g gr rets pars) (fun y => okG (k + 10) y.1 ∧ okRd y.2 ∧ y.1.f.params = g.f.params ∧ 0 < y.1.f.blocks.length ∧ y.1.b.phis = [] ∧ y.1.b.insts = [] ∧ (tgt g → ∀ b ∈ y.1.f.blocks, okX ((y.1.f.blocks.length : Int) - 1) b.term)) := by
 unfold KM at hk
 unfold Z4g
 refine Run.bind (X3g hr (Y5 (by omega) (by omega))) ?_
 rintro ⟨b, r1⟩ e1
 refine Run.if (fun _ => Run.bind (Z8j h e1 (by unfold KM; omega) _ ⟨by intro ht; simp at ht, .inr (.inr (.inr ⟨rfl, rfl, rfl, rfl⟩))⟩) ?_) (fun _ => Run.bind (Z0s h e1 (by unfold KM; omega) h.ret) ?_)
 ·rintro ⟨g2, r2⟩ ⟨a1, a2, a5, a4, a6, a7, a8⟩
  exact Run.mk ⟨a1.mono (by omega), a2, a4, by simp only at a5 ⊢; rw [a5]; simp, a6, a8, fun hg => X7x a5 hg (by constructor <;> simp)⟩
 ·rintro ⟨y, g2, r2⟩ ⟨a1, a2, a3, a4, a5, a6⟩
  refine Run.bind (Z8j a1 a2 (by unfold KM; omega) _ ⟨fun _ => ⟨a4, a5⟩, .inl ⟨rfl, rfl, rfl⟩⟩) ?_
  rintro ⟨g3, r3⟩ ⟨b1, b2, b5, b4, b6, b7, b8⟩
  exact Run.mk ⟨b1.mono (by omega), b2, b4.trans (congrArg GFunc.params a3.1), by simp only at b5 ⊢; rw [b5]; simp, b6, b8, fun hg => X7x (by rw [b5, a3.1]) hg (by constructor <;> simp)⟩
theorem okG.put {ids ws : List Int} {k' : Nat} {g' : Gl2G} (h : okG k g) (h' : okG k' g') (hk : k ≤ k') (hn : g.next ≤ g'.next) : okG k' ({ f := g'.f, b := g'.b, next := g'.next, ids := g.ids, ws := g.ws } : Gl2G) :=
 ⟨Nat.le_trans h.ids hk, h.ws, h'.n0, h'.n1, h'.insts, h'.phis, h'.blocks, h'.params, h'.pw, h'.ret, h'.rows, h'.cur, h'.okbs, h.idsIn.mono hn, h'.nx⟩
theorem X8y (h : okG k g) (hr : okRd gr) (hp : okP rets pars) (hk : k + 1000 ≤ KM) : Run (Z2k g gr rets pars) (fun y => okG (k + 1000) y.1 ∧ okRd y.2 ∧ y.1.f.params = g.f.params ∧ g.next ≤ y.1.next ∧ (tgt g → tgt y.1)) := by
 unfold KM at hk
 unfold Z2k
 refine Run.bind (Z0s h hr (by unfold KM; omega) (.inl rfl)) ?_
 rintro ⟨c, g1, r1⟩ ⟨a1, a2, a3, a4, a5, a6⟩
 refine Run.bind (Z8j a1 a2 (by unfold KM; omega) _ ⟨fun _ => ⟨a4, a5⟩, .inr (.inr (.inl rfl))⟩) ?_
 rintro ⟨g2, r2⟩ ⟨b1, b2, b3, b4, _, b6, _⟩
 refine Run.bind (U4 b2 3) ?_
 rintro ⟨n1, r3⟩ ⟨c1, c2, c3⟩
 have c3 := c3 (by omega)
 refine Run.bind (Y3b b1 c1 hp (by simp only at c3 ⊢; omega) (by unfold KM; omega)) ?_
 rintro ⟨g4, r4⟩ ⟨d1, d2, d3, d4⟩
 refine Run.bind (Y2h d2) ?_
 rintro ⟨w, r5⟩ ⟨e1, e2⟩
 refine Run.bind (Z0s d1 e1 (by unfold KM; omega) e2) ?_
 rintro ⟨x6, g6, r6⟩ ⟨f1, f2, f3, f4, f5, f6⟩
 refine Run.bind (Z0s f1 f2 (by unfold KM; omega) (.inr (.inl rfl))) ?_
 rintro ⟨x7, g7, r7⟩ ⟨p1, p2, p3, p4, p5, p6⟩
 refine Run.bind (Z8j p1 p2 (by unfold KM; omega) _ ⟨by intro ht; simp at ht, .inr (.inl ⟨rfl, rfl, rfl⟩)⟩) ?_
 rintro ⟨g8, r8⟩ ⟨q1, q2, q3, q4, _, q6, _⟩
 refine Run.bind (U4 q2 3) ?_
 rintro ⟨n2, r9⟩ ⟨s1, s2, s3⟩
 have s3 := s3 (by omega)
 refine Run.bind (Y3b (b1.put (ids := []) (ws := []) q1 (by omega) (by (try simp only at *) <;> omega)) s1 hp (by simp only at s3 ⊢; omega) (by unfold KM; omega)) ?_
 rintro ⟨g10, r10⟩ ⟨t1, t2, t3, t4⟩
 refine Run.bind (Z0s t1 t2 (by unfold KM; omega) e2) ?_
 rintro ⟨x11, g11, r11⟩ ⟨u1, u2, u3, u4, u5, u6⟩
 refine Run.bind (Z0s u1 u2 (by unfold KM; omega) (.inr (.inl rfl))) ?_
 rintro ⟨x12, g12, r12⟩ ⟨v1, v2, v3, v4, v5, v6⟩
 refine Run.bind (Z8j v1 v2 (by unfold KM; omega) _ ⟨by intro ht; simp at ht, .inr (.inl ⟨rfl, rfl, rfl⟩)⟩) ?_
 rintro ⟨g13, r13⟩ ⟨w1, w2, w3, w4, _, w6, _⟩
 refine Run.bind (X3d (b1.put (ids := []) (ws := []) w1 (by omega) (by (try simp only at *) <;> omega)) w2 (by unfold KM; omega) _ _ (by intro z hz; simp at hz; (try simp only at *) <;> omega) (by simp) e2) ?_
 rintro ⟨x14, g14, r14⟩ ⟨y1, y2, y3, y4, y5, y6, y7⟩
 refine Run.bind (X3d y1 y2 (by unfold KM; omega) _ _ (by intro z hz; simp at hz; (try simp only at *) <;> omega) (by simp) (.inr (.inl rfl))) ?_
 rintro ⟨x15, g15, r15⟩ ⟨z1, z2, z3, z4, z5, z6, z7⟩
 refine Run.mk ⟨z1.mono (by omega), z2, ?_, (by (try simp only at *) <;> omega), ?_⟩
 rotate_left
 ·intro hg
  simp only at b3 q3 w3 z3 y3
  refine X4p (g := g) (by rw [z3, y3, w3, v3.1, u3.1, t3.1, q3, p3.1, f3.1, d3.1, b3, a3.1]) hg ?_ ?_ ?_
  ·constructor <;> simp <;> omega
  ·constructor <;> simp <;> omega
  ·constructor <;> simp <;> omega
 have e1 := congrArg GFunc.params a3.1
 have e2 := congrArg GFunc.params d3.1
 have e3 := congrArg GFunc.params f3.1
 have e4' := congrArg GFunc.params p3.1
 have e5' := congrArg GFunc.params t3.1
 have e6' := congrArg GFunc.params u3.1
 have e7 := congrArg GFunc.params v3.1
 have e8 := congrArg GFunc.params y3
 have e9 := congrArg GFunc.params z3
 simp only at e1 e2 e3 e4' e5' e6' e7 e8 e9 b4 q4 w4 ⊢
 rw [e9, e8, w4, e7, e6', e5', q4, e4', e3, e2, b4, e1]
theorem at_mid (l : List GBlock) (a b c : GBlock) : at_ (((l ++ [a]) ++ [b]) ++ [c]) ((l.length : Int) + 1) = b := by
 have e : ((l.length : Int) + 1) = ((l.length + 1 : Nat) : Int) := by omega
 rw [e, Z5f (by simp)]
 simp [List.getElem_append]
theorem X7m {α : Type} [Inhabited α] {xs : List α} {n : Int} (h : 0 ≤ n ∧ n < (xs.length : Int)) (x : α) : at_ (xs.set n.toNat x) n = x := by
 obtain ⟨m, rfl⟩ := Int.eq_ofNat_of_zero_le h.1
 rw [Z5f (by simp; omega)]
 simp
theorem W5d {bs : List GBlock} {n : Int} (h : 0 ≤ n ∧ n < (bs.length : Int)) {x : GBlock} (hx : sz x = sz (at_ bs n)) : sumz (bs.set n.toNat x) = sumz bs := by
 obtain ⟨m, rfl⟩ := Int.eq_ofNat_of_zero_le h.1
 have hm : m < bs.length := by omega
 rw [Z5f hm] at hx
 simp only [Int.toNat_natCast, sumz]
 clear h
 induction bs generalizing m with
 | nil => simp at hm
 | cons b bs ih =>
  cases m with
  | zero => simp at hx; simp [hx]
  | succ m =>
   simp only [List.set_cons_succ, List.map_cons, List.sum_cons]
   rw [ih m (by simpa using hm) (by simpa using hx)]
theorem X8k (h : okG k g) (hr : okRd gr) (hp : okP rets pars) (hk : k + 1000 ≤ KM) : Run (Z2j g gr rets pars) (fun y => okG (k + 1000) y.1 ∧ okRd y.2 ∧ y.1.f.params = g.f.params ∧ g.next ≤ y.1.next ∧ (tgt g → tgt y.1)) := by
 unfold KM at hk
 unfold Z2j
 refine Run.bind (U4 hr 5) ?_
 rintro ⟨x1, r1⟩ ⟨a1, av, av2⟩
 have av2 := av2 (by omega)
 refine Run.bind (Z3c h a1 (by unfold KM; omega) _ ⟨.inr ⟨by simp, by simp⟩, by intro z hz; simp [opsI] at hz <;> (try simp only at *) <;> omega, by simp, Y0f (.inr (.inl rfl)) ⟨av, by simp only at av2; simp [topW]; omega⟩⟩) ?_
 rintro ⟨x2, g2, r2⟩ ⟨b1, b2, b3, b4, b5⟩
 have b4 := b4 (by simp [W3, Z8, W6, Y4])
 refine Run.bind (Y2h b2) ?_
 rintro ⟨w, r3⟩ ⟨c1, c2⟩
 refine Run.bind (Z0s b1 c1 (by unfold KM; omega) c2) ?_
 rintro ⟨x4, g4, r4⟩ ⟨d1, d2, d3, d4, d5, d6⟩
 refine Run.bind (Z8j d1 d2 (by unfold KM; omega) _ ⟨by intro ht; simp at ht, .inr (.inl ⟨rfl, rfl, rfl⟩)⟩) ?_
 rintro ⟨g5, r5⟩ ⟨e1, e2, e3, e4, e5, e6, _⟩
 refine Run.bind (X3d e1 e2 (by unfold KM; omega) _ _ (by intro z hz; simp at hz; (try simp only at *) <;> omega) (by simp) (.inr (.inl rfl))) ?_
 rintro ⟨x6, g6, r6⟩ ⟨f1, f2, f3, f4, f5, f6, f7⟩
 refine Run.bind (X3d f1 f2 (by unfold KM; omega) _ _ (by intro z hz; simp at hz; (try simp only at *) <;> omega) (by simp) c2) ?_
 rintro ⟨x7, g7, r7⟩ ⟨p1, p2, p3, p4, p5, p6, p7⟩
 refine Run.bind (Z3c p1 p2 (by unfold KM; omega) _ ⟨.inr ⟨by simp, by simp⟩, by intro z hz; simp [opsI] at hz <;> (try simp only at *) <;> omega, by simp, Y0f (.inr (.inl rfl)) (by decide)⟩) ?_
 rintro ⟨x8, g8, r8⟩ ⟨q1, q2, q3, q4, q5⟩
 have q4 := q4 (by simp [W3, Z8, W6, Y4])
 refine Run.bind (Z3c q1 q2 (by unfold KM; omega) _ ⟨.inr ⟨by simp, by simp⟩, by intro z hz; simp [opsI] at hz <;> (try simp only at *) <;> omega, by simp, X8x (.inr (.inl rfl)) (by decide)⟩) ?_
 rintro ⟨x9, g9, r9⟩ ⟨s1, s2, s3, s4, s5⟩
 have s4 := s4 (by simp [W3, Z8, W6, Y4])
 refine Run.bind (Z8j s1 s2 (by unfold KM; omega) _ ⟨fun _ => s4, .inr (.inr (.inl rfl))⟩) ?_
 rintro ⟨g10, r10⟩ ⟨t1, t2, t3, t4, t5, t6, _⟩
 refine Run.bind (Z3c t1 t2 (by unfold KM; omega) _ ⟨.inr ⟨by simp, by simp⟩, by intro z hz; simp [opsI] at hz <;> (try simp only at *) <;> omega, by simp, Y0f (.inr (.inl rfl)) (by decide)⟩) ?_
 rintro ⟨x11, g11, r11⟩ ⟨u1, u2, u3, u4, u5⟩
 have u4 := u4 (by simp [W3, Z8, W6, Y4])
 refine Run.bind (Z3c u1 u2 (by unfold KM; omega) _ ⟨.inr ⟨by simp, by simp⟩, by intro z hz; simp [opsI] at hz <;> (try simp only at *) <;> omega, by simp, X8x (.inr (.inl rfl)) (by decide)⟩) ?_
 rintro ⟨x12, g12, r12⟩ ⟨v1, v2, v3, v4, v5⟩
 have v4 := v4 (by simp [W3, Z8, W6, Y4])
 refine Run.bind (U4 v2 3) ?_
 rintro ⟨n13, r13⟩ ⟨w1, w2, w3⟩
 have w3 := w3 (by omega)
 refine Run.bind (Y3b v1 w1 hp (by simp only at w3 ⊢; omega) (by unfold KM; omega)) ?_
 rintro ⟨g14, r14⟩ ⟨y1, y2, y3, y4⟩
 refine Run.bind (Z0s y1 y2 (by unfold KM; omega) c2) ?_
 rintro ⟨x15, g15, r15⟩ ⟨z1, z2, z3, z4, z5, z6⟩
 refine Run.bind (R := fun (y : Gl2G × Gl1Rd × Int) => okG (k + 500) y.1 ∧ okRd y.2.1 ∧ Sm g15 y.1 ∧ 0 ≤ y.2.2 ∧ y.2.2 < y.1.next ∧ g15.next ≤ y.1.next) (Run.if (fun _ => Run.bind (Z3c z1 z2 (by unfold KM; omega) _ ⟨.inr ⟨by simp, by simp⟩, by intro z hz; simp [opsI] at hz <;> (try simp only at *) <;> omega, by simp, X8x c2 (by decide)⟩) ?_) (fun _ => Run.mk ⟨z1.mono (by omega), z2, Sm.refl _, z4, z5, Int.le_refl _⟩)) ?_
 ·rintro ⟨x16, g16, r16⟩ ⟨j1, j2, j3, j4, j5⟩
  have j4 := j4 (by rcases c2 with h | h | h | h <;> simp only at h <;> simp [h, W3, Z8, W6, Y4])
  exact Run.mk ⟨j1.mono (by omega), j2, j3, j4.1, j4.2, j5⟩
 rintro ⟨g16, r16, x16⟩ ⟨j1, j2, j3, j4, j5, j6⟩
 refine Run.bind (Z8j j1 j2 (by unfold KM; omega) _ ⟨by intro ht; simp at ht, .inr (.inl ⟨rfl, rfl, rfl⟩)⟩) ?_
 rintro ⟨g17, r17⟩ ⟨k1, k2, k3, k4, k5, k6, _⟩
 simp only at *
 have hb10 : g10.f.blocks = (g.f.blocks ++ [⟨g4.b.phis, g4.b.insts, { kind := 2, a := 0, x := (g.f.blocks.length : Int) + 1, y := 0 }⟩]) ++ [⟨[⟨8, [x2, 0]⟩, ⟨w, [x4, 0]⟩], g9.b.insts, { kind := 3, a := x9, x := (g.f.blocks.length : Int) + 2, y := (g.f.blocks.length : Int) + 3 }⟩] := by
  rw [t3, s3.1, q3.1, p3, f3, e3, d3.1, b3.1, s3.2, q3.2, p4, f4, e5]
  rfl
 have hb17 : g17.f.blocks = (((g.f.blocks ++ [⟨g4.b.phis, g4.b.insts, { kind := 2, a := 0, x := (g.f.blocks.length : Int) + 1, y := 0 }⟩]) ++ [⟨[⟨8, [x2, 0]⟩, ⟨w, [x4, 0]⟩], g9.b.insts, { kind := 3, a := x9, x := (g.f.blocks.length : Int) + 2, y := (g.f.blocks.length : Int) + 3 }⟩]) ++ [⟨g16.b.phis, g16.b.insts, { kind := 2, a := 0, x := (g.f.blocks.length : Int) + 1, y := 0 }⟩]) := by
  rw [k3, j3.1, z3.1, y3.1, v3.1, u3.1, hb10]
 have hat : at_ g17.f.blocks ((g.f.blocks.length : Int) + 1) = ⟨[⟨8, [x2, 0]⟩, ⟨w, [x4, 0]⟩], g9.b.insts, { kind := 3, a := x9, x := (g.f.blocks.length : Int) + 2, y := (g.f.blocks.length : Int) + 3 }⟩ := by rw [hb17]; exact at_mid _ _ _ _
 have hlt : 0 ≤ (g.f.blocks.length : Int) + 1 ∧ (g.f.blocks.length : Int) + 1 < (g17.f.blocks.length : Int) := by rw [hb17]; simp; omega
 have hpar : g17.f.params = g.f.params := by
  rw [k4, j3.1, z3.1, y3.1, v3.1, u3.1, t4, s3.1, q3.1, p3, f3, e4, d3.1, b3.1]
 have hi9 := s1.insts
 have hid := t1.ids
 have hws := t1.ws
 have hidn := t1.idsIn
 obtain ⟨h1, h2, h3, h4, h5, h6, h7, h8, h9, h10, h11, h12, h13, h14, h15⟩ := k1
 have hold := h13 _ (X8 hlt)
 have hw8 : isW 8 := .inr (.inl rfl)
 rw [hat] at hold
 simp only [hat]
 refine Run.yes hlt (Run.yes (by simp) (Run.yes (by simp [at_]) (Run.yes (by simpa using hlt) ?_)))
 simp only [X7m hlt]
 refine Run.yes (by simp) (Run.yes (by simp [at_]) (Run.mk ⟨?_, k2, ?_, ?_, ?_⟩))
 rotate_left
 ·exact hpar
 ·simp only
  omega
 ·intro hg
  have h17 : tgt g17 := by
   refine X4p (g := g) hb17 hg ?_ ?_ ?_
   ·constructor <;> simp <;> omega
   ·constructor <;> simp <;> omega
   ·constructor <;> simp <;> omega
  have hx := h17 _ (X8 hlt)
  rw [hat] at hx
  intro b hb
  simp only [List.length_set] at hb ⊢
  rcases List.mem_or_eq_of_mem_set hb with hb | rfl
  ·rcases List.mem_or_eq_of_mem_set hb with hb | rfl
   ·exact h17 b hb
   ·exact hx
  ·exact hx
 refine ⟨by simp only; omega, hws, by simp only; omega, by simp only; omega, by simp only; omega, by simp only; omega, by simp; omega, by simp only; omega, h9, h10, fun b hb => ?_, h12, fun b hb => ?_, hidn.mono (by simp only; omega), ?_⟩
 ·rcases List.mem_or_eq_of_mem_set hb with hb | rfl
  ·rcases List.mem_or_eq_of_mem_set hb with hb | rfl
   ·exact ⟨by have := (h11 b hb).1; omega, by have := (h11 b hb).2; omega⟩
   ·exact ⟨by simp, by simp only; omega⟩
  ·exact ⟨by simp, by simp only; omega⟩
 ·rcases List.mem_or_eq_of_mem_set hb with hb | rfl
  ·rcases List.mem_or_eq_of_mem_set hb with hb | rfl
   ·exact h13 b hb
   ·refine ⟨⟨?_, hold.1.is⟩, hold.2⟩
    simp [okPn, inN, at_, c2, hw8]
    omega
  ·refine ⟨⟨?_, hold.1.is⟩, hold.2⟩
   simp [okPn, inN, at_, c2, hw8]
   omega
 ·rw [List.set_set, W5d hlt (by rw [hat]; simp [sz])]
  exact h15
end
structure okFn (f : GFunc) : Prop where
 okbs : ∀ b ∈ f.blocks, okBl (cnt f) b
 params : f.params.length ≤ 4
 pw : ∀ w ∈ f.params, isW w
 ret : isW f.ret
 blocks : f.blocks.length ≤ 100000
 ne : 0 < f.blocks.length
 rows : ∀ b ∈ f.blocks, b.phis.length ≤ 100000 ∧ b.insts.length ≤ 100000
 tg : ∀ b ∈ f.blocks, okX ((f.blocks.length : Int) - 1) b.term
theorem tgt_f {g g' : Gl2G} (e : g'.f = g.f) (h : tgt g) : tgt g' := by
 unfold tgt
 rw [e]
 exact h
theorem fn_run {r : Gl1Rd} {rets : List Int} {pars : List (List Int)} (hr : okRd r) (hp : okP rets pars) : Run (Z5n r rets pars) (fun y => okFn y.1 ∧ okRd y.2) := by
 have hL := Y3u
 unfold Z5n
 refine Run.bind (Y2h hr) ?_
 rintro ⟨w, r1⟩ ⟨a1, a2⟩
 refine Run.bind (U4 a1 3) ?_
 rintro ⟨n, r2⟩ ⟨b1, b2, b3⟩
 have b3 := b3 (by omega)
 simp only at a1 a2 b1 b2 b3 ⊢
 refine Run.bind (R := fun y => okRd y.1 ∧ okG 4 y.2 ∧ y.2.f.blocks = []) (Run.loop (fun s => okRd s.1 ∧ okG (2 * (n - s.2.2).toNat) s.2.1 ∧ 0 ≤ s.2.2 ∧ s.2.2 ≤ n ∧ s.2.1.f.blocks = []) (fun s => s.2.2.toNat) ⟨b1, ?_, b2, Int.le_refl _, rfl⟩ ?_) ?_
 ·exact ⟨by simp, rfl, Int.le_refl _, by simp only; omega, by simp, by simp, by simp, by simp, by simp, a2, by simp, ⟨by simp, by simp⟩, by simp, by simp [inN], by simp [sumz]⟩
 ·rintro ⟨ra, ga, i⟩ ⟨c1, c2, c3, c4, c5⟩
  simp only at c1 c2 c3 c4 c5 ⊢
  refine Run.if (fun hi => ?_) (fun hi => Run.out ⟨c1, c2.mono (by omega), c5⟩)
  have hi : i > 0 := by simpa using hi
  refine Run.bind (Y2h c1) ?_
  rintro ⟨v, rb⟩ ⟨d1, d2⟩
  have hcp := c2.params
  refine Run.yes (by simp only [List.length_singleton]; omega) (Run.bind (X7p (k := 2 * (n - i).toNat + 1) ?_ (by unfold KM; omega) _) ?_)
  ·obtain ⟨h1, h2, h3, h4, h5, h6, h7, h8, h9, h10, h11, h12, h13, h14, h15⟩ := c2
   refine ⟨by simp only; omega, h2, by simp only; omega, by simp only; omega, by simp only; omega, by simp only; omega, by simp only; omega, by simp; omega, fun x hx => ?_, h10, fun b hb => ⟨by have := (h11 b hb).1; omega, by have := (h11 b hb).2; omega⟩, h12.mono (by simp only; omega), fun b hb => (h13 b hb).mono (by simp only; omega), h14, by simp; omega⟩
   rcases List.mem_append.1 hx with hx | hx
   ·exact h9 x hx
   ·simp only [List.mem_singleton] at hx
    subst hx
    exact d2
  ·rintro ⟨x, gb, rc⟩ ⟨e1, rfl, e3, _, _, _⟩
   exact Run.yes (Y5 (by omega) (by omega)) (Run.nx ⟨⟨d1, e1.mono (by simp only; omega), by simp only; omega, by simp only; omega, (congrArg GFunc.blocks e3).trans c5⟩, by simp only; omega⟩)
 rintro ⟨r3, g3⟩ ⟨c1, c2, cb⟩
 have ct : tgt g3 := fun b hb => by simp only at cb; rw [cb] at hb; cases hb
 have hpl := c2.params
 have hpw := c2.pw
 simp only at hpl hpw c1 c2 ⊢
 refine Run.bind (U4 c1 5) ?_
 rintro ⟨n4, r4⟩ ⟨d1, d2, d3⟩
 have d3 := d3 (by omega)
 simp only at d1 d2 d3 ⊢
 refine Run.yes (Y5 (by omega) (by omega)) (Run.bind (Y3b c2 d1 hp (by omega) (by unfold KM; omega)) ?_)
 rintro ⟨g5, r5⟩ ⟨e1, e2, e3, _⟩
 have q5 := congrArg GFunc.params e3.1
 have t5 : tgt g5 := tgt_f e3.1 ct
 simp only at q5
 refine Run.bind (R := fun y => okG 5000 y.2 ∧ okRd y.1 ∧ y.2.f.params = g3.f.params ∧ tgt y.2) (Run.bind (U4 e2 4) ?_) ?_
 ·rintro ⟨n6, r6⟩ ⟨f1, f2, f3⟩
  refine Run.if (fun _ => Run.bind (X8y e1 f1 hp (by unfold KM; omega)) ?_) (fun _ => Run.if (fun _ => Run.bind (X8k e1 f1 hp (by unfold KM; omega)) ?_) (fun _ => Run.if (fun _ => Run.bind (X8y e1 f1 hp (by unfold KM; omega)) ?_) (fun _ => Run.mk ⟨e1.mono (by omega), f1, q5, t5⟩)))
  ·rintro ⟨g7, r7⟩ ⟨p1, p2, p3, _, p5⟩
   exact Run.mk ⟨p1.mono (by omega), p2, p3.trans q5, p5 t5⟩
  ·rintro ⟨g7, r7⟩ ⟨p1, p2, p3, _, p5⟩
   exact Run.mk ⟨p1.mono (by omega), p2, p3.trans q5, p5 t5⟩
  ·rintro ⟨g7, r7⟩ ⟨p1, p2, p3, _, p5⟩
   refine Run.bind (U4 p2 3) ?_
   rintro ⟨n8, r8⟩ ⟨s1, s2, s3⟩
   have s3 := s3 (by omega)
   refine Run.bind (Y3b p1 s1 hp (by simp only at s3 ⊢; omega) (by unfold KM; omega)) ?_
   rintro ⟨g9, r9⟩ ⟨t1, t2, t3, _⟩
   refine Run.bind (X8k t1 t2 hp (by unfold KM; omega)) ?_
   rintro ⟨g10, r10⟩ ⟨u1, u2, u3, _, u5⟩
   exact Run.mk ⟨u1.mono (by omega), u2, u3.trans ((congrArg GFunc.params t3.1).trans (p3.trans q5)), u5 (tgt_f t3.1 (p5 t5))⟩
 rintro ⟨r11, g11⟩ ⟨p1, p2, p3, p4⟩
 refine Run.bind (U4 p2 3) ?_
 rintro ⟨n12, r12⟩ ⟨s1, s2, s3⟩
 have s3 := s3 (by omega)
 refine Run.bind (Y3b p1 s1 hp (by simp only at s3 ⊢; omega) (by unfold KM; omega)) ?_
 rintro ⟨g13, r13⟩ ⟨t1, t2, t3, _⟩
 refine Run.bind (W6j t1 t2 (by unfold KM; omega)) ?_
 rintro ⟨g14, r14⟩ ⟨u1, u2, u3, u4, u5, u6, u7⟩
 have q : g14.f.params = g3.f.params := u3.trans ((congrArg GFunc.params t3.1).trans p3)
 have hc : g14.next = (cnt g14.f : Int) := by
  have := u1.nx
  simp only at u5 u6 this
  rw [u5, u6] at this
  simp only [List.length_nil] at this
  unfold cnt
  omega
 have hb : ∀ b ∈ g14.f.blocks, okBl (cnt g14.f) b := fun b hb => (u1.okbs b hb).mono (by simp only; omega)
 refine Run.mk ⟨⟨hb, ?_, ?_, u1.ret, Nat.le_trans u1.blocks (by omega), u4, fun b hb => ⟨Nat.le_trans (u1.rows b hb).1 (by omega), Nat.le_trans (u1.rows b hb).2 (by omega)⟩, u7 (tgt_f t3.1 p4)⟩, u2⟩
 ·simp only
  rw [q]
  exact hpl
 ·simp only
  rw [q]
  exact hpw
end
section
def pre (f : GFunc) (k : Nat) : Nat := f.params.length + sumz (f.blocks.take k)
theorem Y4p {f : GFunc} {k : Nat} (h : k < f.blocks.length) : pre f (k + 1) = pre f k + sz (at_ f.blocks (k : Int)) := by
 unfold pre sumz
 rw [Z5f h, List.take_add_one, List.getElem?_eq_getElem h, List.map_append, List.sum_append]
 simp only [Option.toList, List.map_cons, List.map_nil, List.sum_cons, List.sum_nil]
 omega
theorem W1p {bs : List GBlock} {n : Nat} (h : ∀ b ∈ bs, sz b ≤ n) : sumz bs ≤ bs.length * n := by
 induction bs with
 | nil => simp [sumz]
 | cons b bs ih =>
  have h1 := ih (fun c hc => h c (List.mem_cons_of_mem _ hc))
  have h2 := h b (List.mem_cons_self ..)
  unfold sumz at h1 ⊢
  simp only [List.map_cons, List.sum_cons, List.length_cons, Nat.add_mul]
  omega
theorem okFn.szle {f : GFunc} (h : okFn f) : ∀ b ∈ f.blocks, sz b ≤ 200000 := fun b hb => by
 have := h.rows b hb
 unfold sz
 omega
theorem okFn.pre_le {f : GFunc} (h : okFn f) (k : Nat) : pre f k ≤ 100000000000 := by
 have h1 := W1p (bs := f.blocks.take k) (n := 200000) (fun b hb => h.szle b (List.mem_of_mem_take hb))
 have h2 := h.blocks
 have h3 := h.params
 have h4 : (f.blocks.take k).length ≤ 100000 := by rw [List.length_take]; omega
 have h5 : (f.blocks.take k).length * 200000 ≤ 100000 * 200000 := Nat.mul_le_mul_right _ h4
 unfold pre
 omega
theorem X2z (f : GFunc) : pre f f.blocks.length = cnt f := by
 unfold pre cnt
 rw [List.take_length]
theorem W0d {f : GFunc} (h : okFn f) : Z0y f = some (cnt f : Int) := by
 unfold Z0y
 generalize hB : Y6 _ _ = L
 have hb := h.blocks
 rw [Y1i hB (fun k => ((pre f k : Int), (k : Int))) f.blocks.length (cnt f : Int) ?_ ?_ ?_]
 ·rfl
 ·simp [pre, sumz]
 ·intro k hk
  have h0 : 0 ≤ (k : Int) ∧ (k : Int) < (f.blocks.length : Int) := by omega
  have h1 := h.rows _ (X8 h0)
  have h2 := h.pre_le k
  have e : ((at_ f.blocks (k : Int)).phis.length : Int) + ((at_ f.blocks (k : Int)).insts.length : Int) = (sz (at_ f.blocks (k : Int)) : Int) := by simp [sz]
  have h3 := h.szle _ (X8 h0)
  simp only
  rw [if_pos (by simp; omega), if_pos h0, if_pos h0, if_pos (Y5 (by omega) (by omega)), e, Z6j (n := (sz _ : Int)) (by omega) (by omega), Z6j (by omega) (by omega), Y4p hk]
  simp
 ·simp only
  rw [if_neg (by simp), X2z]
structure okF (f : GFunc) : Prop where
 ok : okFn f
 nb : f.blocks.length ≤ 10
 nv : cnt f ≤ 60
theorem W2u : okF { params := ([] : List Int), ret := 8, blocks := [({ phis := ([] : List GPhi), insts := [({ op_ := 21, w := 8, a := 0, b := 0, c := 0, imm := 7, args := ([] : List Int) } : GInst)], term := (({ kind := 1, a := 0, x := 0, y := 0 } : GTerm)) } : GBlock)] } := by
 refine ⟨⟨?_, by simp, by simp, .inr (.inl rfl), by simp, by simp, by simp, ?_⟩, by simp, by simp [cnt, sumz, sz]⟩
 ·intro b hb
  simp only [List.mem_singleton] at hb
  subst hb
  refine ⟨⟨by simp, fun i hi => ?_⟩, fun _ => by simp [cnt, sumz, sz], .inl ⟨rfl, rfl, rfl⟩⟩
  simp only [List.mem_singleton] at hi
  subst hi
  exact ⟨.inr ⟨by simp, by simp⟩, by simp [inN, opsI], by simp, Y0f (.inr (.inl rfl)) (by decide)⟩
 ·intro b hb
  simp only [List.mem_singleton] at hb
  subst hb
  constructor <;> simp
theorem X1u {r : Gl1Rd} (hr : okRd r) : Run (Z0q r) (fun y => okRd y.2 ∧ 0 < y.1.funcs.length ∧ y.1.funcs.length ≤ 2 ∧ ∀ f ∈ y.1.funcs, okF f) := by
 have hL := Y3u
 unfold Z0q
 refine Run.bind (U4 hr 2) ?_
 rintro ⟨n, r1⟩ ⟨a1, a2, a3⟩
 have a3 := a3 (by omega)
 simp only at a1 a2 a3 ⊢
 refine Run.yes (Y5 (by omega) (by omega)) (Run.bind (R := fun y => okRd y.1 ∧ 0 < y.2.length ∧ y.2.length ≤ 2 ∧ ∀ f ∈ y.2, okF f) (Run.loop (fun s => okRd s.1 ∧ ((s.2.1.length : Int) + s.2.2.2.2 = 1 + n) ∧ 0 ≤ s.2.2.2.2 ∧ s.2.2.1.length = s.2.1.length ∧ okP s.2.2.1 s.2.2.2.1 ∧ ∀ f ∈ s.2.1, okF f) (fun s => s.2.2.2.2.toNat) ⟨a1, by simp, by simp only; omega, rfl, ⟨rfl, by simp, by simp, by simp⟩, by simp⟩ ?_) ?_)
 ·rintro ⟨ra, fs, rets, pars, i⟩ ⟨b1, b2, b3, b4, b5, b6⟩
  simp only at b1 b2 b3 b4 b5 b6 ⊢
  refine Run.if (fun hi => ?_) (fun hi => Run.out ⟨b1, ?_, ?_, b6⟩)
  ·have hi : i > 0 := by simpa using hi
   refine Run.bind (fn_run b1 b5) ?_
   rintro ⟨f, rb⟩ ⟨c1, c2⟩
   simp only at c1 c2 ⊢
   refine Run.bind (R := okF) (Run.bind (R := fun b => b = false → okF f) (Run.bind (R := fun x => x = (cnt f : Int)) ⟨_, W0d c1, rfl⟩ ?_) ?_) ?_
   ·rintro x rfl
    refine Run.if (fun _ => Run.mk (fun h => by cases h)) (fun hx => Run.mk (fun h => ?_))
    have hx : ¬ (cnt f : Int) > 60 := by simpa using hx
    have h : ¬ (f.blocks.length : Int) > 10 := by simpa using h
    exact ⟨c1, by omega, by omega⟩
   ·intro b hb
    refine Run.if (fun _ => Run.mk W2u) (fun h => Run.mk (hb (by simpa using h)))
   ·intro g hg
    have hp := b5.len
    refine Run.yes (by simp only [List.length_singleton]; omega) (Run.yes (by simp only [List.length_singleton]; omega) (Run.yes (by simp only [List.length_singleton]; omega) (Run.yes (Y5 (by omega) (by omega)) (Run.nx ⟨⟨c2, by simp; omega, by simp only; omega, by simp; omega, ⟨by simp; omega, by simp; omega, ?_, ?_⟩, ?_⟩, by simp only; omega⟩))))
    ·intro w hw
     rcases List.mem_append.1 hw with hw | hw
     ·exact b5.rw_ w hw
     ·simp only [List.mem_singleton] at hw
      subst hw
      exact hg.ok.ret
    ·intro w hw
     rcases List.mem_append.1 hw with hw | hw
     ·exact b5.rows w hw
     ·simp only [List.mem_singleton] at hw
      subst hw
      exact ⟨hg.ok.params, hg.ok.pw⟩
    ·intro w hw
     rcases List.mem_append.1 hw with hw | hw
     ·exact b6 w hw
     ·simp only [List.mem_singleton] at hw
      subst hw
      exact hg
  ·have hi : ¬ i > 0 := by simpa using hi
   simp only; omega
  ·have hi : ¬ i > 0 := by simpa using hi
   simp only; omega
 ·rintro ⟨r2, fs⟩ ⟨b1, b2, b3, b4⟩
  exact Run.mk ⟨b1, b2, b3, b4⟩
end
section
theorem wrap_le (k : Int) : IntKind.i64.wrap k ≤ 9223372036854775807 := by
 have h1 := Int.emod_lt_of_pos k (show (0 : Int) < 18446744073709551616 by omega)
 have e : IntKind.i64.wrap k = if (true && decide (k % 18446744073709551616 ≥ 9223372036854775808)) = true then k % 18446744073709551616 - 18446744073709551616 else k % 18446744073709551616 := rfl
 rw [e]
 by_cases h : k % 18446744073709551616 ≥ 9223372036854775808
 ·rw [if_pos (by simpa using h)]; omega
 ·rw [if_neg (by simpa using h)]; omega
theorem near_le {r : Gl1Rd} {low high : Int} {y : Int × Gl1Rd} (h : Q7 r low high = some y) (h1 : low ≤ 9223372036854775807) (h2 : high ≤ 9223372036854775807) : y.1 ≤ 9223372036854775807 := by
 unfold Q7 at h
 cases e : Z6 r 8 with
 | none => rw [e] at h; cases h
 | some x =>
  rw [e, obs] at h
  split at h
  ·cases h; exact h1
  ·split at h
   ·cases h; exact h2
   ·split at h
    ·cases h; exact h1
    ·cases e2 : Q5 x.2 with
     | none => rw [e2] at h; cases h
     | some w =>
      rw [e2, obs] at h
      split at h
      ·split at h
       ·cases h; exact wrap_le _
       ·cases h
      ·cases h
theorem off_le {r : Gl1Rd} {low high : Int} {y : Int × Gl1Rd} (h : V1 r low high = some y) (h1 : low ≤ 9223372036854775807) (h2 : high ≤ 9223372036854775806) : y.1 ≤ 9223372036854775807 := by
 unfold V1 at h
 cases e : J6 r 24 with
 | none => rw [e] at h; cases h
 | some x =>
  rw [e, obs] at h
  split at h
  ·split at h
   ·split at h
    ·cases e2 : Z6 x.2 4 with
     | none => rw [e2] at h; cases h
     | some w =>
      rw [e2, obs] at h
      split at h
      ·rename_i hw
       have hm := X8 hw
       cases h
       simp only [List.mem_cons, List.not_mem_nil, or_false] at hm
       simp only
       omega
      ·cases h
    ·cases h
   ·cases h
  ·cases e2 : Q7 x.2 low high with
   | none => rw [e2] at h; cases h
   | some w =>
    rw [e2, obs] at h
    cases h
    exact near_le e2 h1 (by omega)
theorem Y1f {r : Gl1Rd} (h : okRd r) {low high : Int} (hl : -1000000 ≤ low) (hlh : low ≤ high) (hh : high ≤ 1000000) : Run (V1 r low high) (fun y => okRd y.2 ∧ y.1 ≤ 9223372036854775807) := by
 obtain ⟨y, e, hy⟩ := off_run h (low := low) (high := high) (Y5 (by omega) (by omega)) (Y5 (by omega) (by omega)) (fun _ => by
  rw [Z6j (by omega) (by omega)]
  refine ⟨Y5 (by omega) (by omega), ?_⟩
  have hk : IntKind.u64.wrap (high - low + 1) = high - low + 1 := IntWalk.u64_in _ (by omega)
  omega)
 exact ⟨y, e, hy, off_le e (by omega) (by omega)⟩
end
section
def endL (t : GTerm) : List Int := if t.kind = 1 ∨ t.kind = 3 then [t.a] else []
def namedB (b : GBlock) : List Int := b.phis.flatMap (·.ins) ++ b.insts.flatMap opsI ++ endL b.term
def all (f : GFunc) : List Int := f.blocks.flatMap namedB
end
section
def pl : List GBlock → Nat → Nat → Option (Nat × Nat)
 | [], _, _ => none
 | x :: xs, b, n => if n < sz x then some (b, n) else pl xs (b + 1) (n - sz x)
def plI : Option (Nat × Nat) → Int × Int
 | none => (-2, 0)
 | some x => ((x.1 : Int), (x.2 : Int))
def X2 (f : GFunc) (id : Int) : Int × Int :=
 if id < 0 then (-2, 0) else if id < (f.params.length : Int) then (-1, id) else plI (pl f.blocks 0 (id - f.params.length).toNat)
theorem W2m : ∀ (xs : List GBlock) (b n : Nat), sumz xs ≤ n → pl xs b n = none
 | [], _, _, _ => rfl
 | x :: xs, b, n, h => by
  have h' : sz x + sumz xs ≤ n := by simpa [sumz] using h
  unfold pl
  rw [if_neg (by omega)]
  exact W2m xs _ _ (by omega)
theorem W2k : ∀ (xs : List GBlock) (b n : Nat), n < sumz xs → ∃ c a, pl xs b n = some (c, a)
 | [], _, _, h => by simp [sumz] at h
 | x :: xs, b, n, h => by
  have h' : n < sz x + sumz xs := by simpa [sumz] using h
  unfold pl
  by_cases hn : n < sz x
  ·rw [if_pos hn]; exact ⟨_, _, rfl⟩
  ·rw [if_neg hn]; exact W2k xs _ _ (by omega)
theorem pl_in : ∀ (xs : List GBlock) (b n c a : Nat), pl xs b n = some (c, a) → b ≤ c ∧ a ≤ n ∧ ∃ x, xs[c - b]? = some x ∧ a < sz x
 | [], _, _, _, _, h => by simp [pl] at h
 | x :: xs, b, n, c, a, h => by
  unfold pl at h
  by_cases hn : n < sz x
  ·rw [if_pos hn] at h
   simp only [Option.some.injEq, Prod.mk.injEq] at h
   obtain ⟨rfl, rfl⟩ := h
   exact ⟨Nat.le_refl _, Nat.le_refl _, x, by simp, hn⟩
  ·rw [if_neg hn] at h
   obtain ⟨h1, h2, y, h3, h4⟩ := pl_in xs _ _ _ _ h
   refine ⟨by omega, by omega, y, ?_, h4⟩
   rw [show c - b = (c - (b + 1)) + 1 from by omega, List.getElem?_cons_succ]
   exact h3
theorem Y7g {f : GFunc} {id : Int} (h : id < 0 ∨ (cnt f : Int) ≤ id) : X2 f id = (-2, 0) := by
 unfold X2
 by_cases h0 : id < 0
 ·rw [if_pos h0]
 ·have h1 : (cnt f : Int) ≤ id := by omega
  unfold cnt at h1
  rw [if_neg h0, if_neg (by omega), W2m _ _ _ (by omega)]
  rfl
theorem W4b {f : GFunc} {k : Nat} (h : k < f.blocks.length) : f.blocks.drop k = at_ f.blocks (k : Int) :: f.blocks.drop (k + 1) := by
 rw [Z5f h]
 exact List.drop_eq_getElem_cons h
noncomputable def typ (f : GFunc) (id : Int) : Int :=
 if (X2 f id).1 = -2 then -1 else if (X2 f id).1 = -1 then at_ f.params (X2 f id).2 else
 if (X2 f id).2 < ((at_ f.blocks (X2 f id).1).phis.length : Int) then (at_ (at_ f.blocks (X2 f id).1).phis (X2 f id).2).w
 else W3 (at_ (at_ f.blocks (X2 f id).1).insts ((X2 f id).2 - (at_ f.blocks (X2 f id).1).phis.length))
theorem Z1w (f : GFunc) (id : Int) : X2 f id = (-2, 0) ∨ (X2 f id = (-1, id) ∧ 0 ≤ id ∧ id < (f.params.length : Int)) ∨
  ((0 ≤ (X2 f id).1 ∧ (X2 f id).1 < (f.blocks.length : Int)) ∧ 0 ≤ (X2 f id).2 ∧ (X2 f id).2 < (sz (at_ f.blocks (X2 f id).1) : Int)) := by
 unfold X2
 by_cases h0 : id < 0
 ·rw [if_pos h0]; exact .inl rfl
 ·rw [if_neg h0]
  by_cases hp : id < (f.params.length : Int)
  ·rw [if_pos hp]; exact .inr (.inl ⟨rfl, by omega, hp⟩)
  ·rw [if_neg hp]
   cases e : pl f.blocks 0 (id - (f.params.length : Int)).toNat with
   | none => exact .inl rfl
   | some x =>
    obtain ⟨c, a⟩ := x
    obtain ⟨_, _, x, h1, h2⟩ := pl_in _ _ _ _ _ e
    have hc : c < f.blocks.length := by
     have := (List.getElem?_eq_some_iff.1 h1).1
     omega
    refine .inr (.inr ⟨⟨by simp [plI], by simp only [plI]; omega⟩, by simp [plI], ?_⟩)
    simp only [plI]
    rw [Z5f hc]
    have := (List.getElem?_eq_some_iff.1 h1).2
    simp only [Nat.sub_zero] at this
    rw [this]
    omega
theorem W4z {i : GInst} (h : okI i) : Z3x i = W3 i := by
 unfold Z3x W3 U3 Z4 Z8 Z1z W6 U3 Z4 Z8 X0 Y4
 by_cases h1 : i.op_ ≥ 1 ∧ i.op_ ≤ 17
 ·have e : (decide (i.op_ ≥ 1) && decide (i.op_ ≤ 17)) = true := by simp [h1.1, h1.2]
  simp [e]
 ·have e : (decide (i.op_ ≥ 1) && decide (i.op_ ≤ 17)) = false := by
   cases hx : (decide (i.op_ ≥ 1) && decide (i.op_ ≤ 17)) with
   | false => rfl
   | true => exact absurd (by simpa using hx) h1
  simp only [e]
  rcases h with h | ⟨h2, h3⟩
  ·simp [h]
  ·simp [h2, h3]
end
section
structure bndF (f : GFunc) : Prop where
 params : f.params.length ≤ 1000000000000
 blocks : f.blocks.length ≤ 2000000
 rows : ∀ b ∈ f.blocks, b.phis.length ≤ 2000000 ∧ b.insts.length ≤ 2000000
 ins : ∀ b ∈ f.blocks, ∀ p ∈ b.phis, p.ins.length ≤ 1000000000000
 args : ∀ b ∈ f.blocks, ∀ i ∈ b.insts, i.args.length ≤ 1000000000000
theorem okFn.bnd {f : GFunc} (h : okFn f) : bndF f :=
 ⟨Nat.le_trans h.params (by decide), Nat.le_trans h.blocks (by decide), fun b hb => ⟨Nat.le_trans (h.rows b hb).1 (by decide), Nat.le_trans (h.rows b hb).2 (by decide)⟩, fun b hb p hp => Nat.le_trans ((h.okbs b hb).1.ps p hp).2.1 (by decide), fun b hb i hi => Nat.le_trans ((h.okbs b hb).1.is i hi).2.2.1 (by decide)⟩
theorem bndF.szle {f : GFunc} (h : bndF f) : ∀ b ∈ f.blocks, sz b ≤ 4000000 := fun b hb => by
 have := h.rows b hb
 unfold sz
 omega
theorem bndF.pre_le {f : GFunc} (h : bndF f) (k : Nat) : pre f k ≤ 10000000000000 := by
 have h1 := W1p (bs := f.blocks.take k) (n := 4000000) (fun b hb => h.szle b (List.mem_of_mem_take hb))
 have h2 := h.blocks
 have h3 := h.params
 have h4 : (f.blocks.take k).length ≤ 2000000 := by rw [List.length_take]; omega
 have h5 : (f.blocks.take k).length * 4000000 ≤ 2000000 * 4000000 := Nat.mul_le_mul_right _ h4
 unfold pre
 omega
theorem bndF.cnt_le {f : GFunc} (h : bndF f) : cnt f ≤ 10000000000000 := by rw [← X2z]; exact h.pre_le _
theorem W1v {f : GFunc} (h : bndF f) : Z0y f = some (cnt f : Int) := by
 unfold Z0y
 generalize hB : Y6 _ _ = L
 have hb := h.blocks
 rw [Y1i hB (fun k => ((pre f k : Int), (k : Int))) f.blocks.length (cnt f : Int) ?_ ?_ ?_]
 ·rfl
 ·simp [pre, sumz]
 ·intro k hk
  have h0 : 0 ≤ (k : Int) ∧ (k : Int) < (f.blocks.length : Int) := by omega
  have h1 := h.rows _ (X8 h0)
  have h2 := h.pre_le k
  have e : ((at_ f.blocks (k : Int)).phis.length : Int) + ((at_ f.blocks (k : Int)).insts.length : Int) = (sz (at_ f.blocks (k : Int)) : Int) := by simp [sz]
  have h3 := h.szle _ (X8 h0)
  simp only
  rw [if_pos (by simp; omega), if_pos h0, if_pos h0, if_pos (Y5 (by omega) (by omega)), e, Z6j (n := (sz _ : Int)) (by omega) (by omega), Z6j (by omega) (by omega), Y4p hk]
  simp
 ·simp only
  rw [if_neg (by simp), X2z]
theorem Y2v {f : GFunc} (h : bndF f) : Z0j f = some (cnt f : Int) := by
 unfold Z0j
 generalize hB : Y6 _ _ = L
 have hb := h.blocks
 rw [Y1i hB (fun k => ((k : Int), (pre f k : Int))) f.blocks.length (cnt f : Int) ?_ ?_ ?_]
 ·rfl
 ·simp [pre, sumz]
 ·intro k hk
  have h0 : 0 ≤ (k : Int) ∧ (k : Int) < (f.blocks.length : Int) := by omega
  have h1 := h.rows _ (X8 h0)
  have h2 := h.pre_le k
  have e : ((at_ f.blocks (k : Int)).phis.length : Int) + ((at_ f.blocks (k : Int)).insts.length : Int) = (sz (at_ f.blocks (k : Int)) : Int) := by simp [sz]
  have h3 := h.szle _ (X8 h0)
  simp only
  rw [if_pos (by simp; omega), if_pos h0, e, if_pos (Y5 (by omega) (by omega)), if_pos (Y5 (by omega) (by omega)), Y4p hk]
  simp
 ·simp only
  rw [if_neg (by simp), X2z]
theorem Y2u {f : GFunc} (h : bndF f) (id : Int) : Z0i f id = some (X2 f id) := by
  have hc := h.cnt_le
  unfold Z0i Y1p Z4
  rw [Y2v h]
  simp only [obs]
  rw [if_pos (Y5 (by omega) (by omega))]
  simp only [obs]
  by_cases h0 : id < 0 ∨ (cnt f : Int) ≤ id
  · rw [if_pos (by simp; omega), Y7g h0]
  · rw [if_neg (by simp; omega)]
    by_cases hp : id < (f.params.length : Int)
    · rw [if_pos (by simpa using hp)]
      unfold X2
      rw [if_neg (by omega), if_pos hp]
    · rw [if_neg (by simpa using hp)]
      unfold X2
      rw [if_neg (by omega), if_neg hp]
      have key : ∀ m k, k + m = f.blocks.length → (pre f k : Int) ≤ id → Y6 (fun (st7 : Int × Int) =>
              ((if decide (st7.1 < ((List.length f.blocks : Int))) = true then
                  (if 0 ≤ st7.1 ∧ st7.1 < (List.length f.blocks : Int) then
                    (if inI (st7.2 + (((List.length ((at_ f.blocks st7.1).phis) : Int)) + ((List.length ((at_ f.blocks st7.1).insts) : Int)))) then
                      (if decide (id < (st7.2 + (((List.length ((at_ f.blocks st7.1).phis) : Int)) + ((List.length ((at_ f.blocks st7.1).insts) : Int))))) = true then
                        (some (Sum.inr ((Sum.inl ((st7.1, IntKind.i64.wrap (id - st7.2)))))))
                        else
                        (if inI (st7.2 + (((List.length ((at_ f.blocks st7.1).phis) : Int)) + ((List.length ((at_ f.blocks st7.1).insts) : Int)))) then
                        (if inI (st7.1 + 1) then
                        (some (Sum.inl ((st7.1 + 1, st7.2 + (((List.length ((at_ f.blocks st7.1).phis) : Int)) + ((List.length ((at_ f.blocks st7.1).insts) : Int)))))))
                        else none)
                        else none))
                      else none)
                    else none)
                  else
                  (some (Sum.inr ((Sum.inr (())))))) : Option ((Int × Int) ⊕ ((Int × Int) ⊕ Unit)))) ((k : Int), (pre f k : Int))
              = some (match pl (f.blocks.drop k) k (id - pre f k).toNat with | some x => Sum.inl ((x.1 : Int), (x.2 : Int)) | none => Sum.inr ()) := by
        intro m
        induction m with
        | zero =>
          intro k hk hle
          rw [Z1p]
          simp only
          rw [if_neg (by simp; omega), List.drop_of_length_le (by omega)]
          rfl
        | succ m ih =>
          intro k hk hle
          have hk' : k < f.blocks.length := by omega
          have h0 : 0 ≤ (k : Int) ∧ (k : Int) < (f.blocks.length : Int) := by omega
          have h1 := h.rows _ (X8 h0)
          have h2 := h.pre_le k
          have e : ((at_ f.blocks (k : Int)).phis.length : Int) + ((at_ f.blocks (k : Int)).insts.length : Int) = (sz (at_ f.blocks (k : Int)) : Int) := by simp [sz]
          have h3 := h.szle _ (X8 h0)
          have h4 := Y4p hk'
          have h5 := h.blocks
          rw [Z1p, W4b hk']
          simp only [e, pl]
          rw [if_pos (by simp; omega), if_pos h0, if_pos (Y5 (by omega) (by omega))]
          by_cases hn : (id - (pre f k : Int)).toNat < sz (at_ f.blocks (k : Int))
          · rw [if_pos (by simp; omega), if_pos hn, Z6j (by omega) (by omega), obs]
            simp only
            rw [show ((id - (pre f k : Int)).toNat : Int) = id - (pre f k : Int) from by omega]
          · rw [if_neg (by simp; omega), if_pos (Y5 (by omega) (by omega)), if_neg hn]
            have := ih (k + 1) (by omega) (by omega)
            rw [if_pos (Y5 (by omega) (by omega)), obs]
            simp only
            rw [show ((k : Int) + 1) = ((k + 1 : Nat) : Int) from by omega, show (pre f k : Int) + (sz (at_ f.blocks (k : Int)) : Int) = ((pre f (k + 1) : Nat) : Int) from by omega, show (id - (pre f k : Int)).toNat - sz (at_ f.blocks (k : Int)) = (id - (pre f (k + 1) : Int)).toNat from by omega]
            exact this
      have k0 := key f.blocks.length 0 (by omega) (by simp [pre, sumz]; omega)
      have e0 : (pre f 0 : Int) = (f.params.length : Int) := by simp [pre, sumz]
      rw [e0] at k0
      rw [show ((0 : Nat) : Int) = (0 : Int) from rfl] at k0
      rw [k0]
      simp only [obs, List.drop_zero]
      cases pl f.blocks 0 (id - (f.params.length : Int)).toNat with
      | none => rfl
      | some x => rfl
theorem X4t {f : GFunc} (h : bndF f) {id : Int} (hi : id ≤ 9223372036854775807) : Z3v f id = some (X2 f id) := by
  have hc := h.cnt_le
  unfold Z3v
  by_cases h0 : id < 0
  · rw [if_pos (by simpa using h0), Y7g (.inl h0)]
  · rw [if_neg (by simpa using h0)]
    by_cases hp : id < (f.params.length : Int)
    · rw [if_pos (by simpa using hp)]
      unfold X2
      rw [if_neg (by omega), if_pos hp]
    · rw [if_neg (by simpa using hp), if_pos (Y5 (by omega) (by omega))]
      unfold X2
      rw [if_neg (by omega), if_neg hp]
      obtain ⟨n, hn⟩ := Int.eq_ofNat_of_zero_le (show 0 ≤ id - (f.params.length : Int) by omega)
      have hn' : (n : Int) ≤ 9223372036854775807 := by omega
      rw [hn]
      have key : ∀ m k (n : Nat), k + m = f.blocks.length → (n : Int) ≤ 9223372036854775807 → Y6 (fun (st6 : Int × Int) =>
              ((if decide (st6.2 < ((List.length f.blocks : Int))) = true then
                  (if 0 ≤ st6.2 ∧ st6.2 < (List.length f.blocks : Int) then
                    (if 0 ≤ st6.2 ∧ st6.2 < (List.length f.blocks : Int) then
                      (if decide (st6.1 < (IntKind.i64.wrap (((List.length ((at_ f.blocks st6.2).phis) : Int)) + ((List.length ((at_ f.blocks st6.2).insts) : Int))))) = true then
                        (some (Sum.inr ((Sum.inl ((st6.2, st6.1))))))
                        else
                        (if inI (st6.2 + 1) then
                        (some (Sum.inl ((IntKind.i64.wrap (st6.1 - (IntKind.i64.wrap (((List.length ((at_ f.blocks st6.2).phis) : Int)) + ((List.length ((at_ f.blocks st6.2).insts) : Int))))), st6.2 + 1))))
                        else none))
                      else none)
                    else none)
                  else
                  (some (Sum.inr ((Sum.inr (())))))) : Option ((Int × Int) ⊕ ((Int × Int) ⊕ Unit)))) ((n : Int), (k : Int))
              = some (match pl (f.blocks.drop k) k n with | some x => Sum.inl ((x.1 : Int), (x.2 : Int)) | none => Sum.inr ()) := by
        intro m
        induction m with
        | zero =>
          intro k n hk hle
          rw [Z1p]
          simp only
          rw [if_neg (by simp; omega), List.drop_of_length_le (by omega)]
          rfl
        | succ m ih =>
          intro k n hk hle
          have hk' : k < f.blocks.length := by omega
          have h0 : 0 ≤ (k : Int) ∧ (k : Int) < (f.blocks.length : Int) := by omega
          have h1 := h.rows _ (X8 h0)
          have e : ((at_ f.blocks (k : Int)).phis.length : Int) + ((at_ f.blocks (k : Int)).insts.length : Int) = (sz (at_ f.blocks (k : Int)) : Int) := by simp [sz]
          have h3 := h.szle _ (X8 h0)
          have h5 := h.blocks
          rw [Z1p, W4b hk']
          simp only [e, pl]
          rw [if_pos (by simp; omega), if_pos h0, if_pos h0, Z6j (n := (sz _ : Int)) (by omega) (by omega)]
          by_cases hn : n < sz (at_ f.blocks (k : Int))
          · rw [if_pos (by simp; omega), if_pos hn, obs]
          · rw [if_neg (by simp; omega), if_neg hn, if_pos (Y5 (by omega) (by omega)), Z6j (by omega) (by omega), obs]
            have := ih (k + 1) (n - sz (at_ f.blocks (k : Int))) (by omega) (by omega)
            simp only
            rw [show ((k : Int) + 1) = ((k + 1 : Nat) : Int) from by omega, show (n : Int) - (sz (at_ f.blocks (k : Int)) : Int) = ((n - sz (at_ f.blocks (k : Int)) : Nat) : Int) from by omega]
            exact this
      have k0 := key f.blocks.length 0 n (by omega) hn'
      rw [show ((0 : Nat) : Int) = (0 : Int) from rfl] at k0
      rw [k0]
      simp only [obs, List.drop_zero]
      rw [show ((n : Int)).toNat = n from by omega]
      cases pl f.blocks 0 n with
      | none => rfl
      | some x => rfl
end
section
theorem Z0r (s : List Int) (f : Int → Option Bool) (c : Int → Bool) (h : ∀ x ∈ s, f x = some (c x)) (hl : s.length ≤ 140737488355328) : Z7 s f = some (s.any c) := by
 unfold Z7 K2
 generalize hB : Y6 _ (0 : Int) = L
 have K := Z4k hB s c (fun k : Nat => (k : Int)) (by
  intro k hk
  rw [if_pos (by simpa using hk), if_pos (by omega), h _ (X8 (by omega))]
  simp only [Option.bind_some]
  cases c (at_ s (k : Int))
  ·rw [if_neg (by simp), if_pos (Y5 (by omega) (by omega)), if_neg (by simp)]
  ·rw [if_pos rfl, if_pos rfl]) (by rw [if_neg (by simp)])
 rcases K with ⟨h1, k, h2, rfl⟩ | ⟨h1, rfl⟩
 ·rw [h1]; simp
 ·rw [h1]; simp
theorem Y5b (s : List GBlock) (f : GBlock → Option Bool) (c : GBlock → Bool) (h : ∀ x ∈ s, f x = some (c x)) (hl : s.length ≤ 140737488355328) : X9 s f = some (s.any c) := by
 unfold X9 V4
 generalize hB : Y6 _ (0 : Int) = L
 have K := Z4k hB s c (fun k : Nat => (k : Int)) (by
  intro k hk
  rw [if_pos (by simpa using hk), if_pos (by omega), h _ (X8 (by omega))]
  simp only [Option.bind_some]
  cases c (at_ s (k : Int))
  ·rw [if_neg (by simp), if_pos (Y5 (by omega) (by omega)), if_neg (by simp)]
  ·rw [if_pos rfl, if_pos rfl]) (by rw [if_neg (by simp)])
 rcases K with ⟨h1, k, h2, rfl⟩ | ⟨h1, rfl⟩
 ·rw [h1]; simp
 ·rw [h1]; simp
theorem X0u (s : List Int) (v : Int) (hl : s.length ≤ 140737488355328) : J1 s v = some (s.any (fun x => v == x)) := by
 unfold J1 Q9
 generalize hB : Y6 _ (0 : Int) = L
 have K := Z4k hB s (fun x => v == x) (fun k : Nat => (k : Int)) (by
  intro k hk
  rw [if_pos (by simpa using hk), if_pos (by omega)]
  cases (v == at_ s (k : Int))
  ·rw [if_neg (by simp), if_pos (Y5 (by omega) (by omega)), if_neg (by simp)]
  ·rw [if_pos rfl, if_pos rfl]) (by rw [if_neg (by simp)])
 rcases K with ⟨h1, k, h2, rfl⟩ | ⟨h1, rfl⟩
 ·rw [h1]; simp
 ·rw [h1]; simp
theorem X2j {l : List Int} {n : Int} : l.any (fun x => x == n) = decide (n ∈ l) := by
 rw [Bool.eq_iff_iff]
 simp [List.any_eq_true]
theorem X7n {l : List Int} {n : Int} : l.any (fun x => n == x) = decide (n ∈ l) := by
 rw [Bool.eq_iff_iff]
 simp [List.any_eq_true]
theorem Y4z (l : List Int) (n : Int) (hl : l.length ≤ 140737488355328) : Z0x l n = some (decide (n ∈ l)) := by
 unfold Z0x
 generalize hB : Y6 _ (0 : Int) = L
 have K := Z4k hB l (fun x => x == n) (fun _ => ()) (by
  intro k hk
  rw [if_pos (by simpa using hk), if_pos (by omega)]
  cases (at_ l (k : Int) == n)
  ·rw [if_neg (by simp), if_pos (Y5 (by omega) (by omega)), if_neg (by simp)]
  ·rw [if_pos rfl, if_pos rfl]) (by rw [if_neg (by simp)])
 rw [X2j] at K
 rcases K with ⟨h1, k, h2, rfl⟩ | ⟨h1, rfl⟩
 ·rw [h1]; rfl
 ·rw [h1]; rfl
theorem has_ok (l : List Int) (n : Int) (hl : l.length ≤ 140737488355328) : Y0v l n = some (decide (n ∈ l)) := by
 unfold Y0v
 generalize hB : Y6 _ (0 : Int) = L
 have K := Z4k hB l (fun x => x == n) (fun _ => ()) (by
  intro k hk
  rw [if_pos (by simpa using hk), if_pos (by omega)]
  cases (at_ l (k : Int) == n)
  ·rw [if_neg (by simp), if_pos (Y5 (by omega) (by omega)), if_neg (by simp)]
  ·rw [if_pos rfl, if_pos rfl]) (by rw [if_neg (by simp)])
 rw [X2j] at K
 rcases K with ⟨h1, k, h2, rfl⟩ | ⟨h1, rfl⟩
 ·rw [h1]; rfl
 ·rw [h1]; rfl
abbrev Y5v (l : List Int) : Prop := l.Pairwise (· < ·)
theorem Y3e : ∀ {l : List Int} {lo hi : Int}, Y5v l → (∀ x ∈ l, lo ≤ x ∧ x < hi) → l.length ≤ (hi - lo).toNat
 | [], lo, hi, _, _ => Nat.zero_le _
 | x :: l, lo, hi, h, hb => by
  have h1 := hb x (by simp)
  have h2 := Y3e (l := l) (lo := x + 1) (hi := hi) (List.pairwise_cons.1 h).2 (fun y hy => ⟨by have := (List.pairwise_cons.1 h).1 y hy; omega, (hb y (by simp [hy])).2⟩)
  simp only [List.length_cons]
  omega
theorem X2u (n : Nat) (p : Nat → Bool) : Y5v (((List.range n).filter p).map Int.ofNat) := by
 rw [Y5v, List.pairwise_map]
 exact (List.Pairwise.sublist List.filter_sublist List.pairwise_lt_range).imp fun h => by simpa using h
theorem put_ok (l : List Int) (n : Int) (h : Y5v l) (hl : l.length * 8 + 8 ≤ 140737488355328) : ∃ l', Z8f l n = some l' ∧ Y5v l' ∧ (∀ x, x ∈ l' ↔ x = n ∨ x ∈ l) ∧ (n ∉ l → l'.length = l.length + 1) ∧ (n ∈ l → l' = l) := by
 have hLIM : LIM = 140737488355328 := rfl
 unfold Z8f
 generalize hB : Y6 _ (0 : Int) = L
 obtain ⟨j, rfl, hj0, hjl, hj1, hj2⟩ := Y6i hB (fun s => 0 ≤ s ∧ s ≤ (l.length : Int) ∧ ∀ k : Int, 0 ≤ k → k < s → at_ l k < n) (fun s => (l.length - s).toNat) (fun j => 0 ≤ j ∧ j ≤ (l.length : Int) ∧ (∀ k : Int, 0 ≤ k → k < j → at_ l k < n) ∧ (j < (l.length : Int) → n ≤ at_ l j)) (by
  rintro i ⟨h1, h2, h3⟩
  by_cases hi : i < (l.length : Int)
  ·rw [if_pos (by simpa using hi), if_pos ⟨h1, hi⟩]
   simp only [Option.bind_some]
   by_cases hlt : at_ l i < n
   ·left
    rw [if_pos (by simpa using hlt), if_pos (Y5 (by omega) (by omega))]
    refine ⟨_, rfl, ⟨by omega, by omega, fun k k1 k2 => ?_⟩, by omega⟩
    by_cases hk : k = i
    ·subst hk; exact hlt
    ·exact h3 k k1 (by omega)
   ·right
    rw [if_neg (by simpa using hlt)]
    exact ⟨_, rfl, h1, h2, h3, fun _ => by omega⟩
  ·right
   rw [if_neg (by simpa using hi)]
   simp only [Option.bind_some]
   rw [if_neg (by simp)]
   exact ⟨_, rfl, h1, h2, h3, fun h => absurd h hi⟩) ⟨by omega, by omega, fun k k1 k2 => by omega⟩
 simp only [Option.bind_some]
 obtain ⟨m, rfl⟩ := Int.eq_ofNat_of_zero_le hj0
 have hml : m ≤ l.length := by omega
 have htake : ∀ x ∈ l.take m, x < n := fun x hx => by
  obtain ⟨k, hk, rfl⟩ := List.getElem_of_mem hx
  simp only [List.length_take] at hk
  rw [List.getElem_take]
  have := hj1 (k : Int) (by omega) (by omega)
  rwa [Z5f (by omega)] at this
 have hdrop : ∀ x ∈ l.drop m, n ≤ x := fun x hx => by
  obtain ⟨k, hk, rfl⟩ := List.getElem_of_mem hx
  simp only [List.length_drop] at hk
  rw [List.getElem_drop]
  have h0 := hj2 (by omega)
  rw [Z5f (by omega)] at h0
  by_cases hk0 : k = 0
  ·subst hk0; exact h0
  ·have := List.pairwise_iff_getElem.1 h m (m + k) (by omega) (by omega) (by omega)
   omega
 have hin : n ∈ l → ∃ h : m < l.length, l[m] = n := fun hn => by
  rw [← List.take_append_drop m l] at hn
  rcases List.mem_append.1 hn with h1 | h1
  ·have := htake n h1; omega
  ·obtain ⟨k, hk, e⟩ := List.getElem_of_mem h1
   simp only [List.length_drop] at hk
   rw [List.getElem_drop] at e
   have h0 := hj2 (by omega)
   rw [Z5f (by omega)] at h0
   refine ⟨by omega, ?_⟩
   by_cases hk0 : k = 0
   ·subst hk0; exact e
   ·have := List.pairwise_iff_getElem.1 h m (m + k) (by omega) (by omega) (by omega)
    omega
 by_cases hn : n ∈ l
 ·obtain ⟨hm, e⟩ := hin hn
  rw [if_pos (by simpa using hm), if_pos (by omega), Z5f hm, e]
  simp only [Option.bind_some]
  rw [if_pos (by simp)]
  exact ⟨l, rfl, h, fun x => ⟨fun hx => .inr hx, fun hx => by rcases hx with rfl | hx <;> assumption⟩, fun h => absurd hn h, fun _ => rfl⟩
 ·have hb : ∃ b, (if decide ((m : Int) < (l.length : Int)) = true then (if 0 ≤ (m : Int) ∧ (m : Int) < (l.length : Int) then some (at_ l (m : Int) == n) else none) else some false) = some b ∧ b = false := by
   by_cases hm : m < l.length
   ·rw [if_pos (by simpa using hm), if_pos (by omega)]
    refine ⟨_, rfl, ?_⟩
    rw [Z5f hm]
    simp only [beq_eq_false_iff_ne, ne_eq]
    intro e
    exact hn (e ▸ List.getElem_mem hm)
   ·rw [if_neg (by simpa using hm)]
    exact ⟨_, rfl, rfl⟩
  obtain ⟨b, e, rfl⟩ := hb
  rw [e]
  simp only [Option.bind_some, Bool.false_eq_true, if_false, Int.toNat_natCast, Nat.sub_zero, List.drop_zero, List.nil_append]
  have e1 : (l.drop m).take (l.length - m) = l.drop m := List.take_of_length_le (by simp)
  rw [if_pos (by omega), if_pos (by simp only [List.length_nil, List.length_take]; omega), if_pos (by simp only [List.length_take, List.length_singleton]; omega), if_pos (by omega), e1,
   if_pos (by simp only [List.length_append, List.length_take, List.length_drop, List.length_singleton]; omega)]
  have hgt : ∀ x ∈ l.drop m, n < x := fun x hx => by
   have h1 := hdrop x hx
   by_cases hx2 : x = n
   ·subst hx2; exact absurd (List.mem_of_mem_drop hx) hn
   ·omega
  refine ⟨_, rfl, ?_, fun x => ?_, fun _ => ?_, fun h => absurd h hn⟩
  ·refine List.pairwise_append.2 ⟨List.pairwise_append.2 ⟨h.sublist (List.take_sublist _ _), by simp, fun a ha b hb => ?_⟩, h.sublist (List.drop_sublist _ _), fun a ha b hb => ?_⟩
   ·simp only [List.mem_singleton] at hb; subst hb; exact htake a ha
   ·rcases List.mem_append.1 ha with ha | ha
    ·have := htake a ha; have := hgt b hb; omega
    ·simp only [List.mem_singleton] at ha; subst ha; exact hgt b hb
  ·have hx : x ∈ l ↔ x ∈ l.take m ∨ x ∈ l.drop m := by rw [← List.mem_append, List.take_append_drop]
   simp only [List.mem_append, List.mem_singleton, hx]
   constructor
   ·rintro ((h | h) | h) <;> simp [h]
   ·rintro (h | h | h) <;> simp [h]
  ·simp only [List.length_append, List.length_take, List.length_drop, List.length_singleton]
   omega
theorem W3a (l : List Int) (hl : l.length * 8 ≤ 140737488355328) : Z2z l = some l := by
 have hLIM : LIM = 140737488355328 := rfl
 unfold Z2z
 rw [if_pos (by simp only [List.length_nil]; omega)]
 rfl
end
section
theorem X6x {i : GInst} (h : i.args.length ≤ 1000000000000) : Z0e i = some (opsI i) := by
 have hL := Y3u
 unfold Z0e opsI U3 Z5b Z4 Z0a
 by_cases h1 : (1 ≤ i.op_ ∧ i.op_ ≤ 17) ∨ i.op_ = 24
 ·rw [if_pos (by simpa using h1), if_pos h1]
 ·rw [if_neg (by simpa using h1), if_neg h1]
  by_cases h2 : (18 ≤ i.op_ ∧ i.op_ ≤ 20) ∨ i.op_ = 23 ∨ i.op_ = 25 ∨ i.op_ = 27
  ·rw [if_pos (by simpa using h2), if_pos h2]
  ·rw [if_neg (by simpa using h2), if_neg h2]
   by_cases h3 : i.op_ = 22
   ·rw [if_pos (by simpa using h3), if_pos h3]
   ·rw [if_neg (by simpa using h3), if_neg h3]
    by_cases h4 : i.op_ = 26
    ·rw [if_pos (by simpa using h4), if_pos h4, if_pos (by simp only [List.length_nil]; omega)]
     rfl
    ·rw [if_neg (by simpa using h4), if_neg h4]
theorem W1u {i : GInst} (h : i.args.length ≤ 1000000000000) : Z0z i = some (opsI i) := by
 have hL := Y3u
 unfold Z0z opsI Z8 Z2z
 by_cases h1 : (1 ≤ i.op_ ∧ i.op_ ≤ 17) ∨ i.op_ = 24
 ·rw [if_pos (by simpa using h1), if_pos h1]
 ·rw [if_neg (by simpa using h1), if_neg h1]
  by_cases h2 : (18 ≤ i.op_ ∧ i.op_ ≤ 20) ∨ i.op_ = 23 ∨ i.op_ = 25 ∨ i.op_ = 27
  ·rw [if_pos (by simpa using h2), if_pos h2]
  ·rw [if_neg (by simpa using h2), if_neg h2]
   by_cases h3 : i.op_ = 22
   ·rw [if_pos (by simpa using h3), if_pos h3]
   ·rw [if_neg (by simpa using h3), if_neg h3]
    by_cases h4 : i.op_ = 26
    ·rw [if_pos (by simpa using h4), if_pos h4, if_pos (by simp only [List.length_nil]; omega)]
     rfl
    ·rw [if_neg (by simpa using h4), if_neg h4]
theorem X5i {i : GInst} : (opsI i).length ≤ 3 ∨ (opsI i = i.args ∧ i.op_ = 26) := by
 unfold opsI
 split
 ·simp
 ·split
  ·simp
  ·split
   ·simp
   ·split
    ·exact .inr ⟨rfl, by assumption⟩
    ·simp
theorem Y2z (s : List GPhi) (f : GPhi → Option Bool) (c : GPhi → Bool) (h : ∀ x ∈ s, f x = some (c x)) (hl : s.length ≤ 140737488355328) : Y9 s f = some (s.any c) := by
 unfold Y9 U5
 generalize hB : Y6 _ (0 : Int) = L
 have K := Z4k hB s c (fun k : Nat => (k : Int)) (by
  intro k hk
  rw [if_pos (by simpa using hk), if_pos (by omega), h _ (X8 (by omega))]
  simp only [Option.bind_some]
  cases c (at_ s (k : Int))
  ·rw [if_neg (by simp), if_pos (Y5 (by omega) (by omega)), if_neg (by simp)]
  ·rw [if_pos rfl, if_pos rfl]) (by rw [if_neg (by simp)])
 rcases K with ⟨h1, k, h2, rfl⟩ | ⟨h1, rfl⟩
 ·rw [h1]; simp
 ·rw [h1]; simp
theorem Z8v (s : List GInst) (f : GInst → Option Bool) (c : GInst → Bool) (h : ∀ x ∈ s, f x = some (c x)) (hl : s.length ≤ 140737488355328) : Y0 s f = some (s.any c) := by
 unfold Y0 V9
 generalize hB : Y6 _ (0 : Int) = L
 have K := Z4k hB s c (fun k : Nat => (k : Int)) (by
  intro k hk
  rw [if_pos (by simpa using hk), if_pos (by omega), h _ (X8 (by omega))]
  simp only [Option.bind_some]
  cases c (at_ s (k : Int))
  ·rw [if_neg (by simp), if_pos (Y5 (by omega) (by omega)), if_neg (by simp)]
  ·rw [if_pos rfl, if_pos rfl]) (by rw [if_neg (by simp)])
 rcases K with ⟨h1, k, h2, rfl⟩ | ⟨h1, rfl⟩
 ·rw [h1]; simp
 ·rw [h1]; simp
noncomputable abbrev wB (w : Int) : Bool := X0 w
noncomputable abbrev iB (n lo hi : Int) : Bool := Z4 n lo hi
theorem iB_iff {n lo hi : Int} : iB n lo hi = true ↔ lo ≤ n ∧ n ≤ hi := by simp [iB, Z4]
theorem wB_iff {w : Int} : wB w = true ↔ isW w := by simp [wB, X0, isW]
theorem Y9k (n lo hi : Int) : Z8 n lo hi = iB n lo hi := rfl
theorem W1q (w : Int) : Y4 w = wB w := rfl
noncomputable def valB (w v : Int) : Bool := wB w && iB v 0 (topW w)
theorem W5y (w v : Int) : Z5t w v = some (valB w v) := by
 unfold Z5t valB
 by_cases h : isW w
 ·have e : X0 w = true := wB_iff.2 h
  simp only [e, if_true, wB, Bool.true_and]
  have hm : Y1n w = some (topW w) := by
   rcases h with rfl | rfl | rfl | rfl <;> decide +kernel
  rw [hm]
  rfl
 ·have e : X0 w = false := by
   cases hx : X0 w with
   | false => rfl
   | true => exact absurd (wB_iff.1 hx) h
  simp only [e, Bool.false_eq_true, if_false, wB, Bool.false_and]
  rfl
theorem W5e (w v : Int) : Z5m w v = some (valB w v) := by
 unfold Z5m valB
 by_cases h : isW w
 ·have e : X0 w = true := wB_iff.2 h
  rw [W1q]
  simp only [wB, e, if_true, Bool.true_and]
  have hm : Z9z w = some (topW w + 1) := by
   rcases h with rfl | rfl | rfl | rfl <;> decide +kernel
  rw [hm]
  simp only [obs]
  have ht : 1 ≤ topW w ∧ topW w ≤ 4294967295 := by rcases h with rfl | rfl | rfl | rfl <;> decide
  rw [if_pos (Y5 (by omega) (by omega)), show topW w + 1 - 1 = topW w from by omega]
  rfl
 ·have e : X0 w = false := by
   cases hx : X0 w with
   | false => rfl
   | true => exact absurd (wB_iff.1 hx) h
  rw [W1q]
  simp only [wB, e, Bool.false_eq_true, if_false, Bool.false_and]
  rfl
structure fmI (i : GInst) (ids funcs : Int) : Prop where
 op : 1 ≤ i.op_ ∧ i.op_ ≤ 27
 args : i.args.length ≤ 4
 noargs : i.op_ ≠ 26 → i.args = []
 ids : inN ids (opsI i)
 zero : (if i.op_ = 26 then 0 else (opsI i).length) < 1 → i.a = 0
 zerob : (if i.op_ = 26 then 0 else (opsI i).length) < 2 → i.b = 0
 zeroc : (if i.op_ = 26 then 0 else (opsI i).length) < 3 → i.c = 0
 w0 : i.op_ = 24 ∨ i.op_ = 25 → i.w = 0
 w1 : ¬ (i.op_ = 24 ∨ i.op_ = 25) → isW i.w
 w8 : i.op_ = 23 → i.w = 8
 const : i.op_ = 21 → valB i.w i.imm = true
 call : i.op_ = 26 → 0 ≤ i.imm ∧ i.imm < funcs
 imm : i.op_ ≠ 21 → i.op_ ≠ 26 → i.imm = 0
theorem X3q {i : GInst} {ids funcs : Int} (ha : i.args.length ≤ 1000000000000) (h1 : inI (ids - 1)) (h2 : inI (funcs - 1)) : ∃ b, Q3 i ids funcs = some b ∧ Z0h i ids funcs = some b ∧ (b = true ↔ fmI i ids funcs) := by
  by_cases hop : 1 ≤ i.op_ ∧ i.op_ ≤ 27
  rotate_left
  · refine ⟨false, ?_, ?_, by simp, fun h => absurd h.op hop⟩
    · unfold Q3
      rw [if_pos (by simp [Z4]; omega)]
    · unfold Z0h
      rw [if_pos (by simp [Z8]; omega)]
  have e1 : Z4 i.op_ 1 27 = true := iB_iff.2 hop
  have e1' : Z8 i.op_ 1 27 = true := iB_iff.2 hop
  by_cases hna : i.op_ = 26 ∨ i.args.length = 0
  rotate_left
  · refine ⟨false, ?_, ?_, by simp, fun h => absurd ((Classical.em (i.op_ = 26)).imp id (fun hn => by rw [h.noargs hn]; rfl)) hna⟩
    · unfold Q3
      rw [if_pos (by simp [e1]; omega)]
    · unfold Z0h
      rw [if_pos (by simp [e1']; omega)]
  have g0 : ((i.op_ != 26) && decide ((i.args.length : Int) > 0)) = false := by
    rcases hna with h | h
    · simp [h]
    · rw [h]; simp
  have g0' : (decide ((i.args.length : Int) > 0) && (i.op_ != 26)) = false := by rw [Bool.and_comm]; exact g0
  have hl : (opsI i).length ≤ 1000000000000 := by
    rcases X5i (i := i) with h | ⟨h, _⟩
    · omega
    · rw [h]; exact ha
  have HS : ∀ r, ((opsI i).any (fun x => !iB x 0 (ids - 1)) = true → r = some false) → ((opsI i).any (fun x => !iB x 0 (ids - 1)) = false →
      (if (if (!((((i.op_ == 24) || (i.op_ == 25))) == ((i.w == 0)))) = true then true else (if (!(((i.op_ == 24) || (i.op_ == 25)))) = true then ((!((Y4 i.w))) || decide (((List.length i.args : Int)) > 4)) else decide (((List.length i.args : Int)) > 4))) = true then some false
       else if (if decide (((if (i.op_ == 26) = true then 0 else (List.length (opsI i) : Int))) < 1) = true then (if (i.a != 0) = true then true else (if decide (((if (i.op_ == 26) = true then 0 else (List.length (opsI i) : Int))) < 2) = true then (if (i.b != 0) = true then true else (if decide (((if (i.op_ == 26) = true then 0 else (List.length (opsI i) : Int))) < 3) = true then (i.c != 0) else false)) else (if decide (((if (i.op_ == 26) = true then 0 else (List.length (opsI i) : Int))) < 3) = true then (i.c != 0) else false))) else (if decide (((if (i.op_ == 26) = true then 0 else (List.length (opsI i) : Int))) < 2) = true then (if (i.b != 0) = true then true else (if decide (((if (i.op_ == 26) = true then 0 else (List.length (opsI i) : Int))) < 3) = true then (i.c != 0) else false)) else (if decide (((if (i.op_ == 26) = true then 0 else (List.length (opsI i) : Int))) < 3) = true then (i.c != 0) else false))) = true then some false
       else if (i.op_ == 21) = true then some (valB i.w i.imm) else if (i.op_ == 26) = true then some (iB i.imm 0 (funcs - 1)) else if (i.op_ == 23) = true then some ((i.w == 8) && (i.imm == 0)) else some (i.imm == 0)) = r) → Z0h i ids funcs = r := by
    intro r r1 r2
    unfold Z0h
    rw [if_neg (by rw [e1', g0]; decide), W1u ha]
    simp only [obs]
    generalize hB : Y6 _ (0 : Int) = L
    have K := Z4k hB (opsI i) (fun x => !iB x 0 (ids - 1)) (fun _ => ()) (by
      intro k hk
      rw [if_pos (by simpa using hk), if_pos (by omega), if_pos h1, Y9k]
      cases iB (at_ (opsI i) (k : Int)) 0 (ids - 1)
      · rw [if_pos (by rfl), if_pos (by rfl)]
      · rw [if_neg (by simp), if_pos (Y5 (by omega) (by omega)), if_neg (by simp)]) (by rw [if_neg (by simp)])
    rcases K with ⟨k1, k, k2, rfl⟩ | ⟨k1, rfl⟩
    · rw [r1 k1]; rfl
    · rw [← r2 k1]
      simp only [obs, W5e, if_pos h2, Y9k]
  by_cases h4 : i.args.length ≤ 4
  rotate_left
  · refine ⟨false, ?_, HS _ (fun _ => rfl) (fun _ => ?_), by simp, fun h => absurd h.args h4⟩
    · unfold Q3
      rw [if_pos (by simp [e1]; omega)]
    · rw [if_pos]
      have : decide ((i.args.length : Int) > 4) = true := by simp; omega
      simp [this]
  have HI : Q3 i ids funcs = if (opsI i).any (fun x => !iB x 0 (ids - 1)) = true then some false else
      if (List.drop (if i.op_ = 26 then ([] : List Int) else opsI i).length [i.a, i.b, i.c]).any (fun n => n != 0) = true then some false else
      if Z3y i = true then (if (i.op_ == 21) = true then some (valB i.w i.imm) else if (i.op_ == 26) = true then some (iB i.imm 0 (funcs - 1)) else some (i.imm == 0)) else some false := by
    unfold Q3
    rw [if_neg (by rw [e1, g0', show decide ((i.args.length : Int) > 4) = false from by simp; omega]; decide), X6x ha]
    simp only [obs]
    rw [Z0r _ _ (fun x => !iB x 0 (ids - 1)) (fun x _ => by unfold Z4n; rw [if_pos h1]) (by omega)]
    simp only [obs]
    have hj : (if (i.op_ == 26) = true then some ([] : List Int) else some (opsI i)) = some (if i.op_ = 26 then ([] : List Int) else opsI i) := by
      by_cases h : i.op_ = 26 <;> simp [h]
    have hn : (if i.op_ = 26 then ([] : List Int) else opsI i).length ≤ 3 := by
      by_cases h : i.op_ = 26
      · simp [h]
      · rcases X5i (i := i) with h' | ⟨_, h'⟩
        · simpa [h] using h'
        · exact absurd h' h
    by_cases hA : (opsI i).any (fun x => !iB x 0 (ids - 1)) = true
    · rw [if_pos hA, if_pos hA]
    · rw [if_neg hA, if_neg hA, hj]
      simp only [obs]
      generalize (if i.op_ = 26 then ([] : List Int) else opsI i) = J at hn ⊢
      simp only [Int.toNat_natCast]
      rw [if_pos (by simp; omega), Z0r _ (fun z0 => some (Z2q z0)) (fun n => n != 0) (fun x _ => rfl) (by simp; omega)]
      simp only [obs]
      have him : Z8i i funcs = (if (i.op_ == 21) = true then some (valB i.w i.imm) else if (i.op_ == 26) = true then some (iB i.imm 0 (funcs - 1)) else some (i.imm == 0)) := by
        unfold Z8i
        rw [W5y, if_pos h2]
        rfl
      rw [him]
      split
      · rfl
      · split
        · split
          · rfl
          · split <;> rfl
        · rfl
  have hA : (opsI i).any (fun x => !iB x 0 (ids - 1)) = false ↔ inN ids (opsI i) := by
    simp only [List.any_eq_false, Bool.not_eq_true, Bool.not_eq_false', iB_iff, inN]
    exact ⟨fun h x hx => by have := h x hx; omega, fun h x hx => by have := h x hx; omega⟩
  by_cases hin : inN ids (opsI i)
  rotate_left
  · have : (opsI i).any (fun x => !iB x 0 (ids - 1)) = true := by
      cases hx : (opsI i).any (fun x => !iB x 0 (ids - 1)) with
      | true => rfl
      | false => exact absurd (hA.1 hx) hin
    exact ⟨false, by rw [HI, if_pos this], HS _ (fun _ => rfl) (fun h => by rw [h] at this; cases this), by simp, fun h => absurd h.ids hin⟩
  have hany := hA.2 hin
  rw [hany] at HI HS
  rw [if_neg (by simp)] at HI
  have hz : (List.drop (if i.op_ = 26 then ([] : List Int) else opsI i).length [i.a, i.b, i.c]).any (fun n => n != 0) = false ↔
      (((if i.op_ = 26 then 0 else (opsI i).length) < 1 → i.a = 0) ∧ ((if i.op_ = 26 then 0 else (opsI i).length) < 2 → i.b = 0) ∧ ((if i.op_ = 26 then 0 else (opsI i).length) < 3 → i.c = 0)) := by
    have e : (if i.op_ = 26 then ([] : List Int) else opsI i).length = (if i.op_ = 26 then 0 else (opsI i).length) := by split <;> rfl
    rw [e]
    generalize (if i.op_ = 26 then 0 else (opsI i).length) = n
    match n with
    | 0 => simp
    | 1 => simp
    | 2 => simp
    | n + 3 => simp; omega
  have hz2 : (if decide (((if (i.op_ == 26) = true then 0 else (List.length (opsI i) : Int))) < 1) = true then (if (i.a != 0) = true then true else (if decide (((if (i.op_ == 26) = true then 0 else (List.length (opsI i) : Int))) < 2) = true then (if (i.b != 0) = true then true else (if decide (((if (i.op_ == 26) = true then 0 else (List.length (opsI i) : Int))) < 3) = true then (i.c != 0) else false)) else (if decide (((if (i.op_ == 26) = true then 0 else (List.length (opsI i) : Int))) < 3) = true then (i.c != 0) else false))) else (if decide (((if (i.op_ == 26) = true then 0 else (List.length (opsI i) : Int))) < 2) = true then (if (i.b != 0) = true then true else (if decide (((if (i.op_ == 26) = true then 0 else (List.length (opsI i) : Int))) < 3) = true then (i.c != 0) else false)) else (if decide (((if (i.op_ == 26) = true then 0 else (List.length (opsI i) : Int))) < 3) = true then (i.c != 0) else false))) = false ↔
      (((if i.op_ = 26 then 0 else (opsI i).length) < 1 → i.a = 0) ∧ ((if i.op_ = 26 then 0 else (opsI i).length) < 2 → i.b = 0) ∧ ((if i.op_ = 26 then 0 else (opsI i).length) < 3 → i.c = 0)) := by
    have e : (if (i.op_ == 26) = true then 0 else (List.length (opsI i) : Int)) = (((if i.op_ = 26 then 0 else (opsI i).length) : Nat) : Int) := by by_cases h : i.op_ = 26 <;> simp [h]
    rw [e]
    generalize (if i.op_ = 26 then 0 else (opsI i).length) = n
    match n with
    | 0 => by_cases ha : i.a = 0 <;> by_cases hb : i.b = 0 <;> by_cases hc : i.c = 0 <;> simp [ha, hb, hc]
    | 1 => by_cases hb : i.b = 0 <;> by_cases hc : i.c = 0 <;> simp [hb, hc]
    | 2 => by_cases hc : i.c = 0 <;> simp [hc]
    | n + 3 =>
      have g1 : decide (((n + 3 : Nat) : Int) < 1) = false := by simp; omega
      have g2 : decide (((n + 3 : Nat) : Int) < 2) = false := by simp; omega
      have g3 : decide (((n + 3 : Nat) : Int) < 3) = false := by simp; omega
      rw [g1, g2, g3]
      simp; omega
  have h4' : decide ((i.args.length : Int) > 4) = false := by simp; omega
  by_cases hzz : (((if i.op_ = 26 then 0 else (opsI i).length) < 1 → i.a = 0) ∧ ((if i.op_ = 26 then 0 else (opsI i).length) < 2 → i.b = 0) ∧ ((if i.op_ = 26 then 0 else (opsI i).length) < 3 → i.c = 0))
  rotate_left
  · refine ⟨false, ?_, HS _ (fun h => by cases h) (fun _ => ?_), by simp, fun h => absurd ⟨h.zero, h.zerob, h.zeroc⟩ hzz⟩
    · rw [HI, if_pos]
      cases hx : (List.drop (if i.op_ = 26 then ([] : List Int) else opsI i).length [i.a, i.b, i.c]).any (fun n => n != 0) with
      | true => rfl
      | false => exact absurd (hz.1 hx) hzz
    · have hC3 : ¬ _ := fun hx => hzz (hz2.1 hx)
      rw [Bool.not_eq_false] at hC3
      rw [hC3]
      simp only [if_true, ite_self]
  rw [if_neg (by rw [hz.2 hzz]; simp)] at HI
  have HS2 : ∀ r, (if (if (!((((i.op_ == 24) || (i.op_ == 25))) == ((i.w == 0)))) = true then true else (if (!(((i.op_ == 24) || (i.op_ == 25)))) = true then ((!((Y4 i.w))) || decide (((List.length i.args : Int)) > 4)) else decide (((List.length i.args : Int)) > 4))) = true then some false
       else if (i.op_ == 21) = true then some (valB i.w i.imm) else if (i.op_ == 26) = true then some (iB i.imm 0 (funcs - 1)) else if (i.op_ == 23) = true then some ((i.w == 8) && (i.imm == 0)) else some (i.imm == 0)) = r → Z0h i ids funcs = r := fun r hr => by
    refine HS _ (fun h => by cases h) (fun _ => ?_)
    rw [if_neg (c := (if decide _ = true then _ else _) = true) (by rw [hz2.2 hzz]; simp)]
    exact hr
  have hna' : i.op_ ≠ 26 → i.args = [] := fun h => List.eq_nil_of_length_eq_zero (hna.resolve_left h)
  rw [h4'] at HS2
  unfold Z3y at HI
  by_cases hv : i.op_ = 24 ∨ i.op_ = 25
  · have ev : ((i.op_ == 24) || (i.op_ == 25)) = true := by rcases hv with h | h <;> simp [h]
    have n1 : (i.op_ == 21) = false := by rcases hv with h | h <;> simp [h]
    have n2 : (i.op_ == 26) = false := by rcases hv with h | h <;> simp [h]
    have n3 : (i.op_ == 23) = false := by rcases hv with h | h <;> simp [h]
    simp only [ev, n1, n2, n3, if_true, Bool.false_eq_true, if_false, Bool.not_true] at HI HS2
    by_cases hw : i.w = 0
    · simp only [hw, BEq.rfl, if_true] at HI HS2
      refine ⟨_, HI, HS2 _ (by simp), fun h => ⟨hop, h4, hna', hin, hzz.1, hzz.2.1, hzz.2.2, fun _ => hw, fun h' => absurd hv h', fun h' => by omega, fun h' => by omega, fun h' => by omega, fun _ _ => by simpa using h⟩, fun h => by simpa using h.imm (by omega) (by omega)⟩
    · have : (i.w == 0) = false := by simpa using hw
      simp only [this, Bool.false_eq_true, if_false] at HI HS2
      exact ⟨false, HI, HS2 _ (by simp), by simp, fun h => absurd (h.w0 hv) hw⟩
  · have ev : ((i.op_ == 24) || (i.op_ == 25)) = false := by
      simp; omega
    simp only [ev, Bool.false_eq_true, if_false, Bool.not_false, if_true, Bool.or_false] at HI HS2
    by_cases hr : i.op_ = 23
    · have n1 : (i.op_ == 21) = false := by simp [hr]
      have n2 : (i.op_ == 26) = false := by simp [hr]
      simp only [hr, n1, n2, BEq.rfl, if_true, Bool.false_eq_true, if_false] at HI HS2
      by_cases hw : i.w = 8
      · simp only [hw, BEq.rfl, if_true, Bool.true_and] at HI HS2
        have : Y4 8 = true := rfl
        refine ⟨_, HI, HS2 _ (by simp [this]), fun h => ⟨hop, h4, hna', hin, hzz.1, hzz.2.1, hzz.2.2, fun h' => absurd h' hv, fun _ => .inr (.inl hw), fun _ => hw, fun h' => by omega, fun h' => by omega, fun _ _ => by simpa using h⟩, fun h => by simpa using h.imm (by omega) (by omega)⟩
      · have e8 : (i.w == 8) = false := by simpa using hw
        simp only [e8, Bool.false_eq_true, if_false, Bool.false_and] at HI HS2
        refine ⟨false, HI, HS2 _ ?_, by simp, fun h => absurd (h.w8 hr) hw⟩
        cases Y4 i.w <;> cases (i.w == 0) <;> simp
    · have n3 : (i.op_ == 23) = false := by simpa using hr
      simp only [n3, Bool.false_eq_true, if_false] at HI HS2
      by_cases hw : isW i.w
      · have e8 : X0 i.w = true := wB_iff.2 hw
        have e9 : Y4 i.w = true := wB_iff.2 hw
        have ez : (i.w == 0) = false := by rcases hw with h | h | h | h <;> simp [h]
        simp only [e8, e9, ez, if_true, Bool.not_true, BEq.rfl, Bool.false_eq_true, if_false] at HI HS2
        have hval : ∃ b, (if (i.op_ == 21) = true then some (valB i.w i.imm) else if (i.op_ == 26) = true then some (iB i.imm 0 (funcs - 1)) else some (i.imm == 0)) = some b := by
          split
          · exact ⟨_, rfl⟩
          · split <;> exact ⟨_, rfl⟩
        obtain ⟨b, hb⟩ := hval
        refine ⟨b, HI.trans hb, HS2 _ (by first | exact hb | simpa using hb), fun hbt => ⟨hop, h4, hna', hin, hzz.1, hzz.2.1, hzz.2.2, fun h' => absurd h' hv, fun _ => hw, fun h' => absurd h' hr, fun h' => ?_, fun h' => ?_, fun h' h'' => ?_⟩, fun h => ?_⟩
        · rw [if_pos (by simpa using h')] at hb
          rw [← hbt]; exact Option.some.inj hb
        · rw [if_neg (by simp [h']), if_pos (by simpa using h')] at hb
          have := Option.some.inj hb
          rw [hbt, iB_iff] at this
          omega
        · rw [if_neg (by simpa using h'), if_neg (by simpa using h'')] at hb
          have := Option.some.inj hb
          rw [hbt] at this
          simpa using this
        · have hb := Option.some.inj (show some b = some true from ?_)
          · exact hb
          rw [← hb]
          by_cases k1 : i.op_ = 21
          · rw [if_pos (by simpa using k1), h.const k1]
          · rw [if_neg (by simpa using k1)]
            by_cases k2 : i.op_ = 26
            · rw [if_pos (by simpa using k2), iB_iff.2 (by have := h.call k2; omega)]
            · rw [if_neg (by simpa using k2), h.imm k1 k2]
              rfl
      · have e8 : X0 i.w = false := by
          cases hx : X0 i.w with
          | false => rfl
          | true => exact absurd (wB_iff.1 hx) hw
        have e9 : Y4 i.w = false := e8
        simp only [e8, e9, Bool.not_false, Bool.true_or, if_true, Bool.false_eq_true, if_false] at HI HS2
        refine ⟨false, HI, HS2 _ ?_, by simp, fun h => absurd (h.w1 hv) hw⟩
        cases (i.w == 0) <;> rfl
structure fmT (t : GTerm) (ids blocks : Int) : Prop where
 kind : t.kind = 1 ∨ t.kind = 2 ∨ t.kind = 3 ∨ t.kind = 4
 a : t.kind = 1 ∨ t.kind = 3 → 0 ≤ t.a ∧ t.a < ids
 x : t.kind = 2 ∨ t.kind = 3 → 0 ≤ t.x ∧ t.x < blocks
 y : t.kind = 3 → 0 ≤ t.y ∧ t.y < blocks ∧ t.x ≠ t.y
 z1 : t.kind = 1 → t.x = 0 ∧ t.y = 0
 z2 : t.kind = 2 → t.a = 0 ∧ t.y = 0
 z4 : t.kind = 4 → t.a = 0 ∧ t.x = 0 ∧ t.y = 0
theorem X2m {f : GFunc} {t : GTerm} {ids : Int} (h1 : inI (ids - 1)) (h2 : inI ((f.blocks.length : Int) - 1)) : ∃ b, Z1x f t ids = some b ∧ Z4v t ids (f.blocks.length : Int) = some b ∧ (b = true ↔ fmT t ids (f.blocks.length : Int)) := by
 unfold Z1x Z4v J5
 have hi := fun a b : Int => @iB_iff a 0 b
 simp only [if_pos h1, if_pos h2, Y9k, iB] at hi ⊢
 by_cases k1 : t.kind = 1
 ·simp only [k1, BEq.rfl, if_true]
  rcases Bool.eq_false_or_eq_true (Z4 t.a 0 (ids - 1)) with hA | hA
  rotate_left
  ·exact ⟨false, by simp [hA], by simp [hA], by simp, fun h => by have := h.a (.inl k1); rw [(hi _ _).2 (by omega)] at hA; cases hA⟩
  ·refine ⟨(t.x == 0) && (t.y == 0), ?_, ?_, fun h => ⟨.inl k1, fun _ => by have := (hi _ _).1 hA; omega, fun h => by omega, fun h => by omega, fun _ => by simpa using h, fun h => by omega, fun h => by omega⟩, fun h => by simpa using h.z1 k1⟩
   ·cases (t.x == 0) <;> simp [hA]
   ·cases (t.x == 0) <;> simp [hA]
 ·have e1 : (t.kind == 1) = false := by simpa using k1
  simp only [e1, Bool.false_eq_true, if_false]
  by_cases k2 : t.kind = 2
  ·simp only [k2, BEq.rfl, if_true]
   refine ⟨(t.a == 0) && (Z4 t.x 0 ((f.blocks.length : Int) - 1) && (t.y == 0)), rfl, ?_, fun h => ⟨.inr (.inl k2), fun h => by omega, fun _ => ?_, fun h => by omega, fun h => by omega, fun _ => ?_, fun h => by omega⟩, fun h => ?_⟩
   ·cases (t.a == 0) <;> rcases Bool.eq_false_or_eq_true (Z4 t.x 0 ((f.blocks.length : Int) - 1)) with hX | hX <;> simp [hX]
   ·simp only [Bool.and_eq_true] at h
    have := (hi _ _).1 h.2.1
    omega
   ·simp only [Bool.and_eq_true] at h
    exact ⟨by simpa using h.1, by simpa using h.2.2⟩
   ·have g1 := h.z2 k2
    have g2 := h.x (.inl k2)
    rw [(hi _ _).2 (by omega), g1.1, g1.2]
    rfl
  ·have e2 : (t.kind == 2) = false := by simpa using k2
   simp only [e2, Bool.false_eq_true, if_false]
   by_cases k3 : t.kind = 3
   ·simp only [k3, BEq.rfl, if_true]
    refine ⟨Z4 t.a 0 (ids - 1) && (Z4 t.x 0 ((f.blocks.length : Int) - 1) && (Z4 t.y 0 ((f.blocks.length : Int) - 1) && (t.x != t.y))), ?_, ?_, fun h => ?_, fun h => ?_⟩
    ·show (Option.bind (if Z4 t.a 0 (ids - 1) = true then (if Z4 t.x 0 ((f.blocks.length : Int) - 1) = true then (if Z4 t.y 0 ((f.blocks.length : Int) - 1) = true then some (t.x != t.y) else some false) else some false) else some false) fun j => some j) = _
     rcases Bool.eq_false_or_eq_true (Z4 t.a 0 (ids - 1)) with hA | hA <;> rcases Bool.eq_false_or_eq_true (Z4 t.x 0 ((f.blocks.length : Int) - 1)) with hX | hX <;> rcases Bool.eq_false_or_eq_true (Z4 t.y 0 ((f.blocks.length : Int) - 1)) with hY | hY <;> simp [hA, hX, hY]
    ·rcases Bool.eq_false_or_eq_true (Z4 t.a 0 (ids - 1)) with hA | hA <;> rcases Bool.eq_false_or_eq_true (Z4 t.x 0 ((f.blocks.length : Int) - 1)) with hX | hX <;> rcases Bool.eq_false_or_eq_true (Z4 t.y 0 ((f.blocks.length : Int) - 1)) with hY | hY <;> simp [hA, hX, hY]
    ·simp only [Bool.and_eq_true] at h
     have g1 := (hi _ _).1 h.1
     have g2 := (hi _ _).1 h.2.1
     have g3 := (hi _ _).1 h.2.2.1
     have g4 := h.2.2.2
     exact ⟨.inr (.inr (.inl k3)), fun _ => by omega, fun _ => by omega, fun _ => ⟨by omega, by omega, by simpa using g4⟩, fun h => by omega, fun h => by omega, fun h => by omega⟩
    ·have g1 := h.a (.inr k3)
     have g2 := h.x (.inr k3)
     have g3 := h.y k3
     rw [(hi _ _).2 (by omega), (hi _ _).2 (by omega), (hi _ _).2 (by omega)]
     simpa using g3.2.2
   ·have e3 : (t.kind == 3) = false := by simpa using k3
    simp only [e3, Bool.false_eq_true, if_false]
    refine ⟨(t.kind == 4) && ((t.a == 0) && ((t.x == 0) && (t.y == 0))), ?_, rfl, fun h => ?_, fun h => ?_⟩
    ·cases (t.kind == 4) <;> simp
    ·simp only [Bool.and_eq_true] at h
     have : t.kind = 4 := by simpa using h.1
     exact ⟨.inr (.inr (.inr this)), fun h => by omega, fun h => by omega, fun h => by omega, fun h => by omega, fun h => by omega, fun _ => ⟨by simpa using h.2.1, by simpa using h.2.2.1, by simpa using h.2.2.2⟩⟩
    ·have k4 : t.kind = 4 := by
      have := h.kind
      omega
     have g := h.z4 k4
     rw [k4, g.1, g.2.1, g.2.2]
     rfl
structure fmF (f : GFunc) (funcs : Int) : Prop where
 params : f.params.length ≤ 4
 pw : ∀ w ∈ f.params, isW w
 ret : isW f.ret
 blocks : 1 ≤ f.blocks.length ∧ f.blocks.length ≤ 10
 cnt : cnt f ≤ 60
 phis : ∀ b ∈ f.blocks, ∀ p ∈ b.phis, isW p.w ∧ p.ins.length ≤ 10 ∧ inN (AM.cnt f) p.ins
 insts : ∀ b ∈ f.blocks, ∀ i ∈ b.insts, fmI i (AM.cnt f) funcs
 terms : ∀ b ∈ f.blocks, fmT b.term (AM.cnt f) f.blocks.length
noncomputable def phiB (p : GPhi) (n : Int) : Bool := wB p.w && (decide (p.ins.length ≤ 10) && p.ins.all fun x => iB x 0 (n - 1))
theorem W5s {p : GPhi} {n : Int} (h1 : inI (n - 1)) (hl : p.ins.length ≤ 1000000000000) : Z1f p n = some (!phiB p n) := by
 unfold Z1f phiB
 cases hw : X0 p.w
 ·simp [wB, hw]
 ·by_cases h : p.ins.length ≤ 10
  ·rw [if_neg (by simp), if_neg (by simp; omega), Z0r _ _ (fun x => !iB x 0 (n - 1)) (fun x _ => by unfold Z2s; rw [if_pos h1]) (by omega)]
   simp only [obs, wB, hw, Bool.true_and, h, decide_true]
   congr 1
   rw [List.all_eq_not_any_not, Bool.not_not]
  ·rw [if_neg (by simp), if_pos (by simp; omega)]
   simp [wB, hw, h]
noncomputable def Y5a (i : GInst) (n funcs : Int) : Bool := (Q3 i n funcs).getD false
noncomputable def Y9b (f : GFunc) (t : GTerm) (n : Int) : Bool := (Z1x f t n).getD false
theorem W3d {i : GInst} {n funcs : Int} (ha : i.args.length ≤ 1000000000000) (h1 : inI (n - 1)) (h2 : inI (funcs - 1)) : Q3 i n funcs = some (Y5a i n funcs) := by
 obtain ⟨b, e, _, _⟩ := X3q ha h1 h2
 rw [Y5a, e]; rfl
theorem W3c {i : GInst} {n funcs : Int} (ha : i.args.length ≤ 1000000000000) (h1 : inI (n - 1)) (h2 : inI (funcs - 1)) : Z0h i n funcs = some (Y5a i n funcs) := by
 obtain ⟨b, e, e2, _⟩ := X3q ha h1 h2
 rw [Y5a, e, e2]; rfl
theorem inst_fm {i : GInst} {n funcs : Int} (ha : i.args.length ≤ 1000000000000) (h1 : inI (n - 1)) (h2 : inI (funcs - 1)) (h : Y5a i n funcs = true) : fmI i n funcs := by
 obtain ⟨b, e, _, e3⟩ := X3q ha h1 h2
 rw [Y5a, e] at h
 exact e3.1 h
theorem W3b {i : GInst} {n funcs : Int} (h1 : inI (n - 1)) (h2 : inI (funcs - 1)) (h : fmI i n funcs) : Y5a i n funcs = true := by
 obtain ⟨b, e, _, e3⟩ := X3q (Nat.le_trans h.args (by decide)) h1 h2
 rw [Y5a, e]
 exact e3.2 h
theorem W1m {f : GFunc} {t : GTerm} {n : Int} (h1 : inI (n - 1)) (h2 : inI ((f.blocks.length : Int) - 1)) : Z1x f t n = some (Y9b f t n) := by
 obtain ⟨b, e, _, _⟩ := X2m (t := t) h1 h2
 rw [Y9b, e]; rfl
theorem W1k {f : GFunc} {t : GTerm} {n : Int} (h1 : inI (n - 1)) (h2 : inI ((f.blocks.length : Int) - 1)) : Z4v t n (f.blocks.length : Int) = some (Y9b f t n) := by
 obtain ⟨b, e, e2, _⟩ := X2m (t := t) h1 h2
 rw [Y9b, e, e2]; rfl
theorem term_fm {f : GFunc} {t : GTerm} {n : Int} (h1 : inI (n - 1)) (h2 : inI ((f.blocks.length : Int) - 1)) (h : Y9b f t n = true) : fmT t n f.blocks.length := by
 obtain ⟨b, e, _, e3⟩ := X2m (t := t) h1 h2
 rw [Y9b, e] at h
 exact e3.1 h
theorem W1j {f : GFunc} {t : GTerm} {n : Int} (h1 : inI (n - 1)) (h2 : inI ((f.blocks.length : Int) - 1)) (h : fmT t n f.blocks.length) : Y9b f t n = true := by
 obtain ⟨b, e, _, e3⟩ := X2m (t := t) h1 h2
 rw [Y9b, e]
 exact e3.2 h
theorem phi_fm {p : GPhi} {n : Int} (h : phiB p n = true) : isW p.w ∧ p.ins.length ≤ 10 ∧ inN n p.ins := by
 simp only [phiB, Bool.and_eq_true, decide_eq_true_eq, List.all_eq_true] at h
 exact ⟨wB_iff.1 h.1, h.2.1, fun x hx => by have := iB_iff.1 (h.2.2 x hx); omega⟩
theorem W5r {p : GPhi} {n : Int} (h : isW p.w ∧ p.ins.length ≤ 10 ∧ inN n p.ins) : phiB p n = true := by
 simp only [phiB, Bool.and_eq_true, decide_eq_true_eq, List.all_eq_true]
 exact ⟨wB_iff.2 h.1, h.2.1, fun x hx => iB_iff.2 (by have := h.2.2 x hx; omega)⟩
noncomputable def blkB (f : GFunc) (funcs : Int) (b : GBlock) : Bool := b.phis.all (fun p => phiB p (cnt f)) && (b.insts.all (fun i => Y5a i (cnt f) funcs) && Y9b f b.term (cnt f))
theorem Y4f {α : Type} (l : List α) (c : α → Bool) : l.any (fun x => !c x) = !l.all c := by rw [List.all_eq_not_any_not, Bool.not_not]
theorem W6r {f : GFunc} {funcs : Int} (h : bndF f) (h2 : inI (funcs - 1)) : ∀ L, Y6 (fun (st15 : Int) =>
 ((if decide (st15 < ((List.length f.blocks : Int))) = true then
 (if 0 ≤ st15 ∧ st15 < (List.length f.blocks : Int) then
 (Option.bind (Y9 ((at_ f.blocks st15).phis) ((fun z0 => Z1f z0 (cnt f : Int)))) fun x20 =>
 (if x20 = true then
 (some (Sum.inr ((Sum.inl (())))))
 else
 (Option.bind ((Option.bind (Y0 ((at_ f.blocks st15).insts) ((fun z0 => Z2r z0 (cnt f : Int) funcs))) fun x24 =>
 (if x24 = true then
 (some true)
 else
 (Option.bind (Z1x f (((at_ f.blocks st15).term)) (cnt f : Int)) fun x27 =>
 (some ((!x27))))))) fun (j23 : Bool) =>
 (if j23 = true then
 (some (Sum.inr ((Sum.inl (())))))
 else
 (if inI (st15 + 1) then
 (some (Sum.inl (st15 + 1)))
 else none)))))
 else none)
 else
 (some (Sum.inr ((Sum.inr (())))))) : Option ((Int) ⊕ (Unit ⊕ Unit)))) 0 = L → (f.blocks.all (blkB f funcs) = false ∧ L = some (.inl ())) ∨ (f.blocks.all (blkB f funcs) = true ∧ L = some (.inr ())) := by
  intro L hB
  have hc := h.cnt_le
  have hb := h.blocks
  have h1 : inI ((cnt f : Int) - 1) := Y5 (by omega) (by omega)
  have h3 : inI ((f.blocks.length : Int) - 1) := Y5 (by omega) (by omega)
  have K := Z4k hB f.blocks (fun b => !blkB f funcs b) (fun _ => ()) (by
    intro k hk
    have h0 : 0 ≤ (k : Int) ∧ (k : Int) < (f.blocks.length : Int) := by omega
    have hm := X8 h0
    have hr := h.rows _ hm
    rw [if_pos (by simpa using hk), if_pos h0, Y2z _ _ (fun p => !phiB p (cnt f)) (fun p hp => W5s h1 (h.ins _ hm p hp)) (by omega), Y4f, obs]
    rw [Z8v _ _ (fun i => !Y5a i (cnt f) funcs) (fun i hi => by unfold Z2r; rw [W3d (h.args _ hm i hi) h1 h2]; rfl) (by omega), Y4f, obs, W1m h1 h3, obs]
    simp only [blkB]
    rcases Bool.eq_false_or_eq_true ((at_ f.blocks (k : Int)).phis.all (fun p => phiB p (cnt f))) with hA | hA
    · rcases Bool.eq_false_or_eq_true ((at_ f.blocks (k : Int)).insts.all (fun i => Y5a i (cnt f) funcs)) with hB2 | hB2
      · rcases Bool.eq_false_or_eq_true (Y9b f (at_ f.blocks (k : Int)).term (cnt f)) with hC | hC
        · simp only [hA, hB2, hC, Bool.not_true, Bool.false_eq_true, if_false, obs, Bool.and_self]
          rw [if_pos (Y5 (by omega) (by omega))]
        · simp [hA, hB2, hC]
      · simp [hA, hB2]
    · simp [hA]) (by rw [if_neg (by simp)])
  rw [Y4f] at K
  rcases K with ⟨k1, k, _, rfl⟩ | ⟨k1, rfl⟩
  · exact .inl ⟨by simpa using k1, rfl⟩
  · exact .inr ⟨by simpa using k1, rfl⟩
end
section
theorem Y2t {β : Type} [Inhabited β] {body : Int → Option (Int ⊕ (Unit ⊕ Unit))} {L : Option (Unit ⊕ Unit)} (hB : Y6 body 0 = L) (xs : List β) (c : β → Bool)
  (h1 : ∀ k : Nat, k < xs.length → body (k : Int) = some (if c (at_ xs k) = true then .inl ((k : Int) + 1) else .inr (.inl ()))) (h2 : body (xs.length : Int) = some (.inr (.inr ()))) : L = some (if xs.all c = true then .inr () else .inl ()) := by
 have K := Z4k hB xs (fun x => !c x) (fun _ => ()) (by
  intro k hk
  rw [h1 k hk]
  rcases Bool.eq_false_or_eq_true (c (at_ xs (k : Int))) with hA | hA <;> simp [hA]) h2
 rw [Y4f] at K
 rcases K with ⟨k1, k, _, rfl⟩ | ⟨k1, rfl⟩
 ·have : xs.all c = false := by simpa using k1
  rw [this]; rfl
 ·have : xs.all c = true := by simpa using k1
  rw [this]; rfl
noncomputable def X0m (f : GFunc) (funcs : Int) : Bool := decide (f.params.length ≤ 4) && (wB f.ret && (iB f.blocks.length 1 10 && (f.params.all wB && (decide (cnt f ≤ 60) && f.blocks.all (blkB f funcs)))))
theorem W3s {f : GFunc} {funcs : Int} (h : bndF f) (h2 : inI (funcs - 1)) : Z7i f funcs = some (X0m f funcs) := by
 unfold Z7i X0m
 have hc := h.cnt_le
 have hp := h.params
 rw [Z0r f.params (fun z0 => some (Z2t z0)) (fun x => !wB x) (fun x _ => rfl) (by omega), Y4f, Y2v h]
 simp only [obs]
 generalize hB : Y6 _ _ = L
 have K := W6r h h2 L hB
 by_cases e1 : f.params.length ≤ 4
 ·rw [if_neg (by simp; omega)]
  rcases Bool.eq_false_or_eq_true (wB f.ret) with e2 | e2
  ·have e2' : X0 f.ret = true := e2
   rcases Bool.eq_false_or_eq_true (iB f.blocks.length 1 10) with e3 | e3
   ·have e3' : Z4 (f.blocks.length : Int) 1 10 = true := e3
    rcases Bool.eq_false_or_eq_true (f.params.all wB) with e4 | e4
    ·by_cases e5 : cnt f ≤ 60
     ·have e5' : ¬((cnt f : Int) > 60) := by omega
      rcases K with ⟨k1, rfl⟩ | ⟨k1, rfl⟩ <;> simp [e1, e2, e2', e3, e3', e4, e5, e5', k1]
     ·have e5' : ((cnt f : Int) > 60) := by omega
      simp [e1, e2, e2', e3, e3', e4, e5, e5']
    ·simp [e1, e2, e2', e3, e3', e4]
   ·have e3' : Z4 (f.blocks.length : Int) 1 10 = false := e3
    simp [e1, e2, e2', e3, e3']
  ·have e2' : X0 f.ret = false := e2
   simp [e1, e2, e2']
 ·rw [if_pos (by simp; omega)]
  simp [e1]
theorem W3r {f : GFunc} {funcs : Int} (h : bndF f) (h2 : inI (funcs - 1)) : Z7b f funcs = some (X0m f funcs) := by
 unfold Z7b X0m
 have hc := h.cnt_le
 have hp := h.params
 have hb := h.blocks
 have h1 : inI ((cnt f : Int) - 1) := Y5 (by omega) (by omega)
 have h3 : inI ((f.blocks.length : Int) - 1) := Y5 (by omega) (by omega)
 rw [W1v h, obs]
 simp only [W1q, Y9k]
 generalize hB : Y6 _ _ = L
 have K := Y2t hB f.params wB (by
  intro k hk
  have h0 : 0 ≤ (k : Int) ∧ (k : Int) < (f.params.length : Int) := by omega
  rw [if_pos (by simpa using hk), if_pos h0, if_pos (Y5 (by omega) (by omega))]
  rcases Bool.eq_false_or_eq_true (wB (at_ f.params (k : Int))) with hA | hA <;> simp [hA]) (by rw [if_neg (by simp)])
 subst K
 by_cases e1 : f.params.length ≤ 4
 ·have e1' : ¬((f.params.length : Int) > 4) := by omega
  rcases Bool.eq_false_or_eq_true (wB f.ret) with e2 | e2
  ·rcases Bool.eq_false_or_eq_true (iB f.blocks.length 1 10) with e3 | e3
   ·by_cases e5 : cnt f ≤ 60
    ·have e5' : ¬((cnt f : Int) > 60) := by omega
     rcases Bool.eq_false_or_eq_true (f.params.all wB) with e4 | e4
     ·simp only [e1, e1', e2, e3, e4, e5, e5', decide_true, decide_false, Bool.not_true, Bool.true_and, Bool.false_eq_true, if_false, if_true, obs]
      generalize hC : Y6 _ _ = M
      have K := Y2t hC f.blocks (blkB f funcs) (by
       intro k hk
       have h0 : 0 ≤ (k : Int) ∧ (k : Int) < (f.blocks.length : Int) := by omega
       have hm := X8 h0
       have hr := h.rows _ hm
       have hi := h.ins _ hm
       have ha := h.args _ hm
       simp only [blkB]
       generalize at_ f.blocks (k : Int) = b at hm hr hi ha ⊢
       rw [if_pos (by simpa using hk), if_pos h0]
       generalize hD : Y6 _ _ = P
       have K := Y2t hD b.phis (fun p => phiB p (cnt f)) (by
        intro j hj
        have j0 : 0 ≤ (j : Int) ∧ (j : Int) < (b.phis.length : Int) := by omega
        have jm := X8 j0
        have ji := hi _ jm
        simp only [phiB]
        rw [if_pos (by simpa using hj), if_pos j0, if_pos j0, if_pos (show inI ((j : Int) + 1) from Y5 (by omega) (by omega))]
        generalize at_ b.phis (j : Int) = p at jm ji ⊢
        rcases Bool.eq_false_or_eq_true (wB p.w) with g1 | g1
        ·by_cases g2 : p.ins.length ≤ 10
         ·have g2' : ¬((p.ins.length : Int) > 10) := by omega
          simp only [g1, g2, g2', decide_true, decide_false, Bool.not_true, Bool.true_and, Bool.false_eq_true, if_false, obs]
          generalize hE : Y6 _ _ = Q
          have K := Y2t hE p.ins (fun x => iB x 0 ((cnt f : Int) - 1)) (by
           intro i hi
           have i0 : 0 ≤ (i : Int) ∧ (i : Int) < (p.ins.length : Int) := by omega
           rw [if_pos j0, if_pos (by simpa using hi), if_pos j0, if_pos i0, if_pos h1, if_pos (Y5 (by omega) (by omega))]
           rcases Bool.eq_false_or_eq_true (iB (at_ p.ins (i : Int)) 0 ((cnt f : Int) - 1)) with hA | hA <;> simp [hA]) (by rw [if_pos j0, if_neg (by simp)])
          subst K
          rcases Bool.eq_false_or_eq_true (p.ins.all (fun x => iB x 0 ((cnt f : Int) - 1))) with hA | hA <;> simp [hA]
         ·have g2' : ((p.ins.length : Int) > 10) := by omega
          simp [g1, g2, g2']
        ·simp [g1]) (by rw [if_neg (by simp)])
       subst K
       rcases Bool.eq_false_or_eq_true (b.phis.all (fun p => phiB p (cnt f))) with g1 | g1
       ·simp only [g1, if_true, obs, Bool.true_and]
        generalize hE : Y6 _ _ = Q
        have K := Y2t hE b.insts (fun i => Y5a i (cnt f) funcs) (by
         intro j hj
         have j0 : 0 ≤ (j : Int) ∧ (j : Int) < (b.insts.length : Int) := by omega
         have jm := X8 j0
         rw [if_pos (by simpa using hj), if_pos j0, W3c (ha _ jm) h1 h2, obs, if_pos (show inI ((j : Int) + 1) from Y5 (by omega) (by omega))]
         rcases Bool.eq_false_or_eq_true (Y5a (at_ b.insts (j : Int)) (cnt f) funcs) with hA | hA <;> simp [hA]) (by rw [if_neg (by simp)])
        subst K
        rcases Bool.eq_false_or_eq_true (b.insts.all (fun i => Y5a i (cnt f) funcs)) with g2 | g2
        ·simp only [g2, if_true, obs, Bool.true_and]
         rw [W1k h1 h3, obs, if_pos (show inI ((k : Int) + 1) from Y5 (by omega) (by omega))]
         rcases Bool.eq_false_or_eq_true (Y9b f b.term (cnt f)) with hA | hA <;> simp [hA]
        ·simp [g2]
       ·simp [g1]) (by rw [if_neg (by simp)])
      subst K
      rcases Bool.eq_false_or_eq_true (f.blocks.all (blkB f funcs)) with hA | hA <;> simp [hA]
     ·simp [e1, e1', e2, e3, e4, e5, e5']
    ·have e5' : ((cnt f : Int) > 60) := by omega
     simp [e1, e1', e2, e3, e5, e5']
   ·simp [e1, e1', e2, e3]
  ·simp [e1, e1', e2]
 ·have e1' : ((f.params.length : Int) > 4) := by omega
  simp [e1, e1']
theorem func_fm {f : GFunc} {funcs : Int} (h : bndF f) (h2 : inI (funcs - 1)) (hf : X0m f funcs = true) : fmF f funcs := by
 have hc := h.cnt_le
 have hb := h.blocks
 have h1 : inI ((cnt f : Int) - 1) := Y5 (by omega) (by omega)
 have h3 : inI ((f.blocks.length : Int) - 1) := Y5 (by omega) (by omega)
 simp only [X0m, Bool.and_eq_true, decide_eq_true_eq, List.all_eq_true, blkB] at hf
 obtain ⟨g1, g2, g3, g4, g5, g6⟩ := hf
 have g3' := iB_iff.1 g3
 exact ⟨g1, fun w hw => wB_iff.1 (g4 w hw), wB_iff.1 g2, by omega, g5, fun b hm p hp => phi_fm ((g6 b hm).1 p hp), fun b hm i hi => inst_fm (h.args b hm i hi) h1 h2 ((g6 b hm).2.1 i hi), fun b hm => term_fm h1 h3 (g6 b hm).2.2⟩
theorem W3q {f : GFunc} {funcs : Int} (h : bndF f) (h2 : inI (funcs - 1)) (hf : fmF f funcs) : X0m f funcs = true := by
 have hc := h.cnt_le
 have hb := h.blocks
 have h1 : inI ((cnt f : Int) - 1) := Y5 (by omega) (by omega)
 have h3 : inI ((f.blocks.length : Int) - 1) := Y5 (by omega) (by omega)
 simp only [X0m, Bool.and_eq_true, decide_eq_true_eq, List.all_eq_true, blkB]
 have hb := hf.blocks
 exact ⟨hf.params, wB_iff.2 hf.ret, iB_iff.2 (by omega), fun w hw => wB_iff.2 (hf.pw w hw), hf.cnt, fun b hm => ⟨fun p hp => W5r (hf.phis b hm p hp), fun i hi => W3b h1 h2 (hf.insts b hm i hi), W1j h1 h3 (hf.terms b hm)⟩⟩
end
section
theorem pl_inv : ∀ (xs : List GBlock) (b n c a : Nat), pl xs b n = some (c, a) → b ≤ c ∧ n = sumz (xs.take (c - b)) + a
 | [], _, _, _, _, h => by simp [pl] at h
 | x :: xs, b, n, c, a, h => by
  unfold pl at h
  by_cases hn : n < sz x
  ·rw [if_pos hn] at h
   simp only [Option.some.injEq, Prod.mk.injEq] at h
   obtain ⟨rfl, rfl⟩ := h
   exact ⟨Nat.le_refl _, by simp [sumz]⟩
  ·rw [if_neg hn] at h
   obtain ⟨h1, h2⟩ := pl_inv xs _ _ _ _ h
   refine ⟨by omega, ?_⟩
   rw [show c - b = (c - (b + 1)) + 1 from by omega]
   have e : sumz ((x :: xs).take (c - (b + 1) + 1)) = sz x + sumz (xs.take (c - (b + 1))) := by simp [sumz]
   omega
theorem W2i {f : GFunc} {id : Int} (h : 0 ≤ (X2 f id).1) : id = (pre f (X2 f id).1.toNat : Int) + (X2 f id).2 := by
 unfold X2 at h ⊢
 by_cases h0 : id < 0
 ·rw [if_pos h0] at h; simp at h
 ·rw [if_neg h0] at h ⊢
  by_cases hp : id < (f.params.length : Int)
  ·rw [if_pos hp] at h; simp at h
  ·rw [if_neg hp] at h ⊢
   cases e : pl f.blocks 0 (id - (f.params.length : Int)).toNat with
   | none => rw [e] at h; simp [plI] at h
   | some x =>
    obtain ⟨c, a⟩ := x
    have := (pl_inv _ _ _ _ _ e).2
    simp only [plI, pre, Nat.sub_zero, Int.toNat_natCast] at this ⊢
    omega
noncomputable def instF (f : GFunc) (id : Int) : Option GInst :=
 if (X2 f id).1 < 0 then none else
 if (X2 f id).2 < ((at_ f.blocks (X2 f id).1).phis.length : Int) then none else
 some (at_ (at_ f.blocks (X2 f id).1).insts ((X2 f id).2 - ((at_ f.blocks (X2 f id).1).phis.length : Int)))
def noI : GInst := { op_ := 0, w := 0, a := 0, b := 0, c := 0, imm := 0, args := [] }
def orI : Option GInst → GInst × Bool
 | some i => (i, true)
 | none => (noI, false)
theorem W3f {f : GFunc} (h : bndF f) (id : Int) : Z7k f id = some (orI (instF f id)) := by
 unfold Z7k instF
 rw [Y2u h]
 simp only [obs]
 rcases Z1w f id with hp | ⟨hp, h1, h2⟩ | ⟨h1, h2, h3⟩
 ·rw [hp]; rfl
 ·rw [hp]; rfl
 ·generalize X2 f id = p at h1 h2 h3 ⊢
  have hb := h.rows _ (X8 h1)
  unfold sz at h3
  have e5 : decide (p.1 < 0) = false := by simp; omega
  simp only [e5, Bool.false_eq_true, if_false, if_pos h1, obs]
  rw [if_neg (show ¬ p.1 < 0 by omega)]
  by_cases hq : p.2 < ((at_ f.blocks p.1).phis.length : Int)
  ·rw [if_pos (by simpa using hq), if_pos hq]
   rfl
  ·have hz : 0 ≤ p.2 - ((at_ f.blocks p.1).phis.length : Int) ∧ p.2 - ((at_ f.blocks p.1).phis.length : Int) < ((at_ f.blocks p.1).insts.length : Int) := by omega
   rw [if_neg (by simpa using hq), if_neg hq, Z6j (by omega) (by omega), if_pos hz]
   rfl
end
section
noncomputable def Y0k (f : GFunc) (b : Int) : List Int := W8 (at_ f.blocks b).term
def GraphOk (f : GFunc) : Prop := 1 ≤ f.blocks.length ∧ f.blocks.length ≤ 10 ∧ ∀ b ∈ f.blocks, ∀ x ∈ W8 b.term, 0 ≤ x ∧ x < (f.blocks.length : Int)
theorem Z9s (t : GTerm) : (W8 t).length ≤ 2 := by
 unfold W8
 split
 ·simp
 ·split <;> simp
theorem X2b (f : GFunc) (hl : f.blocks.length ≤ 140737488355328) : ∃ g, Z3z f = some g ∧ (g = true ↔ GraphOk f) := by
 unfold Z3z
 by_cases hn : 1 ≤ f.blocks.length ∧ f.blocks.length ≤ 10
 ·rw [if_pos (by simp [Z4]; omega), Y5b f.blocks _ (fun b => (W8 b.term).any fun x => !Z4 x 0 ((f.blocks.length : Int) - 1)) (fun b hb => by
   unfold Z3k
   rw [Z0r _ _ (fun x => !Z4 x 0 ((f.blocks.length : Int) - 1)) (fun x hx => by
    unfold Z1y
    rw [if_pos (Y5 (by omega) (by omega))]) (by have := Z9s b.term; omega)]
   rfl) hl]
  refine ⟨_, rfl, ?_⟩
  simp only [Bool.not_eq_true', List.any_eq_false, Bool.not_eq_true, List.any_eq_true, not_exists, not_and, GraphOk, Z4]
  constructor
  ·intro h
   refine ⟨hn.1, hn.2, fun b hb x hx => ?_⟩
   have := h b hb
   simp only [Bool.not_eq_false, List.any_eq_false, Bool.not_eq_true', Bool.and_eq_true, decide_eq_true_eq] at this
   have := this x hx
   omega
  ·rintro ⟨_, _, h⟩ b hb
   intro x hx
   have := h b hb x hx
   simp
   omega
 ·rw [if_neg (by simp [Z4]; omega)]
  exact ⟨false, rfl, by simp [GraphOk]; omega⟩
theorem X2a (f : GFunc) (b : Int) (h : 0 ≤ b ∧ b < (f.blocks.length : Int)) : Z3u f b = some (Y0k f b) := by
 unfold Z3u Y0k W8
 rw [if_pos h]
 split
 ·rfl
 ·split <;> rfl
theorem GraphOk.succ {f : GFunc} (h : GraphOk f) {a b : Int} (ha : 0 ≤ a ∧ a < (f.blocks.length : Int)) (hb : b ∈ Y0k f a) : 0 ≤ b ∧ b < (f.blocks.length : Int) := h.2.2 _ (X8 ha) b hb
inductive Rch (f : GFunc) (w : Int) : Int → Prop
 | zero : (0 : Int) ≠ w → Rch f w 0
 | step {a b : Int} : Rch f w a → b ∈ Y0k f a → b ≠ w → Rch f w b
theorem Rch.lt {f : GFunc} (h : GraphOk f) {w b : Int} (hr : Rch f w b) : 0 ≤ b ∧ b < (f.blocks.length : Int) := by
 induction hr with
 | zero _ => have := h.1; omega
 | step _ hb _ ih => exact h.succ ih hb
theorem Y8j {f : GFunc} (h : GraphOk f) (w : Int) : ∃ out, Z2y f w = some out ∧ out.length = f.blocks.length ∧ ∀ k : Nat, k < f.blocks.length → (at_ out (k : Int) = true ↔ Rch f w (k : Int)) := by
 have hLIM : LIM = 140737488355328 := rfl
 have hg := h
 obtain ⟨n1, n2, _⟩ := h
 unfold Z2y
 rw [if_pos (by omega)]
 generalize hB : Y6 _ _ = L
 obtain ⟨out, rfl, h1, h2, h3, h4⟩ := Y6i hB
  (fun s => s.1.length = f.blocks.length ∧ (∀ x ∈ s.2, 0 ≤ x ∧ x < (f.blocks.length : Int)) ∧ (∀ x ∈ s.2, x ≠ w → Rch f w x) ∧ (∀ k : Nat, k < f.blocks.length → at_ s.1 (k : Int) = true → Rch f w (k : Int)) ∧
   (∀ k : Nat, k < f.blocks.length → at_ s.1 (k : Int) = true → ∀ b ∈ Y0k f (k : Int), b ≠ w → at_ s.1 b = true ∨ b ∈ s.2) ∧ ((0 : Int) ≠ w → at_ s.1 (0 : Int) = true ∨ (0 : Int) ∈ s.2) ∧ s.2.length + 3 * s.1.count false ≤ 31)
  (fun s => s.2.length + 3 * s.1.count false)
  (fun out => out.length = f.blocks.length ∧ (∀ k : Nat, k < f.blocks.length → at_ out (k : Int) = true → Rch f w (k : Int)) ∧
   (∀ k : Nat, k < f.blocks.length → at_ out (k : Int) = true → ∀ b ∈ Y0k f (k : Int), b ≠ w → at_ out b = true) ∧ ((0 : Int) ≠ w → at_ out (0 : Int) = true)) (by
  rintro ⟨out, left⟩ ⟨h1, h2, h3, h4, h5, h6, h7⟩
  simp only at h1 h2 h3 h4 h5 h6 h7
  cases left with
  | nil =>
   right
   rw [if_neg (by simp)]
   exact ⟨_, rfl, h1, h4, fun k hk hm b hb hw => (h5 k hk hm b hb hw).resolve_right (by simp), fun h => (h6 h).resolve_right (by simp)⟩
  | cons b left =>
   left
   have hat : at_ (b :: left) (0 : Int) = b := rfl
   have hbn := h2 b (by simp)
   obtain ⟨m, rfl⟩ := Int.eq_ofNat_of_zero_le hbn.1
   have hm : m < f.blocks.length := by omega
   simp only [hat, List.length_cons, List.drop_succ_cons, List.drop_zero]
   rw [if_pos (by simp only [gt_iff_lt, decide_eq_true_eq]; omega), if_pos (by omega), if_pos (by omega)]
   have e : ∃ j, (if ((m : Int) == w) = true then some true else (if 0 ≤ (m : Int) ∧ (m : Int) < (out.length : Int) then some (at_ out (m : Int)) else none)) = some j ∧ (j = true ↔ (m : Int) = w ∨ at_ out (m : Int) = true) := by
    by_cases hw : (m : Int) = w
    ·rw [if_pos (by simpa using hw)]
     exact ⟨_, rfl, by simp [hw]⟩
    ·rw [if_neg (by simpa using hw), if_pos (by omega)]
     exact ⟨_, rfl, by simp [hw]⟩
   obtain ⟨j, e, hj⟩ := e
   rw [e]
   simp only [Option.bind_some]
   by_cases hjt : j = true
   ·rw [if_pos hjt]
    have hmw := hj.1 hjt
    refine ⟨_, rfl, ⟨h1, fun x hx => h2 x (by simp [hx]), fun x hx => h3 x (by simp [hx]), h4, fun k hk hmk b hb hw => ?_, fun h => ?_, ?_⟩, ?_⟩
    ·rcases h5 k hk hmk b hb hw with h | h
     ·exact .inl h
     ·rcases List.mem_cons.1 h with rfl | h
      ·rcases hmw with e | e
       ·exact absurd e hw
       ·exact .inl e
      ·exact .inr h
    ·rcases h6 h with h' | h'
     ·exact .inl h'
     ·rcases List.mem_cons.1 h' with e | h'
      ·rcases hmw with e2 | e2
       ·exact absurd (e.trans e2) h
       ·exact .inl (e ▸ e2)
      ·exact .inr h'
    ·simp only [List.length_cons] at h7 ⊢; omega
    ·simp only [List.length_cons]; omega
   ·rw [if_neg hjt]
    have hnw : (m : Int) ≠ w := fun e => hjt (hj.2 (.inl e))
    have hnm : at_ out (m : Int) = false := by cases hh : at_ out (m : Int) with | false => rfl | true => exact absurd (hj.2 (.inr hh)) hjt
    have hs : (W8 (at_ f.blocks (m : Int)).term).length ≤ 2 := Z9s _
    have hcnt : (out.set m true).count false + 1 = out.count false := by
     have hm2 : m < out.length := by omega
     have hget : out[m] = false := by rw [← Z5f hm2]; exact hnm
     have := List.count_set (l := out) (a := true) (b := false) (i := m) hm2
     have hp : 0 < out.count false := List.count_pos_iff.2 (hget ▸ List.getElem_mem hm2)
     simp [hget] at this
     omega
    rw [if_pos (by omega), if_pos (by omega), if_pos (by simp only [List.length_cons] at h7; omega)]
    have hrm : Rch f w (m : Int) := h3 _ (by simp) hnw
    have hat2 : ∀ k : Nat, k < f.blocks.length → at_ (out.set m true) (k : Int) = if k = m then true else at_ out (k : Int) := fun k hk => by
     rw [Z5f (by simpa [h1] using hk), Z5f (by omega), List.getElem_set]
     by_cases hkm : m = k
     ·subst hkm; simp
     ·rw [if_neg hkm, if_neg (fun h => hkm h.symm)]
    have hat3 : ∀ b : Int, 0 ≤ b ∧ b < (f.blocks.length : Int) → at_ out b = true → at_ (out.set m true) b = true := fun b hb hmk => by
     obtain ⟨k, rfl⟩ := Int.eq_ofNat_of_zero_le hb.1
     rw [hat2 k (by omega)]
     split
     ·rfl
     ·exact hmk
    simp only [Int.toNat_natCast]
    refine ⟨_, rfl, ⟨by simpa using h1, fun x hx => ?_, fun x hx hxw => ?_, fun k hk hmk => ?_, fun k hk hmk b hb hw => ?_, fun h => ?_, ?_⟩, ?_⟩
    ·rcases List.mem_append.1 hx with hx | hx
     ·exact h2 x (by simp [hx])
     ·exact hg.succ hbn hx
    ·rcases List.mem_append.1 hx with hx | hx
     ·exact h3 x (by simp [hx]) hxw
     ·exact .step hrm hx hxw
    ·rw [hat2 k hk] at hmk
     by_cases hkm : k = m
     ·subst hkm; exact hrm
     ·rw [if_neg hkm] at hmk; exact h4 k hk hmk
    ·have hbl := hg.succ (by omega : 0 ≤ (k : Int) ∧ (k : Int) < (f.blocks.length : Int)) hb
     rw [hat2 k hk] at hmk
     by_cases hkm : k = m
     ·subst hkm; exact .inr (List.mem_append_right _ hb)
     ·rw [if_neg hkm] at hmk
      rcases h5 k hk hmk b hb hw with h | h
      ·exact .inl (hat3 b hbl h)
      ·rcases List.mem_cons.1 h with rfl | h
       ·left; rw [hat2 m hm]; simp
       ·exact .inr (List.mem_append_left _ h)
    ·rcases h6 h with h | h
     ·exact .inl (hat3 0 (by omega) h)
     ·rcases List.mem_cons.1 h with e | h
      ·left; rw [e, hat2 m hm]; simp
      ·exact .inr (List.mem_append_left _ h)
    ·simp only [List.length_append, List.length_cons] at h7 ⊢; omega
    ·simp only [List.length_append, List.length_cons]; omega) (by
  refine ⟨by simp, fun x hx => ?_, fun x hx hw => ?_, fun k hk hm => ?_, fun k hk hm => ?_, fun _ => .inr (by simp), ?_⟩
  ·simp only [List.mem_singleton] at hx; omega
  ·simp only [List.mem_singleton] at hx; subst hx; exact .zero hw
  ·rw [Z5f (by simpa using hk)] at hm; simp at hm
  ·rw [Z5f (by simpa using hk)] at hm; simp at hm
  ·simp only [List.length_singleton]
   have := List.count_le_length (a := false) (l := List.replicate (f.blocks.length : Int).toNat false)
   simp at this ⊢
   omega)
 refine ⟨out, rfl, h1, fun k hk => ⟨h2 k hk, fun hr => ?_⟩⟩
 have key : ∀ b : Int, Rch f w b → at_ out b = true := fun b hr => by
  induction hr with
  | zero hw => exact h4 hw
  | step ha hb hw ih =>
   have hl := ha.lt hg
   obtain ⟨k, rfl⟩ := Int.eq_ofNat_of_zero_le hl.1
   exact h3 k (by omega) ih _ hb hw
 exact key _ hr
theorem Y6j {f : GFunc} (h : GraphOk f) (w : Int) : ∃ out, Z2a f w = some out ∧ Y5v out ∧ out.length ≤ 10 ∧ ∀ b, b ∈ out ↔ Rch f w b := by
 have hLIM : LIM = 140737488355328 := rfl
 have hg := h
 obtain ⟨n1, n2, _⟩ := h
 unfold Z2a
 by_cases hw0 : w = 0
 ·rw [if_pos (by simpa using hw0)]
  refine ⟨[], rfl, .nil, by simp, fun b => ?_⟩
  simp only [List.not_mem_nil, false_iff]
  intro hr
  induction hr with
  | zero hw => exact hw hw0.symm
  | step _ _ _ ih => exact ih
 rw [if_neg (by simpa using hw0)]
 generalize hB : Y6 _ _ = L
 obtain ⟨out, rfl, h1, h2, h3, h4⟩ := Y6i hB
  (fun s => (∀ x ∈ s.1, 0 ≤ x ∧ x < (f.blocks.length : Int)) ∧ (∀ x ∈ s.1, x ≠ w → Rch f w x) ∧ Y5v s.2 ∧ (∀ x ∈ s.2, Rch f w x) ∧
   (∀ x ∈ s.2, ∀ b ∈ Y0k f x, b ≠ w → b ∈ s.2 ∨ b ∈ s.1) ∧ ((0 : Int) ∈ s.2 ∨ (0 : Int) ∈ s.1) ∧ s.1.length + 3 * (f.blocks.length - s.2.length) ≤ 31)
  (fun s => s.1.length + 3 * (f.blocks.length - s.2.length))
  (fun out => Y5v out ∧ (∀ x ∈ out, Rch f w x) ∧ (∀ x ∈ out, ∀ b ∈ Y0k f x, b ≠ w → b ∈ out) ∧ (0 : Int) ∈ out) (by
  rintro ⟨work, out⟩ ⟨h1, h2, h3, h4, h5, h6, h7⟩
  simp only at h1 h2 h3 h4 h5 h6 h7
  have hol : out.length ≤ f.blocks.length := by
   have := Y3e (lo := 0) (hi := (f.blocks.length : Int)) h3 (fun x hx => (h4 x hx).lt hg)
   omega
  cases work with
  | nil =>
   right
   rw [if_neg (by simp)]
   exact ⟨_, rfl, h3, h4, fun x hx b hb hw => (h5 x hx b hb hw).resolve_right (by simp), h6.resolve_right (by simp)⟩
  | cons b work =>
   left
   have hat : at_ (b :: work) (0 : Int) = b := rfl
   have hbn := h1 b (by simp)
   simp only [hat, List.length_cons, List.drop_succ_cons, List.drop_zero]
   simp only [List.length_cons] at h7
   rw [if_pos (by simp only [gt_iff_lt, decide_eq_true_eq]; omega), if_pos (by omega), if_pos (by omega), W3a _ (by omega)]
   simp only [Option.bind_some]
   have e : ∃ j, (if (b == w) = true then some true else (Option.bind (Z0x out b) fun x => some x)) = some j ∧ (j = true ↔ b = w ∨ b ∈ out) := by
    by_cases hw : b = w
    ·rw [if_pos (by simpa using hw)]
     exact ⟨_, rfl, by simp [hw]⟩
    ·rw [if_neg (by simpa using hw), Y4z _ _ (by omega)]
     exact ⟨_, rfl, by simp [hw]⟩
   obtain ⟨j, e, hj⟩ := e
   rw [e]
   simp only [Option.bind_some]
   by_cases hjt : j = true
   ·rw [if_pos hjt]
    have hmw := hj.1 hjt
    refine ⟨_, rfl, ⟨fun x hx => h1 x (by simp [hx]), fun x hx => h2 x (by simp [hx]), h3, h4, fun x hx y hy hw => ?_, ?_, ?_⟩, ?_⟩
    ·rcases h5 x hx y hy hw with h | h
     ·exact .inl h
     ·rcases List.mem_cons.1 h with rfl | h
      ·rcases hmw with e | e
       ·exact absurd e hw
       ·exact .inl e
      ·exact .inr h
    ·rcases h6 with h' | h'
     ·exact .inl h'
     ·rcases List.mem_cons.1 h' with e | h'
      ·rcases hmw with e2 | e2
       ·exact absurd (e.trans e2).symm hw0
       ·exact .inl (e ▸ e2)
      ·exact .inr h'
    ·simp only; omega
    ·simp only; omega
   ·rw [if_neg hjt]
    have hnw : b ≠ w := fun e => hjt (hj.2 (.inl e))
    have hno : b ∉ out := fun e => hjt (hj.2 (.inr e))
    have hrm : Rch f w b := h2 _ (by simp) hnw
    obtain ⟨out2, e2, p1, p2, p3, _⟩ := put_ok out b h3 (by omega)
    have p3 := p3 hno
    have hol2 : out2.length ≤ f.blocks.length := by
     have := Y3e (lo := 0) (hi := (f.blocks.length : Int)) p1 (fun x hx => by
      rcases (p2 x).1 hx with rfl | hx
      ·exact hbn
      ·exact (h4 x hx).lt hg)
     omega
    have hs : (Y0k f b).length ≤ 2 := Z9s _
    rw [e2]
    simp only [Option.bind_some]
    rw [X2a f b hbn]
    simp only [Option.bind_some]
    rw [if_pos (by omega)]
    refine ⟨_, rfl, ⟨fun x hx => ?_, fun x hx hxw => ?_, p1, fun x hx => ?_, fun x hx y hy hw => ?_, ?_, ?_⟩, ?_⟩
    ·rcases List.mem_append.1 hx with hx | hx
     ·exact h1 x (by simp [hx])
     ·exact hg.succ hbn hx
    ·rcases List.mem_append.1 hx with hx | hx
     ·exact h2 x (by simp [hx]) hxw
     ·exact .step hrm hx hxw
    ·rcases (p2 x).1 hx with rfl | hx
     ·exact hrm
     ·exact h4 x hx
    ·rcases (p2 x).1 hx with rfl | hx
     ·exact .inr (List.mem_append_right _ hy)
     ·rcases h5 x hx y hy hw with h | h
      ·exact .inl ((p2 y).2 (.inr h))
      ·rcases List.mem_cons.1 h with rfl | h
       ·exact .inl ((p2 y).2 (.inl rfl))
       ·exact .inr (List.mem_append_left _ h)
    ·rcases h6 with h | h
     ·exact .inl ((p2 0).2 (.inr h))
     ·rcases List.mem_cons.1 h with e | h
      ·exact .inl ((p2 0).2 (.inl e))
      ·exact .inr (List.mem_append_left _ h)
    ·simp only [List.length_append]; omega
    ·simp only [List.length_append]; omega) (by
  refine ⟨fun x hx => ?_, fun x hx hw => ?_, .nil, fun x hx => absurd hx (by simp), fun x hx => absurd hx (by simp), .inr (by simp), ?_⟩
  ·simp only [List.mem_singleton] at hx; omega
  ·simp only [List.mem_singleton] at hx; subst hx; exact .zero hw
  ·simp only [List.length_singleton, List.length_nil]; omega)
 refine ⟨out, rfl, h1, ?_, fun b => ⟨h2 b, fun hr => ?_⟩⟩
 ·have := Y3e (lo := 0) (hi := (f.blocks.length : Int)) h1 (fun x hx => (h2 x hx).lt hg)
  omega
 ·induction hr with
  | zero hw => exact h4
  | step ha hb hw ih => exact h3 _ ih _ hb hw
end
section
noncomputable def pB (P : Prop) : Bool := @decide P (Classical.propDecidable P)
theorem pB_t {P : Prop} (h : P) : pB P = true := by unfold pB; exact @decide_eq_true P (Classical.propDecidable P) h
theorem pB_f {P : Prop} (h : ¬ P) : pB P = false := by unfold pB; exact @decide_eq_false P (Classical.propDecidable P) h
theorem pB_iff {P : Prop} : pB P = true ↔ P := by
 by_cases h : P
 ·exact ⟨fun _ => h, fun _ => pB_t h⟩
 ·exact ⟨fun k => absurd k (by rw [pB_f h]; decide), fun k => absurd k h⟩
theorem Z7d {P Q : Prop} (h : P ↔ Q) : pB P = pB Q := by rw [propext h]
theorem X1h {P : Prop} {b : Bool} (h : b = true ↔ P) : b = pB P := by
 rw [Bool.eq_iff_iff, h, pB_iff]
theorem X8f {P : Prop} : (!pB P) = pB (¬ P) := by
 by_cases h : P
 ·rw [pB_t h, pB_f (fun k => k h)]; rfl
 ·rw [pB_f h, pB_t h]; rfl
theorem W6q {a b : Bool} (h : a = true ↔ b = true) : a = b := Bool.eq_iff_iff.2 h
theorem Z8s {body : Int → Option (Int ⊕ (Unit ⊕ Unit))} {L : Option (Unit ⊕ Unit)} (hB : Y6 body 0 = L) (n : Nat) (P : Nat → Prop)
  (h1 : ∀ k : Nat, k < n → body (k : Int) = some (if pB (P k) = true then .inl ((k : Int) + 1) else .inr (.inl ()))) (h2 : body (n : Int) = some (.inr (.inr ()))) : L = some (if pB (∀ k, k < n → P k) = true then .inr () else .inl ()) := by
 have K := X1x hB n (fun k => !pB (P k)) (fun _ => ()) (by
  intro k hk
  rw [h1 k hk]
  rcases Bool.eq_false_or_eq_true (pB (P k)) with hA | hA <;> simp [hA]) h2
 rcases K with ⟨k, hk, k1, _, rfl⟩ | ⟨k1, rfl⟩
 ·rw [pB_f]
  ·rfl
  ·intro h
   rw [pB_t (h k hk)] at k1
   cases k1
 ·rw [pB_t]
  ·rfl
  ·intro x hx
   have := k1 x hx
   simpa [pB_iff] using this
theorem end_pB {P : Prop} : (Option.bind (some (if pB P = true then (Sum.inr () : Unit ⊕ Unit) else .inl ())) fun y => match y with | .inl _ => some false | .inr _ => some true) = some (pB P) := by
 by_cases h : P
 ·rw [pB_t h]; rfl
 ·rw [pB_f h]; rfl
theorem all_at {α : Type} [Inhabited α] {xs : List α} {P : α → Prop} : (∀ k : Nat, k < xs.length → P (at_ xs (k : Int))) ↔ ∀ x ∈ xs, P x := by
 constructor
 ·intro h x hx
  obtain ⟨k, hk, rfl⟩ := List.getElem_of_mem hx
  have := h k hk
  rwa [Z5f hk] at this
 ·intro h k hk
  exact h _ (X8 ⟨by omega, by omega⟩)
theorem Z7g {β : Type} [Inhabited β] {body : Int → Option (Int ⊕ (Unit ⊕ Unit))} {L : Option (Unit ⊕ Unit)} (hB : Y6 body 0 = L) (xs : List β) (P : β → Prop)
  (h1 : ∀ k : Nat, k < xs.length → body (k : Int) = some (if pB (P (at_ xs (k : Int))) = true then .inl ((k : Int) + 1) else .inr (.inl ()))) (h2 : body (xs.length : Int) = some (.inr (.inr ()))) : L = some (if pB (∀ x ∈ xs, P x) = true then .inr () else .inl ()) := by
 rw [Z8s hB xs.length (fun k => P (at_ xs (k : Int))) h1 h2, Z7d all_at]
theorem X4i {α : Type} {xs : List α} {P : α → Prop} : xs.any (fun x => !pB (P x)) = !pB (∀ x ∈ xs, P x) := by
 rw [X8f]
 refine X1h ?_
 simp only [List.any_eq_true, Bool.not_eq_true', ← Bool.not_eq_true, pB_iff]
 constructor
 ·rintro ⟨x, h1, h2⟩ h; exact h2 (h x h1)
 ·intro h
  refine Classical.byContradiction fun hn => h fun x hx => Classical.byContradiction fun hp => hn ⟨x, hx, hp⟩
noncomputable def Z0d (f : GFunc) (b : Int) : List Int := ((List.range f.blocks.length).filter (fun i : Nat => decide (b ∈ Y0k f (i : Int)))).map Int.ofNat
theorem X1t (f : GFunc) (b : Int) (k : Nat) : ((List.range (k + 1)).filter (fun i : Nat => decide (b ∈ Y0k f (i : Int)))).map Int.ofNat = ((List.range k).filter (fun i : Nat => decide (b ∈ Y0k f (i : Int)))).map Int.ofNat ++ (if b ∈ Y0k f (k : Int) then [(k : Int)] else []) := by
 rw [List.range_succ, List.filter_append, List.map_append]
 congr 1
 by_cases hh : b ∈ Y0k f (k : Int) <;> simp [hh]
theorem Y9t (f : GFunc) (b : Int) (k : Nat) : (((List.range k).filter (fun i : Nat => decide (b ∈ Y0k f (i : Int)))).map Int.ofNat).length ≤ k := by
 rw [List.length_map]
 exact Nat.le_trans (List.length_filter_le _ _) (by simp)
theorem Y6p {f : GFunc} (hl : f.blocks.length ≤ 2000000) (b : Int) : Z2c f b = some (Z0d f b) := by
 have hLIM : LIM = 140737488355328 := rfl
 unfold Z2c
 generalize hB : Y6 _ _ = L
 have K := Y1i hB (fun k => (((List.range k).filter (fun i : Nat => decide (b ∈ Y0k f (i : Int)))).map Int.ofNat, (k : Int))) f.blocks.length (Z0d f b) rfl (by
  intro k hk
  have hlk := Y9t f b k
  have hs : (W8 (at_ f.blocks (k : Int)).term).length ≤ 2 := Z9s _
  simp only
  rw [if_pos (by simpa using hk), if_pos (by omega), X0u _ _ (by omega), X7n]
  simp only [obs]
  rw [X1t]
  by_cases hh : b ∈ Y0k f (k : Int)
  ·rw [if_pos hh, if_pos (decide_eq_true (by exact hh)), if_pos (by simp only [List.length_singleton]; omega), if_pos (Y5 (by omega) (by omega))]
   rfl
  ·rw [if_neg hh, if_neg (by rw [decide_eq_true_eq]; exact hh), if_pos (Y5 (by omega) (by omega)), List.append_nil]
   rfl) (by
  simp only
  rw [if_neg (by simp)]
  rfl)
 rw [K]
 rfl
theorem Y5y {f : GFunc} (hl : f.blocks.length ≤ 2000000) (b : Int) : Z0v f b = some (Z0d f b) := by
 have hLIM : LIM = 140737488355328 := rfl
 unfold Z0v
 generalize hB : Y6 _ _ = L
 have K := Y1i hB (fun k => (((List.range k).filter (fun i : Nat => decide (b ∈ Y0k f (i : Int)))).map Int.ofNat, (k : Int))) f.blocks.length (Z0d f b) rfl (by
  intro k hk
  have hlk := Y9t f b k
  have hs : (Y0k f (k : Int)).length ≤ 2 := Z9s _
  simp only
  rw [if_pos (by simpa using hk), X2a f (k : Int) (by omega), obs, Y4z _ _ (by omega)]
  simp only [obs]
  rw [X1t]
  by_cases hh : b ∈ Y0k f (k : Int)
  ·rw [if_pos hh, if_pos (decide_eq_true (by exact hh)), if_pos (by simp only [List.length_singleton]; omega), if_pos (Y5 (by omega) (by omega))]
   rfl
  ·rw [if_neg hh, if_neg (by rw [decide_eq_true_eq]; exact hh), if_pos (Y5 (by omega) (by omega)), List.append_nil]
   rfl) (by
  simp only
  rw [if_neg (by simp)]
  rfl)
 rw [K]
 rfl
theorem mem_predL {f : GFunc} {a b : Int} : a ∈ Z0d f b ↔ (0 ≤ a ∧ a < (f.blocks.length : Int)) ∧ b ∈ Y0k f a := by
 unfold Z0d
 simp only [List.mem_map, List.mem_filter, List.mem_range, decide_eq_true_eq]
 constructor
 ·rintro ⟨k, ⟨hk, hm⟩, rfl⟩
  exact ⟨⟨by simp, by simpa using hk⟩, hm⟩
 ·rintro ⟨ha, hm⟩
  obtain ⟨k, rfl⟩ := Int.eq_ofNat_of_zero_le ha.1
  exact ⟨k, ⟨by omega, hm⟩, rfl⟩
theorem W2h (f : GFunc) (b : Int) : (Z0d f b).length ≤ f.blocks.length := Y9t f b _
theorem fmI.ok {i : GInst} {n m : Int} (h : fmI i n m) : okI i := by
 by_cases e : i.op_ = 24 ∨ i.op_ = 25
 ·exact .inl (h.w0 e)
 ·exact .inr ⟨fun k => e (.inl k), fun k => e (.inr k)⟩
theorem fmF.okI {f : GFunc} {n : Int} (h : fmF f n) : ∀ b ∈ f.blocks, ∀ i ∈ b.insts, AM.okI i := fun b hb i hi => (h.insts b hb i hi).ok
theorem Y5h {f : GFunc} (h : bndF f) (ho : ∀ b ∈ f.blocks, ∀ i ∈ b.insts, okI i) (id : Int) : Q4 f id = some (typ f id) := by
 unfold Q4 typ
 rw [Y2u h, W3f h]
 simp only [obs]
 unfold instF
 rcases Z1w f id with hp | ⟨hp, h1, h2⟩ | ⟨h1, h2, h3⟩
 ·rw [hp]; rfl
 ·rw [hp]
  simp only
  rw [if_neg (by decide), if_pos (by decide), if_pos ⟨h1, h2⟩, if_neg (by decide)]
  simp only [if_true]
 ·generalize X2 f id = p at h1 h2 h3 ⊢
  have hb := h.rows _ (X8 h1)
  have hi := ho _ (X8 h1)
  unfold sz at h3
  have e1 : (p.1 == (-2)) = false := by simp; omega
  have e2 : (p.1 == (-1)) = false := by simp; omega
  have e3 : ¬ p.1 = -2 := by omega
  have e4 : ¬ p.1 = -1 := by omega
  have e5 : ¬ p.1 < 0 := by omega
  simp only [e1, e2, e3, e4, e5, Bool.false_eq_true, if_false, if_pos h1]
  by_cases hq : p.2 < ((at_ f.blocks p.1).phis.length : Int)
  ·simp only [hq, decide_true, if_true]
   rw [if_pos ⟨h2, trivial⟩]
  ·have hz : 0 ≤ p.2 - ((at_ f.blocks p.1).phis.length : Int) ∧ p.2 - ((at_ f.blocks p.1).phis.length : Int) < ((at_ f.blocks p.1).insts.length : Int) := by omega
   simp only [hq, decide_false, Bool.false_eq_true, if_false, orI]
   exact congrArg some (W4z (hi _ (X8 hz)))
theorem Y1b {f : GFunc} (h : bndF f) {id : Int} (hid : id ≤ 9223372036854775807) : V6 f id = some (typ f id) := by
 unfold V6 typ
 rw [X4t h hid]
 simp only [obs]
 rcases Z1w f id with hp | ⟨hp, h1, h2⟩ | ⟨h1, h2, h3⟩
 ·rw [hp]; rfl
 ·rw [hp]
  simp only
  rw [if_neg (by decide), if_pos (by decide), if_pos ⟨h1, h2⟩, if_neg (by decide)]
  simp only [if_true]
 ·generalize X2 f id = p at h1 h2 h3 ⊢
  have hb := h.rows _ (X8 h1)
  unfold sz at h3
  have e1 : (p.1 == (-2)) = false := by simp; omega
  have e2 : (p.1 == (-1)) = false := by simp; omega
  have e3 : ¬ p.1 = -2 := by omega
  have e4 : ¬ p.1 = -1 := by omega
  simp only [e1, e2, e3, e4, Bool.false_eq_true, if_false, if_pos h1]
  by_cases hq : p.2 < ((at_ f.blocks p.1).phis.length : Int)
  ·simp only [hq, decide_true, if_true]
   rw [if_pos ⟨h2, trivial⟩]
  ·have hz : 0 ≤ p.2 - ((at_ f.blocks p.1).phis.length : Int) ∧ p.2 - ((at_ f.blocks p.1).phis.length : Int) < ((at_ f.blocks p.1).insts.length : Int) := by omega
   simp only [hq, decide_false, Bool.false_eq_true, if_false]
   rw [if_pos (Y5 (by omega) (by omega)), if_pos hz]
end
section
theorem fmI.le {i : GInst} {n m : Int} (h : fmI i n m) (hn : n ≤ 9223372036854775807) : i.a ≤ 9223372036854775807 ∧ i.b ≤ 9223372036854775807 ∧ i.c ≤ 9223372036854775807 := by
 have h1 := h.ids
 have z1 := h.zero
 have z2 := h.zerob
 have z3 := h.zeroc
 unfold opsI at h1 z1 z2 z3
 by_cases c1 : (1 ≤ i.op_ ∧ i.op_ ≤ 17) ∨ i.op_ = 24
 ·have n26 : i.op_ ≠ 26 := by omega
  simp only [c1, if_true, n26, if_false, List.length_cons, List.length_nil] at h1 z3
  have a := h1 i.a (by simp)
  have b := h1 i.b (by simp)
  have c := z3 (by omega)
  omega
 ·by_cases c2 : (18 ≤ i.op_ ∧ i.op_ ≤ 20) ∨ i.op_ = 23 ∨ i.op_ = 25 ∨ i.op_ = 27
  ·have n26 : i.op_ ≠ 26 := by omega
   simp only [c1, c2, if_true, n26, if_false, List.length_cons, List.length_nil] at h1 z2 z3
   have a := h1 i.a (by simp)
   have b := z2 (by omega)
   have c := z3 (by omega)
   omega
  ·by_cases c3 : i.op_ = 22
   ·simp only [c1, c2, c3, if_true, if_false] at h1
    have a := h1 i.a (by simp)
    have b := h1 i.b (by simp)
    have c := h1 i.c (by simp)
    omega
   ·by_cases c4 : i.op_ = 26
    ·simp only [c4, if_true] at z1 z2 z3
     have a := z1 (by omega)
     have b := z2 (by omega)
     have c := z3 (by omega)
     omega
    ·simp only [c1, c2, c3, c4, if_false, List.length_nil] at z1 z2 z3
     have a := z1 (by omega)
     have b := z2 (by omega)
     have c := z3 (by omega)
     omega
theorem Y4q {f : GFunc} {id : Int} (h : 0 ≤ id ∧ id < (cnt f : Int)) : (X2 f id).1 ≠ -2 := by
 unfold X2
 rw [if_neg (by omega)]
 by_cases hp : id < (f.params.length : Int)
 ·rw [if_pos hp]; simp
 ·rw [if_neg hp]
  unfold cnt at h
  obtain ⟨c, a, e⟩ := W2k f.blocks 0 (id - (f.params.length : Int)).toNat (by omega)
  rw [e]
  simp [plI]
theorem W4y {f : GFunc} {n : Int} (hf : fmF f n) {id : Int} (h : 0 ≤ id ∧ id < (cnt f : Int)) : 0 ≤ typ f id := by
 unfold typ
 rw [if_neg (Y4q h)]
 have hw : ∀ w, isW w → 0 ≤ w := fun w hw => by rcases hw with rfl | rfl | rfl | rfl <;> decide
 rcases Z1w f id with hp | ⟨hp, h1, h2⟩ | ⟨h1, h2, h3⟩
 ·exact absurd (by rw [hp]) (Y4q h)
 ·rw [hp]
  simp only [if_true]
  exact hw _ (hf.pw _ (X8 ⟨h1, h2⟩))
 ·generalize X2 f id = p at h1 h2 h3 ⊢
  unfold sz at h3
  rw [if_neg (by omega)]
  by_cases hq : p.2 < ((at_ f.blocks p.1).phis.length : Int)
  ·rw [if_pos hq]
   exact hw _ (hf.phis _ (X8 h1) _ (X8 ⟨h2, hq⟩)).1
  ·rw [if_neg hq]
   have hz : 0 ≤ p.2 - ((at_ f.blocks p.1).phis.length : Int) ∧ p.2 - ((at_ f.blocks p.1).phis.length : Int) < ((at_ f.blocks p.1).insts.length : Int) := by omega
   have hi := hf.insts _ (X8 h1) _ (X8 hz)
   generalize at_ (at_ f.blocks p.1).insts (p.2 - ((at_ f.blocks p.1).phis.length : Int)) = i at hi
   have hw0 : 0 ≤ i.w := by
    by_cases e : i.op_ = 24 ∨ i.op_ = 25
    ·rw [hi.w0 e]; decide
    ·exact hw _ (hi.w1 e)
   unfold W3 W6
   repeat' split
   all_goals first | exact hw0 | decide
noncomputable def tyIB (f : GFunc) (i : GInst) : Bool :=
 if iB i.op_ 1 17 = true then (typ f i.a == i.w && typ f i.b == i.w) else
 if (i.op_ == 27) = true then typ f i.a == i.w else
 if ((i.op_ == 18) || (i.op_ == 19)) = true then ((typ f i.a != 0) && decide (typ f i.a < i.w)) else
 if (i.op_ == 20) = true then decide (typ f i.a > i.w) else
 if (i.op_ == 22) = true then (typ f i.a == 1 && (typ f i.b == i.w && typ f i.c == i.w)) else
 if (i.op_ == 23) = true then typ f i.a == 32 else
 if (i.op_ == 24) = true then (typ f i.a == 32 && typ f i.b == 8) else
 if (i.op_ == 25) = true then typ f i.a != 0 else true
theorem W0m {f : GFunc} (h : bndF f) (ho : ∀ b ∈ f.blocks, ∀ i ∈ b.insts, okI i) (i : GInst) : Z4q f i = some (tyIB f i) := by
 have e1 : ∀ id w, V0 id w f = some (typ f id == w) := fun id w => by
  unfold V0
  rw [Y5h h ho, obs]
 unfold Z4q tyIB
 rw [Y5h h ho, obs]
 have e2 : U3 i.op_ = iB i.op_ 1 17 := rfl
 rw [e2]
 simp only [e1, obs]
 by_cases c1 : iB i.op_ 1 17 = true
 ·rw [if_pos c1, if_pos c1]
  cases (typ f i.a == i.w) <;> simp
 rw [if_neg c1, if_neg c1]
 by_cases c2 : (i.op_ == 27) = true
 ·rw [if_pos c2, if_pos c2]
 rw [if_neg c2, if_neg c2]
 by_cases c3 : ((i.op_ == 18) || (i.op_ == 19)) = true
 ·rw [if_pos c3, if_pos c3]
 rw [if_neg c3, if_neg c3]
 by_cases c4 : (i.op_ == 20) = true
 ·rw [if_pos c4, if_pos c4]
 rw [if_neg c4, if_neg c4]
 by_cases c5 : (i.op_ == 22) = true
 ·rw [if_pos c5, if_pos c5]
  cases (typ f i.a == 1) <;> cases (typ f i.b == i.w) <;> simp
 rw [if_neg c5, if_neg c5]
 by_cases c6 : (i.op_ == 23) = true
 ·rw [if_pos c6, if_pos c6]
 rw [if_neg c6, if_neg c6]
 by_cases c7 : (i.op_ == 24) = true
 ·rw [if_pos c7, if_pos c7]
  cases (typ f i.a == 32) <;> simp
 rw [if_neg c7, if_neg c7]
 by_cases c8 : (i.op_ == 25) = true
 ·rw [if_pos c8, if_pos c8]
 rw [if_neg c8, if_neg c8]
theorem W0a {f : GFunc} {n m : Int} (h : bndF f) (hf : fmF f n) {i : GInst} (hi : fmI i (cnt f) m) : Z7a f i = some (tyIB f i) := by
 have hc := h.cnt_le
 obtain ⟨l1, l2, l3⟩ := hi.le (by omega)
 have nn : (i.op_ = 18 ∨ i.op_ = 19 ∨ i.op_ = 25) → 0 ≤ typ f i.a := fun e => by
  refine W4y hf (hi.ids _ ?_)
  unfold opsI
  rw [if_neg (by omega), if_pos (by omega)]
  simp
 have pos : ∀ z : Int, 0 ≤ z → decide (z > 0) = (z != 0) := fun z hz => by
  refine W6q ?_
  simp
  omega
 unfold Z7a tyIB
 rw [Y1b h l1, Y1b h l2, Y1b h l3]
 simp only [obs, Y9k]
 by_cases c1 : iB i.op_ 1 17 = true
 ·rw [if_pos c1, if_pos c1]
  cases (typ f i.a == i.w) <;> simp
 rw [if_neg c1, if_neg c1]
 by_cases c3 : ((i.op_ == 18) || (i.op_ == 19)) = true
 ·have c3' : i.op_ = 18 ∨ i.op_ = 19 := by simpa using c3
  rw [if_pos c3, if_neg (show ¬ (i.op_ == 27) = true by simp; omega), if_pos c3, pos _ (nn (by omega))]
 rw [if_neg c3]
 have c3' : ¬ (i.op_ = 18 ∨ i.op_ = 19) := by simpa using c3
 by_cases c4 : (i.op_ == 20) = true
 ·have c4' : i.op_ = 20 := by simpa using c4
  rw [if_pos c4, if_neg (show ¬ (i.op_ == 27) = true by simp; omega), if_neg c3, if_pos c4]
 rw [if_neg c4]
 by_cases c5 : (i.op_ == 22) = true
 ·have c5' : i.op_ = 22 := by simpa using c5
  rw [if_pos c5, if_neg (show ¬ (i.op_ == 27) = true by simp; omega), if_neg c3, if_neg c4, if_pos c5]
  cases (typ f i.a == 1) <;> cases (typ f i.b == i.w) <;> simp
 rw [if_neg c5]
 by_cases c6 : (i.op_ == 23) = true
 ·have c6' : i.op_ = 23 := by simpa using c6
  rw [if_pos c6, if_neg (show ¬ (i.op_ == 27) = true by simp; omega), if_neg c3, if_neg c4, if_neg c5, if_pos c6]
 rw [if_neg c6]
 by_cases c7 : (i.op_ == 24) = true
 ·have c7' : i.op_ = 24 := by simpa using c7
  rw [if_pos c7, if_neg (show ¬ (i.op_ == 27) = true by simp; omega), if_neg c3, if_neg c4, if_neg c5, if_neg c6, if_pos c7]
  cases (typ f i.a == 32) <;> simp
 rw [if_neg c7]
 by_cases c8 : (i.op_ == 25) = true
 ·have c8' : i.op_ = 25 := by simpa using c8
  rw [if_pos c8, if_neg (show ¬ (i.op_ == 27) = true by simp; omega), if_neg c3, if_neg c4, if_neg c5, if_neg c6, if_neg c7, if_pos c8, pos _ (nn (by omega))]
 rw [if_neg c8]
 by_cases c2 : (i.op_ == 27) = true
 ·rw [if_pos c2, if_pos c2]
 ·rw [if_neg c2, if_neg c2, if_neg c3, if_neg c4, if_neg c5, if_neg c6, if_neg c7, if_neg c8]
noncomputable def tyT (f : GFunc) (t : GTerm) : Bool := if (t.kind == 1) = true then (if (typ f t.a != f.ret) = true then true else if (t.kind == 3) = true then typ f t.a != 1 else false) else if (t.kind == 3) = true then typ f t.a != 1 else false
def tyP (f : GFunc) : Prop := ∀ b ∈ f.blocks, (∀ p ∈ b.phis, ∀ x ∈ p.ins, typ f x = p.w) ∧ (∀ i ∈ b.insts, tyIB f i = true) ∧ tyT f b.term = false
theorem W0k {f : GFunc} {n : Int} (h : bndF f) (hf : fmF f n) : Z4p f = some (pB (tyP f)) := by
 have ho := hf.okI
 have hb := h.blocks
 unfold Z4p
 generalize hB : Y6 _ _ = L
 have K := Z7g hB f.blocks (fun b => (∀ p ∈ b.phis, ∀ x ∈ p.ins, typ f x = p.w) ∧ (∀ i ∈ b.insts, tyIB f i = true) ∧ tyT f b.term = false) (by
  intro k hk
  have h0 : 0 ≤ (k : Int) ∧ (k : Int) < (f.blocks.length : Int) := by omega
  have hm := X8 h0
  have hr := h.rows _ hm
  have hi := h.ins _ hm
  rw [if_pos (by simpa using hk), if_pos h0]
  generalize at_ f.blocks (k : Int) = b at hm hr hi ⊢
  generalize hC : Y6 _ _ = M
  have K := Z7g hC b.phis (fun p => ∀ x ∈ p.ins, typ f x = p.w) (by
   intro j hj
   have h1 : 0 ≤ (j : Int) ∧ (j : Int) < (b.phis.length : Int) := by omega
   have hp := X8 h1
   rw [if_pos (by simpa using hj), if_pos h1]
   generalize at_ b.phis (j : Int) = p at hp ⊢
   rw [Z0r p.ins _ (fun x => !pB (typ f x = p.w)) (fun x _ => by
    unfold Z2v
    rw [Y5h h ho, obs]
    congr 1
    rw [X8f]
    exact X1h (by simp)) (by have := hi p hp; omega), obs, X4i]
   by_cases e : ∀ x ∈ p.ins, typ f x = p.w
   ·rw [if_neg (by rw [pB_t e]; decide), if_pos (Y5 (by omega) (by omega)), if_pos (pB_t e)]
   ·rw [if_pos (by rw [pB_f e]; decide), if_neg (by rw [pB_f e]; decide)]) (by rw [if_neg (by simp)])
  rw [K]
  by_cases e1 : ∀ p ∈ b.phis, ∀ x ∈ p.ins, typ f x = p.w
  ·rw [if_pos (pB_t e1), obs]
   simp only
   rw [Z8v b.insts _ (fun i => !tyIB f i) (fun i _ => by
    unfold Z2u
    rw [W0m h ho, obs]) (by omega), obs, Y4f]
   by_cases e2 : b.insts.all (tyIB f) = true
   ·have e2' : ∀ i ∈ b.insts, tyIB f i = true := by simpa using e2
    rw [if_neg (by rw [e2]; decide), Y5h h ho]
    simp only [obs]
    have et : (if (b.term.kind == 1) = true then (if (typ f b.term.a != f.ret) = true then some true else if (b.term.kind == 3) = true then some (typ f b.term.a != 1) else some false) else if (b.term.kind == 3) = true then some (typ f b.term.a != 1) else some false) = some (tyT f b.term) := by
     unfold tyT
     repeat' split
     all_goals rfl
    rw [et, obs]
    by_cases e3 : tyT f b.term = true
    ·rw [if_pos e3, if_neg (by rw [pB_iff]; rintro ⟨_, _, k⟩; rw [e3] at k; cases k)]
    ·have e3' : tyT f b.term = false := by simpa using e3
     rw [if_neg e3, if_pos (Y5 (by omega) (by omega)), if_pos (pB_t ⟨e1, e2', e3'⟩)]
   ·rw [if_pos (by simpa using e2), if_neg (by rw [pB_iff]; rintro ⟨_, k, _⟩; exact e2 (by simpa using k))]
  ·rw [if_neg (by rw [pB_f e1]; decide), obs]
   simp only
   rw [if_neg (by rw [pB_iff]; rintro ⟨k, _⟩; exact e1 k)]) (by rw [if_neg (by simp)])
 rw [K]
 exact end_pB
end
section
theorem phi_le {f : GFunc} {n : Int} (h : bndF f) (hf : fmF f n) {b : GBlock} (hb : b ∈ f.blocks) {p : GPhi} (hp : p ∈ b.phis) {x : Int} (hx : x ∈ p.ins) : 0 ≤ x ∧ x < (cnt f : Int) ∧ x ≤ 9223372036854775807 := by
 have h1 := (hf.phis b hb p hp).2.2 x hx
 have hc := h.cnt_le
 omega
theorem fmT.le {t : GTerm} {n m : Int} (h : fmT t n m) (hn : n ≤ 9223372036854775807) : t.kind = 1 ∨ t.kind = 3 → t.a ≤ 9223372036854775807 := fun e => by
 have := h.a e
 omega
theorem W5b {f : GFunc} {n m : Int} (h : bndF f) {t : GTerm} (ht : fmT t (cnt f) m) :
  (if (t.kind == 1) = true then (Option.bind (V6 f t.a) fun x44 => (if (x44 != f.ret) = true then some true else (if (t.kind == 3) = true then (Option.bind (V6 f t.a) fun x48 => some (x48 != 1)) else some false)))
   else (if (t.kind == 3) = true then (Option.bind (V6 f t.a) fun x51 => some (x51 != 1)) else some false)) = some (tyT f t) := by
 have hc := h.cnt_le
 have hl := ht.le (by omega)
 unfold tyT
 by_cases c1 : (t.kind == 1) = true
 ·have k1 : t.kind = 1 := by simpa using c1
  have k3 : ¬ (t.kind == 3) = true := by simp; omega
  rw [if_pos c1, if_pos c1, Y1b h (hl (.inl k1)), obs, if_neg k3, if_neg k3]
  split <;> rfl
 ·rw [if_neg c1, if_neg c1]
  by_cases c3 : (t.kind == 3) = true
  ·have k3 : t.kind = 3 := by simpa using c3
   rw [if_pos c3, if_pos c3, Y1b h (hl (.inr k3)), obs]
  ·rw [if_neg c3, if_neg c3]
theorem X9z {f : GFunc} {n : Int} (h : bndF f) (hf : fmF f n) : Z5j f = some (pB (tyP f)) := by
 have hb := h.blocks
 unfold Z5j
 generalize hB : Y6 _ _ = L
 have K := Z7g hB f.blocks (fun b => (∀ p ∈ b.phis, ∀ x ∈ p.ins, typ f x = p.w) ∧ (∀ i ∈ b.insts, tyIB f i = true) ∧ tyT f b.term = false) (by
  intro k hk
  have h0 : 0 ≤ (k : Int) ∧ (k : Int) < (f.blocks.length : Int) := by omega
  have hm := X8 h0
  have hr := h.rows _ hm
  have hi := h.ins _ hm
  rw [if_pos (by simpa using hk), if_pos h0]
  generalize at_ f.blocks (k : Int) = b at hm hr hi ⊢
  generalize hC : Y6 _ _ = M
  have K := Z7g hC b.phis (fun p => ∀ x ∈ p.ins, typ f x = p.w) (by
   intro j hj
   have h1 : 0 ≤ (j : Int) ∧ (j : Int) < (b.phis.length : Int) := by omega
   have hp := X8 h1
   rw [if_pos (by simpa using hj)]
   simp only [if_pos h1]
   generalize at_ b.phis (j : Int) = p at hp ⊢
   have hpl := hi p hp
   generalize hD : Y6 _ _ = N
   have K := Z7g hD p.ins (fun x => typ f x = p.w) (by
    intro q hq
    have h2 : 0 ≤ (q : Int) ∧ (q : Int) < (p.ins.length : Int) := by omega
    have hx := phi_le h hf hm hp (X8 h2)
    rw [if_pos (by simpa using hq), if_pos h2, Y1b h hx.2.2, obs]
    generalize at_ p.ins (q : Int) = x
    by_cases e : typ f x = p.w
    ·rw [if_neg (by simpa using e), if_pos (Y5 (by omega) (by omega)), if_pos (pB_t e)]
    ·rw [if_pos (by simpa using e), if_neg (by rw [pB_f e]; decide)]) (by rw [if_neg (by simp)])
   rw [K, obs]
   by_cases e : ∀ x ∈ p.ins, typ f x = p.w
   ·rw [pB_t e]
    simp only [if_true]
    rw [if_pos (Y5 (by omega) (by omega))]
   ·rw [pB_f e]; rfl) (by rw [if_neg (by simp)])
  rw [K, obs]
  by_cases e1 : ∀ p ∈ b.phis, ∀ x ∈ p.ins, typ f x = p.w
  ·rw [if_pos (pB_t e1)]
   simp only
   generalize hE : Y6 _ _ = N
   have K := Z7g hE b.insts (fun i => tyIB f i = true) (by
    intro q hq
    have h2 : 0 ≤ (q : Int) ∧ (q : Int) < (b.insts.length : Int) := by omega
    have hx := hf.insts b hm _ (X8 h2)
    rw [if_pos (by simpa using hq), if_pos h2, W0a h hf hx, obs]
    generalize at_ b.insts (q : Int) = i
    by_cases e : tyIB f i = true
    ·rw [if_neg (by rw [e]; decide), if_pos (Y5 (by omega) (by omega)), if_pos (pB_t e)]
    ·rw [if_pos (by simpa using e), if_neg (by rw [pB_f e]; decide)]) (by rw [if_neg (by simp)])
   rw [K, obs]
   by_cases e2 : ∀ i ∈ b.insts, tyIB f i = true
   ·rw [if_pos (pB_t e2)]
    simp only
    rw [W5b (n := n) h (hf.terms b hm), obs]
    by_cases e3 : tyT f b.term = true
    ·rw [if_pos e3, if_neg (by rw [pB_iff]; rintro ⟨_, _, k⟩; rw [e3] at k; cases k)]
    ·have e3' : tyT f b.term = false := by simpa using e3
     rw [if_neg e3, if_pos (Y5 (by omega) (by omega)), if_pos (pB_t ⟨e1, e2, e3'⟩)]
   ·rw [if_neg (by rw [pB_f e2]; decide)]
    simp only
    rw [if_neg (by rw [pB_iff]; rintro ⟨_, k, _⟩; exact e2 k)]
  ·rw [if_neg (by rw [pB_f e1]; decide)]
   simp only
   rw [if_neg (by rw [pB_iff]; rintro ⟨k, _⟩; exact e1 k)]) (by rw [if_neg (by simp)])
 rw [K]
 exact end_pB
def phP (f : GFunc) : Prop := ∀ k : Nat, k < f.blocks.length → ∀ p ∈ (at_ f.blocks (k : Int)).phis, p.ins.length = (Z0d f (k : Int)).length
theorem W3e {f : GFunc} (h : bndF f) : Z5y f = some (pB (phP f)) := by
 have hb := h.blocks
 unfold Z5y
 generalize hB : Y6 _ _ = L
 have K := Z8s hB f.blocks.length (fun k => ∀ p ∈ (at_ f.blocks (k : Int)).phis, p.ins.length = (Z0d f (k : Int)).length) (by
  intro k hk
  have h0 : 0 ≤ (k : Int) ∧ (k : Int) < (f.blocks.length : Int) := by omega
  have hr := h.rows _ (X8 h0)
  rw [if_pos (by simpa using hk), if_pos h0, Y6p hb, obs]
  rw [Y2z _ _ (fun p => !pB (p.ins.length = (Z0d f (k : Int)).length)) (fun p _ => by
   unfold Z1s
   congr 1
   rw [X8f]
   exact X1h (by simp only [bne_iff_ne, ne_eq]; omega)) (by omega), obs, X4i]
  by_cases e : ∀ p ∈ (at_ f.blocks (k : Int)).phis, p.ins.length = (Z0d f (k : Int)).length
  ·rw [if_neg (by rw [pB_t e]; decide), if_pos (Y5 (by omega) (by omega)), if_pos (pB_t e)]
  ·rw [if_pos (by rw [pB_f e]; decide), if_neg (by rw [pB_f e]; decide)]) (by rw [if_neg (by simp)])
 rw [K]
 exact end_pB
theorem W1r {f : GFunc} (h : bndF f) : Z6x f = some (pB (phP f)) := by
 have hb := h.blocks
 unfold Z6x
 generalize hB : Y6 _ _ = L
 have K := Z8s hB f.blocks.length (fun k => ∀ p ∈ (at_ f.blocks (k : Int)).phis, p.ins.length = (Z0d f (k : Int)).length) (by
  intro k hk
  have h0 : 0 ≤ (k : Int) ∧ (k : Int) < (f.blocks.length : Int) := by omega
  have hr := h.rows _ (X8 h0)
  rw [if_pos (by simpa using hk), Y5y hb, obs]
  simp only [if_pos h0]
  generalize hC : Y6 _ _ = M
  have K := Z7g hC (at_ f.blocks (k : Int)).phis (fun p => p.ins.length = (Z0d f (k : Int)).length) (by
   intro j hj
   have h1 : 0 ≤ (j : Int) ∧ (j : Int) < ((at_ f.blocks (k : Int)).phis.length : Int) := by omega
   rw [if_pos (by simpa using hj), if_pos h1]
   by_cases e : (at_ (at_ f.blocks (k : Int)).phis (j : Int)).ins.length = (Z0d f (k : Int)).length
   ·rw [if_neg (by simp only [bne_iff_ne, ne_eq]; omega), if_pos (Y5 (by omega) (by omega)), if_pos (pB_t e)]
   ·rw [if_pos (by simp only [bne_iff_ne, ne_eq]; omega), if_neg (by rw [pB_f e]; decide)]) (by rw [if_neg (by simp)])
  rw [K, obs]
  by_cases e : ∀ p ∈ (at_ f.blocks (k : Int)).phis, p.ins.length = (Z0d f (k : Int)).length
  ·rw [pB_t e]
   simp only [if_true]
   rw [if_pos (Y5 (by omega) (by omega))]
  ·rw [pB_f e]; rfl) (by rw [if_neg (by simp)])
 rw [K]
 exact end_pB
def enP (f : GFunc) : Prop := (at_ f.blocks 0).phis = [] ∧ Z0d f 0 = []
theorem W0q {f : GFunc} (h : bndF f) (hn : 1 ≤ f.blocks.length) : Z5u f = some (pB (enP f)) := by
 have hb := h.blocks
 unfold Z5u
 rw [if_pos ⟨by decide, by omega⟩, Y6p hb]
 simp only [obs]
 by_cases e : (at_ f.blocks 0).phis = []
 ·rw [if_pos (by rw [e]; rfl), obs]
  congr 1
  refine X1h ?_
  unfold enP
  simp [e]
 ·rw [if_neg (by simpa using e), obs, pB_f (fun k => e k.1)]
theorem W0c {f : GFunc} (h : bndF f) (hn : 1 ≤ f.blocks.length) : (Option.bind (Z0v f 0) fun x2 => (if decide (((List.length x2 : Int)) > 0) = true then (some true) else (if (0 : Int) ≤ 0 ∧ 0 < (List.length f.blocks : Int) then (some (decide (((List.length ((at_ f.blocks 0).phis) : Int)) > 0))) else none))) = some (!pB (enP f)) := by
 have hb := h.blocks
 rw [Y5y hb, obs]
 unfold enP
 by_cases e : Z0d f 0 = []
 ·rw [if_neg (by simp [e]), if_pos ⟨by decide, by omega⟩]
  congr 1
  rw [X8f]
  refine X1h ?_
  simp [e, List.length_pos_iff]
 ·rw [if_pos (by simpa [List.length_pos_iff] using e), pB_f (fun k => e k.2)]
  rfl
def X4f (m : GModule) (f : GFunc) (i : GInst) : Prop := i.w = (at_ m.funcs i.imm).ret ∧ i.args.length = (at_ m.funcs i.imm).params.length ∧ ∀ k : Nat, k < i.args.length → typ f (at_ i.args (k : Int)) = at_ (at_ m.funcs i.imm).params (k : Int)
theorem W3h {m : GModule} {f : GFunc} (h : bndF f) (ho : ∀ b ∈ f.blocks, ∀ i ∈ b.insts, okI i) {i : GInst} (hl : i.args.length ≤ 1000000000000) (hi : 0 ≤ i.imm ∧ i.imm < (m.funcs.length : Int)) : Z7j m f i = some (pB (X4f m f i)) := by
 unfold Z7j
 rw [if_pos hi]
 by_cases e1 : i.w = (at_ m.funcs i.imm).ret
 ·by_cases e2 : i.args.length = (at_ m.funcs i.imm).params.length
  ·rw [if_neg (by simp [e1, e2])]
   generalize hB : Y6 _ _ = L
   have K := Z8s hB i.args.length (fun k => typ f (at_ i.args (k : Int)) = at_ (at_ m.funcs i.imm).params (k : Int)) (by
    intro k hk
    rw [if_pos (by simpa using hk), if_pos ⟨by omega, by omega⟩, if_pos ⟨by omega, by omega⟩, Y5h h ho, obs]
    by_cases e : typ f (at_ i.args (k : Int)) = at_ (at_ m.funcs i.imm).params (k : Int)
    ·rw [if_neg (by simpa using e), if_pos (Y5 (by omega) (by omega)), if_pos (pB_t e)]
    ·rw [if_pos (by simpa using e), if_neg (by rw [pB_f e]; decide)]) (by rw [if_neg (by simp)])
   rw [K]
   refine end_pB.trans ?_
   congr 1
   exact Z7d ⟨fun k => ⟨e1, e2, k⟩, fun k => k.2.2⟩
  ·rw [if_pos (by
   split
   ·rfl
   ·simp only [bne_iff_ne, ne_eq]; omega), pB_f (fun k => e2 k.2.1)]
 ·rw [if_pos (by simp [e1]), pB_f (fun k => e1 k.1)]
def clP (m : GModule) (f : GFunc) : Prop := ∀ b ∈ f.blocks, ∀ i ∈ b.insts, i.op_ = 26 → X4f m f i
theorem W0f {m : GModule} {f : GFunc} (h : bndF f) (hf : fmF f m.funcs.length) : Z5k m f = some (pB (clP m f)) := by
 have hb := h.blocks
 have hc := h.cnt_le
 unfold Z5k
 generalize hB : Y6 _ _ = L
 have K := Z7g hB f.blocks (fun b => ∀ i ∈ b.insts, i.op_ = 26 → X4f m f i) (by
  intro k hk
  have h0 : 0 ≤ (k : Int) ∧ (k : Int) < (f.blocks.length : Int) := by omega
  have hm := X8 h0
  have hr := h.rows _ hm
  rw [if_pos (by simpa using hk)]
  simp only [if_pos h0]
  generalize at_ f.blocks (k : Int) = b at hm hr ⊢
  generalize hC : Y6 _ _ = M
  have K := Z7g hC b.insts (fun i => i.op_ = 26 → X4f m f i) (by
   intro j hj
   have h1 : 0 ≤ (j : Int) ∧ (j : Int) < (b.insts.length : Int) := by omega
   have hx := hf.insts b hm _ (X8 h1)
   have hal := h.args b hm _ (X8 h1)
   rw [if_pos (by simpa using hj), if_pos h1]
   generalize at_ b.insts (j : Int) = i at hx hal ⊢
   by_cases e0 : i.op_ = 26
   ·rw [if_neg (by simpa using e0), if_pos (hx.call e0)]
    by_cases e1 : i.w = (at_ m.funcs i.imm).ret
    ·by_cases e2 : i.args.length = (at_ m.funcs i.imm).params.length
     ·rw [if_neg (by simp [e1, e2])]
      generalize hD : Y6 _ _ = N
      have K := Z8s hD i.args.length (fun k => typ f (at_ i.args (k : Int)) = at_ (at_ m.funcs i.imm).params (k : Int)) (by
       intro k hk
       have ha : at_ i.args (k : Int) ∈ opsI i := by
        unfold opsI
        rw [if_neg (by omega), if_neg (by omega), if_neg (by omega), if_pos e0]
        exact X8 ⟨by omega, by omega⟩
       have hin := hx.ids _ ha
       rw [if_pos (by simpa using hk), if_pos ⟨by omega, by omega⟩, if_pos ⟨by omega, by omega⟩, Y1b h (by omega), obs]
       by_cases e : typ f (at_ i.args (k : Int)) = at_ (at_ m.funcs i.imm).params (k : Int)
       ·rw [if_neg (by simpa using e), if_pos (Y5 (by omega) (by omega)), if_pos (pB_t e)]
       ·rw [if_pos (by simpa using e), if_neg (by rw [pB_f e]; decide)]) (by rw [if_neg (by simp)])
      rw [K, obs]
      by_cases e : ∀ k : Nat, k < i.args.length → typ f (at_ i.args (k : Int)) = at_ (at_ m.funcs i.imm).params (k : Int)
      ·rw [pB_t e, pB_t (fun _ => ⟨e1, e2, e⟩)]
       simp only [if_true]
       rw [if_pos (Y5 (by omega) (by omega))]
      ·rw [pB_f e, pB_f (fun k => e (k e0).2.2)]; rfl
     ·rw [if_pos (by
   split
   ·rfl
   ·simp only [bne_iff_ne, ne_eq]; omega), pB_f (fun k => e2 (k e0).2.1)]; rfl
    ·rw [if_pos (by simp [e1]), pB_f (fun k => e1 (k e0).1)]; rfl
   ·rw [if_pos (by simpa using e0), if_pos (Y5 (by omega) (by omega)), if_pos (pB_t fun k => absurd k e0)]) (by rw [if_neg (by simp)])
  rw [K, obs]
  by_cases e : ∀ i ∈ b.insts, i.op_ = 26 → X4f m f i
  ·rw [pB_t e]
   simp only [if_true]
   rw [if_pos (Y5 (by omega) (by omega))]
  ·rw [pB_f e]; rfl) (by rw [if_neg (by simp)])
 rw [K]
 exact end_pB
end
section
theorem fmF.graph {f : GFunc} {n : Int} (h : fmF f n) : GraphOk f := by
 refine ⟨h.blocks.1, h.blocks.2, fun b hb x hx => ?_⟩
 have ht := h.terms b hb
 unfold W8 at hx
 by_cases c2 : (b.term.kind == 2) = true
 ·have k2 : b.term.kind = 2 := by simpa using c2
  rw [if_pos c2] at hx
  simp only [List.mem_singleton] at hx
  have := ht.x (.inl k2)
  omega
 ·rw [if_neg c2] at hx
  by_cases c3 : (b.term.kind == 3) = true
  ·have k3 : b.term.kind = 3 := by simpa using c3
   rw [if_pos c3] at hx
   simp only [List.mem_cons, List.not_mem_nil, or_false] at hx
   have h1 := ht.x (.inr k3)
   have h2 := ht.y k3
   omega
  ·rw [if_neg c3] at hx
   cases hx
theorem W0p {f : GFunc} (h : bndF f) {b : Nat} (hb : b < f.blocks.length) : Z5v f (b : Int) = some (pre f b : Int) := by
 have hbl := h.blocks
 unfold Z5v
 rw [if_pos ⟨by omega, by omega, by simp only [Int.toNat_natCast]; omega⟩]
 simp only [Int.toNat_natCast, Nat.sub_zero, List.drop_zero]
 have hl : (f.blocks.take b).length = b := by rw [List.length_take]; omega
 generalize hB : Y6 _ _ = L
 have K := Y1i hB (fun k => ((k : Int), (pre f k : Int))) b (pre f b : Int) (by simp [pre, sumz]) (by
  intro k hk
  have hat : at_ (f.blocks.take b) (k : Int) = at_ f.blocks (k : Int) := by
   rw [Z5f (by omega), Z5f (by omega), List.getElem_take]
  have hr := h.rows _ (X8 (xs := f.blocks) (n := (k : Int)) ⟨by omega, by omega⟩)
  have hp := h.pre_le k
  simp only [hl, hat]
  rw [if_pos (by simpa using hk), if_pos ⟨by omega, by omega⟩, if_pos (Y5 (by omega) (by omega)), if_pos (Y5 (by omega) (by omega)), Y4p (by omega)]
  unfold sz
  simp) (by
  simp only [hl]
  rw [if_neg (by simp)])
 rw [K, obs]
theorem W3i {f : GFunc} (hg : GraphOk f) (a : Int) {b : Nat} (hb : b < f.blocks.length) : Z1r f a (b : Int) = some (pB (Rch f (-1) (b : Int) ∧ ¬ Rch f a (b : Int))) := by
 obtain ⟨o1, e1, l1, h1⟩ := Y8j hg (-1)
 obtain ⟨o2, e2, l2, h2⟩ := Y8j hg a
 unfold Z1r
 rw [e1, e2]
 simp only [obs]
 rw [if_pos (show 0 ≤ (b : Int) ∧ (b : Int) < (o1.length : Int) from ⟨by omega, by omega⟩), if_pos (show 0 ≤ (b : Int) ∧ (b : Int) < (o2.length : Int) from ⟨by omega, by omega⟩)]
 by_cases r1 : Rch f (-1) (b : Int)
 ·rw [if_pos ((h1 b hb).2 r1), obs]
  congr 1
  refine X1h ?_
  rw [Bool.not_eq_true', ← Bool.not_eq_true, h2 b hb]
  exact ⟨fun k => ⟨r1, k⟩, fun k => k.2⟩
 ·rw [if_neg (fun k => r1 ((h1 b hb).1 k)), obs, pB_f (fun k => r1 k.1)]
theorem specDom {f : GFunc} (hg : GraphOk f) (a b : Int) : Z8e f a b = some (pB (Rch f (-1) b ∧ ¬ Rch f a b)) := by
 obtain ⟨o1, e1, _, l1, h1⟩ := Y6j hg (-1)
 obtain ⟨o2, e2, _, l2, h2⟩ := Y6j hg a
 unfold Z8e
 rw [e1, e2]
 simp only [obs]
 rw [Y4z _ _ (by omega), Y4z _ _ (by omega)]
 simp only [obs]
 by_cases r1 : Rch f (-1) b
 ·rw [if_pos (decide_eq_true ((h1 b).2 r1)), obs]
  congr 1
  refine X1h ?_
  rw [Bool.not_eq_true', decide_eq_false_iff_not, h2 b]
  exact ⟨fun k => ⟨r1, k⟩, fun k => k.2⟩
 ·rw [if_neg (by rw [decide_eq_true_eq, h1 b]; exact r1), obs, pB_f (fun k => r1 k.1)]
def seeP (f : GFunc) (id b at' : Int) : Prop := (X2 f id).1 = -1 ∨ ((X2 f id).1 ≠ -1 ∧ (X2 f id).1 = b ∧ (X2 f id).2 < at') ∨ ((X2 f id).1 ≠ -1 ∧ (X2 f id).1 ≠ b ∧ Rch f (-1) b ∧ ¬ Rch f (X2 f id).1 b)
theorem X6w {f : GFunc} (h : bndF f) (hg : GraphOk f) {id : Int} {b : Nat} (hb : b < f.blocks.length) {ahead at' : Int} (ha : (X2 f id).1 = (b : Int) → (id < ahead ↔ (X2 f id).2 < at')) : Z3f f id (b : Int) ahead = some (pB (seeP f id b at')) := by
 unfold Z3f seeP
 rw [Y2u h, obs]
 by_cases c1 : (X2 f id).1 = -1
 ·rw [if_pos (by simpa using c1), pB_t (.inl c1)]
 ·rw [if_neg (by simpa using c1)]
  by_cases c2 : (X2 f id).1 = (b : Int)
  ·rw [if_pos (by simpa using c2)]
   congr 1
   refine X1h ?_
   rw [decide_eq_true_eq, ha c2]
   constructor
   ·exact fun k => .inr (.inl ⟨c1, c2, k⟩)
   ·rintro (k | k | k)
    ·exact absurd k c1
    ·exact k.2.2
    ·exact absurd c2 k.2.1
  ·rw [if_neg (by simpa using c2), W3i hg _ hb, obs]
   congr 1
   refine Z7d ⟨fun k => .inr (.inr ⟨c1, c2, k⟩), ?_⟩
   rintro (k | k | k)
   ·exact absurd k c1
   ·exact absurd k.2.1 c2
   ·exact k.2.2
theorem X2p {f : GFunc} (h : bndF f) (hg : GraphOk f) {id : Int} (hid : 0 ≤ id ∧ id < (cnt f : Int)) (b at' : Int) : Z0g f id b at' = some (pB (seeP f id b at')) := by
 have hc := h.cnt_le
 unfold Z0g seeP
 rw [X4t h (by omega), obs]
 by_cases c1 : (X2 f id).1 = -1
 ·rw [if_pos (by simpa using c1), pB_t (.inl c1)]
 ·rw [if_neg (by simpa using c1)]
  by_cases c2 : (X2 f id).1 = b
  ·rw [if_pos (by simpa using c2)]
   congr 1
   refine X1h ?_
   rw [decide_eq_true_eq]
   constructor
   ·exact fun k => .inr (.inl ⟨c1, c2, k⟩)
   ·rintro (k | k | k)
    ·exact absurd k c1
    ·exact k.2.2
    ·exact absurd c2 k.2.1
  ·have c3 : (X2 f id).1 ≥ 0 := by
    have := Y4q hid
    rcases Z1w f id with hp | ⟨hp, h1, h2⟩ | ⟨h1, h2, h3⟩
    ·exact absurd (by rw [hp]) this
    ·exact absurd (by rw [hp]) c1
    ·exact h1.1
   rw [if_neg (by simpa using c2), if_pos (by simpa using c3), specDom hg, obs, obs]
   congr 1
   refine Z7d ⟨fun k => .inr (.inr ⟨c1, c2, k⟩), ?_⟩
   rintro (k | k | k)
   ·exact absurd k c1
   ·exact absurd k.2.1 c2
   ·exact k.2.2
def X4v (f : GFunc) (b : Int) : Prop :=
 (∀ j : Nat, j < (at_ f.blocks b).phis.length → ∀ k : Nat, k < (Z0d f b).length → Rch f (-1) (at_ (Z0d f b) (k : Int)) → seeP f (at_ (at_ (at_ f.blocks b).phis (j : Int)).ins (k : Int)) (at_ (Z0d f b) (k : Int)) (sz (at_ f.blocks (at_ (Z0d f b) (k : Int))))) ∧
 (∀ i : Nat, i < (at_ f.blocks b).insts.length → ∀ x ∈ opsI (at_ (at_ f.blocks b).insts (i : Int)), seeP f x b (((at_ f.blocks b).phis.length : Int) + i)) ∧
 ((at_ f.blocks b).term.kind = 1 ∨ (at_ f.blocks b).term.kind = 3 → seeP f (at_ f.blocks b).term.a b (sz (at_ f.blocks b)))
theorem X3c {f : GFunc} {id b : Int} (hb : 0 ≤ b) (h : (X2 f id).1 = b) : (X2 f id).2 < (sz (at_ f.blocks b) : Int) ∧ id = (pre f b.toNat : Int) + (X2 f id).2 := by
 refine ⟨?_, by rw [← h]; exact W2i (by omega)⟩
 rcases Z1w f id with hp | ⟨hp, h1, h2⟩ | ⟨h1, h2, h3⟩
 ·rw [hp] at h; simp at h; omega
 ·rw [hp] at h; simp at h; omega
 ·rw [← h]; exact h3
theorem W5z {f : GFunc} {n : Int} (h : bndF f) (hf : fmF f n) (hp : phP f) {b : Nat} (hb : b < f.blocks.length) {R : List Bool} (hR : R.length = f.blocks.length) (hR2 : ∀ k : Nat, k < f.blocks.length → (at_ R (k : Int) = true ↔ Rch f (-1) (k : Int))) :
  Z5x f (b : Int) R = some (pB (X4v f (b : Int))) := by
 have hbl := h.blocks
 have hg := hf.graph
 have hc := h.cnt_le
 have h0 : 0 ≤ (b : Int) ∧ (b : Int) < (f.blocks.length : Int) := by omega
 have hm := X8 h0
 have hr := h.rows _ hm
 have hpb := hp b hb
 unfold Z5x
 rw [if_pos h0, Y6p hbl, obs]
 generalize hB : Y6 _ _ = L
 have K := Z8s hB (at_ f.blocks (b : Int)).phis.length (fun j => ∀ k : Nat, k < (Z0d f (b : Int)).length → Rch f (-1) (at_ (Z0d f (b : Int)) (k : Int)) → seeP f (at_ (at_ (at_ f.blocks (b : Int)).phis (j : Int)).ins (k : Int)) (at_ (Z0d f (b : Int)) (k : Int)) (sz (at_ f.blocks (at_ (Z0d f (b : Int)) (k : Int))))) (by
  intro j hj
  have h1 : 0 ≤ (j : Int) ∧ (j : Int) < ((at_ f.blocks (b : Int)).phis.length : Int) := by omega
  have hpm := X8 h1
  have hpl := hpb _ hpm
  have hpf := (hf.phis _ hm _ hpm)
  rw [if_pos (by simpa using hj), if_pos h1]
  generalize at_ (at_ f.blocks (b : Int)).phis (j : Int) = p at hpm hpl hpf ⊢
  generalize hC : Y6 _ _ = M
  have K := Z8s hC p.ins.length (fun k => Rch f (-1) (at_ (Z0d f (b : Int)) (k : Int)) → seeP f (at_ p.ins (k : Int)) (at_ (Z0d f (b : Int)) (k : Int)) (sz (at_ f.blocks (at_ (Z0d f (b : Int)) (k : Int))))) (by
   intro k hk
   have h2 : 0 ≤ (k : Int) ∧ (k : Int) < (p.ins.length : Int) := by omega
   have h3 : 0 ≤ (k : Int) ∧ (k : Int) < ((Z0d f (b : Int)).length : Int) := by omega
   have hq := (mem_predL.1 (X8 h3)).1
   have hid := hpf.2.2 _ (X8 h2)
   rw [if_pos (by simpa using hk), if_pos h2, if_pos h3]
   generalize at_ (Z0d f (b : Int)) (k : Int) = q at hq ⊢
   generalize at_ p.ins (k : Int) = x at hid ⊢
   obtain ⟨q', rfl⟩ := Int.eq_ofNat_of_zero_le hq.1
   rw [if_pos ⟨hq.1, by rw [hR]; exact hq.2⟩]
   by_cases r : Rch f (-1) (q' : Int)
   ·rw [if_pos ((hR2 q' (by omega)).2 r), if_pos h3, Y2v h, obs, X6w h hg (by omega) (at' := (sz (at_ f.blocks (q' : Int)) : Int)) (fun e => by
     have := X3c hq.1 e
     exact ⟨fun _ => this.1, fun _ => hid.2⟩), obs]
    by_cases e : seeP f x (q' : Int) (sz (at_ f.blocks (q' : Int)))
    ·rw [pB_t e, obs, if_neg (by decide), if_pos (Y5 (by omega) (by omega)), if_pos (pB_t fun _ => e)]
    ·rw [pB_f e, obs, if_pos (by decide), if_neg (by rw [pB_f (fun k => e (k r))]; decide)]
   ·rw [if_neg (fun k => r ((hR2 q' (by omega)).1 k)), obs, if_neg (by decide), if_pos (Y5 (by omega) (by omega)), if_pos (pB_t fun k => absurd k r)]) (by rw [if_neg (by simp)])
  rw [K, obs, hpl]
  by_cases e : ∀ k : Nat, k < (Z0d f (b : Int)).length → Rch f (-1) (at_ (Z0d f (b : Int)) (k : Int)) → seeP f (at_ p.ins (k : Int)) (at_ (Z0d f (b : Int)) (k : Int)) (sz (at_ f.blocks (at_ (Z0d f (b : Int)) (k : Int))))
  ·rw [pB_t e]
   simp only [if_true]
   rw [if_pos (Y5 (by omega) (by omega))]
  ·rw [pB_f e]; rfl) (by rw [if_neg (by simp)])
 rw [K, obs]
 unfold X4v
 generalize hP1 : (∀ j : Nat, j < (at_ f.blocks (b : Int)).phis.length → ∀ k : Nat, k < (Z0d f (b : Int)).length → Rch f (-1) (at_ (Z0d f (b : Int)) (k : Int)) → seeP f (at_ (at_ (at_ f.blocks (b : Int)).phis (j : Int)).ins (k : Int)) (at_ (Z0d f (b : Int)) (k : Int)) (sz (at_ f.blocks (at_ (Z0d f (b : Int)) (k : Int))))) = P1
 by_cases e1 : P1
 ·rw [if_pos (pB_t e1)]
  simp only
  have hpre := h.pre_le b
  rw [W0p h hb, obs, if_pos (Y5 (by omega) (by omega)), obs]
  generalize hD : Y6 _ _ = N
  have K := Z8s hD (at_ f.blocks (b : Int)).insts.length (fun i => ∀ x ∈ opsI (at_ (at_ f.blocks (b : Int)).insts (i : Int)), seeP f x (b : Int) (((at_ f.blocks (b : Int)).phis.length : Int) + i)) (by
   intro i hi
   have h1 : 0 ≤ (i : Int) ∧ (i : Int) < ((at_ f.blocks (b : Int)).insts.length : Int) := by omega
   have him := X8 h1
   have hal := h.args _ hm _ him
   have hfi := hf.insts _ hm _ him
   rw [if_pos (by simpa using hi), if_pos h1, X6x hal, obs]
   generalize at_ (at_ f.blocks (b : Int)).insts (i : Int) = x at him hal hfi ⊢
   have hol : (opsI x).length ≤ 140737488355328 := by
    rcases X5i (i := x) with o | ⟨o, _⟩
    ·omega
    ·rw [o]; omega
   rw [Z0r _ _ (fun z => !pB (seeP f z (b : Int) (((at_ f.blocks (b : Int)).phis.length : Int) + i))) (fun z hz => by
    unfold Z3n
    have hin := hfi.ids z hz
    rw [Z6j (by omega) (by omega), X6w h hg hb (at' := ((at_ f.blocks (b : Int)).phis.length : Int) + i) (fun e => by
     have := (X3c h0.1 e).2
     simp only [Int.toNat_natCast] at this
     omega), obs]) hol, obs, X4i]
   by_cases e : ∀ z ∈ opsI x, seeP f z (b : Int) (((at_ f.blocks (b : Int)).phis.length : Int) + i)
   ·rw [if_neg (by rw [pB_t e]; decide), if_pos (Y5 (by omega) (by omega)), if_pos (pB_t e)]
   ·rw [if_pos (by rw [pB_f e]; decide), if_neg (by rw [pB_f e]; decide)]) (by rw [if_neg (by simp)])
  rw [K, obs]
  generalize hP2 : (∀ i : Nat, i < (at_ f.blocks (b : Int)).insts.length → ∀ x ∈ opsI (at_ (at_ f.blocks (b : Int)).insts (i : Int)), seeP f x (b : Int) (((at_ f.blocks (b : Int)).phis.length : Int) + i)) = P2
  by_cases e2 : P2
  ·rw [if_pos (pB_t e2)]
   simp only
   have ht := hf.terms _ hm
   by_cases e3 : (at_ f.blocks (b : Int)).term.kind = 1 ∨ (at_ f.blocks (b : Int)).term.kind = 3
   ·have ha := ht.a e3
    rw [if_neg (by rcases e3 with e3 | e3 <;> simp [e3]), Y2v h, obs, X6w h hg hb (at' := (sz (at_ f.blocks (b : Int)) : Int)) (fun e => by
     have := X3c h0.1 e
     exact ⟨fun _ => this.1, fun _ => ha.2⟩), obs, obs]
    congr 1
    exact Z7d ⟨fun k => ⟨e1, e2, fun _ => k⟩, fun k => k.2.2 e3⟩
   ·rw [if_pos (by
     have k1 : ¬ (at_ f.blocks (b : Int)).term.kind = 1 := fun k => e3 (.inl k)
     have k3 : ¬ (at_ f.blocks (b : Int)).term.kind = 3 := fun k => e3 (.inr k)
     simp [k1, k3]), obs, pB_t ⟨e1, e2, fun k => absurd k e3⟩]
  ·rw [if_neg (by rw [pB_f e2]; decide)]
   simp only
   rw [pB_f (fun k => e2 k.2.1)]
 ·rw [if_neg (by rw [pB_f e1]; decide)]
  simp only
  rw [pB_f (fun k => e1 k.1)]
end
section
def domP (f : GFunc) : Prop := ∀ b, Rch f (-1) b → X4v f b
theorem W1s {f : GFunc} {n : Int} (h : bndF f) (hf : fmF f n) (hp : phP f) : Z6z f = some (pB (domP f)) := by
 have hbl := h.blocks
 have hg := hf.graph
 have hc := h.cnt_le
 obtain ⟨out, eo, _, lo, ho⟩ := Y6j hg (-1)
 unfold Z6z
 rw [eo, obs]
 generalize hB : Y6 _ _ = L
 have K := Z7g hB out (fun b => X4v f b) (by
  intro kk hkk
  have hk0 : 0 ≤ (kk : Int) ∧ (kk : Int) < (out.length : Int) := by omega
  have hbr := (ho _).1 (X8 hk0)
  have h0' := hbr.lt hg
  rw [if_pos (by simpa using hkk), if_pos hk0, if_pos h0']
  generalize hbb : at_ out (kk : Int) = bb at hbr h0' ⊢
  obtain ⟨b, rfl⟩ := Int.eq_ofNat_of_zero_le h0'.1
  have hb : b < f.blocks.length := by omega
  have h0 := h0'
  have hm := X8 h0
  have hr := h.rows _ hm
  have hpb := hp b hb
  rw [Y5y hbl, obs]
  generalize hC0 : Y6 _ _ = M0
  have K := Z8s hC0 (at_ f.blocks (b : Int)).phis.length (fun j => ∀ k : Nat, k < (Z0d f (b : Int)).length → Rch f (-1) (at_ (Z0d f (b : Int)) (k : Int)) → seeP f (at_ (at_ (at_ f.blocks (b : Int)).phis (j : Int)).ins (k : Int)) (at_ (Z0d f (b : Int)) (k : Int)) (sz (at_ f.blocks (at_ (Z0d f (b : Int)) (k : Int))))) (by
   intro j hj
   have h1 : 0 ≤ (j : Int) ∧ (j : Int) < ((at_ f.blocks (b : Int)).phis.length : Int) := by omega
   have hpm := X8 h1
   have hpl := hpb _ hpm
   have hpf := (hf.phis _ hm _ hpm)
   rw [if_pos (by simpa using hj)]
   simp only [if_pos h1]
   generalize at_ (at_ f.blocks (b : Int)).phis (j : Int) = p at hpm hpl hpf ⊢
   generalize hC : Y6 _ _ = M
   have K := Z8s hC (Z0d f (b : Int)).length (fun k => Rch f (-1) (at_ (Z0d f (b : Int)) (k : Int)) → seeP f (at_ p.ins (k : Int)) (at_ (Z0d f (b : Int)) (k : Int)) (sz (at_ f.blocks (at_ (Z0d f (b : Int)) (k : Int))))) (by
    intro k hk
    have h2 : 0 ≤ (k : Int) ∧ (k : Int) < (p.ins.length : Int) := by omega
    have h3 : 0 ≤ (k : Int) ∧ (k : Int) < ((Z0d f (b : Int)).length : Int) := by omega
    have hq := (mem_predL.1 (X8 h3)).1
    have hid := hpf.2.2 _ (X8 h2)
    have hpl2 := W2h f (b : Int)
    rw [if_pos (by simpa using hk)]
    simp only [if_pos h3, if_pos h2]
    rw [if_pos hq]
    generalize at_ (Z0d f (b : Int)) (k : Int) = q at hq ⊢
    generalize at_ p.ins (k : Int) = x at hid ⊢
    have hrq := h.rows _ (X8 hq)
    rw [Y4z _ _ (by omega), obs, Z6j (by omega) (by omega)]
    by_cases r : Rch f (-1) q
    ·rw [if_pos (decide_eq_true ((ho _).2 r)), X2p h hg hid]
     have es : (((at_ f.blocks q).phis.length : Int) + ((at_ f.blocks q).insts.length : Int)) = (sz (at_ f.blocks q) : Int) := by unfold sz; omega
     rw [es, obs]
     by_cases e : seeP f x q (sz (at_ f.blocks q))
     ·rw [pB_t e, obs, if_neg (by decide), if_pos (Y5 (by omega) (by omega)), if_pos (pB_t fun _ => e)]
     ·rw [pB_f e, obs, if_pos (by decide), if_neg (by rw [pB_f (fun k => e (k r))]; decide)]
    ·rw [if_neg (by rw [decide_eq_true_eq, ho]; exact r), obs, if_neg (by decide), if_pos (Y5 (by omega) (by omega)), if_pos (pB_t fun k => absurd k r)]) (by rw [if_neg (by simp)])
   rw [K, obs]
   by_cases e : ∀ k : Nat, k < (Z0d f (b : Int)).length → Rch f (-1) (at_ (Z0d f (b : Int)) (k : Int)) → seeP f (at_ p.ins (k : Int)) (at_ (Z0d f (b : Int)) (k : Int)) (sz (at_ f.blocks (at_ (Z0d f (b : Int)) (k : Int))))
   ·rw [pB_t e]
    simp only [if_true]
    rw [if_pos (Y5 (by omega) (by omega))]
   ·rw [pB_f e]; rfl) (by rw [if_neg (by simp)])
  rw [K, obs]
  unfold X4v
  generalize hP1 : (∀ j : Nat, j < (at_ f.blocks (b : Int)).phis.length → ∀ k : Nat, k < (Z0d f (b : Int)).length → Rch f (-1) (at_ (Z0d f (b : Int)) (k : Int)) → seeP f (at_ (at_ (at_ f.blocks (b : Int)).phis (j : Int)).ins (k : Int)) (at_ (Z0d f (b : Int)) (k : Int)) (sz (at_ f.blocks (at_ (Z0d f (b : Int)) (k : Int))))) = P1
  by_cases e1 : P1
  ·rw [if_pos (pB_t e1)]
   simp only
   generalize hD : Y6 _ _ = N
   have K := Z8s hD (at_ f.blocks (b : Int)).insts.length (fun i => ∀ x ∈ opsI (at_ (at_ f.blocks (b : Int)).insts (i : Int)), seeP f x (b : Int) (((at_ f.blocks (b : Int)).phis.length : Int) + i)) (by
    intro i hi
    have h1 : 0 ≤ (i : Int) ∧ (i : Int) < ((at_ f.blocks (b : Int)).insts.length : Int) := by omega
    have him := X8 h1
    have hal := h.args _ hm _ him
    have hfi := hf.insts _ hm _ him
    rw [if_pos (by simpa using hi), if_pos h1, W1u hal, obs]
    generalize at_ (at_ f.blocks (b : Int)).insts (i : Int) = x at him hal hfi ⊢
    have hol : (opsI x).length ≤ 1000000000000 := by
     rcases X5i (i := x) with o | ⟨o, _⟩
     ·omega
     ·rw [o]; omega
    generalize hE : Y6 _ _ = Q
    have K := Z7g hE (opsI x) (fun z => seeP f z (b : Int) (((at_ f.blocks (b : Int)).phis.length : Int) + i)) (by
     intro k hk
     have h2 : 0 ≤ (k : Int) ∧ (k : Int) < ((opsI x).length : Int) := by omega
     have hin := hfi.ids _ (X8 h2)
     rw [if_pos (by simpa using hk), if_pos h2, if_pos (Y5 (by omega) (by omega)), X2p h hg hin, obs]
     generalize at_ (opsI x) (k : Int) = z
     by_cases e : seeP f z (b : Int) (((at_ f.blocks (b : Int)).phis.length : Int) + i)
     ·rw [pB_t e, if_neg (by decide), if_pos (Y5 (by omega) (by omega)), if_pos rfl]
     ·rw [pB_f e, if_pos (by decide), if_neg (by decide)]) (by rw [if_neg (by simp)])
    rw [K, obs]
    by_cases e : ∀ z ∈ opsI x, seeP f z (b : Int) (((at_ f.blocks (b : Int)).phis.length : Int) + i)
    ·rw [pB_t e]
     simp only [if_true]
     rw [if_pos (Y5 (by omega) (by omega))]
    ·rw [pB_f e]; rfl) (by rw [if_neg (by simp)])
   rw [K, obs]
   generalize hP2 : (∀ i : Nat, i < (at_ f.blocks (b : Int)).insts.length → ∀ x ∈ opsI (at_ (at_ f.blocks (b : Int)).insts (i : Int)), seeP f x (b : Int) (((at_ f.blocks (b : Int)).phis.length : Int) + i)) = P2
   by_cases e2 : P2
   ·rw [if_pos (pB_t e2)]
    simp only
    have ht := hf.terms _ hm
    have es : (((at_ f.blocks (b : Int)).phis.length : Int) + ((at_ f.blocks (b : Int)).insts.length : Int)) = (sz (at_ f.blocks (b : Int)) : Int) := by unfold sz; omega
    simp only [es]
    have et : (if ((at_ f.blocks (b : Int)).term.kind == 1) = true then (Option.bind (Z0g f (at_ f.blocks (b : Int)).term.a (b : Int) (sz (at_ f.blocks (b : Int)))) fun x73 => some (!x73)) else (if ((at_ f.blocks (b : Int)).term.kind == 3) = true then (Option.bind (Z0g f (at_ f.blocks (b : Int)).term.a (b : Int) (sz (at_ f.blocks (b : Int)))) fun x76 => some (!x76)) else some false)) =
      some (!pB ((at_ f.blocks (b : Int)).term.kind = 1 ∨ (at_ f.blocks (b : Int)).term.kind = 3 → seeP f (at_ f.blocks (b : Int)).term.a (b : Int) (sz (at_ f.blocks (b : Int))))) := by
     by_cases c1 : ((at_ f.blocks (b : Int)).term.kind == 1) = true
     ·have k1 : (at_ f.blocks (b : Int)).term.kind = 1 := by simpa using c1
      rw [if_pos c1, X2p h hg (ht.a (.inl k1)), obs]
      congr 2
      exact Z7d ⟨fun k _ => k, fun k => k (.inl k1)⟩
     ·rw [if_neg c1]
      by_cases c3 : ((at_ f.blocks (b : Int)).term.kind == 3) = true
      ·have k3 : (at_ f.blocks (b : Int)).term.kind = 3 := by simpa using c3
       rw [if_pos c3, X2p h hg (ht.a (.inr k3)), obs]
       congr 2
       exact Z7d ⟨fun k _ => k, fun k => k (.inr k3)⟩
      ·rw [if_neg c3, pB_t (fun k => by
        rcases k with k | k
        ·exact absurd (by simpa using k) c1
        ·exact absurd (by simpa using k) c3)]
       rfl
    rw [et, obs]
    by_cases e3 : (at_ f.blocks (b : Int)).term.kind = 1 ∨ (at_ f.blocks (b : Int)).term.kind = 3 → seeP f (at_ f.blocks (b : Int)).term.a (b : Int) (sz (at_ f.blocks (b : Int)))
    ·rw [pB_t e3, if_neg (by decide), if_pos (Y5 (by omega) (by omega)), if_pos (pB_t ⟨e1, e2, e3⟩)]
    ·rw [pB_f e3, if_pos (by decide), if_neg (by rw [pB_f (fun k => e3 k.2.2)]; decide)]
   ·rw [if_neg (by rw [pB_f e2]; decide)]
    simp only
    rw [if_neg (by rw [pB_f (fun k => e2 k.2.1)]; decide)]
  ·rw [if_neg (by rw [pB_f e1]; decide)]
   simp only
   rw [if_neg (by rw [pB_f (fun k => e1 k.1)]; decide)]) (by rw [if_neg (by simp)])
 rw [K]
 refine end_pB.trans ?_
 congr 1
 exact Z7d ⟨fun k b hb => k b ((ho b).2 hb), fun k b hb => k b ((ho b).1 hb)⟩
noncomputable def Y5r (m : GModule) (f : GFunc) : Int :=
 if pB (enP f) = false then 2 else if pB (phP f) = false then 3 else if pB (tyP f) = false then 4 else if pB (clP m f) = false then 5 else if pB (domP f) = false then 6 else 0
theorem Y9y {b : Bool} : (!b) = true ↔ b = false := by cases b <;> simp
theorem W1t {m : GModule} {f : GFunc} (h : bndF f) (hf : fmF f m.funcs.length) : Z6y m f = some (Y5r m f) := by
 have hn := hf.blocks.1
 unfold Z6y Y5r
 have hen := W0c h hn
 rw [hen]
 simp only [obs]
 by_cases e1 : pB (enP f) = false
 ·rw [if_pos (by rw [e1]; rfl), if_pos e1]
 ·rw [if_neg (by rw [Y9y]; exact e1), if_neg e1, W1r h, obs]
  by_cases e2 : pB (phP f) = false
  ·rw [if_pos (by rw [e2]; rfl), if_pos e2]
  ·rw [if_neg (by rw [Y9y]; exact e2), if_neg e2, X9z h hf, obs]
   by_cases e3 : pB (tyP f) = false
   ·rw [if_pos (by rw [e3]; rfl), if_pos e3]
   ·rw [if_neg (by rw [Y9y]; exact e3), if_neg e3, W0f h hf, obs]
    by_cases e4 : pB (clP m f) = false
    ·rw [if_pos (by rw [e4]; rfl), if_pos e4]
    ·have hp : phP f := by
      rcases Classical.em (phP f) with k | k
      ·exact k
      ·exact absurd (pB_f k) e2
     rw [if_neg (by rw [Y9y]; exact e4), if_neg e4, W1s h hf hp, obs]
     by_cases e5 : pB (domP f) = false
     ·rw [if_pos (by rw [e5]; rfl), if_pos e5]
     ·rw [if_neg (by rw [Y9y]; exact e5), if_neg e5]
theorem W3g {m : GModule} {f : GFunc} (h : bndF f) (hf : fmF f m.funcs.length) : Z5w m f = some (Y5r m f) := by
 have hn := hf.blocks.1
 have hbl := h.blocks
 have hoI := hf.okI
 have hg := hf.graph
 unfold Z5w Y5r
 rw [W0q h hn, obs]
 by_cases e1 : pB (enP f) = false
 ·rw [if_pos (by rw [e1]; rfl), if_pos e1]
 ·rw [if_neg (by rw [Y9y]; exact e1), if_neg e1, W3e h, obs]
  by_cases e2 : pB (phP f) = false
  ·rw [if_pos (by rw [e2]; rfl), if_pos e2]
  ·have hp : phP f := by
    rcases Classical.em (phP f) with k | k
    ·exact k
    ·exact absurd (pB_f k) e2
   rw [if_neg (by rw [Y9y]; exact e2), if_neg e2, W0k h hf, obs]
   by_cases e3 : pB (tyP f) = false
   ·rw [if_pos (by rw [e3]; rfl), if_pos e3]
   ·rw [if_neg (by rw [Y9y]; exact e3), if_neg e3]
    generalize hB : Y6 (fun st11 : Int => _) _ = L
    have K := Z7g hB f.blocks (fun b => ∀ i ∈ b.insts, i.op_ = 26 → X4f m f i) (by
     intro k hk
     have h0 : 0 ≤ (k : Int) ∧ (k : Int) < (f.blocks.length : Int) := by omega
     have hm := X8 h0
     have hr := h.rows _ hm
     rw [if_pos (by simpa using hk), if_pos h0]
     generalize at_ f.blocks (k : Int) = b at hm hr ⊢
     rw [Z8v b.insts _ (fun i => !pB (i.op_ = 26 → X4f m f i)) (fun i hi => by
      have hx := hf.insts b hm i hi
      have hal := h.args b hm i hi
      unfold Z3m
      by_cases e0 : i.op_ = 26
      ·rw [if_pos (by simpa using e0), W3h h hoI hal (hx.call e0)]
       simp only [obs]
       congr 2
       exact Z7d ⟨fun k _ => k, fun k => k e0⟩
      ·rw [if_neg (by simpa using e0), obs, pB_t (fun k => absurd k e0)]
       rfl) (by omega), obs, X4i]
     by_cases e : ∀ i ∈ b.insts, i.op_ = 26 → X4f m f i
     ·rw [if_neg (by rw [pB_t e]; decide), if_pos (Y5 (by omega) (by omega)), if_pos (pB_t e)]
     ·rw [if_pos (by rw [pB_f e]; decide), if_neg (by rw [pB_f e]; decide)]) (by rw [if_neg (by simp)])
    rw [K, obs]
    have ec : pB (∀ b ∈ f.blocks, ∀ i ∈ b.insts, i.op_ = 26 → X4f m f i) = pB (clP m f) := rfl
    rw [ec]
    by_cases e4 : pB (clP m f) = false
    ·rw [if_neg (by rw [e4]; decide), if_pos e4]
    ·have e4' : pB (clP m f) = true := by simpa using e4
     rw [if_pos e4', if_neg e4]
     simp only
     obtain ⟨out, eo, lo, ho⟩ := Y8j hg (-1)
     rw [eo, obs]
     generalize hC : Y6 _ _ = M
     have K := Z8s hC out.length (fun k => Rch f (-1) (k : Int) → X4v f (k : Int)) (by
      intro k hk
      have h0 : 0 ≤ (k : Int) ∧ (k : Int) < (out.length : Int) := by omega
      have hkb : k < f.blocks.length := by omega
      rw [if_pos (by simpa using hk), if_pos h0]
      by_cases r : Rch f (-1) (k : Int)
      ·rw [if_pos ((ho k hkb).2 r), W5z h hf hp hkb lo ho, obs, obs]
       by_cases e : X4v f (k : Int)
       ·rw [pB_t e, if_neg (by decide), if_pos (Y5 (by omega) (by omega)), if_pos (pB_t fun _ => e)]
       ·rw [pB_f e, if_pos (by decide), if_neg (by rw [pB_f (fun k => e (k r))]; decide)]
      ·rw [if_neg (fun q => r ((ho k hkb).1 q)), obs, if_neg (by decide), if_pos (Y5 (by omega) (by omega)), if_pos (pB_t fun q => absurd q r)]) (by rw [if_neg (by simp)])
     rw [K, obs]
     have ed : pB (∀ k, k < out.length → Rch f (-1) (k : Int) → X4v f (k : Int)) = pB (domP f) := Z7d ⟨fun q b hb => by
      have h1 := hb.lt hg
      obtain ⟨k, rfl⟩ := Int.eq_ofNat_of_zero_le h1.1
      exact q k (by omega) hb, fun q k _ hb => q _ hb⟩
     rw [ed]
     by_cases e5 : pB (domP f) = false
     ·rw [if_neg (by rw [e5]; decide), if_pos e5]
     ·have e5' : pB (domP f) = true := by simpa using e5
      rw [if_pos e5', if_neg e5]
end
section
def sameB (x : GBlock) (ps : List GPhi) (is : List GInst) : Prop := ps.length = x.phis.length ∧ (∀ p ∈ ps, p.ins.length ≤ 10) ∧ is.length = x.insts.length ∧ ∀ i ∈ is, i.args.length ≤ 10
theorem sameB.self {n : Int} {x : GBlock} (h : okBl n x) : sameB x x.phis x.insts := ⟨rfl, fun p hp => (h.1.ps p hp).2.1, rfl, fun i hi => (h.1.is i hi).2.2.1⟩
theorem sameB.inst {x : GBlock} {ps : List GPhi} {is : List GInst} (h : sameB x ps is) {k : Nat} {i : GInst} (hi : i.args.length ≤ 10) : sameB x ps (is.set k i) :=
 ⟨h.1, h.2.1, by rw [List.length_set]; exact h.2.2.1, fun j hj => by
  rcases List.mem_or_eq_of_mem_set hj with hj | rfl
  ·exact h.2.2.2 j hj
  ·exact hi⟩
theorem sameB.phi {x : GBlock} {ps : List GPhi} {is : List GInst} (h : sameB x ps is) {k : Nat} {p : GPhi} (hp : p.ins.length ≤ 10) : sameB x (ps.set k p) is :=
 ⟨by rw [List.length_set]; exact h.1, fun q hq => by
  rcases List.mem_or_eq_of_mem_set hq with hq | rfl
  ·exact h.2.1 q hq
  ·exact hp, h.2.2⟩
theorem okFn.put {f : GFunc} (h : okFn f) {k : Int} (hk : 0 ≤ k ∧ k < (f.blocks.length : Int)) {x : GBlock} (hx : sameB (at_ f.blocks k) x.phis x.insts) (w : Int) : bndF { params := f.params, ret := w, blocks := f.blocks.set k.toNat x } := by
 have hb := h.bnd
 have hm := X8 hk
 refine ⟨hb.params, by simpa using hb.blocks, fun b hb' => ?_, fun b hb' p hp => ?_, fun b hb' i hi => ?_⟩
 ·rcases List.mem_or_eq_of_mem_set hb' with h1 | rfl
  ·exact hb.rows b h1
  ·have := hb.rows _ hm
   rw [hx.1, hx.2.2.1]
   exact this
 ·rcases List.mem_or_eq_of_mem_set hb' with h1 | rfl
  ·exact hb.ins b h1 p hp
  ·exact Nat.le_trans (hx.2.1 p hp) (by decide)
 ·rcases List.mem_or_eq_of_mem_set hb' with h1 | rfl
  ·exact hb.args b h1 i hi
  ·exact Nat.le_trans (hx.2.2.2 i hi) (by decide)
theorem W0v {r : Gl1Rd} (hr : okRd r) : Run (Z1v r) (fun y => okRd y.2 ∧ 0 < y.1.funcs.length ∧ y.1.funcs.length ≤ 2 ∧ ∀ f ∈ y.1.funcs, bndF f) := by
 unfold Z1v
 refine Run.bind (X1u hr) ?_
 rintro ⟨m, r1⟩ ⟨a1, a2, a3, a4⟩
 simp only at a1 a2 a3 a4 ⊢
 refine Run.bind (R := fun j => okRd j.1 ∧ (0 ≤ j.2.1 ∧ j.2.1 < (m.funcs.length : Int)) ∧ j.2.2.1 = (at_ m.funcs j.2.1).params ∧ j.2.2.2.2.1 = (at_ m.funcs j.2.1).blocks) (Run.bind (U4 a1 _) ?_) ?_
 ·rintro ⟨k, r2⟩ ⟨b1, b2, b3⟩
  have b3 := b3 (by omega)
  simp only at b1 b2 b3 ⊢
  exact Run.yes ⟨b2, b3⟩ (Run.mk ⟨b1, ⟨b2, b3⟩, rfl, rfl⟩)
 rintro ⟨r2, k, ps, ret, bs, ps', ret'⟩ ⟨b1, b2, b3, b4⟩
 simp only at b1 b2 b3 b4 ⊢
 subst b3 b4
 refine Run.yes b2 ?_
 have hm := X8 b2
 have hf := (a4 _ hm).ok
 generalize hF : at_ m.funcs k = f at hf hm ⊢
 have hne := hf.ne
 refine Run.bind (U4 b1 _) ?_
 rintro ⟨b, r3⟩ ⟨c1, c2, c3⟩
 have c3 := c3 (by omega)
 simp only at c1 c2 c3 ⊢
 have hb : 0 ≤ b ∧ b < (f.blocks.length : Int) := ⟨c2, c3⟩
 refine Run.yes hb ?_
 have hx := hf.okbs _ (X8 hb)
 have s0 := sameB.self hx
 generalize hX : at_ f.blocks b = x at hx s0 ⊢
 have fin : ∀ {j : Gl1Rd × List GPhi × List GInst × Int × Int × Int}, okRd j.1 → sameB x j.2.1 j.2.2.1 → Run (some j) (fun j => okRd j.1 ∧ sameB x j.2.1 j.2.2.1) := fun h1 h2 => Run.mk ⟨h1, h2⟩
 have ia : ∀ {q : Int}, 0 ≤ q ∧ q < (x.insts.length : Int) → (at_ x.insts q).args.length ≤ 10 := fun hq => s0.2.2.2 _ (X8 hq)
 refine Run.bind (R := fun j => okRd j.1 ∧ sameB x j.2.1 j.2.2.1) (Run.bind (U4 c1 9) ?_) ?_
 ·rintro ⟨n, r4⟩ ⟨d1, d2, _⟩
  simp only at d1 d2 ⊢
  have keep := fin (j := (r4, x.phis, x.insts, x.term.kind, x.term.a, x.term.x)) d1 s0
  refine Run.if (fun _ => Run.if (fun h => ?_) fun _ => keep) fun _ => ?_
  ·have h : (0 : Int) < x.insts.length := by simpa using h
   refine Run.bind (R := fun j => okRd j.1 ∧ sameB x x.phis j.2) (Run.bind (U4 d1 _) ?_) (fun j hj => fin hj.1 hj.2)
   rintro ⟨q, r5⟩ ⟨e1, e2, e3⟩
   have e3 := e3 (by omega)
   refine Run.bind (Y1f e1 (by decide) (by decide) (by decide)) ?_
   rintro ⟨v, r6⟩ ⟨f1, _⟩
   exact Run.yes ⟨e2, e3⟩ (Run.mk ⟨f1, s0.inst (ia ⟨e2, e3⟩)⟩)
  refine Run.if (fun _ => Run.if (fun h => ?_) fun _ => keep) fun _ => ?_
  ·have h : (0 : Int) < x.insts.length := by simpa using h
   refine Run.bind (R := fun j => okRd j.1 ∧ sameB x x.phis j.2) (Run.bind (U4 d1 _) ?_) (fun j hj => fin hj.1 hj.2)
   rintro ⟨q, r5⟩ ⟨e1, e2, e3⟩
   have e3 := e3 (by omega)
   refine Run.bind (Y1f e1 (by decide) (by decide) (by decide)) ?_
   rintro ⟨v, r6⟩ ⟨f1, _⟩
   exact Run.yes ⟨e2, e3⟩ (Run.mk ⟨f1, s0.inst (ia ⟨e2, e3⟩)⟩)
  refine Run.if (fun _ => ?_) fun _ => ?_
  ·refine Run.bind (Y1f d1 (by decide) (by decide) (by decide)) ?_
   rintro ⟨v, r6⟩ ⟨f1, _⟩
   exact fin f1 s0
  refine Run.if (fun _ => ?_) fun _ => ?_
  ·refine Run.bind (Y1f d1 (by decide) (by decide) (by decide)) ?_
   rintro ⟨v, r6⟩ ⟨f1, _⟩
   exact fin f1 s0
  refine Run.if (fun _ => Run.if (fun h => ?_) fun _ => keep) fun _ => ?_
  ·have h : (0 : Int) < x.phis.length := by simpa using h
   have h1 := hx.1.ps _ (X8 ⟨Int.le_refl _, h⟩)
   exact Run.yes ⟨by decide, h⟩ (Run.yes ⟨h1.2.2.2, Nat.le_refl _⟩ (Run.yes ⟨by decide, h⟩ (fin d1 (s0.phi (by have := h1.2.1; simp only [List.length_drop]; omega)))))
  refine Run.if (fun _ => Run.if (fun h => ?_) fun _ => keep) fun _ => ?_
  ·have h : (0 : Int) < x.insts.length := by simpa using h
   refine Run.bind (R := fun j => okRd j.1 ∧ sameB x x.phis j.2) (Run.bind (U4 d1 _) ?_) (fun j hj => fin hj.1 hj.2)
   rintro ⟨q, r5⟩ ⟨e1, e2, e3⟩
   have e3 := e3 (by omega)
   refine Run.bind (Y1f e1 (by decide) (by decide) (by decide)) ?_
   rintro ⟨v, r6⟩ ⟨f1, _⟩
   exact Run.yes ⟨e2, e3⟩ (Run.mk ⟨f1, s0.inst (ia ⟨e2, e3⟩)⟩)
  refine Run.if (fun _ => Run.if (fun h => ?_) fun _ => keep) fun _ => ?_
  ·have h : (0 : Int) < x.phis.length := by simpa using h
   have h1 := hx.1.ps _ (X8 ⟨Int.le_refl _, h⟩)
   refine Run.yes ⟨by decide, h⟩ (Run.bind (Y1f d1 (by decide) (by decide) (by decide)) ?_)
   rintro ⟨v, r6⟩ ⟨f1, _⟩
   exact Run.yes ⟨by decide, by have := h1.2.2.2; omega⟩ (fin f1 (s0.phi (by simp only [List.length_set]; exact h1.2.1)))
  refine Run.if (fun _ => ?_) fun _ => keep
  refine Run.bind (Y1f d1 (by decide) (by decide) (by decide)) ?_
  rintro ⟨v, r6⟩ ⟨f1, _⟩
  exact fin f1 s0
 rintro ⟨r7, ps, is, kd, a, z⟩ ⟨g1, g2⟩
 simp only at g1 g2 ⊢
 refine Run.yes hb (Run.mk ⟨g1, by simpa using a2, by simpa using a3, fun g hg => ?_⟩)
 rcases List.mem_or_eq_of_mem_set hg with hg | rfl
 ·exact (a4 g hg).ok.bnd
 ·exact hf.put hb (by rw [hX]; exact g2) _
end
section
theorem Y8c (s : List GFunc) (f : GFunc → Option Bool) (c : GFunc → Bool) (h : ∀ x ∈ s, f x = some (c x)) (hl : s.length ≤ 140737488355328) : W4 s f = some (s.any c) := by
 unfold W4 U0
 generalize hB : Y6 _ (0 : Int) = L
 have K := Z4k hB s c (fun k : Nat => (k : Int)) (by
  intro k hk
  rw [if_pos (by simpa using hk), if_pos (by omega), h _ (X8 (by omega))]
  simp only [Option.bind_some]
  cases c (at_ s (k : Int))
  ·rw [if_neg (by simp), if_pos (Y5 (by omega) (by omega)), if_neg (by simp)]
  ·rw [if_pos rfl, if_pos rfl]) (by rw [if_neg (by simp)])
 rcases K with ⟨h1, k, h2, rfl⟩ | ⟨h1, rfl⟩
 ·rw [h1]; simp
 ·rw [h1]; simp
structure bndM (m : GModule) : Prop where
 len : m.funcs.length ≤ 1000000
 fs : ∀ f ∈ m.funcs, bndF f
def shP (m : GModule) : Prop := (1 ≤ m.funcs.length ∧ m.funcs.length ≤ 3) ∧ ∀ f ∈ m.funcs, fmF f m.funcs.length
theorem Y8q {f : GFunc} {n : Int} (h : bndF f) (h2 : inI (n - 1)) : X0m f n = true ↔ fmF f n := ⟨func_fm h h2, W3q h h2⟩
theorem W0n {m : GModule} (h : bndM m) : Z5z m = some (pB (shP m)) := by
 have hl := h.len
 have hi : inI ((m.funcs.length : Int) - 1) := Y5 (by omega) (by omega)
 unfold Z5z
 by_cases e : Z4 (m.funcs.length : Int) 1 3 = true
 ·have e' : 1 ≤ m.funcs.length ∧ m.funcs.length ≤ 3 := by simp [Z4] at e; omega
  rw [if_pos e, Y8c _ _ (fun f => !X0m f m.funcs.length) (fun f hf => by
   unfold Z3p
   rw [W3s (h.fs f hf) hi, obs]) (by omega)]
  simp only [obs]
  rw [Y4f, Bool.not_not]
  congr 1
  refine X1h ?_
  rw [List.all_eq_true]
  exact ⟨fun k => ⟨e', fun f hf => (Y8q (h.fs f hf) hi).1 (k f hf)⟩, fun k f hf => (Y8q (h.fs f hf) hi).2 (k.2 f hf)⟩
 ·rw [if_neg e, obs, pB_f (fun k => e (by have := k.1; simp [Z4]; omega))]
theorem W0b {m : GModule} (h : bndM m) : Z5q m = some (pB (shP m)) := by
 have hl := h.len
 have hi : inI ((m.funcs.length : Int) - 1) := Y5 (by omega) (by omega)
 unfold Z5q
 by_cases e : Z8 (m.funcs.length : Int) 1 3 = true
 ·have e' : 1 ≤ m.funcs.length ∧ m.funcs.length ≤ 3 := by simp [Z8] at e; omega
  rw [if_neg (by rw [e]; decide)]
  generalize hB : Y6 _ _ = L
  have K := Z7g hB m.funcs (fun f => fmF f m.funcs.length) (by
   intro k hk
   have h0 : 0 ≤ (k : Int) ∧ (k : Int) < (m.funcs.length : Int) := by omega
   have hf := h.fs _ (X8 h0)
   rw [if_pos (by simpa using hk), if_pos h0, W3r hf hi, obs]
   by_cases e : fmF (at_ m.funcs (k : Int)) m.funcs.length
   ·rw [if_neg (by rw [(Y8q hf hi).2 e]; decide), if_pos (Y5 (by omega) (by omega)), if_pos (pB_t e)]
   ·rw [if_pos (by
     cases hx : X0m (at_ m.funcs (k : Int)) m.funcs.length with
     | false => rfl
     | true => exact absurd ((Y8q hf hi).1 hx) e), if_neg (by rw [pB_f e]; decide)]) (by rw [if_neg (by simp)])
  rw [K]
  refine end_pB.trans ?_
  congr 1
  exact Z7d ⟨fun k => ⟨e', k⟩, fun k => k.2⟩
 ·rw [if_pos (by rw [Y9y]; simpa using e), pB_f (fun k => e (by have := k.1; simp [Z8]; omega))]
noncomputable def Y5k {α : Type} (g : α → Int) (xs : List α) : Int := ((xs.map g).find? (fun c => c != 0)).getD 0
theorem X1w {β : Type} [Inhabited β] {body : Int → Option (Int ⊕ (Int ⊕ Unit))} {L : Option (Int ⊕ Unit)} (hB : Y6 body 0 = L) (xs : List β) (g : β → Int)
  (h1 : ∀ k : Nat, k < xs.length → body (k : Int) = some (if (g (at_ xs (k : Int)) != 0) = true then .inr (.inl (g (at_ xs (k : Int)))) else .inl ((k : Int) + 1))) (h2 : body (xs.length : Int) = some (.inr (.inr ()))) :
  L = some (if Y5k g xs = 0 then .inr () else .inl (Y5k g xs)) := by
 have K := X1x hB xs.length (fun k => g (at_ xs (k : Int)) != 0) (fun k => g (at_ xs (k : Int))) h1 h2
 rcases K with ⟨k, hk, k1, k2, rfl⟩ | ⟨k1, rfl⟩
 ·have e : (xs.map g).find? (fun c => c != 0) = some (g (at_ xs (k : Int))) := by
   rw [List.find?_eq_some_iff_getElem]
   refine ⟨k1, k, by simpa using hk, by rw [List.getElem_map, Z5f hk], fun j hj => ?_⟩
   have := k2 j hj
   rw [Z5f (by omega)] at this
   simpa using this
  unfold Y5k
  rw [e]
  have : g (at_ xs (k : Int)) ≠ 0 := by simpa using k1
  simp [this]
 ·have e : (xs.map g).find? (fun c => c != 0) = none := by
   rw [List.find?_eq_none]
   intro c hc
   obtain ⟨x, hx, rfl⟩ := List.mem_map.1 hc
   obtain ⟨k, hk, rfl⟩ := List.getElem_of_mem hx
   have := k1 k hk
   rw [Z5f hk] at this
   simpa using this
  unfold Y5k
  rw [e]
  rfl
theorem X7d {α : Type} {g : α → Int} {xs : List α} (h : Y5k g xs = 0) : ∀ x ∈ xs, g x = 0 := by
 intro x hx
 refine Classical.byContradiction fun hn => ?_
 cases e : (xs.map g).find? (fun c => c != 0) with
 | none =>
  rw [List.find?_eq_none] at e
  exact e (g x) (List.mem_map.2 ⟨x, hx, rfl⟩) (by simpa using hn)
 | some c =>
  have := List.find?_some e
  unfold Y5k at h
  rw [e] at h
  simp at h this
  exact this h
noncomputable def X7k (m : GModule) : Int := if pB (shP m) = false then 1 else Y5k (Y5r m) m.funcs
theorem W0r {m : GModule} (h : bndM m) : Z6b m = some (X7k m) := by
 have hl := h.len
 unfold Z6b X7k
 rw [W0n h, obs]
 by_cases e : pB (shP m) = false
 ·rw [if_pos (by rw [e]; rfl), if_pos e]
 ·rw [if_neg (by rw [Y9y]; exact e), if_neg e]
  have hs : shP m := pB_iff.1 (by simpa using e)
  generalize hB : Y6 _ _ = L
  have K := X1w hB m.funcs (Y5r m) (by
   intro k hk
   have h0 : 0 ≤ (k : Int) ∧ (k : Int) < (m.funcs.length : Int) := by omega
   have hm := X8 h0
   rw [if_pos (by simpa using hk), if_pos h0, W3g (h.fs _ hm) (hs.2 _ hm), obs]
   by_cases c : (Y5r m (at_ m.funcs (k : Int)) != 0) = true
   ·rw [if_pos c, if_pos c]
   ·rw [if_neg c, if_neg c, if_pos (Y5 (by omega) (by omega))]) (by rw [if_neg (by simp)])
  rw [K]
  by_cases c : Y5k (Y5r m) m.funcs = 0
  ·rw [if_pos c, c]; rfl
  ·rw [if_neg c]; rfl
theorem W0e {m : GModule} (h : bndM m) : Z3w m = some (X7k m) := by
 have hl := h.len
 unfold Z3w X7k
 rw [W0b h, obs]
 by_cases e : pB (shP m) = false
 ·rw [if_pos (by rw [e]; rfl), if_pos e]
 ·rw [if_neg (by rw [Y9y]; exact e), if_neg e]
  have hs : shP m := pB_iff.1 (by simpa using e)
  generalize hB : Y6 _ _ = L
  have K := X1w hB m.funcs (Y5r m) (by
   intro k hk
   have h0 : 0 ≤ (k : Int) ∧ (k : Int) < (m.funcs.length : Int) := by omega
   have hm := X8 h0
   rw [if_pos (by simpa using hk), if_pos h0, W1t (h.fs _ hm) (hs.2 _ hm), obs]
   by_cases c : (Y5r m (at_ m.funcs (k : Int)) != 0) = true
   ·rw [if_pos c, if_pos c]
   ·rw [if_neg c, if_neg c, if_pos (Y5 (by omega) (by omega))]) (by rw [if_neg (by simp)])
  rw [K]
  by_cases c : Y5k (Y5r m) m.funcs = 0
  ·rw [if_pos c, c]; rfl
  ·rw [if_neg c]; rfl
theorem W4g {m : GModule} {f : GFunc} (h : Y5r m f = 0) : enP f ∧ phP f ∧ tyP f ∧ clP m f ∧ domP f := by
 have key : ∀ {P : Prop}, ¬ pB P = false → P := fun {P} k => pB_iff.1 (by simpa using k)
 unfold Y5r at h
 by_cases e1 : pB (enP f) = false
 ·rw [if_pos e1] at h; cases h
 ·rw [if_neg e1] at h
  by_cases e2 : pB (phP f) = false
  ·rw [if_pos e2] at h; cases h
  ·rw [if_neg e2] at h
   by_cases e3 : pB (tyP f) = false
   ·rw [if_pos e3] at h; cases h
   ·rw [if_neg e3] at h
    by_cases e4 : pB (clP m f) = false
    ·rw [if_pos e4] at h; cases h
    ·rw [if_neg e4] at h
     by_cases e5 : pB (domP f) = false
     ·rw [if_pos e5] at h; cases h
     ·exact ⟨key e1, key e2, key e3, key e4, key e5⟩
theorem W0u {m : GModule} (h : X7k m = 0) : shP m ∧ ∀ f ∈ m.funcs, Y5r m f = 0 := by
 unfold X7k at h
 by_cases e : pB (shP m) = false
 ·rw [if_pos e] at h; cases h
 ·rw [if_neg e] at h
  exact ⟨pB_iff.1 (by simpa using e), X7d h⟩
theorem W4j {fs : List GFunc} (h2 : fs.length ≤ 2) (h : ∀ f ∈ fs, bndF f) : bndM { funcs := fs } := ⟨by simp only; omega, h⟩
end
section
theorem X1j (f : GFunc) (hl : f.blocks.length ≤ 140737488355328) : ∃ l, Z6a f = some l ∧ Y5v l ∧ l.length ≤ 10 ∧ ((GraphOk f ∧ ∀ b, b ∈ l ↔ Rch f (-1) b) ∨ (¬ GraphOk f ∧ l = [])) := by
 have hLIM : LIM = 140737488355328 := rfl
 unfold Z6a
 obtain ⟨g, e, hg⟩ := X2b f hl
 rw [e]
 simp only [obs]
 by_cases h : GraphOk f
 ·rw [if_neg (by rw [hg.2 h]; decide)]
  obtain ⟨out, e2, h1, h2⟩ := Y8j h (-1)
  have n2 := h.2.1
  rw [e2]
  simp only [obs]
  generalize hB : Y6 _ _ = L
  have hlen : ∀ k, (((List.range k).filter (fun i : Nat => at_ out (i : Int))).map Int.ofNat).length ≤ k := fun k => by
   rw [List.length_map]
   exact Nat.le_trans (List.length_filter_le _ _) (by simp)
  have K := Y1i hB (fun k => (((List.range k).filter (fun i : Nat => at_ out (i : Int))).map Int.ofNat, (k : Int))) out.length (((List.range out.length).filter (fun i : Nat => at_ out (i : Int))).map Int.ofNat) rfl (by
   intro k hk
   have hlk := hlen k
   simp only
   rw [if_pos (by simpa using hk), if_pos (by omega)]
   have er : ((List.range (k + 1)).filter (fun i : Nat => at_ out (i : Int))).map Int.ofNat = ((List.range k).filter (fun i : Nat => at_ out (i : Int))).map Int.ofNat ++ (if at_ out (k : Int) = true then [(k : Int)] else []) := by
    rw [List.range_succ, List.filter_append, List.map_append]
    congr 1
    cases hh : at_ out (k : Int) <;> simp [hh]
   rw [er]
   by_cases hh : at_ out (k : Int) = true
   ·rw [if_pos hh, if_pos hh, if_pos (by simp only [List.length_singleton]; omega), if_pos (Y5 (by omega) (by omega))]
    rfl
   ·rw [if_neg hh, if_neg hh, if_pos (Y5 (by omega) (by omega)), List.append_nil]
    rfl) (by
   simp only
   rw [if_neg (by simp)])
  subst K
  refine ⟨_, rfl, X2u _ _, Nat.le_trans (hlen _) (by omega), .inl ⟨h, fun b => ?_⟩⟩
  simp only [List.mem_map, List.mem_filter, List.mem_range]
  constructor
  ·rintro ⟨k, ⟨hk, hm⟩, rfl⟩
   exact (h2 k (by omega)).1 hm
  ·intro hr
   have hb := hr.lt h
   obtain ⟨k, rfl⟩ := Int.eq_ofNat_of_zero_le hb.1
   exact ⟨k, ⟨by omega, (h2 k (by omega)).2 hr⟩, rfl⟩
 ·have : g = false := by cases g with | false => rfl | true => exact absurd (hg.1 rfl) h
  subst this
  rw [if_pos (by decide)]
  exact ⟨[], rfl, .nil, by simp, .inr ⟨h, rfl⟩⟩
theorem Y7h {f : GFunc} (h : GraphOk f) {b : Int} (hb : 0 ≤ b ∧ b < (f.blocks.length : Int)) : Z1q f b = some true := by
 unfold Z1q
 have n2 := h.2.1
 obtain ⟨g, e, hg⟩ := X2b f (by omega)
 rw [e]
 simp only [obs]
 rw [if_pos (hg.2 h)]
 simp [Z4]
 omega
end
section
theorem X0q {code : List Int} (hl : code.length ≤ 140737488355328) (hb : ∀ x ∈ code, 0 ≤ x ∧ x ≤ 255) : Run (Z2m code) (fun m => bndM m ∧ 0 < m.funcs.length) := by
 unfold Z2m
 refine Run.bind (X3g (open_ok hl hb) (Y5 (by omega) (by omega))) ?_
 rintro ⟨b, r⟩ a1
 refine Run.if (fun _ => ?_) (fun _ => ?_)
 ·refine Run.bind (W0v a1) ?_
  rintro ⟨m, r2⟩ ⟨_, b2, b3, b4⟩
  exact Run.mk ⟨W4j b3 b4, b2⟩
 ·refine Run.bind (X1u a1) ?_
  rintro ⟨m, r2⟩ ⟨_, b2, b3, b4⟩
  exact Run.mk ⟨W4j b3 fun f hf => (b4 f hf).ok.bnd, b2⟩
theorem domOk {f : GFunc} (hg : GraphOk f) {a b : Int} (ha : 0 ≤ a ∧ a < (f.blocks.length : Int)) (hb : 0 ≤ b ∧ b < (f.blocks.length : Int)) : Z1u f a b = some (pB (Rch f (-1) b ∧ ¬ Rch f a b)) := by
 obtain ⟨b', rfl⟩ := Int.eq_ofNat_of_zero_le hb.1
 unfold Z1u
 rw [Y7h hg ha, Y7h hg hb, W3i hg _ (by omega)]
 rfl
theorem W2j {f : GFunc} {id : Int} (h : (f.params.length : Int) ≤ id ∧ id < (cnt f : Int)) : (0 ≤ (X2 f id).1 ∧ (X2 f id).1 < (f.blocks.length : Int)) ∧ 0 ≤ (X2 f id).2 ∧ (X2 f id).2 < (sz (at_ f.blocks (X2 f id).1) : Int) := by
 have h0 := Y4q (f := f) (id := id) ⟨by omega, h.2⟩
 rcases Z1w f id with hp | ⟨hp, h1, h2⟩ | h3
 ·exact absurd (by rw [hp]) h0
 ·omega
 ·exact h3
theorem X3k (code : List Int) (hl : code.length ≤ 140737488355328) (hb : ∀ x ∈ code, 0 ≤ x ∧ x ≤ 255) : Z6f code = some true := by
 unfold Z6f
 by_cases hbig : Y0w code = true
 ·rw [if_pos hbig]
 rw [if_neg hbig]
 obtain ⟨m, e, hm, hpos⟩ := X0q hl hb
 have hml := hm.len
 rw [e, obs, W0r hm, obs, W0e hm]
 simp only [obs, bne_self_eq_false, BEq.rfl, Bool.false_eq_true, if_false]
 by_cases c0 : X7k m = 0
 ·rw [if_neg (by simp [c0])]
  obtain ⟨hs, hc⟩ := W0u c0
  have h0 : 0 ≤ ((m.funcs.length : Int) - 1) ∧ ((m.funcs.length : Int) - 1) < (m.funcs.length : Int) := by omega
  rw [if_pos h0]
  have hmem := X8 h0
  have hbf := hm.fs _ hmem
  have hf := hs.2 _ hmem
  obtain ⟨z1, z2, z3, z4, z5⟩ := W4g (hc _ hmem)
  generalize at_ m.funcs ((m.funcs.length : Int) - 1) = f at hmem hbf hf z1 z2 z3 z4 z5 ⊢
  have hbl := hbf.blocks
  have hg := hf.graph
  have hcl := hbf.cnt_le
  obtain ⟨R, eR, _, lR, hR⟩ := X1j f (by omega)
  have hR2 : ∀ b, b ∈ R ↔ Rch f (-1) b := by
   rcases hR with hR | hR
   ·exact hR.2
   ·exact absurd hg hR.1
  generalize hB : Y6 _ _ = L
  obtain ⟨r, rfl, hr⟩ := Y6i hB (fun s => (f.params.length : Int) ≤ s ∧ s ≤ (cnt f : Int)) (fun s => ((cnt f : Int) - s).toNat) (fun r => r = .inr ()) (by
   intro s hs2
   rw [Y2v hbf, obs]
   by_cases hlt : s < (cnt f : Int)
   ·left
    have nx : (if inI (s + 1) then (some (Sum.inl (s + 1)) : Option (Int ⊕ (Unit ⊕ Unit))) else none) = some (.inl (s + 1)) := by rw [if_pos (Y5 (by omega) (by omega))]
    refine ⟨s + 1, ?_, ⟨by omega, by omega⟩, by omega⟩
    rw [if_pos (by simpa using hlt), Y2u hbf, obs, nx]
    obtain ⟨p1, p2, p3⟩ := W2j (f := f) (id := s) ⟨hs2.1, hlt⟩
    generalize X2 f s = p at p1 p2 p3 ⊢
    have hbm := X8 p1
    have hrw := hbf.rows _ hbm
    rw [if_pos p1]
    by_cases hq : p.2 < ((at_ f.blocks p.1).phis.length : Int)
    ·rw [if_pos (by simpa using hq), obs, if_pos rfl]
    ·rw [if_neg (by simpa using hq), eR, obs, has_ok _ _ (by omega), obs, obs]
     by_cases hin : p.1 ∈ R
     ·rw [decide_eq_true hin, if_neg (by decide)]
      have hrc := (hR2 _).1 hin
      obtain ⟨_, q2, _⟩ := z5 _ hrc
      unfold sz at p3
      have hz : 0 ≤ p.2 - ((at_ f.blocks p.1).phis.length : Int) ∧ p.2 - ((at_ f.blocks p.1).phis.length : Int) < ((at_ f.blocks p.1).insts.length : Int) := by omega
      have him := X8 hz
      have hal := hbf.args _ hbm _ him
      have hfi := hf.insts _ hbm _ him
      have q3 := q2 (p.2 - ((at_ f.blocks p.1).phis.length : Int)).toNat (by omega)
      have ez : (((p.2 - ((at_ f.blocks p.1).phis.length : Int)).toNat : Nat) : Int) = p.2 - ((at_ f.blocks p.1).phis.length : Int) := by omega
      rw [ez] at q3
      have ep : ((at_ f.blocks p.1).phis.length : Int) + (p.2 - ((at_ f.blocks p.1).phis.length : Int)) = p.2 := by omega
      rw [ep] at q3
      rw [if_pos (Y5 (by omega) (by omega)), if_pos hz, X6x hal, obs]
      generalize at_ (at_ f.blocks p.1).insts (p.2 - ((at_ f.blocks p.1).phis.length : Int)) = i at him hal hfi q3 ⊢
      have hol : (opsI i).length ≤ 1000000000000 := by
       rcases X5i (i := i) with o | ⟨o, _⟩
       ·omega
       ·rw [o]; omega
      generalize hE : Y6 _ _ = Q
      have K := Z7g hE (opsI i) (fun _ => True) (by
       intro k hk
       have h2 : 0 ≤ (k : Int) ∧ (k : Int) < ((opsI i).length : Int) := by omega
       have hx := X8 h2
       have hin2 := hfi.ids _ hx
       have hsee := q3 _ hx
       rw [if_pos (by simpa using hk), if_pos h2, Y2u hbf, obs]
       generalize at_ (opsI i) (k : Int) = x at hx hin2 hsee ⊢
       have hfin : (if inI ((k : Int) + 1) then (some (Sum.inl ((k : Int) + 1)) : Option (Int ⊕ (Unit ⊕ Unit))) else none) = some (if pB True = true then .inl ((k : Int) + 1) else .inr (.inl ())) := by
        rw [if_pos (Y5 (by omega) (by omega)), if_pos (pB_t trivial)]
       unfold seeP at hsee
       rcases hsee with d1 | ⟨d1, d2, d3⟩ | ⟨d1, d2, d3, d4⟩
       ·rw [if_neg (by simp [d1]), obs, if_neg (by decide)]
        exact hfin
       ·rw [if_pos (by simpa using d1), if_pos (by simpa using d2), if_neg (by simpa using d3), obs, if_neg (by decide)]
        exact hfin
       ·have hr0 : 0 ≤ (X2 f x).1 ∧ (X2 f x).1 < (f.blocks.length : Int) := by
         rcases Z1w f x with hp | ⟨hp, _, _⟩ | h3
         ·exact absurd (by rw [hp]) (Y4q hin2)
         ·exact absurd (by rw [hp]) d1
         ·exact h3.1
        rw [if_pos (by simpa using d1), if_neg (by simpa using d2), if_pos (by simpa using d2), domOk hg hr0 p1, pB_t ⟨d3, d4⟩, obs, obs, if_neg (by decide)]
        exact hfin) (by rw [if_neg (by simp)])
      rw [K, pB_t (fun _ _ => trivial), obs, if_pos p1, if_pos p1]
      rfl
     ·rw [decide_eq_false hin, if_pos (by decide)]
   ·right
    exact ⟨.inr (), by rw [if_neg (by simpa using hlt)], rfl⟩) ⟨Int.le_refl _, by unfold cnt; omega⟩
  rw [hr, obs]
 ·rw [if_pos (by simpa using c0)]
end
end Go.Proofs.YtaocimmckbhhbaaGreat.AM
