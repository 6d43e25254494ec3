import Derived.Test.YtaocimmckbhhbaaGreatMd1
import Derived.IntWalk
import Derived.Laws.StructEq
import Derived.Laws.AppendOwn
import Derived.Laws.IdiomStrings
import Derived.ChangeKeysEq
import Derived.Lib.SliceRun
set_option linter.unusedVariables false
set_option linter.unusedSimpArgs false
namespace Go.Proofs.YtaocimmckbhhbaaGreat.AM
open Go
section
def Ent (P : Program) (f : FuncId) : Prop := ∃ fn, P.funcs[f]? = some fn ∧ (fn.name == "runtime.NumGoroutine") = false ∧ fn.body.isNone = false
theorem Y2q {P : Program} {f : FuncId} (h : Ent P f) (args : Array Value) (W : World) : (callFunc f args).run P W = .ok (.enter f args) W := by
 obtain ⟨fn, h1, h2, h3⟩ := h
 have h2' : fn.name ≠ "runtime.NumGoroutine" := by simpa using h2
 have h3' : fn.body ≠ none := by rintro h; rw [h] at h3; cases h3
 simp [callFunc, h1, h2', h3']
def calE {δ : Type} (ρ : Operand → Option (V δ)) : Callee → Option (FuncId × List (L δ))
 | .value x => match lO (ρ x) with
  | some (.fn _ f caps) => some (f, caps)
  | _ => none
 | _ => none
def borU (lk : Lk) : U Unit → Option (U Unit × List Nat)
 | .one l => (borL lk 4 l).map fun p => (.one p.1, p.2)
 | .agg ls => (mapO (borL lk 4) ls).map fun p => (.agg p.1, p.2)
def X1m (lk : Lk) (ρ : Env) : List Operand → Option (List (U Unit) × List Nat)
 | [] => some ([], [])
 | x :: xs => (uO (ρ x)).bind fun u => (borU lk u).bind fun p => (X1m lk ρ xs).bind fun q => some (p.1 :: q.1, p.2 ++ q.2)
def Z2h (v : V Unit) : Bool := (Z3 v).all Z4d
def CallB (P : Program) (o : Oper) (s : S Unit) (nid : Nat) (e : Eff) : Prop :=
 ∃ c f caps us rd cs rd2 r, o.op = .call c ∧ calE (evA s) c.callee = some (f, caps) ∧ X1m (look s.ob) (evA s) c.args.toList = some (us, rd) ∧ mapO (borL (look s.ob) 4) caps = some (cs, rd2) ∧
  Ent P f ∧ Sim P f (us ++ cs.map .one) [] r [] ∧ Z2h r = true ∧
  e = { v := (Z4a (fun _ => ()) nid r).1, rd := rd ++ rd2, news := (Z4a (fun _ => ()) nid r).2.map (·.2) }
structure ArgOk (W : World) (d : S Value) (u : U Value) (x : Value) : Prop where
 ur : UR u x
 leaf : ∀ l ∈ Z1 u, noOs l = true ∧ idsL l = [] ∧ wfL false l ∧ ∀ p ∈ immL l, W6z W d p
theorem W4i {W : World} {d : S Value} (hg : Good W d) {u : U Value} {x : Value} (hx : UR u x) (hh : ∀ l ∈ Z1 u, Has d l) {p : U Unit × List Nat} (h : borU (look (erS d).ob) (erU u) = some p) :
  ∃ u', erU u' = p.1 ∧ ArgOk W d u' x := by
 cases u with
 | one l =>
  simp only [mapU, borU, Option.map_eq_some_iff] at h
  obtain ⟨q, hq, rfl⟩ := h
  obtain ⟨l', h1, h2⟩ := X6a hg 4 (hh l (by simp [Z1])) hq
  refine ⟨.one l', by simp [mapU, h1], ?_, fun l2 hl2 => ?_⟩
  ·simp only [UR] at hx ⊢
   rw [hx, h2.val]
  ·simp only [Z1, List.mem_singleton] at hl2
   subst hl2
   exact ⟨h2.no, h2.free, h2.wf, h2.imm⟩
 | agg ls =>
  simp only [mapU, borU, Option.map_eq_some_iff] at h
  obtain ⟨q, hq, rfl⟩ := h
  obtain ⟨ls', h1, h2⟩ := Y9z (R := Bor W d) hq (fun l hl y hy => X6a hg 4 (hh l hl) hy)
  refine ⟨.agg ls', by simp [mapU, h1], ?_, fun l2 hl2 => ?_⟩
  ·simp only [UR] at hx ⊢
   rw [hx, Y5u h2]
  ·obtain ⟨l0, _, hb⟩ := Y0h h2 l2 hl2
   exact ⟨hb.no, hb.free, hb.wf, hb.imm⟩
theorem X9s {W : World} {d : S Value} {a : Act} (hg : Good W d) (hs : SlR d a) : ∀ {xs : List Operand} {p : List (U Unit) × List Nat}, X1m (look (erS d).ob) (evA (erS d)) xs = some p →
  ∃ us', us'.map erU = p.1 ∧ All2 (ArgOk W d) us' (xs.map a.eval)
 | [], p, h => by cases h; exact ⟨[], rfl, .nil⟩
 | x :: xs, p, h => by
  simp only [X1m] at h
  obtain ⟨u, hu, h⟩ := bind_some h
  obtain ⟨q, hq, h⟩ := bind_some h
  obtain ⟨q2, hq2, h⟩ := bind_some h
  cases h
  obtain ⟨u', h1, h2, h3⟩ := u_ok hg hs hu
  subst h1
  obtain ⟨u2, h4, h5⟩ := W4i hg h2 h3 hq
  obtain ⟨us', h6, h7⟩ := X9s hg hs hq2
  exact ⟨u2 :: us', by simp [h4, h6], .cons h5 h7⟩
mutual
theorem Y3h : ∀ {l : L Value}, Z4d (erL l) = true → immL l = []
 | .int _ _, _ | .bool _, _ | .str _, _ | .nl, _ | .nilp, _ | .ref _ _ _ _, _ | .ptr _ _ _ _, _ => by simp [immL]
 | .os v n rows, h => by
  simp only [mapL, Z4d] at h
  simp only [immL]
  exact Y1q h
 | .bs _ _ _, h | .ip _ _, h | .fn _ _ _, h => by simp [mapL, Z4d] at h
theorem X0j : ∀ {ls : List (L Value)}, Y0e (mapC (fun _ => ()) ls) = true → immC ls = []
 | [], _ => rfl
 | l :: ls, h => by
  simp only [mapC, Y0e, Bool.and_eq_true] at h
  simp only [immC, Y3h h.1, X0j h.2, List.append_nil]
theorem Y1q : ∀ {rs : List (List (L Value))}, Z7m (mapR (fun _ => ()) rs) = true → immR rs = []
 | [], _ => rfl
 | r :: rs, h => by
  simp only [mapR, Z7m, Bool.and_eq_true] at h
  simp only [immR, X0j h.1, Y1q h.2, List.append_nil]
end
theorem Y1v {α β : Type} {R : α → β → Prop} : ∀ {xs : List α} {ys : List β} {xs' : List α} {ys' : List β}, All2 R xs ys → All2 R xs' ys' → All2 R (xs ++ xs') (ys ++ ys')
 | _, _, _, _, .nil, h' => h'
 | _, _, _, _, .cons h t, h' => .cons h (Y1v t h')
theorem Y0i {α β : Type} {R R' : α → β → Prop} (hr : ∀ x y, R x y → R' x y) : ∀ {xs : List α} {ys : List β}, All2 R xs ys → All2 R' xs ys
 | _, _, .nil => .nil
 | _, _, .cons h t => .cons (hr _ _ h) (Y0i hr t)
theorem Y8w {α β : Type} {R : α → β → Prop} {γ : Type} {f : γ → α} {g : γ → β} : ∀ {xs : List γ}, (∀ x ∈ xs, R (f x) (g x)) → All2 R (xs.map f) (xs.map g)
 | [], _ => .nil
 | x :: xs, h => .cons (h x (by simp)) (Y8w fun y hy => h y (List.mem_cons_of_mem _ hy))
theorem X6j {β : Type} : ∀ (n : Nat) (l : List (Nat × β)), l.map (·.1) = List.range' n l.length → ((l.map (·.2)).zipIdx n).map (fun q => (q.2, q.1)) = l
 | n, [], _ => rfl
 | n, p :: l, h => by
  simp only [List.map_cons, List.length_cons, List.range'_succ, List.cons.injEq] at h
  obtain ⟨rfl, h2⟩ := h
  simp only [List.map_cons, List.zipIdx_cons, X6j (p.1 + 1) l h2]
theorem Y1u {δ : Type} (s : S δ) (dst : Option Nat) (nid : Nat) (v : V δ) (news : List (Ob δ)) : app s dst nid v news [] [] = U1 ⟨s.sl, s.ob ++ (news.zipIdx nid).map (fun q => (q.2, q.1)), s.nx + news.length⟩ dst v := by
 simp [app, Y3a, List.filter_eq_self.2 (fun _ _ => rfl)]
theorem X4s {P : Program} {o : Oper} {s : S Unit} {nid : Nat} {e : Eff} (h : CallB P o s nid e) : X1b P o s nid e := by
 obtain ⟨c, f, caps, us, rd, cs, rd2, r, ho, hcal, hargs, hcaps, hent, hsim, himf, rfl⟩ := h
 intro B d a W hd hi hs hf hdef
 subst hd
 refine ⟨trivial, ?_⟩
 obtain ⟨x, hx, hlx⟩ : ∃ x, c.callee = .value x ∧ ∃ v, lO (evA (erS d) x) = some (.fn v f caps) := by
  unfold calE at hcal
  split at hcal
  ·rename_i x hcx
   split at hcal
   ·rename_i v f' caps' hl
    cases hcal
    exact ⟨x, hcx, v, hl⟩
   ·cases hcal
  ·cases hcal
 obtain ⟨v, hlx⟩ := hlx
 obtain ⟨l', h1, h2, h3⟩ := V8 hi.good hs hlx
 obtain ⟨v', caps', rfl, hc'⟩ : ∃ v' caps', l' = .fn v' f caps' ∧ caps'.map erL = caps := by
  cases l' <;> simp [mapL] at h1
  rename_i v' f' c'
  exact ⟨v', c', by rw [h1.1], by rw [← h1.2, Z7f]⟩
 obtain ⟨_, hv', hw'⟩ := h3.1
 have hcap : ∀ l ∈ caps', Has d l := fun l hl => by
  refine ⟨(Z8n _ _).1 hw' l hl, (Z9h _ _).1 h3.2.1 l hl, fun p hp => h3.2.2.1 p ?_, fun i hi => h3.2.2.2 i ?_⟩
  ·simp only [immL, Z7z]
   exact List.mem_flatMap.2 ⟨l, hl, hp⟩
  ·simp only [idsL, Y2w]
   exact List.mem_flatMap.2 ⟨l, hl, hi⟩
 rw [← hc'] at hcaps
 obtain ⟨cs', hcs1, hcs2⟩ := Y9z (R := Bor W d) hcaps (fun l hl y hy => X6a hi.good 4 (hcap l hl) hy)
 obtain ⟨us', hus1, hus2⟩ := X9s hi.good hs hargs
 simp only at hcs1 hus1
 have hrun : (execOp a.eval o).run P W = .ok (.enter f (c.args.toList.map a.eval ++ cs'.map val).toArray) W := by
  simp only [execOp, ho, resolve, hx, h2, val, hv', Deferred.ofValue, pure_bind, invoke]
  rw [Y2q hent]
  congr 2
  apply Array.ext'
  simp [Y5u hcs2]
 let dc : S Value := ⟨(us' ++ cs'.map U.one).map V.u, [], 0⟩
 have hleaf : ∀ l ∈ tops dc, noOs l = true ∧ idsL l = [] ∧ wfL false l ∧ ∀ p ∈ immL l, W6z W d p := by
  intro l hl
  rcases mem_tops.1 hl with ⟨u0, hu0, hl⟩ | hl
  ·obtain ⟨u, hu1, rfl⟩ := List.mem_map.1 hu0
   rcases List.mem_append.1 hu1 with hu | hu
   ·obtain ⟨i, hi⟩ := List.mem_iff_getElem?.1 hu
    have hlen := Z3g hus2
    have hlt : i < (c.args.toList.map a.eval).length := by rw [← hlen]; exact (List.getElem?_eq_some_iff.1 hi).1
    exact (Z1i hus2 i u _ hi (List.getElem?_eq_getElem hlt)).leaf l hl
   ·obtain ⟨l0, hl0, rfl⟩ := List.mem_map.1 hu
    simp only [Z3, Z1, List.mem_singleton] at hl
    subst hl
    obtain ⟨l1, _, hb⟩ := Y0h hcs2 l hl0
    exact ⟨hb.no, hb.free, hb.wf, hb.imm⟩
  ·simp [X6, dc] at hl
 have hown : ownS dc = [] := by
  have : (tops dc).flatMap ownL = [] := List.flatMap_eq_nil_iff.2 fun l hl => Z0m (hleaf l hl).1
  simp only [ownS, this, List.append_nil]
  rfl
 have hgood : Good W dc := {
  wf := fun l hl => ⟨(hleaf l hl).2.2.1, Z9g (hleaf l hl).2.1⟩
  obs := fun p hp => by cases hp
  ids := List.nodup_nil
  own := fun p hp => by rw [hown] at hp; cases hp
  nodup := by rw [hown]; exact List.nodup_nil
  imm := fun p hp hne => by
   obtain ⟨l, hl, hp⟩ := List.mem_flatMap.1 hp
   refine ⟨?_, fun q hq => by rw [hown] at hq; cases hq⟩
   rcases (hleaf l hl).2.2.2 p hp with h0 | h0 | h0
   ·exact absurd h0 hne
   ·rcases h0 with h0 | ⟨q, hq, hs⟩
    ·exact absurd h0 hne
    ·exact hs.fact (hi.good.imm q hq (hs.ne hne)).1
   ·exact h0.1 }
 have hall : All2 UR (us' ++ cs'.map U.one) (c.args.toList.map a.eval ++ cs'.map val) :=
  Y1v (Y0i (fun _ _ h => h.ur) hus2) (Y8w fun l _ => rfl)
 have hcalls := hsim W dc (us' ++ cs'.map U.one) _ rfl (by simp [hus1, ← hcs1, mapU, Function.comp_def]) hall rfl hgood (fun l hl i hi => by rw [(hleaf l hl).2.1] at hi; cases hi)
 unfold Oper.wp
 rw [hrun]
 simp only [Oper.upon]
 refine Calls.mono hcalls fun e W' he => ?_
 obtain ⟨y, d', rv, rfl, hd'sl, hrv, hd'ob, hvr, hend⟩ := he
 have hob' : d'.ob = [] := by
  have : (erS d').ob = [] := hd'ob
  simpa [erS, mapS] using this
 have htop' : tops d' = Z3 rv := by simp [tops, hd'sl, hob', X6]
 have hown' : ownS d' = (Z3 rv).flatMap ownL := by simp [ownS, hob', htop']
 obtain ⟨hlv, hlo⟩ := Z8h hdV nid rv
 have hm := Y0t nid (Z3 rv)
 have hkeys := Z6m hdV nid (Z3 rv)
 have hperm := Y0s nid (Z3 rv)
 rw [← hlv, ← hlo] at hm
 rw [← hlo] at hkeys
 rw [← hlv, ← hlo] at hperm
 have herv := X2s nid rv
 rw [hrv] at herv
 rw [herv] at hf ⊢
 simp only [List.length_map] at hf ⊢
 generalize hrr : Z4a hdV nid rv = rr at *
 obtain ⟨rv', obs⟩ := rr
 simp only at hm hkeys hperm hf hlv hlo ⊢
 have hrleaf : ∀ l ∈ Z3 rv, wfL false l ∧ idsL l = [] ∧ immL l = [] := fun l hl => by
  have hl' : l ∈ tops d' := by rw [htop']; exact hl
  refine ⟨(hend.good.wf l hl').1, List.eq_nil_iff_forall_not_mem.2 fun i hi => by have := hend.known l hl' i hi; rw [hob'] at this; simp at this, ?_⟩
  rw [← hrv] at himf
  simp only [Z2h, Z9r, List.all_map, List.all_eq_true, Function.comp_def] at himf
  exact Y3h (himf l hl)
 have himm' : immS d' = [] := by
  simp only [immS, htop', List.flatMap_eq_nil_iff]
  exact fun l hl => (hrleaf l hl).2.2
 have hnk : ∀ i, Z3h d i → i ∉ obs.map (·.1) := fun i hk hm2 => by
  rw [hkeys, List.mem_range'_1] at hm2
  have := hf.1 i hk
  omega
 have hlook : ∀ i, i ∉ obs.map (·.1) → look (d.ob ++ obs) i = look d.ob i := fun i hi => by
  unfold look
  rw [List.find?_append]
  have : obs.find? (fun p => p.1 == i) = none := by
   rw [List.find?_eq_none]
   intro p hp
   simp only [beq_iff_eq]
   rintro rfl
   exact hi (List.mem_map.2 ⟨p, hp, rfl⟩)
  rw [this, Option.or_none]
 have hnodup : ((d.ob ++ obs).map (·.1)).Nodup := by
  rw [List.map_append, List.nodup_append]
  refine ⟨hi.good.ids, by rw [hkeys]; exact List.nodup_range', fun i hi2 j hj e => ?_⟩
  subst e
  exact hnk i (.inr hi2) hj
 have hobrow : ∀ p ∈ obs, ∃ v m rows, (.os v m rows : L Value) ∈ Z3 rv ∧ p.2 = ⟨hdV v, m, rows⟩ ∧ X3p v rows ∧ (∀ r ∈ rows, r.length = m) ∧ wfR true rows := fun p hp => by
  obtain ⟨v, m, rows, h1, h2⟩ := hm.2 p hp
  have := (hrleaf _ h1).1
  exact ⟨v, m, rows, h1, h2, this.1, this.2.1, this.2.2⟩
 let d1 : S Value := ⟨d.sl ++ [rv'], d.ob ++ obs, d.nx + obs.length⟩
 have htop1 : ∀ l ∈ tops d1, l ∈ tops d ∨ l ∈ Z3 rv' ∨ ∃ p ∈ obs, ∃ r ∈ p.2.rows, l ∈ r := fun l hl => by
  rcases mem_tops.1 hl with ⟨u, hu, hl2⟩ | hl
  ·rcases List.mem_append.1 hu with hu | hu
   ·exact .inl (mem_tops.2 (.inl ⟨u, hu, hl2⟩))
   ·simp only [List.mem_singleton] at hu
    subst hu
    exact .inr (.inl hl2)
  ·rw [Z0n, List.mem_append] at hl
   rcases hl with hl | hl
   ·exact .inl (mem_tops.2 (.inr hl))
   ·exact .inr (.inr (mem_obLeaves.1 hl))
 have hrow : ∀ p ∈ obs, ∀ r ∈ p.2.rows, ∀ l ∈ r, wfL true l ∧ immL l = [] := fun p hp r hr l hl => by
  obtain ⟨v, m, rows, h1, h2, _, _, h5⟩ := hobrow p hp
  rw [h2] at hr
  refine ⟨(Z5h _ _).1 h5 r hr l hl, ?_⟩
  have := (hrleaf _ h1).2.2
  simp only [immL, Z4r, List.flatMap_eq_nil_iff] at this
  exact this l (List.mem_flatten.2 ⟨r, hr, hl⟩)
 have hwfo : ∀ l ∈ Z3 rv', wfL false l ∧ W7 d1.ob l ∧ immL l = [] ∧ noOs l = true ∧ ∀ i ∈ idsL l, i ∈ obs.map (·.1) := fun l hl => by
  rcases hm.1 l hl with ⟨h1, h2⟩ | ⟨i, v, m, rows, rfl, h2, h3⟩
  ·have := hrleaf l h1
   exact ⟨this.1, Z9g this.2.1, this.2.2, h2, by rw [this.2.1]; simp⟩
  ·have hown2 := (hrleaf _ h2).1.1
   have hv2 : ∃ a n c, v = .slice a n c := by
    rcases hown2 with ⟨rfl, _⟩ | ⟨_, _, _, rfl, _⟩ <;> exact ⟨_, _, _, rfl⟩
   refine ⟨⟨rfl, hv2⟩, fun o2 ho2 => ?_, rfl, rfl, fun j hj => ?_⟩
   ·rw [J2 hnodup (List.mem_append_right _ h3)] at ho2
    cases ho2
    refine ⟨by simp, ?_⟩
    rcases hown2 with ⟨rfl, _⟩ | ⟨b, x, c, rfl, _⟩
    ·exact .inl ⟨rfl, rfl⟩
    ·exact .inr ⟨b, x, c, rfl, .inl (by simp)⟩
   ·simp only [idsL, List.mem_singleton] at hj
    subst hj
    exact List.mem_map.2 ⟨_, h3, rfl⟩
 have hinv1 : Inv B W' d1 := by
  refine X0x hi (rest := ownS d) (by rw [hown]; exact .refl _) (.inr himm') hend ?_ (fun p hp => ?_) (fun l hl => ?_) (fun p hp => ?_) hnodup (fun p hp hlt => ?_)
  ·classical
   refine List.perm_iff_count.2 fun q => ?_
   have h5 := List.perm_iff_count.1 hperm.2 q
   have h6 := hperm.1
   simp only [ownS, tops, d1, Z0n, List.flatMap_append, List.flatMap_cons, List.flatMap_nil, List.append_nil, List.count_append, h6, hd'sl, hob', List.count_nil] at h5 ⊢
   simp only [X6, List.flatMap_nil, List.count_nil, Nat.add_zero, Nat.zero_add] at h5 ⊢
   omega
  ·obtain ⟨l, hl, hp⟩ := List.mem_flatMap.1 hp
   rcases htop1 l hl with h5 | h5 | ⟨q, hq, r', hr', h5⟩
   ·exact .inl (.of_mem (List.mem_flatMap.2 ⟨l, h5, hp⟩))
   ·rw [(hwfo l h5).2.2.1] at hp; cases hp
   ·rw [(hrow q hq r' hr' l h5).2] at hp; cases hp
  ·rcases htop1 l hl with h5 | h5 | ⟨q, hq, r', hr', h5⟩
   ·have hh := Z8a hi.good h5
    exact ⟨hh.1, Z7v (fun i hi2 => .inl (hlook i (hnk i (hh.2.2.2 i hi2)))) hh.2.1⟩
   ·exact ⟨(hwfo l h5).1, (hwfo l h5).2.1⟩
   ·have := Z6k (hrow q hq r' hr' l h5).1
    exact ⟨this.1, this.2.1 _⟩
  ·rcases List.mem_append.1 hp with hp | hp
   ·exact hi.good.obs p hp
   ·obtain ⟨v, m, rows, _, h2, h3, h4, _⟩ := hobrow p hp
    rw [h2]
    refine ⟨?_, h4⟩
    rcases h3 with ⟨rfl, rfl⟩ | ⟨b, x, c, rfl, h5, h6⟩
    ·exact .inl ⟨rfl, rfl⟩
    ·exact .inr ⟨b, x, c, rfl, h5, h6⟩
  ·rcases List.mem_append.1 hp with hp | hp
   ·exact hi.hdr p hp hlt
   ·have : p.1 ∈ obs.map (·.1) := List.mem_map.2 ⟨p, hp, rfl⟩
    rw [hkeys, List.mem_range'_1] at this
    have := hf.2
    omega
 let d2 : S Value := U1 ⟨d.sl, d.ob ++ obs, d.nx + obs.length⟩ o.dst rv'
 have hd2ob : d2.ob = d1.ob := Z4y _ _ _
 have hno' : (Z3 rv').flatMap ownL = [] := List.flatMap_eq_nil_iff.2 fun l hl => Z0m (hwfo l hl).2.2.2.1
 have htop2 : ∀ l ∈ tops d2, l ∈ tops d1 := fun l hl => by
  rcases mem_tops.1 hl with ⟨u, hu, hl2⟩ | hl2
  ·refine mem_tops.2 (.inl ⟨u, ?_, hl2⟩)
   show u ∈ d.sl ++ [rv']
   cases hdst : o.dst with
   | none =>
    simp only [d2, hdst, U1] at hu
    exact List.mem_append_left _ hu
   | some t =>
    simp only [d2, hdst, U1] at hu
    rcases List.mem_or_eq_of_mem_set hu with hu | rfl
    ·exact List.mem_append_left _ hu
    ·exact List.mem_append_right _ (by simp)
  ·rw [hd2ob] at hl2
   exact mem_tops.2 (.inr hl2)
 have hsub2 : (ownS d2).Sublist (ownS d1) := by
  simp only [ownS, tops, hd2ob, List.flatMap_append]
  refine (List.Sublist.refl _).append (List.Sublist.append ?_ (List.Sublist.refl _))
  rw [List.flatMap_assoc, List.flatMap_assoc]
  have e : d1.sl.flatMap (fun x => List.flatMap ownL (Z3 x)) = d.sl.flatMap (fun x => List.flatMap ownL (Z3 x)) := by
   simp only [d1, List.flatMap_append, List.flatMap_cons, List.flatMap_nil, List.append_nil, hno']
  rw [e]
  cases hdst : o.dst with
  | none =>
   simp only [d2, hdst, U1]
   exact List.Sublist.refl _
  | some t =>
   simp only [d2, hdst, U1]
   exact Z1h (fun x => List.flatMap ownL (Z3 x)) _ hno' _ _
 have hinv2 : Inv B W' d2 := hinv1.step (Nat.le_refl _) (Same.refl _) (fun _ _ _ => rfl) (fun l hl => by rw [hd2ob]; exact hinv1.good.wf l (htop2 l hl)) (by rw [hd2ob]; exact hinv1.good.obs) (by rw [hd2ob]; exact hinv1.good.ids)
  (fun p hp => ⟨hinv1.good.own p (hsub2.subset hp), .inl ⟨p, hsub2.subset hp, rfl⟩⟩) (hinv1.good.nodup.sublist (hsub2.map _)) (fun p hp => by
   obtain ⟨l, hl, hp⟩ := List.mem_flatMap.1 hp
   exact .of_mem (List.mem_flatMap.2 ⟨l, htop2 l hl, hp⟩)) (by rw [hd2ob]; exact hinv1.hdr)
 refine ⟨d2, ?_, hinv2, SlR.put (d := ⟨d.sl, d.ob ++ obs, d.nx + obs.length⟩) ⟨hs.1, hs.2⟩ o.dst ?_, by rw [Z6n]; exact hdef, fun i hk => ?_⟩
 ·have hk2 : (obs.map (fun p => (p.1, erOb p.2))).map (·.1) = List.range' nid (obs.map (fun p => (p.1, erOb p.2))).length := by
   rw [List.map_map, List.length_map, ← hkeys]
   rfl
  have hre := X6j nid _ hk2
  simp only [d2, Y0x, appE, Y1u]
  rw [hre]
  simp [erS, mapS]
 ·have := X2t (n := nid) hvr
  rw [hrr] at this
  exact this
 ·rcases hk with ⟨l, hl, hi2⟩ | hi2
  ·rcases htop1 l (htop2 l hl) with h5 | h5 | ⟨q, hq, r', hr', h5⟩
   ·exact .inl (.inl ⟨l, h5, hi2⟩)
   ·have := (hwfo l h5).2.2.2.2 i hi2
    rw [hkeys, List.mem_range'_1] at this
    exact .inr this
   ·rw [(Z6k (hrow q hq r' hr' l h5).1).2.2] at hi2; cases hi2
  ·rw [hd2ob] at hi2
   simp only [d1, List.map_append, List.mem_append] at hi2
   rcases hi2 with hi2 | hi2
   ·exact .inl (.inr hi2)
   ·rw [hkeys, List.mem_range'_1] at hi2
    exact .inr hi2
end
section
def sysC (P : Program) : Sys P := { E := fun o s nid e => opF P o.op (evA s) (look s.ob) nid = some e ∨ CallB P o s nid e, ok := fun h => h.elim X4q X4s }
section
variable {P : Program} {Y : Sys P}
theorem W2r {ops rest : List Oper} {dst : Option Nat} {op : Op} {ty : TypeId} {pos : String} {aft : Array Edge} {j : Nat} {want : Bool} {s : S Unit} {K : S Unit → Prop} {t : Nat} (ht : Z9c ops j = some t)
  (h : gdv (s.sl[t]?) t s want (fun s => J8 Y ops (⟨dst, op, ty, pos, aft, none⟩ :: rest) s K) (fun s => J8 Y ops rest (U1 s dst .ud) K)) :
  J8 Y ops (⟨dst, op, ty, pos, aft, some (j, want)⟩ :: rest) s K := by
 have ht' : (ops[j]?).bind (·.dst) = some t := ht
 simp only [J8, ht']
 unfold gdv at h
 split at h
 ·rename_i b hb
  try rw [hb]
  cases want with
  | true =>
   refine ⟨fun hbt => ?_, fun hbf => h.2 (by simpa using hbf)⟩
   exact h.1 hbt
  | false =>
   refine ⟨fun hbt => ?_, fun hbf => h.1 (by simpa using hbf)⟩
   exact h.2 hbt
 ·rename_i hb
  try rw [hb]
  exact h
 ·exact h.elim
end
end
section
theorem Gh.drop (s : S Unit) (f : Nat → Bool) : Gh s ⟨s.sl, s.ob.filter (fun p => f p.1), s.nx⟩ := by
 rintro B a W ⟨d, rfl, hi, hs, hdef, hk, hn⟩
 let d' : S Value := ⟨d.sl, d.ob.filter (fun p => f p.1), d.nx⟩
 have hsub : (d.ob.filter (fun p => f p.1)).Sublist d.ob := List.filter_sublist
 have htop : ∀ l ∈ tops d', l ∈ tops d := fun l hl => by
  rcases mem_tops.1 hl with hl | hl
  ·exact mem_tops.2 (.inl hl)
  ·obtain ⟨p, hp, r, hr, hlr⟩ := mem_obLeaves.1 hl
   exact mem_tops.2 (.inr (mem_obLeaves.2 ⟨p, hsub.subset hp, r, hr, hlr⟩))
 have hsubo : (ownS d').Sublist (ownS d) := by
  have e : X6 d'.ob = (d.ob.filter (fun p => f p.1)).flatMap (fun p => p.2.rows.flatten) := rfl
  have e2 : X6 d.ob = d.ob.flatMap (fun p => p.2.rows.flatten) := rfl
  simp only [ownS, tops, List.flatMap_append, e, e2, List.flatMap_assoc]
  exact (Z1c hsub _).append ((List.Sublist.refl _).append (Z1c hsub _))
 refine ⟨d', by simp [erS, mapS, d', List.filter_map, Function.comp_def], ?_, hs, hdef, fun i hi2 => hk i ?_, hn⟩
 ·exact hi.step (Nat.le_refl _) (Same.refl _) (fun _ _ _ => rfl) (fun l hl => ⟨(hi.good.wf l (htop l hl)).1, Z7v (fun i _ => Z9q) (hi.good.wf l (htop l hl)).2⟩) (fun p hp => hi.good.obs p (hsub.subset hp)) (hi.good.ids.sublist (hsub.map _))
   (fun p hp => ⟨hi.good.own p (hsubo.subset hp), .inl ⟨p, hsubo.subset hp, rfl⟩⟩) (hi.good.nodup.sublist (hsubo.map _)) (fun p hp => by
    obtain ⟨l, hl, hp⟩ := List.mem_flatMap.1 hp
    exact .of_mem (List.mem_flatMap.2 ⟨l, htop l hl, hp⟩)) (fun p hp => hi.hdr p (hsub.subset hp))
 ·rcases hi2 with ⟨l, hl, h⟩ | h
  ·exact .inl ⟨l, htop l hl, h⟩
  ·exact .inr ((hsub.map _).subset h)
end
section
def Z1j {δ : Type} (u : U δ) (j : Nat) (l : L δ) : U δ := match u with
 | .one l0 => if j = 0 then .one l else .one l0
 | .agg ls => .agg (ls.set j l)
theorem Z6s {δ : Type} {u : U δ} {j : Nat} {l : L δ} (h : j < (Z1 u).length) : Z1 (Z1j u j l) = (Z1 u).set j l := by
 cases u with
 | one l0 =>
  simp only [Z1, List.length_singleton] at h
  have : j = 0 := by omega
  subst this
  rfl
 | agg ls => rfl
theorem Y4j (u : U Value) (j : Nat) (l : L Value) : erU (Z1j u j l) = Z1j (erU u) j (erL l) := by
 cases u with
 | one l0 => by_cases h : j = 0 <;> simp [Z1j, mapU, h]
 | agg ls => simp [Z1j, mapU, List.map_set]
theorem Y4k {u : U Value} {j : Nat} {l l0 : L Value} {x : Value} (h : UR u x) (hj : (Z1 u)[j]? = some l0) (hv : val l = val l0) : UR (Z1j u j l) x := by
 cases u with
 | one l1 =>
  simp only [Z1] at hj
  have : j = 0 := by
   rcases j with _ | j
   ·rfl
   ·simp at hj
  subst this
  simp at hj
  subst hj
  simp only [Z1j, UR, if_true] at h ⊢
  rw [hv]; exact h
 | agg ls =>
  simp only [Z1j, UR] at h ⊢
  rw [h]
  congr 2
  apply List.ext_getElem?
  intro i
  simp only [List.getElem?_map, List.getElem?_set]
  by_cases hi : j = i
  ·subst hi
   simp only [Z1] at hj
   have hlt := (List.getElem?_eq_some_iff.1 hj).1
   simp only [if_true, hlt, hj, Option.map_some, hv]
  ·simp [hi]
theorem Z4z {α β : Type} {f : α → List β} {e : List β} {x x0 : α} : ∀ {ls : List α} {j : Nat}, ls[j]? = some x0 → (f x).Perm (e ++ f x0) → ((ls.set j x).flatMap f).Perm (e ++ ls.flatMap f)
 | [], j, h, _ => by simp at h
 | y :: ls, 0, h, hp => by
  simp only [List.getElem?_cons_zero, Option.some.injEq] at h
  subst h
  simp only [List.set_cons_zero, List.flatMap_cons, ← List.append_assoc]
  exact hp.append_right _
 | y :: ls, j + 1, h, hp => by
  simp only [List.getElem?_cons_succ] at h
  simp only [List.set_cons_succ, List.flatMap_cons]
  refine ((Z4z h hp).append_left (f y)).trans ?_
  rw [← List.append_assoc, ← List.append_assoc]
  exact List.perm_append_comm.append_right _
theorem Y2x {δ : Type} {l1 l2 : List (Nat × Ob δ)} {id : Nat} {o : Ob δ} (h1 : ∀ p ∈ l1, p.1 ≠ id) (h2 : ∀ p ∈ l2, p.1 ≠ id) : (l1 ++ (id, o) :: l2).filter (fun p => !(p.1 == id)) = l1 ++ l2 := by
 rw [List.filter_append, List.filter_cons_of_neg (by simp), List.filter_eq_self.2 (fun p hp => by simpa using h1 p hp), List.filter_eq_self.2 (fun p hp => by simpa using h2 p hp)]
theorem Gh.fold {s : S Unit} {t j id len : Nat} {u : U Unit} (ht : s.sl[t]? = some (.u u)) (hj : (Z1 u)[j]? = some (.ref () id 0 len)) {o : Ob Unit} (ho : look s.ob id = some o) (hl : len = o.rows.length)
  (hn : o.rows.all (fun r => r.all Z7e) = true) : Gh s ⟨s.sl.set t (.u (Z1j u j (.os () o.n o.rows))), s.ob.filter (fun p => !(p.1 == id)), s.nx⟩ := by
 rintro B a W ⟨d, rfl, hi, hs, hdef, hk, hn0⟩
 obtain ⟨v1, hv1, hv2⟩ := Y5n ht
 obtain ⟨u', rfl, rfl⟩ : ∃ u', v1 = .u u' ∧ erU u' = u := by
  cases v1 with
  | u x => exact ⟨x, rfl, by injection hv2⟩
  | tup xs => cases hv2
  | un => cases hv2
  | ud => cases hv2
 rw [Q2, List.getElem?_map, Option.map_eq_some_iff] at hj
 obtain ⟨l', hj', hl'⟩ := hj
 obtain ⟨v', rfl⟩ := Y5m hl'
 obtain ⟨o', ho', rfl⟩ := U7 ho
 have hlt : t < d.sl.length := (List.getElem?_eq_some_iff.1 hv1).1
 have hjlt : j < (Z1 u').length := (List.getElem?_eq_some_iff.1 hj').1
 have hmem : L.ref v' id 0 len ∈ tops d := mem_tops.2 (.inl ⟨.u u', List.mem_of_getElem? hv1, List.mem_of_getElem? hj'⟩)
 have hlen' : len = o'.rows.length := by simpa [erOb, Z3e] using hl
 subst hlen'
 obtain ⟨_, hform⟩ := (hi.good.wf _ hmem).2 o' ho'
 have hobs : _ ∧ ∀ r ∈ o'.rows, r.length = o'.n := hi.good.obs _ (find?_key ho')
 have hnest : ∀ r ∈ o'.rows, ∀ l ∈ r, Z7e l = true := by
  simp only [erOb, Z3e, List.all_map, List.all_eq_true, Function.comp_def, Y6h] at hn
  exact hn
 have hos : X3p v' o'.rows ∧ Y7 v' o'.n o'.rows = Y7 o'.h o'.n o'.rows := by
  rcases hform with ⟨h0, hv⟩ | ⟨b, x, c0, h0, hv⟩
  ·have hr0 : o'.rows = [] := by
    rcases hobs.1 with ⟨_, h1⟩ | ⟨_, _, _, h1, _⟩
    ·exact h1
    ·simp only at h1; rw [h0] at h1; cases h1
   exact ⟨.inl ⟨hv, hr0⟩, by rw [hv, h0]⟩
  ·rcases hv with hv | ⟨y, _, _, h9, _⟩
   ·rcases hobs.1 with ⟨h7, _⟩ | ⟨b2, x2, c2, h7, h8, h9⟩
    ·simp only at h7; rw [h0] at h7; cases h7
    ·simp only at h7 h8 h9
     rw [h0] at h7
     cases h7
     simp only [Nat.zero_mul, Nat.add_zero, Nat.sub_zero] at hv
     exact ⟨.inr ⟨b, x, c0, hv, h8, h9⟩, by rw [hv, h0]; rfl⟩
   ·omega
 have hwfo : wfL false (.os v' o'.n o'.rows) := ⟨hos.1, hobs.2, (Z5h _ _).2 fun r hr l hlr => Y6g (hnest r hr l hlr) (Z6v hi.good ho' hr hlr).1⟩
 let nv : V Value := .u (Z1j u' j (.os v' o'.n o'.rows))
 let d' : S Value := ⟨d.sl.set t nv, d.ob.filter (fun p => !(p.1 == id)), d.nx⟩
 have hlv : Z3 nv = (Z1 u').set j (.os v' o'.n o'.rows) := Z6s hjlt
 have hsub : (d.ob.filter (fun p => !(p.1 == id))).Sublist d.ob := List.filter_sublist
 have htop : ∀ l ∈ tops d', l ∈ tops d ∨ l = .os v' o'.n o'.rows := fun l hl => by
  rcases mem_tops.1 hl with ⟨w, hw, hl2⟩ | hl2
  ·rcases List.mem_or_eq_of_mem_set hw with hw | rfl
   ·exact .inl (mem_tops.2 (.inl ⟨w, hw, hl2⟩))
   ·rw [hlv] at hl2
    rcases List.mem_or_eq_of_mem_set hl2 with hl2 | rfl
    ·exact .inl (mem_tops.2 (.inl ⟨.u u', List.mem_of_getElem? hv1, hl2⟩))
    ·exact .inr rfl
  ·obtain ⟨p, hp, r, hr, hlr⟩ := mem_obLeaves.1 hl2
   exact .inl (mem_tops.2 (.inr (mem_obLeaves.2 ⟨p, hsub.subset hp, r, hr, hlr⟩)))
 have hperm : (ownS d').Perm (ownS d) := by
  classical
  obtain ⟨l1, l2, hob, h1, h2⟩ := Z2p ho' hi.good.ids
  have hf : d'.ob = l1 ++ l2 := by
   show d.ob.filter _ = _
   rw [hob]
   exact Y2x h1 h2
  have hleaf : ((Z3 nv).flatMap ownL).Perm (ownL (.os v' o'.n o'.rows) ++ (Z3 (.u u')).flatMap ownL) := by
   rw [hlv]
   exact Z4z hj' (by simp [ownL])
  have hsl := Z4z (f := fun v => (Z3 v).flatMap ownL) hv1 hleaf
  refine List.perm_iff_count.2 fun q => ?_
  have h3 := List.perm_iff_count.1 hsl q
  have e1 : X6 ((id, o') :: l2) = o'.rows.flatten ++ X6 l2 := by simp [X6]
  have e2 : d'.sl = d.sl.set t nv := rfl
  simp only [ownS, tops, hf, hob, e1, e2, Z0n, List.flatMap_append, List.flatMap_assoc, List.flatMap_cons, List.count_append, ownL, hos.2, Z0t] at h3 ⊢
  omega
 refine ⟨d', ?_, ?_, ⟨by simpa [d'] using hs.1, fun i w hw => ?_⟩, hdef, fun i hi2 => hk i ?_, hn0⟩
 ·simp only [erS, mapS, d', List.map_set, List.filter_map, Function.comp_def]
  congr 1
  congr 1
  show erV nv = _
  have := Y4j u' j (.os v' o'.n o'.rows)
  show V.u (erU (Z1j u' j (.os v' o'.n o'.rows))) = _
  rw [this]
  simp [mapL, Z1m, erOb, Z3e]
 ·refine hi.step (Nat.le_refl _) (Same.refl _) (fun _ _ _ => rfl) (fun l hl => ?_) (fun p hp => hi.good.obs p (hsub.subset hp)) (hi.good.ids.sublist (hsub.map _))
   (fun p hp => ⟨hi.good.own p (hperm.mem_iff.1 hp), .inl ⟨p, hperm.mem_iff.1 hp, rfl⟩⟩) ((hperm.map (·.1)).nodup_iff.2 hi.good.nodup) (fun p hp => ?_) (fun p hp => hi.hdr p (hsub.subset hp))
  ·rcases htop l hl with h | rfl
   ·exact ⟨(hi.good.wf l h).1, Z7v (fun i _ => Z9q (f := fun i => !(i == id))) (hi.good.wf l h).2⟩
   ·exact ⟨hwfo, by simp [W7]⟩
  ·obtain ⟨l, hl, hp⟩ := List.mem_flatMap.1 hp
   rcases htop l hl with h | rfl
   ·exact .of_mem (List.mem_flatMap.2 ⟨l, h, hp⟩)
   ·simp only [immL, Z4r] at hp
    obtain ⟨l2, hl2, hp⟩ := List.mem_flatMap.1 hp
    obtain ⟨r, hr, hl2⟩ := List.mem_flatten.1 hl2
    exact (Z6v hi.good ho' hr hl2).2.2.1 p hp
 ·simp only [d', List.getElem?_set] at hw
  by_cases hti : t = i
  ·subst hti
   rw [if_pos rfl, if_pos hlt] at hw
   cases hw
   exact Y4k (hs.2 t _ hv1) hj' rfl
  ·rw [if_neg hti] at hw
   exact hs.2 i w hw
 ·rcases hi2 with ⟨l, hl, h⟩ | h
  ·rcases htop l hl with h2 | rfl
   ·exact .inl ⟨l, h2, h⟩
   ·simp [idsL] at h
  ·exact .inr ((hsub.map _).subset h)
end
section
end
section
def lkp {α : Type} : List (Nat × α) → Nat → Option α
 | [], _ => none
 | (k, v) :: l, t => match Nat.beq k t with
  | true => some v
  | false => lkp l t
theorem Z5a {α : Type} (l : List (Nat × α)) (k : Nat) (v : α) : lkp ((k, v) :: l) k = some v := by
 simp [lkp]
theorem Z7w {α : Type} (l : List (Nat × α)) {k t : Nat} (v : α) (h : k ≠ t) : lkp ((k, v) :: l) t = lkp l t := by
 have : Nat.beq k t = false := by
  cases hb : Nat.beq k t
  ·rfl
  ·exact absurd (Nat.eq_of_beq_eq_true hb) h
 simp [lkp, this]
abbrev Asg := List (Nat × V Unit)
abbrev OAsg := List (Nat × Option (Ob Unit))
def Y2p (asg : Asg) (t : Nat) : V Unit := (lkp asg t).getD .un
def Z1k (N : Nat) (asg : Asg) : List (V Unit) := (List.range N).map (Y2p asg)
def obAt (oa : OAsg) (i : Nat) : Option (Ob Unit) := (lkp oa i).bind id
def obOf (oa : OAsg) (nx : Nat) : List (Nat × Ob Unit) := (List.range nx).filterMap (fun i => (obAt oa i).map fun o => (i, o))
def St (N : Nat) (asg : Asg) (oa : OAsg) (nx : Nat) : S Unit := ⟨Z1k N asg, obOf oa nx, nx⟩
def ev (N : Nat) (asg : Asg) : Operand → Option (V Unit)
 | .tmp t => match Nat.blt t N with
  | true => lkp asg t
  | false => none
 | .const v => (cst v).map .u
 | .func f => some (.u (.one (.fn () f [])))
 | .global _ => none
def lko (oa : OAsg) (nx id : Nat) : Option (Ob Unit) := match Nat.blt id nx with
 | true => obAt oa id
 | false => none
theorem Z9w {a b : Nat} (h : Nat.blt a b = true) : a < b := by
 have : a + 1 ≤ b := by simpa [Nat.blt] using h
 omega
theorem Y2m {N : Nat} {asg : Asg} {t : Nat} (h : t < N) : (Z1k N asg)[t]? = some (Y2p asg t) := by
 simp [Z1k, h]
theorem X2q {N : Nat} {asg : Asg} {t : Nat} {v : V Unit} (h : t < N) (hv : lkp asg t = some v) : (Z1k N asg)[t]? = some v := by
 rw [Y2m h, Y2p, hv]; rfl
theorem Z5r (N : Nat) (asg : Asg) (t : Nat) (v : V Unit) : Z1k N ((t, v) :: asg) = (Z1k N asg).set t v := by
 apply List.ext_getElem?
 intro j
 rw [List.getElem?_set]
 by_cases hj : j < N
 ·rw [Y2m hj]
  by_cases hjt : t = j
  ·subst hjt
   rw [if_pos rfl, if_pos (by simpa [Z1k] using hj), Y2p, Z5a]; rfl
  ·rw [if_neg hjt, Y2m hj, Y2p, Z7w _ _ hjt, Y2p]
 ·have h1 : (Z1k N ((t, v) :: asg))[j]? = none := by simp [Z1k]; omega
  have h2 : (Z1k N asg)[j]? = none := by simp [Z1k]; omega
  rw [h1, h2]
  by_cases hjt : t = j
  ·subst hjt
   rw [if_pos rfl, if_neg (by simpa [Z1k] using hj)]
  ·rw [if_neg hjt]
theorem X7e {N : Nat} {asg : Asg} {oa : OAsg} {nx : Nat} {x : Operand} {v : V Unit} (h : ev N asg x = some v) : evA (St N asg oa nx) x = some v := by
 cases x with
 | tmp t =>
  simp only [ev] at h
  split at h
  ·rename_i hb
   exact X2q (Z9w hb) h
  ·cases h
 | const v => exact h
 | func f => exact h
 | global g => exact h
theorem W5x {l : List Nat} {g : Nat → Option (Ob Unit)} (id : Nat) : look (l.filterMap (fun i => (g i).map fun o => (i, o))) id = if id ∈ l then g id else none := by
 induction l with
 | nil => simp [look]
 | cons i l ih =>
  by_cases hi : i = id
  ·subst hi
   cases hg : g i with
   | none =>
    rw [List.filterMap_cons_none (by simp [hg]), ih]
    simp [hg]
   | some o =>
    rw [List.filterMap_cons_some (by simp [hg]; rfl)]
    simp [look]
  ·have : look ((i :: l).filterMap (fun i => (g i).map fun o => (i, o))) id = look (l.filterMap (fun i => (g i).map fun o => (i, o))) id := by
    cases hg : g i with
    | none => rw [List.filterMap_cons_none (by simp [hg])]
    | some o =>
     rw [List.filterMap_cons_some (by simp [hg]; rfl)]
     simp [look, hi]
   rw [this, ih]
   simp [Ne.symm hi]
theorem look_St {oa : OAsg} {nx id : Nat} : look (obOf oa nx) id = if id < nx then obAt oa id else none := by
 unfold obOf
 rw [W5x]
 simp
theorem Q0 {N : Nat} {asg : Asg} {oa : OAsg} {nx id : Nat} {o : Ob Unit} (h : lko oa nx id = some o) : look (St N asg oa nx).ob id = some o := by
 unfold lko at h
 split at h
 ·rename_i hb
  show look (obOf oa nx) id = _
  rw [look_St, if_pos (Z9w hb), h]
 ·cases h
theorem W2z {oa : OAsg} {nx id : Nat} {o : Ob Unit} (h : lko oa nx id = some o) : id < nx ∧ obAt oa id = some o := by
 unfold lko at h
 split at h
 ·rename_i hb; exact ⟨Z9w hb, h⟩
 ·cases h
theorem Z9n (oa : OAsg) (i : Nat) (o : Option (Ob Unit)) : obAt ((i, o) :: oa) i = o := by simp [obAt, Z5a]
theorem Y0n (oa : OAsg) {i j : Nat} (o : Option (Ob Unit)) (h : i ≠ j) : obAt ((i, o) :: oa) j = obAt oa j := by simp [obAt, Z7w _ _ h]
theorem Z6g {α β : Type} {f g : α → Option β} {l : List α} (h : ∀ x ∈ l, f x = g x) : l.filterMap f = l.filterMap g := by
 induction l with
 | nil => rfl
 | cons a l ih =>
  have h1 := h a (by simp)
  have h2 := ih fun x hx => h x (List.mem_cons_of_mem _ hx)
  cases hg : g a with
  | none => rw [List.filterMap_cons_none (h1.trans hg), List.filterMap_cons_none hg, h2]
  | some b => rw [List.filterMap_cons_some (h1.trans hg), List.filterMap_cons_some hg, h2]
theorem Y1h (oa : OAsg) (nx : Nat) (o : Ob Unit) : obOf ((nx, some o) :: oa) (nx + 1) = obOf oa nx ++ [(nx, o)] := by
 unfold obOf
 rw [List.range_succ, List.filterMap_append]
 congr 1
 ·refine Z6g fun i hi => ?_
  rw [List.mem_range] at hi
  rw [Y0n _ _ (by omega)]
 ·simp [Z9n]
theorem Y1g {oa : OAsg} {nx id : Nat} {o : Ob Unit} (h : lko oa nx id = some o) (rows : List (List (L Unit))) : obOf ((id, some ⟨o.h, o.n, rows⟩) :: oa) nx = K0 (obOf oa nx) id rows := by
 obtain ⟨_, ho⟩ := W2z h
 unfold obOf K0
 rw [List.map_filterMap]
 refine Z6g fun i _ => ?_
 by_cases hi : id = i
 ·subst hi
  simp [Z9n, ho]
 ·rw [Y0n _ _ hi]
  cases hg : obAt oa i with
  | none => rfl
  | some o' => simp [Ne.symm hi]
theorem Y3g {oa : OAsg} {nx id : Nat} : obOf ((id, none) :: oa) nx = (obOf oa nx).filter (fun p => !(p.1 == id)) := by
 unfold obOf
 rw [List.filter_filterMap]
 refine Z6g fun i _ => ?_
 by_cases hi : id = i
 ·subst hi
  rw [Z9n]
  cases hg : obAt oa id <;> simp [Option.filter]
 ·rw [Y0n _ _ hi]
  cases hg : obAt oa i with
  | none => rfl
  | some o' => simp [Ne.symm hi, Option.filter]
theorem Y3k (N : Nat) (asg : Asg) (oa : OAsg) (nx t : Nat) (v : V Unit) : U1 (St N asg oa nx) (some t) v = St N ((t, v) :: asg) oa nx := by
 simp only [St, U1, Z5r]
theorem Z0u (N : Nat) (asg : Asg) (oa : OAsg) (nx nid t : Nat) (v : V Unit) (rd : List Nat) (hyp : Prop) : appE (St N asg oa nx) (some t) nid ⟨v, rd, [], [], [], hyp⟩ = St N ((t, v) :: asg) oa nx := by
 simp only [St, appE_p, Z5r]
theorem X6e (N : Nat) (asg : Asg) (oa : OAsg) (nx t : Nat) (v : V Unit) (rd : List Nat) (o : Ob Unit) (hyp : Prop) : appE (St N asg oa nx) (some t) nx ⟨v, rd, [o], [], [], hyp⟩ = St N ((t, v) :: asg) ((nx, some o) :: oa) (nx + 1) := by
 simp only [St, appE_n, Z5r, Y1h]
theorem St_upd {N : Nat} {asg : Asg} {oa : OAsg} {nx nid id : Nat} {o : Ob Unit} (h : lko oa nx id = some o) (v : V Unit) (rd : List Nat) (rows : List (List (L Unit))) (hyp : Prop) :
  appE (St N asg oa nx) none nid ⟨v, rd, [], [(id, rows)], [], hyp⟩ = St N asg ((id, some ⟨o.h, o.n, rows⟩) :: oa) nx := by
 simp only [St, appE_u, Y1g h]
theorem app_del {δ : Type} (s : S δ) (dst : Option Nat) (nid : Nat) (v : V δ) (o : Ob δ) (id : Nat) : app s dst nid v [o] [] [id] = U1 ⟨s.sl, s.ob.filter (fun p => !(p.1 == id)) ++ [(nid, o)], s.nx + 1⟩ dst v := by
 simp [app, Y3a]
 congr 3
theorem Y9x {oa : OAsg} {nx id : Nat} (o : Ob Unit) : obOf ((nx, some o) :: (id, none) :: oa) (nx + 1) = (obOf oa nx).filter (fun p => !(p.1 == id)) ++ [(nx, o)] := by
 rw [Y1h, Y3g]
theorem St_del (N : Nat) (asg : Asg) (oa : OAsg) (nx t : Nat) (v : V Unit) (rd : List Nat) (o : Ob Unit) (id : Nat) (hyp : Prop) :
  appE (St N asg oa nx) (some t) nx ⟨v, rd, [o], [], [id], hyp⟩ = St N ((t, v) :: asg) ((nx, some o) :: (id, none) :: oa) (nx + 1) := by
 simp only [St, appE, app_del, U1, Z5r, Y9x]
end
section
section
variable {P : Program}
class PlainY (Y : Sys P) : Prop where
 h : ∀ {o : Oper} {s : S Unit} {nid : Nat} {e : Eff}, opF P o.op (evA s) (look s.ob) nid = some e → Y.E o s nid e
instance : PlainY (sysC P) := ⟨fun h => .inl h⟩
structure Rd (pr : Nat) (s : S Unit) (rd : List Nat) : Prop where
 no : pr = 1 → rd = []
 is : ∀ id ∈ rd, look s.ob id ≠ none
theorem rd0 {pr : Nat} {s : S Unit} : Rd pr s [] := ⟨fun _ => rfl, fun _ h => by cases h⟩
theorem rd1 {pr id : Nat} {s : S Unit} {o : Ob Unit} (hp : Nat.beq pr 1 = false) (h : look s.ob id = some o) : Rd pr s [id] where
 no := by rintro rfl; cases hp
 is := fun i hi => by simp only [List.mem_singleton] at hi; rw [hi, h]; simp
def aopK (Y : Sys P) (pr : Nat) (o : Oper) (s : S Unit) (K : S Unit → Prop) : Prop :=
 ∃ e, (pr ≠ 0 → opF P o.op (evA s) (look s.ob) s.nx = some e ∧ e.news = [] ∧ e.upd = [] ∧ e.del = [] ∧ Rd pr s e.rd) ∧ Y.E o s s.nx e ∧ ((pr = 0 → e.hyp) → K (appE s o.dst s.nx e))
variable {Y : Sys P} [PlainY Y]
omit [PlainY Y] in
theorem n_ {ops rest : List Oper} {dst : Option Nat} {op : Op} {ty : TypeId} {pos : String} {aft : Array Edge} {s : S Unit} {K : S Unit → Prop}
  (h : aopK Y 0 ⟨dst, op, ty, pos, aft, none⟩ s (fun s' => J8 Y ops rest s' K)) : J8 Y ops (⟨dst, op, ty, pos, aft, none⟩ :: rest) s K := by
 obtain ⟨e, _, h1, h2⟩ := h
 exact ⟨e, h1, fun h => h2 fun _ => h⟩
theorem Z4u {pr : Nat} {o : Oper} {s : S Unit} {K : S Unit → Prop} {v : V Unit} {rd : List Nat} {hyp : Prop} (h : opF P o.op (evA s) (look s.ob) s.nx = some ⟨v, rd, [], [], [], hyp⟩) (hrd : Rd pr s rd)
  (hK : (pr = 0 → hyp) → K (appE s o.dst s.nx ⟨v, rd, [], [], [], hyp⟩)) : aopK Y pr o s K :=
 ⟨_, fun _ => ⟨h, rfl, rfl, rfl, hrd⟩, PlainY.h h, hK⟩
theorem Y7i {o : Oper} {s : S Unit} {K : S Unit → Prop} {e : Eff} (h : opF P o.op (evA s) (look s.ob) s.nx = some e) (hK : e.hyp → K (appE s o.dst s.nx e)) : aopK Y 0 o s K :=
 ⟨e, fun h => absurd rfl h, PlainY.h h, fun h => hK (h rfl)⟩
variable {pr N nx t : Nat} {asg : Asg} {oa : OAsg} {ty : TypeId} {pos : String} {aft : Array Edge} {K : S Unit → Prop}
theorem Z2e {x : Operand} {l : L Unit} (h : ev N asg x = some (.u (.one l))) : lO (evA (St N asg oa nx) x) = some l := by rw [X7e h]; rfl
theorem Y8z {x : Operand} {u : U Unit} (h : ev N asg x = some (.u u)) : uO (evA (St N asg oa nx) x) = some u := by rw [X7e h]; rfl
theorem x_mv {x : Operand} {v : V Unit} (hv : ev N asg x = some v) (hn : Y2s v = true) (hK : K (St N ((t, v) :: asg) oa nx)) : aopK Y pr ⟨some t, .move x, ty, pos, aft, none⟩ (St N asg oa nx) K :=
 Z4u (v := v) (rd := []) (hyp := True) (by simp only [opF, mvF, X7e hv, hn, if_true]) rd0 (fun _ => by rw [Z0u]; exact hK)
theorem x_as {x : Operand} {v : V Unit} (hv : ev N asg x = some v) (hn : Y2s v = true) (hK : K (St N ((t, v) :: asg) oa nx)) : aopK Y pr ⟨some t, .assign x, ty, pos, aft, none⟩ (St N asg oa nx) K :=
 Z4u (v := v) (rd := []) (hyp := True) (by simp only [opF, mvF, X7e hv, hn, if_true]) rd0 (fun _ => by rw [Z0u]; exact hK)
theorem x_pk {c x y : Operand} {b : Bool} {v : V Unit} (hc : ev N asg c = some (.u (.one (.bool b)))) (hv : (match b with | true => ev N asg x | false => ev N asg y) = some v) (hn : Y2s v = true)
  (hK : K (St N ((t, v) :: asg) oa nx)) : aopK Y pr ⟨some t, .pick c x y, ty, pos, aft, none⟩ (St N asg oa nx) K :=
 Z4u (v := v) (rd := []) (hyp := True) (by
  simp only [opF, W0g, Z2e hc]
  cases b
  ·simp only [mvF, Bool.false_eq_true, if_false, X7e hv, hn, if_true]
  ·simp only [mvF, if_true, X7e hv, hn]) rd0 (fun _ => by rw [Z0u]; exact hK)
theorem Z6i {op : BinOp} {tt t2 : TypeId} {x y : Operand} {i : TI} {l m z : L Unit} (ht : tiOf P tt = some i) (h1 : ev N asg x = some (.u (.one l))) (h2 : ev N asg y = some (.u (.one m))) (hb : binF op i l m = some z)
  (hK : K (St N ((t, .u (.one z)) :: asg) oa nx)) : aopK Y pr ⟨some t, .binOp op tt x y t2, ty, pos, aft, none⟩ (St N asg oa nx) K :=
 Z4u (v := one1 z) (rd := []) (hyp := True) (by simp only [opF, biE, ht, Z2e h1, Z2e h2, hb, Option.map_some]) rd0 (fun _ => by rw [Z0u]; exact hK)
theorem x_un {op : UnOp} {tt : TypeId} {x : Operand} {l z : L Unit} (h1 : ev N asg x = some (.u (.one l))) (hb : unF op l = some z)
  (hK : K (St N ((t, .u (.one z)) :: asg) oa nx)) : aopK Y pr ⟨some t, .unOp op tt x, ty, pos, aft, none⟩ (St N asg oa nx) K :=
 Z4u (v := one1 z) (rd := []) (hyp := True) (by simp only [opF, unE, Z2e h1, hb, Option.map_some]) rd0 (fun _ => by rw [Z0u]; exact hK)
theorem W4w {ts td : TypeId} {x : Operand} {i j : TI} {k k' : IntKind} {n : Int} (ht : tiOf P ts = some i) (ht2 : tiOf P td = some j) (hk : j.kd = .int k) (h1 : ev N asg x = some (.u (.one (.int k' n))))
  (hK : K (St N ((t, .u (.one (.int k (k.wrap n)))) :: asg) oa nx)) : aopK Y pr ⟨some t, .convert ts td x, ty, pos, aft, none⟩ (St N asg oa nx) K :=
 Z4u (v := one1 (.int k (k.wrap n))) (rd := []) (hyp := True) (by simp only [opF, cvE, ht, ht2, Z2e h1, hk]) rd0 (fun _ => by rw [Z0u]; exact hK)
theorem X1d {x : Operand} {id e j : Nat} {o : Ob Unit} (hp : Nat.beq pr 1 = false) (h1 : ev N asg x = some (.u (.one (.ptr () id e j)))) (ho : lko oa nx id = some o)
  (hK : K (St N ((t, .u (.one (.ptr () id e j))) :: asg) oa nx)) : aopK Y pr ⟨some t, .nilCheck x, ty, pos, aft, none⟩ (St N asg oa nx) K :=
 Z4u (v := one1 (.ptr () id e j)) (rd := [id]) (hyp := True) (by simp only [opF, Z2e h1, Q0 ho, Option.bind_some]) (rd1 hp (Q0 ho)) (fun _ => by rw [Z0u]; exact hK)
theorem x_nci {x : Operand} {cs : List (L Unit)} (h1 : ev N asg x = some (.u (.one (.ip () cs))))
  (hK : K (St N ((t, .u (.one (.ip () cs))) :: asg) oa nx)) : aopK Y pr ⟨some t, .nilCheck x, ty, pos, aft, none⟩ (St N asg oa nx) K :=
 Z4u (v := one1 (.ip () cs)) (rd := []) (hyp := True) (by simp only [opF, Z2e h1]) rd0 (fun _ => by rw [Z0u]; exact hK)
def fldF (P : Program) (s : TypeId) (f : Nat) : Option (Nat × TI) := (tiOf P s).bind fun i => match i.kd with
 | .struct => (i.fields[f]?).bind fun p => (tiOf P p.2).bind fun k => if k.size = 0 then none else some (p.1, k)
 | _ => none
theorem X5u {s : TypeId} {f : Nat} {off : Nat} {k : TI} (h : fldF P s f = some (off, k)) : ∃ i p, tiOf P s = some i ∧ i.kd = .struct ∧ i.fields[f]? = some p ∧ tiOf P p.2 = some k ∧ k.size ≠ 0 ∧ p.1 = off := by
 unfold fldF at h
 obtain ⟨i, hi, h⟩ := bind_some h
 split at h
 ·rename_i hk
  obtain ⟨p, hp, h⟩ := bind_some h
  obtain ⟨k', hk', h⟩ := bind_some h
  split at h
  ·cases h
  ·rename_i hs
   cases h
   exact ⟨i, p, hi, hk, hp, hk', hs, rfl⟩
 ·cases h
theorem Z9y {ts : TypeId} {x : Operand} {f id e j off : Nat} {k : TI} {o : Ob Unit} (hp : Nat.beq pr 1 = false) (hf : fldF P ts f = some (off, k)) (h1 : ev N asg x = some (.u (.one (.ptr () id e j)))) (ho : lko oa nx id = some o)
  (hK : K (St N ((t, .u (.one (.ptr () id e (j + off)))) :: asg) oa nx)) : aopK Y pr ⟨some t, .fieldAddr ts x f, ty, pos, aft, none⟩ (St N asg oa nx) K := by
 obtain ⟨i, p, a1, a2, a3, a4, a5, rfl⟩ := X5u hf
 exact Z4u (v := one1 (.ptr () id e (j + p.1))) (rd := [id]) (hyp := True) (by simp only [opF, faF, a1, a2, a3, a4, Option.bind_some, if_neg a5, Z2e h1, Q0 ho]) (rd1 hp (Q0 ho)) (fun _ => by rw [Z0u]; exact hK)
theorem Y5x {ts : TypeId} {x : Operand} {f off : Nat} {k : TI} {cs : List (L Unit)} (hf : fldF P ts f = some (off, k)) (h1 : ev N asg x = some (.u (.one (.ip () cs))))
  (hK : K (St N ((t, .u (.one (.ip () (cs.drop off)))) :: asg) oa nx)) : aopK Y pr ⟨some t, .fieldAddr ts x f, ty, pos, aft, none⟩ (St N asg oa nx) K := by
 obtain ⟨i, p, a1, a2, a3, a4, a5, rfl⟩ := X5u hf
 exact Z4u (v := one1 (.ip () (cs.drop p.1))) (rd := []) (hyp := True) (by simp only [opF, faF, a1, a2, a3, a4, Option.bind_some, if_neg a5, Z2e h1]) rd0 (fun _ => by rw [Z0u]; exact hK)
theorem J0 {δ : Type} {i : TI} {r : List (L δ)} (h : i.agg = true) (hl : r.length = i.size) : pk i r 0 = some (.agg r) := by
 simp only [pk, h, if_true, Nat.zero_add, List.drop_zero]
 rw [if_pos (by omega), List.take_of_length_le (by omega)]
theorem Y2e {tt : TypeId} {x : Operand} {id e j : Nat} {i : TI} {o : Ob Unit} {r : List (L Unit)} {u : U Unit} (hp : Nat.beq pr 1 = false) (ht : tiOf P tt = some i) (h1 : ev N asg x = some (.u (.one (.ptr () id e j)))) (ho : lko oa nx id = some o)
  (hr : o.rows[e]? = some r) (hu : pk i r j = some u) (hn : Z5i u = true) (hK : K (St N ((t, .u u) :: asg) oa nx)) : aopK Y pr ⟨some t, .load tt x, ty, pos, aft, none⟩ (St N asg oa nx) K :=
 Z4u (v := .u u) (rd := [id]) (hyp := True) (by simp only [opF, ldF, ht, Option.bind_some, Z2e h1, Q0 ho, hr, hu, hn, if_true]) (rd1 hp (Q0 ho)) (fun _ => by rw [Z0u]; exact hK)
theorem K7 {tt : TypeId} {x : Operand} {i : TI} {cs : List (L Unit)} {u : U Unit} (ht : tiOf P tt = some i) (h1 : ev N asg x = some (.u (.one (.ip () cs))))
  (hu : pk i cs 0 = some u) (hn : Z5i u = true) (hK : K (St N ((t, .u u) :: asg) oa nx)) : aopK Y pr ⟨some t, .load tt x, ty, pos, aft, none⟩ (St N asg oa nx) K :=
 Z4u (v := .u u) (rd := []) (hyp := True) (by simp only [opF, ldF, ht, Option.bind_some, Z2e h1, hu, hn, if_true]) rd0 (fun _ => by rw [Z0u]; exact hK)
def at_ {α : Type} [Inhabited α] (xs : List α) (n : Int) : α := xs.getD n.toNat default
theorem X9r {α : Type} [Inhabited α] {xs : List α} {n : Int} (h : 0 ≤ n ∧ n < (xs.length : Int)) : xs[n.toNat]? = some (at_ xs n) := by
 have : n.toNat < xs.length := by omega
 simp [at_, this]
theorem map_at {α : Type} [Inhabited α] {xs : List α} {n : Int} (enc : α → List (L Unit)) (h : 0 ≤ n ∧ n < (xs.length : Int)) : (xs.map enc)[n.toNat]? = some (enc (at_ xs n)) := by
 rw [List.getElem?_map, X9r h]; rfl
def elS (P : Program) (t : TypeId) : Option Nat := (tiOf P t).bind fun i => match i.kd with
 | .slice => (tiOf P i.elem).map fun ie => ie.size
 | _ => none
theorem Y8r {tt : TypeId} {m : Nat} (h : elS P tt = some m) : ∃ i ie, tiOf P tt = some i ∧ i.kd = .slice ∧ tiOf P i.elem = some ie ∧ ie.size = m := by
 unfold elS at h
 obtain ⟨i, hi, h⟩ := bind_some h
 split at h
 ·rename_i hk
  rw [Option.map_eq_some_iff] at h
  obtain ⟨ie, h1, h2⟩ := h
  exact ⟨i, ie, hi, hk, h1, h2⟩
 ·cases h
theorem Z8m {α : Type} [Inhabited α] {tt : TypeId} {x y : Operand} {m : Nat} {xs : List α} {enc : α → List (L Unit)} {k : IntKind} {n : Int} (he : elS P tt = some m) (h1 : ev N asg x = some (.u (.one (.bs () m (xs.map enc)))))
  (h2 : ev N asg y = some (.u (.one (.int k n)))) (hb : 0 ≤ n ∧ n < (xs.length : Int)) (hK : K (St N ((t, .u (.one (.ip () (enc (at_ xs n))))) :: asg) oa nx)) : aopK Y pr ⟨some t, .indexAddr tt x y, ty, pos, aft, none⟩ (St N asg oa nx) K := by
 obtain ⟨i, ie, a1, a2, a3, rfl⟩ := Y8r he
 exact Z4u (v := one1 (.ip () (enc (at_ xs n)))) (rd := []) (hyp := True) (by simp only [opF, ixF, a1, a2, a3, Option.bind_some, Z2e h1, Z2e h2, if_true, List.length_map, if_pos hb, map_at enc hb]) rd0 (fun _ => by rw [Z0u]; exact hK)
theorem x_ixr {tt : TypeId} {x y : Operand} {m id off len : Nat} {k : IntKind} {n : Int} {rows : List (List (L Unit))} (hp : Nat.beq pr 1 = false) (he : elS P tt = some m) (h1 : ev N asg x = some (.u (.one (.ref () id off len)))) (ho : lko oa nx id = some ⟨(), m, rows⟩)
  (h2 : ev N asg y = some (.u (.one (.int k n)))) (hb : 0 ≤ n ∧ n < (len : Int)) (hK : K (St N ((t, .u (.one (.ptr () id (off + n.toNat) 0))) :: asg) oa nx)) : aopK Y pr ⟨some t, .indexAddr tt x y, ty, pos, aft, none⟩ (St N asg oa nx) K := by
 obtain ⟨i, ie, a1, a2, a3, rfl⟩ := Y8r he
 exact Z4u (v := one1 (.ptr () id (off + n.toNat) 0)) (rd := [id]) (hyp := True) (by simp only [opF, ixF, a1, a2, a3, Option.bind_some, Z2e h1, Z2e h2, Q0 ho, if_true, if_pos hb]) (rd1 hp (Q0 ho)) (fun _ => by rw [Z0u]; exact hK)
theorem x_st {tt : TypeId} {x y : Operand} {id e j : Nat} {i : TI} {o : Ob Unit} {r : List (L Unit)} {u : U Unit} {rows : List (List (L Unit))} (ht : tiOf P tt = some i) (h1 : ev N asg x = some (.u (.one (.ptr () id e j)))) (h2 : ev N asg y = some (.u u))
  (ho : lko oa nx id = some o) (hr : o.rows[e]? = some r) (hn : Z5i u = true) (hl : Nat.beq (Z1 u).length i.size = true) (hj : Nat.ble (j + i.size) r.length = true) (hrows : o.rows.set e (putC r j (Z1 u)) = rows)
  (hK : K (St N asg ((id, some ⟨(), o.n, rows⟩) :: oa) nx)) : aopK Y 0 ⟨none, .store tt x y, ty, pos, aft, none⟩ (St N asg oa nx) K :=
 Y7i (e := { v := .ud, rd := [id], upd := [(id, o.rows.set e (putC r j (Z1 u)))] }) (by
  simp only [opF, stF, ht, Option.bind_some, Z2e h1, Y8z h2, Q0 ho, hr, hn, if_true, if_pos (Nat.eq_of_beq_eq_true hl), if_pos (Nat.le_of_ble_eq_true hj)]) (fun _ => by rw [hrows, St_upd ho]; exact hK)
theorem x_ste {α : Type} {tt : TypeId} {x y : Operand} {id e j m : Nat} {i : TI} {xs : List α} {enc : α → List (L Unit)} {a v : α} {u : U Unit} (ht : tiOf P tt = some i) (h1 : ev N asg x = some (.u (.one (.ptr () id e j)))) (h2 : ev N asg y = some (.u u))
  (ho : lko oa nx id = some ⟨(), m, xs.map enc⟩) (hr : xs[e]? = some a) (hn : Z5i u = true) (hl : Nat.beq (Z1 u).length i.size = true) (hj : Nat.ble (j + i.size) (enc a).length = true) (hv : putC (enc a) j (Z1 u) = enc v)
  (hK : K (St N asg ((id, some ⟨(), m, (xs.set e v).map enc⟩) :: oa) nx)) : aopK Y 0 ⟨none, .store tt x y, ty, pos, aft, none⟩ (St N asg oa nx) K :=
 x_st ht h1 h2 ho (r := enc a) (by simp [hr]) hn hl hj (by rw [hv, List.map_set]) hK
theorem K8 {tt : TypeId} {x y : Operand} {m id len : Nat} {k : IntKind} {n : Int} {rows : List (List (L Unit))} (hp : Nat.beq pr 1 = false) (he : elS P tt = some m) (h1 : ev N asg x = some (.u (.one (.ref () id 0 len)))) (ho : lko oa nx id = some ⟨(), m, rows⟩)
  (h2 : ev N asg y = some (.u (.one (.int k n)))) (hb : 0 ≤ n ∧ n < (len : Int)) (hK : K (St N ((t, .u (.one (.ptr () id n.toNat 0))) :: asg) oa nx)) : aopK Y pr ⟨some t, .indexAddr tt x y, ty, pos, aft, none⟩ (St N asg oa nx) K :=
 x_ixr hp he h1 ho h2 hb (by rw [Nat.zero_add]; exact hK)
theorem Z5g {α : Type} [Inhabited α] {tt : TypeId} {x : Operand} {id j m : Nat} {n : Int} {i : TI} {xs : List α} {enc : α → List (L Unit)} {u : U Unit} (hp : Nat.beq pr 1 = false) (ht : tiOf P tt = some i) (h1 : ev N asg x = some (.u (.one (.ptr () id n.toNat j))))
  (ho : lko oa nx id = some ⟨(), m, xs.map enc⟩) (he : 0 ≤ n ∧ n < (xs.length : Int)) (hu : pk i (enc (at_ xs n)) j = some u) (hn : Z5i u = true) (hK : K (St N ((t, .u u) :: asg) oa nx)) : aopK Y pr ⟨some t, .load tt x, ty, pos, aft, none⟩ (St N asg oa nx) K :=
 Y2e hp ht h1 ho (r := enc (at_ xs n)) (map_at enc he) hu hn hK
theorem Z9x {α : Type} [Inhabited α] {tt : TypeId} {x y : Operand} {id j m : Nat} {n : Int} {i : TI} {xs : List α} {enc : α → List (L Unit)} (v : α) {u : U Unit} (ht : tiOf P tt = some i) (h1 : ev N asg x = some (.u (.one (.ptr () id n.toNat j)))) (h2 : ev N asg y = some (.u u))
  (ho : lko oa nx id = some ⟨(), m, xs.map enc⟩) (he : 0 ≤ n ∧ n < (xs.length : Int)) (hn : Z5i u = true) (hl : Nat.beq (Z1 u).length i.size = true) (hj : Nat.ble (j + i.size) (enc (at_ xs n)).length = true) (hv : putC (enc (at_ xs n)) j (Z1 u) = enc v)
  (hK : K (St N asg ((id, some ⟨(), m, (xs.set n.toNat v).map enc⟩) :: oa) nx)) : aopK Y 0 ⟨none, .store tt x y, ty, pos, aft, none⟩ (St N asg oa nx) K :=
 x_ste ht h1 h2 ho (X9r he) hn hl hj hv hK
def lnF (P : Program) (t : TypeId) : Option TK := (tiOf P t).map (·.kd)
theorem Y1k {tt : TypeId} {k : TK} (h : lnF P tt = some k) : ∃ i, tiOf P tt = some i ∧ i.kd = k := by
 unfold lnF at h; rw [Option.map_eq_some_iff] at h; exact h
theorem Y5w {tt : TypeId} {x : Operand} {m : Nat} {α : Type} {enc : α → List (L Unit)} {xs : List α} (ht : lnF P tt = some .slice) (h1 : ev N asg x = some (.u (.one (.bs () m (xs.map enc)))))
  (hK : (pr = 0 → xs.length ≤ 140737488355328) → K (St N ((t, .u (.one (.int .i64 (xs.length : Int)))) :: asg) oa nx)) : aopK Y pr ⟨some t, .call ⟨.builtin .len, #[x], #[tt]⟩, ty, pos, aft, none⟩ (St N asg oa nx) K := by
 obtain ⟨i, a1, a2⟩ := Y1k ht
 exact Z4u (v := one1 (.int .i64 (xs.length : Int))) (rd := []) (hyp := xs.length ≤ LIM) (by simp [opF, lenF, a1, a2, Z2e h1]) rd0 (fun h => by rw [Z0u]; exact hK h)
theorem X9x {tt : TypeId} {x : Operand} {id off len : Nat} {o : Ob Unit} (hp : Nat.beq pr 1 = false) (ht : lnF P tt = some .slice) (h1 : ev N asg x = some (.u (.one (.ref () id off len)))) (ho : lko oa nx id = some o)
  (hK : (pr = 0 → len ≤ 140737488355328) → K (St N ((t, .u (.one (.int .i64 (len : Int)))) :: asg) oa nx)) : aopK Y pr ⟨some t, .call ⟨.builtin .len, #[x], #[tt]⟩, ty, pos, aft, none⟩ (St N asg oa nx) K := by
 obtain ⟨i, a1, a2⟩ := Y1k ht
 exact Z4u (v := one1 (.int .i64 (len : Int))) (rd := [id]) (hyp := len ≤ LIM) (by simp [opF, lenF, a1, a2, Z2e h1, Q0 ho]) (rd1 hp (Q0 ho)) (fun h => by rw [Z0u]; exact hK h)
def bts (l : List UInt8) : ByteArray := ⟨l.toArray⟩
theorem X9q (l : List UInt8) : (bts l).size = l.length := by simp [bts, ByteArray.size]
theorem x_lns {tt : TypeId} {x : Operand} {s : List UInt8} (ht : lnF P tt = some .str) (h1 : ev N asg x = some (.u (.one (.str (bts s)))))
  (hK : K (St N ((t, .u (.one (.int .i64 (s.length : Int)))) :: asg) oa nx)) : aopK Y pr ⟨some t, .call ⟨.builtin .len, #[x], #[tt]⟩, ty, pos, aft, none⟩ (St N asg oa nx) K := by
 obtain ⟨i, a1, a2⟩ := Y1k ht
 exact Z4u (v := one1 (.int .i64 (s.length : Int))) (rd := []) (hyp := True) (by simp [opF, lenF, a1, a2, Z2e h1, X9q]) rd0 (fun _ => by rw [Z0u]; exact hK)
theorem x_addn {tt t2 : TypeId} {x y : Operand} {i : TI} {a b : Int} (ht : tiOf P tt = some i) (h1 : ev N asg x = some (.u (.one (.int .i64 a)))) (h2 : ev N asg y = some (.u (.one (.int .i64 b)))) (hb : -9223372036854775808 ≤ a + b ∧ a + b ≤ 9223372036854775807)
  (hK : K (St N ((t, .u (.one (.int .i64 (a + b)))) :: asg) oa nx)) : aopK Y pr ⟨some t, .binOp .add tt x y t2, ty, pos, aft, none⟩ (St N asg oa nx) K := by
 refine Z6i ht h1 h2 (z := .int .i64 (a + b)) ?_ hK
 have : IntKind.i64.wrap (a + b) = a + b := IntWalk.i64_in _ (by omega)
 show some (L.int .i64 (IntKind.i64.wrap (a + b))) = _
 rw [this]
def inI (n : Int) : Prop := -9223372036854775808 ≤ n ∧ n ≤ 9223372036854775807
instance (n : Int) : Decidable (inI n) := inferInstanceAs (Decidable (_ ∧ _))
theorem Y3s {tt t2 : TypeId} {x y : Operand} {i : TI} {a b : Int} (ht : tiOf P tt = some i) (h1 : ev N asg x = some (.u (.one (.int .i64 a)))) (h2 : ev N asg y = some (.u (.one (.int .i64 b)))) (hb : inI (a + b))
  (hK : K (St N ((t, .u (.one (.int .i64 (a + b)))) :: asg) oa nx)) : aopK Y pr ⟨some t, .binOp .add tt x y t2, ty, pos, aft, none⟩ (St N asg oa nx) K := x_addn ht h1 h2 hb hK
theorem X7r {tt t2 : TypeId} {x y : Operand} {i : TI} {a b : Int} (ht : tiOf P tt = some i) (h1 : ev N asg x = some (.u (.one (.int .i64 a)))) (h2 : ev N asg y = some (.u (.one (.int .i64 b)))) (hb : inI (a - b))
  (hK : K (St N ((t, .u (.one (.int .i64 (a - b)))) :: asg) oa nx)) : aopK Y pr ⟨some t, .binOp .sub tt x y t2, ty, pos, aft, none⟩ (St N asg oa nx) K := by
 refine Z6i ht h1 h2 (z := .int .i64 (a - b)) ?_ hK
 show some (L.int .i64 (IntKind.i64.wrap (a - b))) = _
 rw [IntWalk.i64_in _ hb]
theorem x_quo {tt t2 : TypeId} {x y : Operand} {i : TI} {k : IntKind} {a b : Int} (ht : tiOf P tt = some i) (h1 : ev N asg x = some (.u (.one (.int k a)))) (h2 : ev N asg y = some (.u (.one (.int k b)))) (hb : b ≠ 0)
  (hK : K (St N ((t, .u (.one (.int k (k.wrap (a.tdiv b))))) :: asg) oa nx)) : aopK Y pr ⟨some t, .binOp .quo tt x y t2, ty, pos, aft, none⟩ (St N asg oa nx) K :=
 Z6i ht h1 h2 (z := .int k (k.wrap (a.tdiv b))) (by simp [binF, hb]) hK
theorem W4v {tt t2 : TypeId} {x y : Operand} {i : TI} {k : IntKind} {a b : Int} (ht : tiOf P tt = some i) (h1 : ev N asg x = some (.u (.one (.int k a)))) (h2 : ev N asg y = some (.u (.one (.int k b)))) (hb : b ≠ 0)
  (hK : K (St N ((t, .u (.one (.int k (a.tmod b)))) :: asg) oa nx)) : aopK Y pr ⟨some t, .binOp .rem tt x y t2, ty, pos, aft, none⟩ (St N asg oa nx) K :=
 Z6i ht h1 h2 (z := .int k (a.tmod b)) (by simp [binF, hb]) hK
theorem x_shl {tt t2 : TypeId} {x y : Operand} {i : TI} {k k' : IntKind} {a b : Int} (ht : tiOf P tt = some i) (h1 : ev N asg x = some (.u (.one (.int k a)))) (h2 : ev N asg y = some (.u (.one (.int k' b)))) (hb : 0 ≤ b)
  (hK : K (St N ((t, .u (.one (.int k (k.wrap (a * 2 ^ min b.toNat k.bits))))) :: asg) oa nx)) : aopK Y pr ⟨some t, .binOp .shl tt x y t2, ty, pos, aft, none⟩ (St N asg oa nx) K :=
 Z6i ht h1 h2 (z := .int k (k.wrap (a * 2 ^ min b.toNat k.bits))) (by
  have : ¬ b < 0 := by omega
  simp [binF, this]) hK
theorem x_shr {tt t2 : TypeId} {x y : Operand} {i : TI} {k k' : IntKind} {a b : Int} (ht : tiOf P tt = some i) (h1 : ev N asg x = some (.u (.one (.int k a)))) (h2 : ev N asg y = some (.u (.one (.int k' b)))) (hb : 0 ≤ b)
  (hK : K (St N ((t, .u (.one (.int k (a / 2 ^ min b.toNat k.bits)))) :: asg) oa nx)) : aopK Y pr ⟨some t, .binOp .shr tt x y t2, ty, pos, aft, none⟩ (St N asg oa nx) K :=
 Z6i ht h1 h2 (z := .int k (a / 2 ^ min b.toNat k.bits)) (by
  have : ¬ b < 0 := by omega
  simp [binF, this]) hK
def sat (s : List UInt8) (n : Int) : Int := ((s.getD n.toNat 0).toNat : Int)
theorem x_sx {tt : TypeId} {x y : Operand} {s : List UInt8} {k : IntKind} {n : Int} (ht : lnF P tt = some .str) (h1 : ev N asg x = some (.u (.one (.str (bts s))))) (h2 : ev N asg y = some (.u (.one (.int k n)))) (hb : 0 ≤ n ∧ n < (s.length : Int))
  (hK : K (St N ((t, .u (.one (.int .u8 (sat s n)))) :: asg) oa nx)) : aopK Y pr ⟨some t, .index tt x y, ty, pos, aft, none⟩ (St N asg oa nx) K := by
 obtain ⟨i, a1, a2⟩ := Y1k ht
 have hlt : n.toNat < s.length := by omega
 have hg : (bts s)[n.toNat]? = some (s.getD n.toNat 0) := by
  have : n.toNat < (bts s).size := by rw [X9q]; exact hlt
  rw [getElem?_pos (bts s) n.toNat this]
  simp [bts, hlt, ByteArray.getElem_eq_getElem_data]
 exact Z4u (v := one1 (.int .u8 (sat s n))) (rd := []) (hyp := True) (by simp only [opF, siF, a1, a2, Option.bind_some, Z2e h1, Z2e h2, if_pos hb.1, hg, sat]) rd0 (fun _ => by rw [Z0u]; exact hK)
theorem x_bx {tt : TypeId} {x : Operand} {u : U Unit} {n : Nat} {r : List (L Unit)} (h1 : ev N asg x = some (.u u)) (hn : Z5i u = true) (hr : Z1 u = r) (hl : r.length = n)
  (hK : K (St N ((t, .u (.one (.ptr () nx 0 0))) :: asg) ((nx, some ⟨(), n, [r]⟩) :: oa) (nx + 1))) : aopK Y 0 ⟨some t, .box tt x, ty, pos, aft, none⟩ (St N asg oa nx) K := by
 subst hr hl
 refine Y7i (e := { v := one1 (.ptr () nx 0 0), news := [⟨(), (Z1 u).length, [Z1 u]⟩] }) (by simp only [opF, bxF, Y8z h1, hn, if_true]; rfl) (fun _ => ?_)
 show K (appE (St N asg oa nx) (some t) nx _)
 rw [X6e]; exact hK
theorem x_al {tt : TypeId} {i : TI} {n : Nat} {r : List (L Unit)} (ht : tiOf P tt = some i) (hr : i.zero.map zL = r) (hl : i.zero.length = n)
  (hK : K (St N ((t, .u (.one (.ptr () nx 0 0))) :: asg) ((nx, some ⟨(), n, [r]⟩) :: oa) (nx + 1))) : aopK Y 0 ⟨some t, .alloc tt, ty, pos, aft, none⟩ (St N asg oa nx) K := by
 subst hr hl
 refine Y7i (e := { v := one1 (.ptr () nx 0 0), news := [⟨(), i.zero.length, [i.zero.map zL]⟩] }) (by simp only [opF, alF, ht, Option.bind_some]; rfl) (fun _ => ?_)
 show K (appE (St N asg oa nx) (some t) nx _)
 rw [X6e]; exact hK
def elF (P : Program) (t : TypeId) : Option (Nat × Nat × List Z) := (tiOf P t).bind fun i => match i.kd with
 | .slice => (tiOf P i.elem).bind fun ie => if ie.zero.length = ie.size ∧ 0 < ie.size then some (ie.size, ie.bytes, ie.zero) else none
 | _ => none
theorem X3y {tt : TypeId} {m b : Nat} {z : List Z} (h : elF P tt = some (m, b, z)) : ∃ i ie, tiOf P tt = some i ∧ i.kd = .slice ∧ tiOf P i.elem = some ie ∧ ie.size = m ∧ ie.bytes = b ∧ ie.zero = z ∧ ie.zero.length = ie.size ∧ 0 < ie.size := by
 unfold elF at h
 obtain ⟨i, hi, h⟩ := bind_some h
 split at h
 ·rename_i hk
  obtain ⟨ie, h1, h⟩ := bind_some h
  split at h
  ·rename_i hc; cases h; exact ⟨i, ie, hi, hk, h1, rfl, rfl, rfl, hc.1, hc.2⟩
  ·cases h
 ·cases h
theorem x_mk {α : Type} {enc : α → List (L Unit)} {d : α} {tt : TypeId} {x y : Operand} {m b : Nat} {z : List Z} {k k' : IntKind} {n c : Int} (he : elF P tt = some (m, b, z)) (hz : z.map zL = enc d) (h1 : ev N asg x = some (.u (.one (.int k n)))) (h2 : ev N asg y = some (.u (.one (.int k' c))))
  (hb : 0 ≤ n ∧ n ≤ c ∧ c * (b : Int) ≤ 140737488355328 ∧ c ≤ 140737488355328)
  (hK : K (St N ((t, .u (.one (.ref () nx 0 (List.replicate n.toNat d).length))) :: asg) ((nx, some ⟨(), m, (List.replicate n.toNat d).map enc⟩) :: oa) (nx + 1))) : aopK Y 0 ⟨some t, .makeSlice tt x y, ty, pos, aft, none⟩ (St N asg oa nx) K := by
 obtain ⟨i, ie, a1, a2, a3, a4, a5, a6, a7, a8⟩ := X3y he
 subst a4 a5 a6
 refine Y7i (e := { v := one1 (.ref () nx 0 n.toNat), news := [⟨(), ie.size, List.replicate n.toNat (ie.zero.map zL)⟩] }) (by
  simp only [opF, mkF, a1, a2, a3, Option.bind_some, Z2e h1, Z2e h2, if_pos (And.intro a7 a8), if_pos hb]; rfl) (fun _ => ?_)
 show K (appE (St N asg oa nx) (some t) nx _)
 rw [X6e]
 simp only [List.length_replicate, List.map_replicate, ← hz] at hK
 exact hK
theorem x_bu {tt : TypeId} {ps : Array (Nat × Operand)} {i : TI} {us : List (Nat × U Unit)} {cells : List (L Unit)} (ht : tiOf P tt = some i) (hk : i.kd = .struct) (hp : Z5s (ev N asg) ps.toList = some us) (hf : Y6x (i.places[·]?) us (i.zero.map zL) = some cells)
  (hK : K (St N ((t, .u (.agg cells)) :: asg) oa nx)) : aopK Y pr ⟨some t, .build tt ps, ty, pos, aft, none⟩ (St N asg oa nx) K := by
 have hp' : ∀ {ps us}, Z5s (ev N asg) ps = some us → Z5s (evA (St N asg oa nx)) ps = some us := by
  intro ps
  induction ps with
  | nil => intro us h; exact h
  | cons p ps ih =>
   intro us h
   obtain ⟨j, x⟩ := p
   simp only [Z5s] at h ⊢
   obtain ⟨u, hu, h⟩ := bind_some h
   have : uO (evA (St N asg oa nx) x) = some u := by
    unfold uO at hu
    split at hu
    ·rename_i hx; cases hu; exact Y8z hx
    ·cases hu
   rw [this]
   simp only [Option.bind_some]
   split at h
   ·rename_i hn
    rw [Option.map_eq_some_iff] at h
    obtain ⟨us', h1, h2⟩ := h
    rw [if_pos hn, ih h1, ← h2]; rfl
   ·cases h
 exact Z4u (v := .u (.agg cells)) (rd := []) (hyp := True) (by simp only [opF, buF, ht, Option.bind_some, hk, hp' hp, hf]) rd0 (fun _ => by rw [Z0u]; exact hK)
theorem W2n {ps : List (Nat × Operand)} {us : List (Nat × U Unit)} : Z5s (ev N asg) ps = some us → Z5s (evA (St N asg oa nx)) ps = some us := by
 induction ps generalizing us with
 | nil => intro h; exact h
 | cons p ps ih =>
  intro h
  obtain ⟨j, x⟩ := p
  simp only [Z5s] at h ⊢
  obtain ⟨u, hu, h⟩ := bind_some h
  have : uO (evA (St N asg oa nx) x) = some u := by
   unfold uO at hu
   split at hu
   ·rename_i hx; cases hu; exact Y8z hx
   ·cases hu
  rw [this]
  simp only [Option.bind_some]
  split at h
  ·rename_i hn
   rw [Option.map_eq_some_iff] at h
   obtain ⟨us', h1, h2⟩ := h
   rw [if_pos hn, ih h1, ← h2]; rfl
  ·cases h
theorem x_bs {tt : TypeId} {len : Nat} {ps : Array (Nat × Operand)} {m b : Nat} {z : List Z} {us : List (Nat × U Unit)} {rows : List (List (L Unit))} (he : elF P tt = some (m, b, z)) (hl : Nat.ble (len * m) 16777216 = true) (hp : Z5s (ev N asg) ps.toList = some us)
  (hf : Y4d m us (List.replicate len (z.map zL)) = some rows)
  (hK : K (St N ((t, .u (.one (.ref () nx 0 len))) :: asg) ((nx, some ⟨(), m, rows⟩) :: oa) (nx + 1))) : aopK Y 0 ⟨some t, .buildSlice tt len ps, ty, pos, aft, none⟩ (St N asg oa nx) K := by
 obtain ⟨i, ie, a1, a2, a3, a4, a5, a6, a7, a8⟩ := X3y he
 subst a4 a5 a6
 refine Y7i (e := { v := one1 (.ref () nx 0 len), news := [⟨(), ie.size, rows⟩] }) (by
  simp only [opF, bsF, a1, a2, a3, Option.bind_some, if_pos (And.intro a7 (And.intro a8 (Nat.le_of_ble_eq_true hl))), W2n hp, hf]; rfl) (fun _ => ?_)
 show K (appE (St N asg oa nx) (some t) nx _)
 rw [X6e]; exact hK
theorem Y4g {α : Type} {enc : α → List (L Unit)} (xs : List α) {tt : TypeId} {len : Nat} {ps : Array (Nat × Operand)} {m b : Nat} {z : List Z} {us : List (Nat × U Unit)} (he : elF P tt = some (m, b, z)) (hl : Nat.ble (len * m) 16777216 = true) (hp : Z5s (ev N asg) ps.toList = some us)
  (hf : Y4d m us (List.replicate len (z.map zL)) = some (xs.map enc)) (hn : len = xs.length)
  (hK : K (St N ((t, .u (.one (.ref () nx 0 xs.length))) :: asg) ((nx, some ⟨(), m, xs.map enc⟩) :: oa) (nx + 1))) : aopK Y 0 ⟨some t, .buildSlice tt len ps, ty, pos, aft, none⟩ (St N asg oa nx) K := by
 subst hn
 exact x_bs he hl hp hf hK
theorem x_cvn {ts td : TypeId} {x : Operand} {i j : TI} {k' : IntKind} {n : Int} (ht : tiOf P ts = some i) (ht2 : tiOf P td = some j) (hk : j.kd = .int .i64) (h1 : ev N asg x = some (.u (.one (.int k' n)))) (hb : -9223372036854775808 ≤ n ∧ n ≤ 9223372036854775807)
  (hK : K (St N ((t, .u (.one (.int .i64 n))) :: asg) oa nx)) : aopK Y pr ⟨some t, .convert ts td x, ty, pos, aft, none⟩ (St N asg oa nx) K :=
 W4w ht ht2 hk h1 (by rw [IntWalk.i64_in _ hb]; exact hK)
theorem W6m {xs : List Operand} {ls : List (L Unit)} : X0w (ev N asg) xs = some ls → X0w (evA (St N asg oa nx)) xs = some ls := by
 induction xs generalizing ls with
 | nil => intro h; exact h
 | cons x xs ih =>
  intro h
  simp only [X0w] at h ⊢
  obtain ⟨l, hl, h⟩ := bind_some h
  have : lO (evA (St N asg oa nx) x) = some l := by
   unfold lO at hl
   split at hl
   ·rename_i hx; cases hl; exact Z2e hx
   ·cases hl
  rw [this]
  simp only [Option.bind_some]
  split at h
  ·rename_i hn
   rw [Option.map_eq_some_iff] at h
   obtain ⟨ls', h1, h2⟩ := h
   rw [if_pos hn, ih h1, ← h2]; rfl
  ·cases h
theorem x_mf {g : FuncId} {caps : Array Operand} {ls : List (L Unit)} (hc : X0w (ev N asg) caps.toList = some ls)
  (hK : K (St N ((t, .u (.one (.fn () g ls))) :: asg) oa nx)) : aopK Y pr ⟨some t, .makeFunc (.func g) #[] caps, ty, pos, aft, none⟩ (St N asg oa nx) K :=
 Z4u (v := one1 (.fn () g ls)) (rd := []) (hyp := True) (by simp [opF, mfF, W6m hc]) rd0 (fun _ => by rw [Z0u]; exact hK)
theorem x_ex {x : Operand} {n : Nat} {xs : List (U Unit)} {u : U Unit} (h1 : ev N asg x = some (.tup xs)) (hu : xs[n]? = some u) (hn : Z5i u = true)
  (hK : K (St N ((t, .u u) :: asg) oa nx)) : aopK Y pr ⟨some t, .extract x n, ty, pos, aft, none⟩ (St N asg oa nx) K :=
 Z4u (v := .u u) (rd := []) (hyp := True) (by simp only [opF, exF, X7e h1, hu, Option.bind_some, hn, if_true]) rd0 (fun _ => by rw [Z0u]; exact hK)
theorem X0z {l : L Unit} {n : Nat} {q : List (List (L Unit)) × List Nat} (h : argR (lko oa nx) n (some l) = some q) : argR (look (St N asg oa nx).ob) n (some l) = some q := by
 unfold argR at h ⊢
 split at h
 ·exact h
 ·rename_i h1; cases h1; exact h
 ·rename_i h1
  cases h1
  obtain ⟨o, ho, h⟩ := bind_some h
  simp only [Q0 ho, Option.bind_some]
  exact h
 ·cases h
theorem X9v {α : Type} {enc : α → List (L Unit)} {xs : List α} {n : Nat} (lk : Lk) : argR lk n (some (.bs () n (xs.map enc))) = some (xs.map enc, []) := by simp [argR]
theorem X9t {α : Type} {enc : α → List (L Unit)} {xs : List α} {n id : Nat} (ho : lko oa nx id = some ⟨(), n, xs.map enc⟩) : argR (lko oa nx) n (some (.ref () id 0 xs.length)) = some (xs.map enc, [id]) := by
 simp only [argR, ho, Option.bind_some, if_true, List.drop_zero]
 rw [List.take_of_length_le (by simp)]
def encN {α : Type} (enc : α → List (L Unit)) : Prop := ∀ x, (enc x).all noOs = true
theorem X8g {α : Type} {enc : α → List (L Unit)} (h : encN enc) (xs : List α) : nosR (xs.map enc) = true := by
 simp only [nosR, List.all_map, List.all_eq_true]
 exact fun x _ => by have := h x; simp only [List.all_eq_true] at this; simpa using this
theorem W4a {tt : TypeId} {m b : Nat} {z : List Z} (h : elF P tt = some (m, b, z)) : ∃ i ie, tiOf P tt = some i ∧ i.kd = .slice ∧ tiOf P i.elem = some ie ∧ ie.size = m ∧ ie.bytes = b ∧ ie.zero.length = ie.size := by
 obtain ⟨i, ie, a1, a2, a3, a4, a5, a6, a7, a8⟩ := X3y h
 exact ⟨i, ie, a1, a2, a3, a4, a5, a7⟩
theorem W4x {α : Type} {enc : α → List (L Unit)} {xs ys : List α} {tt t2 : TypeId} {x y : Operand} {m b id : Nat} {z : List Z} {rd : List Nat} {l : L Unit} (he : elF P tt = some (m, b, z)) (ht2 : lnF P t2 = some .slice) (hN : encN enc)
  (h1 : ev N asg x = some (.u (.one (.ref () id 0 xs.length)))) (ho : lko oa nx id = some ⟨(), m, xs.map enc⟩) (h2 : ev N asg y = some (.u (.one l))) (hq : argR (lko oa nx) m (some l) = some (ys.map enc, rd))
  (hb : (xs.length + ys.length) * b ≤ 140737488355328 ∧ xs.length + ys.length ≤ LIM)
  (hK : K (St N ((t, .u (.one (.ref () nx 0 (xs ++ ys).length))) :: asg) ((nx, some ⟨(), m, (xs ++ ys).map enc⟩) :: (id, none) :: oa) (nx + 1))) :
  aopK Y 0 ⟨some t, .call ⟨.builtin .append, #[x, y], #[tt, t2]⟩, ty, pos, aft, none⟩ (St N asg oa nx) K := by
 obtain ⟨i, ie, a1, a2, a3, a4, a5, a6⟩ := W4a he
 obtain ⟨i2, c1, c2⟩ := Y1k ht2
 subst a4 a5
 refine Y7i (e := { v := one1 (.ref () nx 0 (xs.length + ys.length)), rd := id :: rd, news := [⟨(), ie.size, xs.map enc ++ ys.map enc⟩], del := [id] }) (by
  have e1 := X0z (N := N) (asg := asg) hq
  have e2 := X0z (N := N) (asg := asg) (X9t ho)
  simp only [opF, Z2e h1, Z2e h2]
  simp [apF, a1, a2, a3, a6, c1, c2, e1, e2, X8g hN, hb]; rfl) (fun _ => ?_)
 show K (appE (St N asg oa nx) (some t) nx _)
 rw [St_del]
 simp only [List.length_append, List.map_append] at hK
 exact hK
theorem x_apn {α : Type} {enc : α → List (L Unit)} {ys : List α} {tt t2 : TypeId} {x y : Operand} {m b : Nat} {z : List Z} {rd : List Nat} {l : L Unit} (he : elF P tt = some (m, b, z)) (ht2 : lnF P t2 = some .slice) (hN : encN enc)
  (h1 : ev N asg x = some (.u (.one .nl))) (h2 : ev N asg y = some (.u (.one l))) (hq : argR (lko oa nx) m (some l) = some (ys.map enc, rd)) (hb : ys.length * b ≤ 140737488355328 ∧ ys.length ≤ LIM)
  (hK : K (St N ((t, .u (.one (.ref () nx 0 ys.length))) :: asg) ((nx, some ⟨(), m, ys.map enc⟩) :: oa) (nx + 1))) :
  aopK Y 0 ⟨some t, .call ⟨.builtin .append, #[x, y], #[tt, t2]⟩, ty, pos, aft, none⟩ (St N asg oa nx) K := by
 obtain ⟨i, ie, a1, a2, a3, a4, a5, a6⟩ := W4a he
 obtain ⟨i2, c1, c2⟩ := Y1k ht2
 subst a4 a5
 refine Y7i (e := { v := one1 (.ref () nx 0 ys.length), rd := rd, news := [⟨(), ie.size, ys.map enc⟩] }) (by
  have e1 := X0z (N := N) (asg := asg) hq
  simp only [opF, Z2e h1, Z2e h2]
  simp [apF, a1, a2, a3, a6, c1, c2, e1, X8g hN, hb]; rfl) (fun _ => ?_)
 show K (appE (St N asg oa nx) (some t) nx _)
 rw [X6e]; exact hK
end
end
section
section
variable {P : Program} {Y : Sys P} {B : Bd} {Q : Exit → S Unit → Prop} {s : S Unit}
theorem c_reg {id : Nat} {ops : List Oper} (h : J8 Y ops ops s (Q .normal)) : Wp (P := P) B (.region id ops.toArray false) Q s := W4n (Y := Y) _ (by rw [W0w]; exact h)
theorem K5 (h : Q .normal s) : Wp (P := P) B .skip Q s := fun _ _ hr => wp_skip ⟨_, hr, h⟩
theorem Z2d (h : Q .ret s) : Wp (P := P) B .ret Q s := fun _ _ hr => wp_ret ⟨_, hr, h⟩
theorem V2 {id : Nat} (h : Q (.exit id) s) : Wp (P := P) B (.exit id) Q s := fun _ _ hr => wp_exit ⟨_, hr, h⟩
theorem z_ {ops : List Oper} {K : S Unit → Prop} (h : K s) : J8 Y ops [] s K := h
end
section
variable {P : Program} {Y : Sys P} {B : Bd} {Q : Exit → S Unit → Prop} {N nx : Nat} {asg : Asg} {oa : OAsg} {K : S Unit → Prop}
theorem Z7p {t : Nat} {v : V Unit} (hN : Nat.blt t N = true) (h : lkp asg t = some v) : (St N asg oa nx).sl[t]? = some v := X2q (Z9w hN) h
theorem X7y (t : Nat) (b : Bool) : stB (St N asg oa nx) t b = St N ((t, .u (.one (.bool b))) :: asg) oa nx := Y3k ..
variable {ops rest : List Oper} {op : Op} {ty : TypeId} {pos : String} {aft : Array Edge} {j t : Nat} {want : Bool}
theorem g_t {dst : Option Nat} (ht : Z9c ops j = some t) (hN : Nat.blt t N = true) (hv : lkp asg t = some (.u (.one (.bool want)))) (h : J8 Y ops (⟨dst, op, ty, pos, aft, none⟩ :: rest) (St N asg oa nx) K) :
  J8 Y ops (⟨dst, op, ty, pos, aft, some (j, want)⟩ :: rest) (St N asg oa nx) K := by
 refine W2r ht ?_
 have hg := Z7p (oa := oa) (nx := nx) hN hv
 rw [hg]
 cases want
 ·rw [gdv_f]; exact ⟨fun h => (by cases h), fun _ => by rw [Z2g hg]; exact h⟩
 ·rw [gdv_t]; exact ⟨fun _ => by rw [Z2g hg]; exact h, fun h => (by cases h)⟩
theorem g_f {d : Nat} (ht : Z9c ops j = some t) (hN : Nat.blt t N = true) (hv : lkp asg t = some (.u (.one (.bool (!want))))) (h : J8 Y ops rest (St N ((d, .ud) :: asg) oa nx) K) :
  J8 Y ops (⟨some d, op, ty, pos, aft, some (j, want)⟩ :: rest) (St N asg oa nx) K := by
 refine W2r ht ?_
 have hg := Z7p (oa := oa) (nx := nx) hN hv
 rw [hg]
 cases want
 ·rw [gdv_f]; exact ⟨fun _ => by have := Z2g hg; simp only [Bool.not_false] at this; rw [this, Y3k]; exact h, fun h => (by cases h)⟩
 ·rw [gdv_t]; exact ⟨fun h => (by cases h), fun _ => by have := Z2g hg; simp only [Bool.not_true] at this; rw [this, Y3k]; exact h⟩
theorem g_fn (ht : Z9c ops j = some t) (hN : Nat.blt t N = true) (hv : lkp asg t = some (.u (.one (.bool (!want))))) (h : J8 Y ops rest (St N asg oa nx) K) :
  J8 Y ops (⟨none, op, ty, pos, aft, some (j, want)⟩ :: rest) (St N asg oa nx) K := by
 refine W2r ht ?_
 have hg := Z7p (oa := oa) (nx := nx) hN hv
 rw [hg]
 cases want
 ·rw [gdv_f]; exact ⟨fun _ => by have := Z2g hg; simp only [Bool.not_false] at this; rw [this]; exact h, fun h => (by cases h)⟩
 ·rw [gdv_t]; exact ⟨fun h => (by cases h), fun _ => by have := Z2g hg; simp only [Bool.not_true] at this; rw [this]; exact h⟩
theorem g_u {d : Nat} (ht : Z9c ops j = some t) (hN : Nat.blt t N = true) (hv : lkp asg t = some .ud) (h : J8 Y ops rest (St N ((d, .ud) :: asg) oa nx) K) :
  J8 Y ops (⟨some d, op, ty, pos, aft, some (j, want)⟩ :: rest) (St N asg oa nx) K := by
 refine W2r ht ?_
 rw [Z7p (oa := oa) (nx := nx) hN hv, gdv_u, Y3k]; exact h
theorem g_un (ht : Z9c ops j = some t) (hN : Nat.blt t N = true) (hv : lkp asg t = some .ud) (h : J8 Y ops rest (St N asg oa nx) K) :
  J8 Y ops (⟨none, op, ty, pos, aft, some (j, want)⟩ :: rest) (St N asg oa nx) K := by
 refine W2r ht ?_
 rw [Z7p (oa := oa) (nx := nx) hN hv, gdv_u]; exact h
theorem c_s {b : Bool} {x y : Code} (hN : Nat.blt t N = true) (hv : lkp asg t = some (.u (.one (.bool b)))) (h1 : b = true → Wp (P := P) B x Q (St N ((t, .u (.one (.bool true))) :: asg) oa nx))
  (h2 : b = false → Wp (P := P) B y Q (St N ((t, .u (.one (.bool false))) :: asg) oa nx)) : Wp (P := P) B (.cond (.tmp t) x y) Q (St N asg oa nx) := by
 intro a W hr
 have hr' := hr
 obtain ⟨d, he, hi, hs, hdef, hk⟩ := hr'
 have hb : (erS d).sl[t]? = some (.u (.one (.bool b))) := by rw [he]; exact Z7p hN hv
 have hv2 := Y2n hs hb
 have he2 : a.eval (.tmp t) = .bool b := by simp [Act.eval, hv2]
 have key : ∀ c : Bool, b = c → St N ((t, .u (.one (.bool c))) :: asg) oa nx = St N asg oa nx := fun c hc => by
  subst hc
  rw [← X7y]
  exact Z2g (Z7p hN hv)
 refine wp_cond_split he2 (fun hb' => ?_) (fun hb' => ?_)
 ·have := h1 hb'; rw [key _ hb'] at this; exact this a W hr
 ·have := h2 hb'; rw [key _ hb'] at this; exact this a W hr
theorem c_t {x y : Code} (hN : Nat.blt t N = true) (hv : lkp asg t = some (.u (.one (.bool true)))) (h1 : Wp (P := P) B x Q (St N asg oa nx)) : Wp (P := P) B (.cond (.tmp t) x y) Q (St N asg oa nx) := by
 have hg := Z2g (Z7p (oa := oa) (nx := nx) hN hv)
 rw [X7y] at hg
 exact c_s hN hv (fun _ => by rw [hg]; exact h1) (fun h => by cases h)
theorem c_f {x y : Code} (hN : Nat.blt t N = true) (hv : lkp asg t = some (.u (.one (.bool false)))) (h1 : Wp (P := P) B y Q (St N asg oa nx)) : Wp (P := P) B (.cond (.tmp t) x y) Q (St N asg oa nx) := by
 have hg := Z2g (Z7p (oa := oa) (nx := nx) hN hv)
 rw [X7y] at hg
 exact c_s hN hv (fun h => by cases h) (fun _ => by rw [hg]; exact h1)
end
section
variable {P : Program}
theorem Y6d {ρ ρ' : Env} : ∀ {ps : List (Nat × Operand)}, (∀ x ∈ ps.map (·.2), ρ' x = ρ x) → Z5s ρ' ps = Z5s ρ ps
 | [], _ => rfl
 | (i, x) :: ps, h => by
  simp only [Z5s, h x (by simp), Y6d (ps := ps) fun y hy => h y (by simp at hy ⊢; exact .inr hy)]
theorem X5z {ρ ρ' : Env} : ∀ {xs : List Operand}, (∀ x ∈ xs, ρ' x = ρ x) → X0w ρ' xs = X0w ρ xs
 | [], _ => rfl
 | x :: xs, h => by
  simp only [X0w, h x (by simp), X5z (xs := xs) fun y hy => h y (by simp [hy])]
theorem W4m {ρ ρ' : Env} {x : Option Operand} {k : Nat} (h : ∀ y ∈ x, ρ' y = ρ y) : bdE ρ' x k = bdE ρ x k := by
 cases x with
 | none => rfl
 | some y => simp only [bdE, h y (by simp)]
theorem X3f {op : Op} {ρ ρ' : Env} {lk : Lk} {nid : Nat} (hρ : ∀ x ∈ op.operands, ρ' x = ρ x) : opF P op ρ' lk nid = opF P op ρ lk nid := by
  cases op <;> simp only [Op.operands] at hρ <;> simp only [opF]
  case build t ps => simp only [buF, Y6d (ps := ps.toList) fun x hx => hρ x (by simpa using hx)]
  case buildSlice t l ps => simp only [bsF, Y6d (ps := ps.toList) fun x hx => hρ x (by simpa using hx)]
  case makeFunc f a c =>
    unfold mfF
    split
    · rw [X5z (xs := c.toList) fun x hx => hρ x (by simp at hx ⊢; exact .inr hx)]
    · rfl
  case slice t x lo hi mx =>
    cases mx with
    | none => simp only [slF, hρ x (by simp), W4m (ρ := ρ) (ρ' := ρ') (x := lo) fun y hy => hρ y (by simp at hy; simp [hy]), W4m (ρ := ρ) (ρ' := ρ') (x := hi) fun y hy => hρ y (by simp at hy; simp [hy])]
    | some m => rfl
  case call c =>
    obtain ⟨callee, args, tys⟩ := c
    obtain ⟨args⟩ := args
    cases callee with
    | value f => rfl
    | invoke r m => rfl
    | builtin b =>
      have : ∀ x ∈ args, ρ' x = ρ x := fun x hx => hρ x (by simp [Call.operands, hx])
      cases b <;> simp only
      all_goals first
        | rfl
        | (match args, this with
           | [], _ => rfl
           | [x], this => simp only [this x (by simp)]
           | [x, y], this => simp only [this x (by simp), this y (by simp)]
           | x :: y :: z :: l, _ => rfl)
  all_goals first
    | rfl
    | (simp at hρ; simp [W0g, unE, biE, cvE, mvF, hρ]; done)
theorem X6p {op : Op} {ρ : Env} {lk lk' : Lk} {nid nid' : Nat} {v : V Unit} {rd : List Nat} {hyp : Prop}
  (h : opF P op ρ lk nid = some ⟨v, rd, [], [], [], hyp⟩) (hlk : ∀ id ∈ rd, lk' id = lk id) : opF P op ρ lk' nid' = some ⟨v, rd, [], [], [], hyp⟩ := by
 have bindE : ∀ {α : Type} {x : Option α} {f g : α → Option Eff}, x.bind f = some ⟨v, rd, [], [], [], hyp⟩ → (∀ a, x = some a → f a = some ⟨v, rd, [], [], [], hyp⟩ → g a = some ⟨v, rd, [], [], [], hyp⟩) → x.bind g = some ⟨v, rd, [], [], [], hyp⟩ := by
  intro α x f g h1 h2
  obtain ⟨a, ha, h1⟩ := bind_some h1
  rw [ha, Option.bind_some]
  exact h2 a ha h1
 have key : ∀ {id : Nat} {f : Ob Unit → Option Eff}, (lk id).bind f = some ⟨v, rd, [], [], [], hyp⟩ → id ∈ rd → (lk' id).bind f = some ⟨v, rd, [], [], [], hyp⟩ := by
  intro id f h1 h2
  rw [hlk id h2]; exact h1
 cases op <;> simp only [opF] at h ⊢ <;> try exact h
 case alloc t =>
  obtain ⟨i, _, h⟩ := bind_some h
  cases h
 case box t x =>
  unfold bxF at h
  split at h
  ·split at h <;> cases h
  ·cases h
 case buildSlice t l ps =>
  unfold bsF at h
  obtain ⟨i, _, h⟩ := bind_some h
  split at h
  ·obtain ⟨ie, _, h⟩ := bind_some h
   split at h
   ·obtain ⟨us, _, h⟩ := bind_some h
    obtain ⟨rows, _, h⟩ := bind_some h
    cases h
   ·cases h
  ·cases h
 case load t x =>
  unfold ldF at h ⊢
  refine bindE h fun i _ h => ?_
  split at h
  ·refine key h ?_
   obtain ⟨o, _, h⟩ := bind_some h
   obtain ⟨r, _, h⟩ := bind_some h
   obtain ⟨u, _, h⟩ := bind_some h
   split at h
   ·injection h with h; injection h with _ h2; rw [← h2]; exact List.mem_singleton.2 rfl
   ·cases h
  ·exact h
  ·cases h
 case store t x y =>
  unfold stF at h
  obtain ⟨i, _, h⟩ := bind_some h
  split at h
  ·obtain ⟨o, _, h⟩ := bind_some h
   obtain ⟨r, _, h⟩ := bind_some h
   split at h
   ·split at h
    ·split at h <;> cases h
    ·cases h
   ·cases h
  ·cases h
 case nilCheck x =>
  split at h
  ·refine key h ?_
   obtain ⟨o, _, h⟩ := bind_some h
   injection h with h; injection h with _ h2; rw [← h2]; exact List.mem_singleton.2 rfl
  ·exact h
  ·cases h
 case makeSlice t x y =>
  unfold mkF at h
  obtain ⟨i, _, h⟩ := bind_some h
  split at h
  ·obtain ⟨ie, _, h⟩ := bind_some h
   split at h
   ·split at h
    ·split at h <;> cases h
    ·cases h
   ·cases h
  ·cases h
 case slice t x lo hi mx =>
  cases mx with
  | some m => exact h
  | none =>
   simp only [slF] at h ⊢
   refine bindE h fun i _ h => ?_
   split at h
   ·exact h
   ·refine bindE h fun ie _ h => ?_
    split at h
    ·exact h
    ·refine key h ?_
     obtain ⟨o, _, h⟩ := bind_some h
     obtain ⟨l, _, h⟩ := bind_some h
     obtain ⟨u, _, h⟩ := bind_some h
     split at h
     ·split at h
      ·injection h with h; injection h with _ h2; rw [← h2]; exact List.mem_singleton.2 rfl
      ·cases h
     ·cases h
    ·cases h
   ·cases h
 case fieldAddr t x f =>
  unfold faF at h ⊢
  refine bindE h fun i _ h => ?_
  split at h
  ·refine bindE h fun p _ h => ?_
   refine bindE h fun k _ h => ?_
   split at h
   ·cases h
   ·rename_i hs
    rw [if_neg hs]
    split at h
    ·refine key h ?_
     obtain ⟨o, _, h⟩ := bind_some h
     injection h with h; injection h with _ h2; rw [← h2]; exact List.mem_singleton.2 rfl
    ·exact h
    ·cases h
  ·cases h
 case indexAddr t x y =>
  unfold ixF at h ⊢
  refine bindE h fun i _ h => ?_
  split at h
  ·refine bindE h fun ie _ h => ?_
   split at h
   ·split at h
    ·exact h
    ·refine key h ?_
     obtain ⟨o, _, h⟩ := bind_some h
     split at h
     ·split at h
      ·injection h with h; injection h with _ h2; rw [← h2]; exact List.mem_singleton.2 rfl
      ·cases h
     ·cases h
    ·cases h
   ·cases h
  ·cases h
 case call c =>
  split at h
  ·split at h
   ·unfold lenF at h ⊢
    split at h
    ·refine bindE h fun i _ h => ?_
     split at h
     ·exact h
     ·exact h
     ·exact h
     ·refine key h ?_
      obtain ⟨o, _, h⟩ := bind_some h
      injection h with h; injection h with _ h2; rw [← h2]; exact List.mem_singleton.2 rfl
     ·cases h
    ·cases h
   ·cases h
  ·exact h
  ·exact h
  ·split at h
   ·unfold apF at h
    split at h
    ·obtain ⟨i, _, h⟩ := bind_some h
     obtain ⟨i2, _, h⟩ := bind_some h
     split at h
     ·obtain ⟨ie, _, h⟩ := bind_some h
      split at h
      ·split at h
       ·obtain ⟨q, _, h⟩ := bind_some h
        split at h
        ·split at h <;> cases h
        ·cases h
       ·obtain ⟨p, _, h⟩ := bind_some h
        obtain ⟨q, _, h⟩ := bind_some h
        split at h
        ·split at h <;> cases h
        ·cases h
       ·cases h
      ·cases h
     ·cases h
    ·cases h
   ·cases h
  ·cases h
end
end
section
section
variable {P : Program}
structure LocY (Y : Sys P) : Prop where
 op : ∀ {o : Oper} {s s' : S Unit} {nid : Nat} {e : Eff}, Y.E o s nid e → (∀ x ∈ o.op.operands, evA s' x = evA s x) → s'.ob = s.ob → Y.E o s' nid e
variable (Y : Sys P)
def Z4s (ops : List Oper) (o : Oper) (s : S Unit) : Option Bool := match o.guard with
 | none => some true
 | some (j, want) => match Z9c ops j with
  | none => none
  | some t => match s.sl[t]? with
   | some (.u (.one (.bool b))) => some (b == want)
   | some .ud => some false
   | _ => none
def d1 (ops : List Oper) (o : Oper) (s : S Unit) (K : S Unit → Prop) : Prop := match Z4s ops o s with
 | some true => ∃ e, Y.E o s s.nx e ∧ (e.hyp → K (appE s o.dst s.nx e))
 | some false => K (U1 s o.dst .ud)
 | none => False
def aAny (ops : List Oper) : Nat → Array Bool → S Unit → (S Unit → Prop) → Prop
 | 0, L, s, K => Region.ready .any ops.toArray L = [] ∧ K s
 | fuel + 1, L, s, K => (Region.ready .any ops.toArray L = [] → K s) ∧
   ∀ i ∈ Region.ready .any ops.toArray L, ∀ o, ops[i]? = some o → d1 Y ops o s (fun s' => aAny ops fuel (L.setIfInBounds i true) s' K)
variable {Y}
theorem Y5j {ops : List Oper} {o : Oper} {d : S Value} {a : Act} (hs : SlR d a) {b : Bool} (h : Z4s ops o (erS d) = some b) : Region.wanted o (yielded ops.toArray a.tmps) = b := by
 unfold Z4s at h
 split at h
 ·rename_i hg
  cases h
  exact Y1a hg
 ·rename_i j want hg
  split at h
  ·cases h
  ·rename_i t ht
   have ht' : ((ops.toArray)[j]?).bind (·.dst) = some t := by rw [List.getElem?_toArray]; exact ht
   split at h
   ·rename_i b' hb
    cases h
    exact Y3v hg ht' (Y2n hs hb)
   ·rename_i hb
    cases h
    exact Y8y hg ht' (X6f hs hb)
   ·cases h
theorem W6k {ops : List Oper} {o : Oper} {i : Nat} {s : S Unit} {a : Act} {W : World} {B : Bd} {K' : S Unit → Prop} {Kc : Act → World → Prop} {Q : Exit → Act → World → Prop} (hi : ops[i]? = some o) (h : d1 Y ops o s K') (hr : Rel B s a W)
  (hK : ∀ s a W, K' s → Rel B s a W → Kc a W) : wpOp P ops.toArray Q i Kc a W := by
 unfold wpOp
 rw [List.getElem?_toArray, hi]
 simp only
 unfold d1 at h
 split at h
 ·rename_i hg
  have hr' := hr
  obtain ⟨d, rfl, hi', hs, _⟩ := hr'
  rw [Y5j hs hg, if_pos rfl]
  obtain ⟨e, he, hK'⟩ := h
  obtain ⟨h1, h2⟩ := hr.step (Y.ok he)
  exact .inl (Z9i (Oper.wp_mono (fun a' W' hr' => hK _ a' W' (hK' h1) hr') h2))
 ·rename_i hg
  have hr' := hr
  obtain ⟨d, rfl, hi', hs, _⟩ := hr'
  rw [Y5j hs hg, if_neg (by simp)]
  exact hK _ _ _ h (hr.skip o.dst)
 ·cases h
theorem X2k {ops : List Oper} {B : Bd} {K : S Unit → Prop} {Q : Exit → Act → World → Prop} (hK : ∀ s a W, K s → Rel B s a W → Q .normal a W) : ∀ (fuel : Nat) (L : Array Bool) (s : S Unit) (a : Act) (W : World), aAny Y ops fuel L s K → Rel B s a W →
  wpAny P .any ops.toArray Q fuel L a W
 | 0, L, s, a, W, h, hr => ⟨h.1, hK s a W h.2 hr⟩
 | fuel + 1, L, s, a, W, h, hr => by
  refine ⟨fun h0 => hK s a W (h.1 h0) hr, fun i hi => ?_⟩
  obtain ⟨_, o, ho, _⟩ := mem_ready.1 hi
  rw [List.getElem?_toArray] at ho
  exact W6k ho (h.2 i hi o ho) hr fun s a W h hr => X2k hK fuel _ s a W h hr
theorem Rel.keeps {B : Bd} {s : S Unit} {a : Act} {W W' : World} (h : Rel B s a W) (hk : Keeps W W') : Rel B s a W' := by
 obtain ⟨d, e, hi, h2⟩ := h
 exact ⟨d, e, hi.put hk none (v := .ud) rfl (by simp [Z3]) (by simp [Z3]), h2⟩
theorem Z4t {B : Bd} {id : Nat} {ops : List Oper} {Q : Exit → S Unit → Prop} {s : S Unit} (hm : P.follows .mixedOrders = true) (h : aAny Y ops ops.length (Array.replicate ops.length false) s (Q .normal)) : Wp (P := P) B (.region id ops.toArray true) Q s := by
 intro a W hr
 refine wp_region_any hm ?_
 have := X2k (Y := Y) (B := B) (K := Q .normal) (Q := fun e a' W' => ∃ s', Rel B s' a' W' ∧ Q e s') (fun s a W h hr => ⟨s, hr, h⟩) ops.length (Array.replicate ops.length false) s a { W with drawn := W.drawn + 1 } h (hr.keeps (X3m rfl))
 simpa using this
theorem Y1s {s : S Unit} {dst : Option Nat} {v : V Unit} {x : Operand} (h : ∀ d, dst = some d → x ≠ .tmp d) : evA (U1 s dst v) x = evA s x := by
 cases dst with
 | none => rfl
 | some d =>
  cases x with
  | tmp t =>
   have hne : d ≠ t := fun e => h d rfl (e ▸ rfl)
   simp only [evV, U1, List.getElem?_set, if_neg hne]
  | _ => rfl
theorem Z9b {ops : List Oper} {o : Oper} {d : Nat} (h : d ∉ o.looksAt ops.toArray) : ∀ x ∈ o.op.operands, x ≠ .tmp d := fun x hx e => by
 subst e
 exact h (List.mem_append_left _ (List.mem_filterMap.2 ⟨.tmp d, by simpa using hx, rfl⟩))
theorem Z5d {ops : List Oper} {o : Oper} {s : S Unit} {dst : Option Nat} {v : V Unit} (h : ∀ d, dst = some d → d ∉ o.looksAt ops.toArray) : Z4s ops o (U1 s dst v) = Z4s ops o s := by
 cases dst with
 | none => rfl
 | some d =>
  unfold Z4s
  cases hg : o.guard with
  | none => rfl
  | some gw =>
   obtain ⟨j, want⟩ := gw
   simp only
   cases ht : Z9c ops j with
   | none => rfl
   | some t =>
    have hne : d ≠ t := fun e => h d rfl (by
     subst e
     have ht' : ((ops.toArray)[j]?).bind (·.dst) = some d := by rw [List.getElem?_toArray]; exact ht
     refine List.mem_append_right _ ?_
     simp only [hg, ht', Option.toList_some, List.mem_singleton])
    simp only [U1, List.getElem?_set, if_neg hne]
theorem Y3d {δ : Type} (s : S δ) {x y : Option Nat} (v u : V δ) (h : ∀ d, x = some d → y ≠ some d) : U1 (U1 s x v) y u = U1 (U1 s y u) x v := by
 cases x with
 | none => rfl
 | some d =>
  cases y with
  | none => rfl
  | some e =>
   have hne : d ≠ e := fun he => h d rfl (he ▸ rfl)
   simp only [U1, List.set_comm _ _ hne]
theorem X4h (s : S Unit) {x y : Option Nat} (v : V Unit) (nid : Nat) (e : Eff) (h : ∀ d, x = some d → y ≠ some d) : appE (U1 s x v) y nid e = U1 (appE s y nid e) x v := by
 unfold appE app
 rw [← Y3d _ _ _ h]
 cases x <;> rfl
def PY (ops : List Oper) (o : Oper) (s : S Unit) (v : V Unit) (rd : List Nat) : Prop :=
 (Z4s ops o s = some true ∧ (∀ id ∈ rd, look s.ob id ≠ none) ∧ ∃ hyp, opF P o.op (evA s) (look s.ob) s.nx = some ⟨v, rd, [], [], [], hyp⟩) ∨ (Z4s ops o s = some false ∧ v = .ud ∧ rd = [])
theorem X5p {ob : List (Nat × Ob Unit)} {news : List (Ob Unit)} {nid id : Nat} (h : look ob id ≠ none) : look (ob ++ (news.zipIdx nid).map (fun q => (q.2, q.1))) id = look ob id := by
 unfold look at h ⊢
 rw [List.find?_append]
 cases hf : ob.find? (fun p => p.1 == id) with
 | none => rw [hf] at h; exact absurd rfl h
 | some p => rfl
theorem X2y {s : S Unit} {dst : Option Nat} {nid : Nat} {e : Eff} (hu : e.upd = []) (hd : e.del = []) {id : Nat} (h : look s.ob id ≠ none) : look (appE s dst nid e).ob id = look s.ob id := by
 unfold appE
 rw [hu, hd, Y1u, Z4y]
 exact X5p h
theorem W4r [PlainY Y] (hY : LocY Y) {ops : List Oper} {i : Nat} {o : Oper} {v : V Unit} {rd : List Nat} {K : S Unit → Prop} (hi : ops[i]? = some o) : ∀ (fuel : Nat) (L : Array Bool) (s : S Unit),
  (∀ j oj, ops[j]? = some oj → j ≠ i → L.getD j true = false → (∀ e ∈ oj.after, Region.binds .any e = true → e.on ≠ i) → o.apart ops.toArray oj = true ∧ (rd = [] ∨ ∀ s nid e, Y.E oj s nid e → e.upd = [] ∧ e.del = [])) →
  i ∈ Region.ready .any ops.toArray L → PY (P := P) ops o s v rd → aAny Y ops fuel (L.setIfInBounds i true) (U1 s o.dst v) K → aAny Y ops (fuel + 1) L s K := by
 have self : ∀ (fuel : Nat) (L : Array Bool) (s : S Unit), PY (P := P) ops o s v rd → aAny Y ops fuel (L.setIfInBounds i true) (U1 s o.dst v) K → d1 Y ops o s (fun s' => aAny Y ops fuel (L.setIfInBounds i true) s' K) := by
  intro fuel L s hy H
  unfold d1
  rcases hy with ⟨hg, _, hyp, he⟩ | ⟨hg, hv, _⟩
  ·rw [hg]
   refine ⟨_, PlainY.h he, fun _ => ?_⟩
   have : appE s o.dst s.nx ⟨v, rd, [], [], [], hyp⟩ = U1 s o.dst v := by
    unfold appE
    rw [Y1u]
    simp
   rw [this]
   exact H
  ·rw [hg]
   subst hv
   exact H
 intro fuel
 induction fuel with
 | zero =>
  intro L s _ hr hy H
  refine ⟨fun h => (by rw [h] at hr; cases hr), fun j hj oj hoj => ?_⟩
  by_cases hji : j = i
  ·subst hji
   rw [hi] at hoj
   cases hoj
   exact self 0 L s hy H
  ·have := ready_mono hj hji
   rw [H.1] at this
   cases this
 | succ fuel ih =>
  intro L s hfree hr hy H
  refine ⟨fun h => (by rw [h] at hr; cases hr), fun j hj oj hoj => ?_⟩
  by_cases hji : j = i
  ·subst hji
   rw [hi] at hoj
   cases hoj
   exact self _ L s hy H
  ·have h1 := H.2 j (ready_mono hj hji) oj hoj
   obtain ⟨hjun, oj', hoj', hall⟩ := mem_ready.1 hj
   rw [List.getElem?_toArray, hoj] at hoj'
   cases hoj'
   have hnot : ∀ e ∈ oj.after, Region.binds .any e = true → e.on ≠ i := fun e he hb heq => by
    have h1 := hall e he hb
    have h0 := (mem_ready.1 hr).1
    rw [heq] at h1
    rcases Nat.lt_or_ge i L.size with h' | h'
    ·simp [h'] at h0 h1; rw [h0] at h1; cases h1
    ·simp [Array.getElem?_eq_none h'] at h1
   obtain ⟨hap, hq⟩ := hfree j oj hoj hji hjun hnot
   obtain ⟨a1, a2, a3⟩ := Oper.apart_spec hap
   have hfree' : ∀ k ok, ops[k]? = some ok → k ≠ i → (L.setIfInBounds j true).getD k true = false → (∀ e ∈ ok.after, Region.binds .any e = true → e.on ≠ i) → o.apart ops.toArray ok = true ∧ (rd = [] ∨ ∀ s nid e, Y.E ok s nid e → e.upd = [] ∧ e.del = []) :=
    fun k ok hk hki hun hno => by
     refine hfree k ok hk hki ?_ hno
     by_cases hjk : j = k
     ·subst hjk; exact hjun
     ·rw [getD_set_ne true hjk] at hun; exact hun
   unfold d1 at h1 ⊢
   rw [Z5d a1] at h1
   have stay : ∀ s', (∀ x ∈ o.op.operands, evA s' x = evA s x) → Z4s ops o s' = Z4s ops o s → (∀ id ∈ rd, look s'.ob id = look s.ob id) → PY (P := P) ops o s' v rd := by
    intro s' e1 e2 e3
    rcases hy with ⟨hg, hpr, hyp, he⟩ | ⟨hg, hv, hrd0⟩
    ·refine .inl ⟨e2.trans hg, fun id hid => by rw [e3 id hid]; exact hpr id hid, hyp, ?_⟩
     rw [X3f e1]
     exact X6p he e3
    ·exact .inr ⟨e2.trans hg, hv, hrd0⟩
   have hne : ∀ id ∈ rd, look s.ob id ≠ none := fun id hid => by
    rcases hy with ⟨_, hpr, _⟩ | ⟨_, _, h0⟩
    ·exact hpr id hid
    ·rw [h0] at hid; cases hid
   split at h1
   ·rename_i hg
    obtain ⟨e, he, hK⟩ := h1
    have hnx : (U1 s o.dst v).nx = s.nx := Y3c _ _ _
    rw [hnx] at he hK
    have he' : Y.E oj s s.nx e := hY.op he (fun x hx => (Y1s fun d hd hxd => Z9b (a1 d hd) x hx hxd).symm) (Z4y _ _ _).symm
    refine ⟨e, he', fun hh => ?_⟩
    replace hK := hK hh
    rw [X4h s v _ e (fun d hd => a2 d hd)] at hK
    rw [Array.setIfInBounds_comm _ _ (Ne.symm hji)] at hK
    have e1 : ∀ s0 : S Unit, appE s0 oj.dst s0.nx e = U1 { appE s0 none s0.nx e with sl := s0.sl } oj.dst e.v := fun s0 => by unfold appE app; rfl
    have e2 : ∀ x ∈ o.op.operands, evA (appE s oj.dst s.nx e) x = evA s x := fun x hx => by
     rw [e1, Y1s fun d hd hxd => Z9b (a3 d hd) x hx hxd]
    have e3 : Z4s ops o (appE s oj.dst s.nx e) = Z4s ops o s := by
     rw [e1, Z5d a3]
     rfl
    refine ih (L.setIfInBounds j true) _ hfree' (ready_mono hr (Ne.symm hji)) (stay _ e2 e3 fun id hid => ?_) hK
    rcases hq with h0 | hq
    ·rw [h0] at hid; cases hid
    ·obtain ⟨hu, hd⟩ := hq _ _ _ he'
     exact X2y hu hd (hne id hid)
   ·rename_i hg
    rw [Y3d _ _ _ (fun d hd => a2 d hd), Array.setIfInBounds_comm _ _ (Ne.symm hji)] at h1
    refine ih (L.setIfInBounds j true) _ hfree' (ready_mono hr (Ne.symm hji)) (stay _ (fun x hx => Y1s fun d hd hxd => Z9b (a3 d hd) x hx hxd) (Z5d a3) fun id _ => by rw [Z4y]) h1
   ·cases h1
def Y7e : Op → Bool
 | .store _ _ _ => false
 | .call c => match c.callee with
  | .builtin .append => false
  | _ => true
 | _ => true
def QE (x : Option Eff) : Prop := ∀ e, x = some e → e.upd = [] ∧ e.del = []
theorem QE.none : QE none := fun _ h => by cases h
theorem QE.mk {v : V Unit} {rd : List Nat} {news : List (Ob Unit)} {hyp : Prop} : QE (some ⟨v, rd, news, [], [], hyp⟩) := fun _ h => by cases h; exact ⟨rfl, rfl⟩
theorem QE.bind {α : Type} {x : Option α} {f : α → Option Eff} (h : ∀ a, QE (f a)) : QE (x.bind f) := fun e he => by
 obtain ⟨a, _, h2⟩ := bind_some he
 exact h a e h2
theorem QE.map {α : Type} {x : Option α} {f : α → Eff} (h : ∀ a, QE (some (f a))) : QE (x.map f) := fun e he => by
 rw [Option.map_eq_some_iff] at he
 obtain ⟨a, _, h2⟩ := he
 exact h a e (by rw [h2])
theorem QE.ite {c : Prop} [Decidable c] {x y : Option Eff} (h1 : QE x) (h2 : QE y) : QE (if c then x else y) := by split <;> assumption
theorem W2s {op : Op} {ρ : Env} {lk : Lk} {nid : Nat} (hq : Y7e op = true) : QE (opF P op ρ lk nid) := by
 have mv : ∀ x, QE (mvF x) := fun x => by unfold mvF; split <;> first | exact QE.none | exact QE.ite QE.mk QE.none
 cases op <;> simp only [opF]
 case store => cases hq
 case call c =>
  split
  ·split
   ·unfold lenF
    split
    ·refine QE.bind fun _ => ?_
     split <;> first | exact QE.none | exact QE.mk | exact QE.bind fun _ => QE.mk
    ·exact QE.none
   ·exact QE.none
  ·split
   ·unfold mmF; split <;> first | exact QE.none | exact QE.mk
   ·exact QE.none
  ·split
   ·unfold mmF; split <;> first | exact QE.none | exact QE.mk
   ·exact QE.none
  ·rename_i hc
   simp only [Y7e, hc] at hq
   cases hq
  ·exact QE.none
 case move => exact mv _
 case assign => exact mv _
 case pick => unfold W0g; split <;> first | exact mv _ | exact QE.none
 case alloc => exact QE.bind fun _ => QE.mk
 case box => unfold bxF; split <;> first | exact QE.ite QE.mk QE.none | exact QE.none
 case build => refine QE.bind fun _ => ?_; split <;> first | exact QE.none | exact QE.bind fun _ => QE.bind fun _ => QE.mk
 case buildSlice => refine QE.bind fun _ => ?_; split <;> first | exact QE.none | exact QE.bind fun _ => QE.ite (QE.bind fun _ => QE.bind fun _ => QE.mk) QE.none
 case load => refine QE.bind fun _ => ?_; split <;> first | exact QE.none | exact QE.bind fun _ => QE.bind fun _ => QE.bind fun _ => QE.ite QE.mk QE.none | exact QE.bind fun _ => QE.ite QE.mk QE.none
 case nilCheck => split <;> first | exact QE.none | exact QE.mk | exact QE.bind fun _ => QE.mk
 case binOp => unfold biE; split <;> first | exact QE.none | exact QE.map fun _ => QE.mk
 case unOp => unfold unE; split <;> first | exact QE.none | exact QE.map fun _ => QE.mk
 case convert => unfold cvE; split <;> first | exact QE.none | (split <;> first | exact QE.none | exact QE.mk)
 case makeFunc => unfold mfF; split <;> first | exact QE.none | exact QE.ite (QE.map fun _ => QE.mk) QE.none
 case makeSlice =>
  refine QE.bind fun _ => ?_
  split
  ·refine QE.bind fun _ => ?_
   split
   ·exact QE.ite (QE.ite QE.mk QE.none) QE.none
   ·exact QE.none
  ·exact QE.none
 case slice t x lo hi mx =>
  cases mx with
  | some m => exact QE.none
  | none =>
   simp only [slF]
   refine QE.bind fun _ => ?_
   split
   ·split
    ·exact QE.bind fun _ => QE.bind fun _ => QE.ite QE.mk QE.none
    ·exact QE.none
   ·refine QE.bind fun _ => ?_
    split
    ·exact QE.bind fun _ => QE.bind fun _ => QE.ite (QE.ite QE.mk QE.none) QE.none
    ·exact QE.bind fun _ => QE.bind fun _ => QE.bind fun _ => QE.ite (QE.ite QE.mk QE.none) QE.none
    ·exact QE.none
   ·exact QE.none
 case fieldAddr =>
  refine QE.bind fun _ => ?_
  split
  ·refine QE.bind fun _ => QE.bind fun _ => QE.ite QE.none ?_
   split <;> first | exact QE.none | exact QE.mk | exact QE.bind fun _ => QE.mk
  ·exact QE.none
 case field =>
  refine QE.bind fun _ => ?_
  split
  ·refine QE.bind fun _ => QE.bind fun _ => ?_
   split <;> first | exact QE.none | exact QE.bind fun _ => QE.ite QE.mk QE.none
  ·exact QE.none
 case indexAddr =>
  refine QE.bind fun _ => ?_
  split
  ·refine QE.bind fun _ => ?_
   split
   ·split
    ·exact QE.ite (QE.ite (QE.bind fun _ => QE.mk) QE.none) QE.none
    ·exact QE.bind fun _ => QE.ite (QE.ite QE.mk QE.none) QE.none
    ·exact QE.none
   ·exact QE.none
  ·exact QE.none
 case index => refine QE.bind fun _ => ?_; split <;> first | exact QE.none | exact QE.ite (QE.bind fun _ => QE.mk) QE.none
 case extract => unfold exF; split <;> first | exact QE.none | exact QE.bind fun _ => QE.ite QE.mk QE.none
 all_goals exact QE.none
theorem X6b {lk : Lk} {ρ ρ' : Env} : ∀ {xs : List Operand}, (∀ x ∈ xs, ρ' x = ρ x) → X1m lk ρ' xs = X1m lk ρ xs
 | [], _ => rfl
 | x :: xs, h => by
  simp only [X1m, h x (by simp), X6b (xs := xs) fun y hy => h y (by simp [hy])]
theorem locC : LocY (sysC P) := ⟨fun {o s s' nid e} h hρ hob => by
 rcases h with h | ⟨c, f, caps, us, rd, cs, rd2, r, h1, h2, h3, h4, h5⟩
 ·refine .inl ?_
  rw [hob, X3f hρ]; exact h
 ·refine .inr ⟨c, f, caps, us, rd, cs, rd2, r, h1, ?_, ?_, by rw [hob]; exact h4, h5⟩
  ·rw [h1] at hρ
   unfold calE at h2 ⊢
   split at h2
   ·rename_i x hx
    rw [hρ x (by simp [Op.operands, Call.operands, hx])]
    exact h2
   ·cases h2
  ·rw [hob, X6b fun x hx => hρ x (by rw [h1]; simp only [Op.operands, Call.operands, Array.mem_append]; exact .inr (by simpa using hx))]
   exact h3⟩
class QuietY (Y : Sys P) where
 q : Op → Bool
 ok : ∀ {o : Oper} {s : S Unit} {nid : Nat} {e : Eff}, q o.op = true → Y.E o s nid e → e.upd = [] ∧ e.del = []
 loc : LocY Y
 bare : ∀ {dst : Option Nat} {op : Op} {ty : TypeId} {pos : String} {aft : Array Edge} {g : Option (Nat × Bool)} {s : S Unit} {nid : Nat} {e : Eff}, Y.E ⟨dst, op, ty, pos, aft, none⟩ s nid e → Y.E ⟨dst, op, ty, pos, aft, g⟩ s nid e
instance : QuietY (sysC P) := ⟨Y7e, fun {o s nid e} hq h => by
 rcases h with h | ⟨c, f, caps, us, rd, cs, rd2, r, h1, h2, h3, h4, h5, h6, h7, rfl⟩
 ·exact W2s hq e h
 ·exact ⟨rfl, rfl⟩, locC, fun h => h⟩
def X2n (q : Op → Bool) (pr : Nat) (ops : Array Oper) (L : Array Bool) (i : Nat) : Bool :=
 (Region.ready .any ops L).contains i && Region.free .any ops L i && (Nat.beq pr 1 || (List.range ops.size).all fun j => j == i || L.getD j true || match ops[j]? with
  | some oj => oj.after.any (fun e => Region.binds .any e && e.on == i) || q oj.op
  | none => true)
section
variable {Y : Sys P} [PlainY Y] [QuietY Y]
theorem Y4h {ops : List Oper} {i pr fuel : Nat} {o : Oper} {v : V Unit} {rd : List Nat} {L : Array Bool} {s : S Unit} {K : S Unit → Prop} (hi : ops[i]? = some o) (hb : X2n (QuietY.q Y) pr ops.toArray L i = true) (hrd : pr = 1 → rd = [])
  (hy : PY (P := P) ops o s v rd) (H : aAny Y ops fuel (L.setIfInBounds i true) (U1 s o.dst v) K) : aAny Y ops (fuel + 1) L s K := by
 simp only [X2n, Bool.and_eq_true, Bool.or_eq_true] at hb
 obtain ⟨⟨h1, h2⟩, h3⟩ := hb
 have hi' : (ops.toArray)[i]? = some o := by rw [List.getElem?_toArray]; exact hi
 refine W4r QuietY.loc hi fuel L s (fun j oj hj hji hun hno => ⟨Region.free_spec hi' h2 j oj (by rw [List.getElem?_toArray]; exact hj) hji hun hno, ?_⟩) (by simpa using h1) hy H
 rcases h3 with h3 | h3
 ·exact .inl (hrd (Nat.eq_of_beq_eq_true h3))
 ·right
  intro s nid e he
  refine QuietY.ok (Y := Y) ?_ he
  rw [List.all_eq_true] at h3
  have hj' : (ops.toArray)[j]? = some oj := by rw [List.getElem?_toArray]; exact hj
  have := h3 j (by rw [List.mem_range]; exact (Array.getElem?_eq_some_iff.1 hj').1)
  simp only [hj', Bool.or_eq_true, beq_iff_eq, hji, hun, false_or, Bool.false_eq_true] at this
  rcases this with this | this
  ·obtain ⟨e', he', hb⟩ := Array.any_eq_true'.1 this
   simp only [Bool.and_eq_true, beq_iff_eq] at hb
   exact absurd hb.2 (hno e' he' hb.1)
  ·exact this
variable {N nx t fuel : Nat} {asg : Asg} {oa : OAsg} {K : S Unit → Prop} {ops : List Oper} {L : Array Bool} {dst : Option Nat} {op : Op} {ty : TypeId} {pos : String} {aft : Array Edge} {j : Nat} {want : Bool}
omit [PlainY Y] [QuietY Y] in
theorem Y5t {pr : Nat} {o : Oper} {s : S Unit} (hpr : pr ≠ 0) (h : aopK Y pr o s K) : ∃ v rd hyp, opF P o.op (evA s) (look s.ob) s.nx = some ⟨v, rd, [], [], [], hyp⟩ ∧ Rd pr s rd ∧ K (U1 s o.dst v) := by
 obtain ⟨⟨v, rd, news, upd, del, hyp⟩, h1, _, h2⟩ := h
 obtain ⟨e1, e2, e3, e4, e5⟩ := h1 hpr
 simp only at e2 e3 e4
 subst e2 e3 e4
 refine ⟨v, rd, hyp, e1, e5, ?_⟩
 have := h2 fun h => absurd h hpr
 have e : appE s o.dst s.nx ⟨v, rd, [], [], [], hyp⟩ = U1 s o.dst v := by
  unfold appE; rw [Y1u]; simp
 rwa [e] at this
theorem t_ (i pr : Nat) (hi : ops[i]? = some ⟨dst, op, ty, pos, aft, none⟩) (hb : X2n (QuietY.q Y) (pr + 1) ops.toArray L i = true)
  (h : aopK Y (pr + 1) ⟨dst, op, ty, pos, aft, none⟩ (St N asg oa nx) (fun s' => aAny Y ops fuel (L.setIfInBounds i true) s' K)) : aAny Y ops (fuel + 1) L (St N asg oa nx) K := by
 obtain ⟨v, rd, hyp, h1, h2, h3⟩ := Y5t (by omega) h
 exact Y4h hi hb h2.no (.inl ⟨rfl, h2.is, hyp, h1⟩) h3
theorem X3t {o : Oper} (hg : o.guard = some (j, want)) (ht : Z9c ops j = some t) (hN : Nat.blt t N = true) {b : Bool} (hv : lkp asg t = some (.u (.one (.bool b)))) : Z4s ops o (St N asg oa nx) = some (b == want) := by
 simp only [Z4s, hg, ht, Z7p hN hv]
theorem t_g (i pr : Nat) (hi : ops[i]? = some ⟨dst, op, ty, pos, aft, some (j, want)⟩) (hb : X2n (QuietY.q Y) (pr + 1) ops.toArray L i = true) (ht : Z9c ops j = some t) (hN : Nat.blt t N = true) (hv : lkp asg t = some (.u (.one (.bool want))))
  (h : aopK Y (pr + 1) ⟨dst, op, ty, pos, aft, none⟩ (St N asg oa nx) (fun s' => aAny Y ops fuel (L.setIfInBounds i true) s' K)) : aAny Y ops (fuel + 1) L (St N asg oa nx) K := by
 obtain ⟨v, rd, hyp, h1, h2, h3⟩ := Y5t (by omega) h
 exact Y4h hi hb h2.no (.inl ⟨by rw [X3t rfl ht hN hv]; simp, h2.is, hyp, h1⟩) h3
theorem t_f {d : Nat} (i : Nat) (hi : ops[i]? = some ⟨some d, op, ty, pos, aft, some (j, want)⟩) (hb : X2n (QuietY.q Y) 1 ops.toArray L i = true) (ht : Z9c ops j = some t) (hN : Nat.blt t N = true) (hv : lkp asg t = some (.u (.one (.bool (!want)))))
  (h : aAny Y ops fuel (L.setIfInBounds i true) (St N ((d, .ud) :: asg) oa nx) K) : aAny Y ops (fuel + 1) L (St N asg oa nx) K := by
 refine Y4h (pr := 1) (rd := []) hi hb (fun _ => rfl) (.inr ⟨?_, rfl, rfl⟩) (by rw [Y3k]; exact h)
 rw [X3t rfl ht hN hv]
 cases want <;> rfl
theorem t_u {d : Nat} (i : Nat) (hi : ops[i]? = some ⟨some d, op, ty, pos, aft, some (j, want)⟩) (hb : X2n (QuietY.q Y) 1 ops.toArray L i = true) (ht : Z9c ops j = some t) (hN : Nat.blt t N = true) (hv : lkp asg t = some .ud)
  (h : aAny Y ops fuel (L.setIfInBounds i true) (St N ((d, .ud) :: asg) oa nx) K) : aAny Y ops (fuel + 1) L (St N asg oa nx) K := by
 refine Y4h (pr := 1) (rd := []) hi hb (fun _ => rfl) (.inr ⟨?_, rfl, rfl⟩) (by rw [Y3k]; exact h)
 simp only [Z4s, ht, Z7p hN hv]
def W0h (ops : Array Oper) (L : Array Bool) (i : Nat) : Bool := (Region.ready .any ops L) == [i]
omit [PlainY Y] [QuietY Y] in
theorem o_ (i : Nat) (hi : ops[i]? = some ⟨dst, op, ty, pos, aft, none⟩) (hb : W0h ops.toArray L i = true)
  (h : aopK Y 0 ⟨dst, op, ty, pos, aft, none⟩ (St N asg oa nx) (fun s' => aAny Y ops fuel (L.setIfInBounds i true) s' K)) : aAny Y ops (fuel + 1) L (St N asg oa nx) K := by
 have hr : Region.ready .any ops.toArray L = [i] := by simpa [W0h] using hb
 refine ⟨fun h0 => (by rw [h0] at hr; cases hr), fun k hk o ho => ?_⟩
 rw [hr, List.mem_singleton] at hk
 subst hk
 rw [hi] at ho
 cases ho
 obtain ⟨e, _, h1, h2⟩ := h
 exact ⟨e, h1, fun hh => h2 fun _ => hh⟩
omit [PlainY Y] in
theorem o_g (i : Nat) (hi : ops[i]? = some ⟨dst, op, ty, pos, aft, some (j, want)⟩) (hb : W0h ops.toArray L i = true) (ht : Z9c ops j = some t) (hN : Nat.blt t N = true) (hv : lkp asg t = some (.u (.one (.bool want))))
  (h : aopK Y 0 ⟨dst, op, ty, pos, aft, none⟩ (St N asg oa nx) (fun s' => aAny Y ops fuel (L.setIfInBounds i true) s' K)) : aAny Y ops (fuel + 1) L (St N asg oa nx) K := by
 have hr : Region.ready .any ops.toArray L = [i] := by simpa [W0h] using hb
 refine ⟨fun h0 => (by rw [h0] at hr; cases hr), fun k hk o ho => ?_⟩
 rw [hr, List.mem_singleton] at hk
 subst hk
 rw [hi] at ho
 cases ho
 obtain ⟨e, _, h1, h2⟩ := h
 unfold d1
 rw [X3t rfl ht hN hv]
 simp only [beq_self_eq_true]
 exact ⟨e, QuietY.bare h1, fun hh => h2 fun _ => hh⟩
omit [PlainY Y] [QuietY Y] in
theorem a_nil (hb : (Region.ready .any ops.toArray L).isEmpty = true) {s : S Unit} (h : K s) : aAny Y ops 0 L s K := ⟨by simpa using hb, h⟩
end
end
end
section
section ren
variable {δ : Type}
mutual
def renL (g : Nat → Nat) : L δ → L δ
 | .ref v id off len => .ref v (g id) off len
 | .ptr v id e j => .ptr v (g id) e j
 | .fn v f caps => .fn v f (renC g caps)
 | l => l
def renC (g : Nat → Nat) : List (L δ) → List (L δ)
 | [] => []
 | l :: ls => renL g l :: renC g ls
end
theorem Y9m (g : Nat → Nat) : ∀ ls : List (L δ), renC g ls = ls.map (renL g)
 | [] => rfl
 | l :: ls => by simp [renC, Y9m g ls]
def renU (g : Nat → Nat) : U δ → U δ
 | .one l => .one (renL g l)
 | .agg ls => .agg (ls.map (renL g))
def renV (g : Nat → Nat) : V δ → V δ
 | .u x => .u (renU g x)
 | .tup xs => .tup (xs.map (renU g))
 | .un => .un
 | .ud => .ud
def Y2 (g : Nat → Nat) (o : Ob δ) : Ob δ := ⟨o.h, o.n, o.rows.map (fun r => r.map (renL g))⟩
theorem Y1m (g : Nat → Nat) (u : U δ) : Z1 (renU g u) = (Z1 u).map (renL g) := by cases u <;> simp [Z1, renU]
theorem Z4m (g : Nat → Nat) (v : V δ) : Z3 (renV g v) = (Z3 v).map (renL g) := by
 cases v with
 | u x => exact Y1m g x
 | tup xs => simp [Z3, renV, List.map_flatMap, List.flatMap_map, Y1m]
 | un => rfl
 | ud => rfl
mutual
theorem Y5i (g : Nat → Nat) : ∀ l : L δ, idsL (renL g l) = (idsL l).map g
 | .int _ _ | .bool _ | .str _ | .nl | .nilp | .bs _ _ _ | .os _ _ _ | .ip _ _ => by simp [renL, idsL]
 | .ref _ _ _ _ | .ptr _ _ _ _ => by simp [renL, idsL]
 | .fn _ _ caps => by simp [renL, idsL, X8s g caps]
theorem X8s (g : Nat → Nat) : ∀ ls : List (L δ), idsC (renC g ls) = (idsC ls).map g
 | [] => rfl
 | l :: ls => by simp [renC, idsC, Y5i g l, X8s g ls]
end
end ren
mutual
theorem Y0j (g : Nat → Nat) : ∀ l : L Value, val (renL g l) = val l
 | .int _ _ | .bool _ | .str _ | .nl | .nilp | .bs _ _ _ | .os _ _ _ | .ip _ _ | .ref _ _ _ _ | .ptr _ _ _ _ | .fn _ _ _ => by simp [renL, val]
end
theorem Y9v (g : Nat → Nat) (l : L Value) : ownL (renL g l) = ownL l := by cases l <;> simp [renL, ownL]
mutual
theorem Z7y (g : Nat → Nat) : ∀ l : L Value, immL (renL g l) = immL l
 | .int _ _ | .bool _ | .str _ | .nl | .nilp | .bs _ _ _ | .os _ _ _ | .ip _ _ | .ref _ _ _ _ | .ptr _ _ _ _ => by simp [renL, immL]
 | .fn _ _ caps => by simp [renL, immL, X8r g caps]
theorem X8r (g : Nat → Nat) : ∀ ls : List (L Value), immC (renC g ls) = immC ls
 | [] => rfl
 | l :: ls => by simp [renC, immC, Z7y g l, X8r g ls]
end
mutual
theorem Y2i (g : Nat → Nat) (ns : Bool) : ∀ l : L Value, wfL ns (renL g l) ↔ wfL ns l
 | .int _ _ | .bool _ | .str _ | .nl | .nilp | .bs _ _ _ | .os _ _ _ | .ip _ _ | .ref _ _ _ _ | .ptr _ _ _ _ => by simp [renL, wfL]
 | .fn v f caps => by
  have : (renC g caps).map val = caps.map val := by rw [Y9m, List.map_map]; exact List.map_congr_left fun l _ => Y0j g l
  simp [renL, wfL, this, W1d g false caps]
theorem W1d (g : Nat → Nat) (ns : Bool) : ∀ ls : List (L Value), wfC ns (renC g ls) ↔ wfC ns ls
 | [] => by simp [renC]
 | l :: ls => by simp [renC, wfC, Y2i g ns l, W1d g ns ls]
end
mutual
theorem er_ren (g : Nat → Nat) : ∀ (l' : L Unit) (l : L Value), erL l = renL g l' → ∃ l2 : L Value, erL l2 = l' ∧ renL g l2 = l
 | .int k n, l, h => ⟨l, h, by cases l <;> simp_all [mapL, renL]⟩
 | .bool b, l, h => ⟨l, h, by cases l <;> simp_all [mapL, renL]⟩
 | .str s, l, h => ⟨l, h, by cases l <;> simp_all [mapL, renL]⟩
 | .nl, l, h => ⟨l, h, by cases l <;> simp_all [mapL, renL]⟩
 | .nilp, l, h => ⟨l, h, by cases l <;> simp_all [mapL, renL]⟩
 | .bs v n rows, l, h => ⟨l, h, by cases l <;> simp_all [mapL, renL]⟩
 | .os v n rows, l, h => ⟨l, h, by cases l <;> simp_all [mapL, renL]⟩
 | .ip v cs, l, h => ⟨l, h, by cases l <;> simp_all [mapL, renL]⟩
 | .ref v id off len, l, h => by
  cases l <;> simp [mapL, renL] at h
  rename_i v' id' off' len'
  obtain ⟨rfl, rfl, rfl⟩ := h
  exact ⟨.ref v' id off' len', by simp [mapL], by simp [renL]⟩
 | .ptr v id e j, l, h => by
  cases l <;> simp [mapL, renL] at h
  rename_i v' id' off' len'
  obtain ⟨rfl, rfl, rfl⟩ := h
  exact ⟨.ptr v' id off' len', by simp [mapL], by simp [renL]⟩
 | .fn v f caps, l, h => by
  cases l <;> simp [mapL, renL] at h
  rename_i v' f' caps'
  obtain ⟨rfl, h⟩ := h
  obtain ⟨c2, h1, h2⟩ := X7i g caps caps' h
  exact ⟨.fn v' f' c2, by simp [mapL, h1], by simp [renL, h2]⟩
theorem X7i (g : Nat → Nat) : ∀ (ls' : List (L Unit)) (ls : List (L Value)), mapC (fun _ => ()) ls = renC g ls' → ∃ l2 : List (L Value), mapC (fun _ => ()) l2 = ls' ∧ renC g l2 = ls
 | [], ls, h => by
  cases ls with
  | nil => exact ⟨[], rfl, rfl⟩
  | cons l ls => simp [mapC, renC] at h
 | l' :: ls', ls, h => by
  cases ls with
  | nil => simp [mapC, renC] at h
  | cons l ls =>
   simp only [mapC, renC, List.cons.injEq] at h
   obtain ⟨l2, h1, h2⟩ := er_ren g l' l h.1
   obtain ⟨ls2, h3, h4⟩ := X7i g ls' ls h.2
   exact ⟨l2 :: ls2, by simp [mapC, h1, h3], by simp [renC, h2, h4]⟩
end
theorem Y5q (g : Nat → Nat) {ls' : List (L Unit)} {ls : List (L Value)} (h : ls.map erL = ls'.map (renL g)) : ∃ l2 : List (L Value), l2.map erL = ls' ∧ l2.map (renL g) = ls := by
 have := X7i g ls' ls (by rw [Z7f, Y9m]; exact h)
 simpa [Z7f, Y9m] using this
theorem X3x (g : Nat → Nat) {u' : U Unit} {u : U Value} (h : erU u = renU g u') : ∃ u2 : U Value, erU u2 = u' ∧ renU g u2 = u := by
 cases u' with
 | one l' => cases u with
  | one l =>
   simp only [mapU, renU, U.one.injEq] at h
   obtain ⟨l2, h1, h2⟩ := er_ren g l' l h
   exact ⟨.one l2, by simp [mapU, h1], by simp [renU, h2]⟩
  | agg ls => cases h
 | agg ls' => cases u with
  | one l => cases h
  | agg ls =>
   simp only [mapU, renU, U.agg.injEq] at h
   obtain ⟨l2, h1, h2⟩ := Y5q g h
   exact ⟨.agg l2, by simp [mapU, h1], by simp [renU, h2]⟩
theorem X9i (g : Nat → Nat) : ∀ {us' : List (U Unit)} {us : List (U Value)}, us.map erU = us'.map (renU g) → ∃ u2 : List (U Value), u2.map erU = us' ∧ u2.map (renU g) = us
 | [], us, h => ⟨[], rfl, by simpa using h.symm⟩
 | u' :: us', us, h => by
  cases us with
  | nil => simp at h
  | cons u us =>
   simp only [List.map_cons, List.cons.injEq] at h
   obtain ⟨u2, h1, h2⟩ := X3x g h.1
   obtain ⟨us2, h3, h4⟩ := X9i g h.2
   exact ⟨u2 :: us2, by simp [h1, h3], by simp [h2, h4]⟩
theorem erV_ren (g : Nat → Nat) {v' : V Unit} {v : V Value} (h : erV v = renV g v') : ∃ v2 : V Value, erV v2 = v' ∧ renV g v2 = v := by
 cases v' with
 | u x' => cases v with
  | u x =>
   simp only [mapV, renV, V.u.injEq] at h
   obtain ⟨l2, h1, h2⟩ := X3x g h
   exact ⟨.u l2, by simp [mapV, h1], by simp [renV, h2]⟩
  | _ => cases h
 | tup xs' => cases v with
  | tup xs =>
   simp only [mapV, renV, V.tup.injEq] at h
   obtain ⟨l2, h1, h2⟩ := X9i g h
   exact ⟨.tup l2, by simp [mapV, h1], by simp [renV, h2]⟩
  | _ => cases h
 | un => cases v with
  | un => exact ⟨.un, rfl, rfl⟩
  | _ => cases h
 | ud => cases v with
  | ud => exact ⟨.ud, rfl, rfl⟩
  | _ => cases h
theorem Y6y (g : Nat → Nat) : ∀ {rs' : List (List (L Unit))} {rs : List (List (L Value))}, rs.map (fun r => r.map erL) = rs'.map (fun r => r.map (renL g)) → ∃ r2 : List (List (L Value)), r2.map (fun r => r.map erL) = rs' ∧ r2.map (fun r => r.map (renL g)) = rs
 | [], rs, h => ⟨[], rfl, by simpa using h.symm⟩
 | r' :: rs', rs, h => by
  cases rs with
  | nil => simp at h
  | cons r rs =>
   simp only [List.map_cons, List.cons.injEq] at h
   obtain ⟨r2, h1, h2⟩ := Y5q g h.1
   obtain ⟨rs2, h3, h4⟩ := Y6y g h.2
   exact ⟨r2 :: rs2, by simp [h1, h3], by simp [h2, h4]⟩
theorem VR_ren (g : Nat → Nat) {v : V Value} {x : Value} (h : VR (renV g v) x) : VR v x := by
 have hu : ∀ {u : U Value} {x : Value}, UR (renU g u) x → UR u x := fun {u x} h => by
  cases u with
  | one l => simp only [renU, UR, Y0j] at h ⊢; exact h
  | agg ls =>
   simp only [renU, UR, List.map_map] at h ⊢
   rw [h]
   congr 2
   exact List.map_congr_left fun l _ => Y0j g l
 cases v with
 | u y => exact hu h
 | tup xs =>
  obtain ⟨vs, h1, h2, h3⟩ := h
  refine ⟨vs, h1, by simpa using h2, fun i y z hy hz => hu (h3 i (renU g y) z (by rw [List.getElem?_map, hy]; rfl) hz)⟩
 | un => trivial
 | ud => exact h
theorem Y4r {α : Type} : ∀ {l' l : List α}, l'.Nodup → (∀ x ∈ l', x ∈ l) → ∃ rest, l.Perm (l' ++ rest)
 | [], l, _, _ => ⟨l, .refl _⟩
 | x :: l', l, hn, h => by
  rw [List.nodup_cons] at hn
  obtain ⟨l1, l2, rfl⟩ := List.append_of_mem (h x (by simp))
  obtain ⟨rest, hr⟩ := Y4r (l' := l') (l := l1 ++ l2) hn.2 fun y hy => by
   have := h y (by simp [hy])
   simp only [List.mem_append, List.mem_cons] at this ⊢
   rcases this with h1 | rfl | h1
   ·exact .inl h1
   ·exact absurd hy hn.1
   ·exact .inr h1
  exact ⟨rest, List.perm_middle.trans (hr.cons x)⟩
theorem X4u {g : Nat → Nat} {f : L Value → List OwnE} (hf : ∀ l, f (renL g l) = f l) : ∀ {sl' sl : List (V Value)}, sl'.length = sl.length → (∀ (t : Nat) v, sl'[t]? = some v → v = .un ∨ sl[t]? = some (renV g v)) →
  (sl'.flatMap (fun v => (Z3 v).flatMap f)).Sublist (sl.flatMap (fun v => (Z3 v).flatMap f))
 | [], sl, _, _ => List.nil_sublist _
 | v :: sl', [], h, _ => by simp at h
 | v :: sl', w :: sl, h, hs => by
  simp only [List.flatMap_cons]
  refine List.Sublist.append ?_ (X4u hf (by simpa using h) fun t v hv => by simpa using hs (t + 1) v (by simpa using hv))
  rcases hs 0 v rfl with rfl | h0
  ·exact List.nil_sublist _
  ·simp only [List.getElem?_cons_zero, Option.some.injEq] at h0
   rw [h0, Z4m, List.flatMap_map]
   simp only [hf]
   exact List.Sublist.refl _
mutual
theorem Z7c {g : Nat → Nat} {ob ob' : List (Nat × Ob Value)} (hl : ∀ i o, look ob' i = some o → look ob (g i) = some (Y2 g o)) : ∀ l : L Value, W7 ob (renL g l) → W7 ob' l
 | .int _ _, _ | .bool _, _ | .str _, _ | .nl, _ | .nilp, _ | .bs _ _ _, _ | .os _ _ _, _ | .ip _ _, _ => by simp [W7]
 | .ref v id off len, h => fun o ho => by
  have := h _ (hl id o ho)
  simpa [Y2] using this
 | .ptr v id e j, h => fun o ho => by
  have := h _ (hl id o ho)
  simpa [Y2] using this
 | .fn v f caps, h => by
  simp only [renL, W7] at h ⊢
  exact X1r hl caps h
theorem X1r {g : Nat → Nat} {ob ob' : List (Nat × Ob Value)} (hl : ∀ i o, look ob' i = some o → look ob (g i) = some (Y2 g o)) : ∀ ls : List (L Value), Z3j ob (renC g ls) → Z3j ob' ls
 | [], _ => by simp [Z3j]
 | l :: ls, h => by
  simp only [renC, Z3j] at h ⊢
  exact ⟨Z7c hl l h.1, X1r hl ls h.2⟩
end
theorem GhB.view {B : Bd} {s s' : S Unit} (g : Nat → Nat) (hlen : s'.sl.length = s.sl.length) (hsl : ∀ (t : Nat) v', s'.sl[t]? = some v' → v' = .un ∨ s.sl[t]? = some (renV g v'))
  (hob : ∀ p ∈ s'.ob, look s.ob (g p.1) = some (Y2 g p.2)) (hids : (s'.ob.map (·.1)).Nodup) (hinj : ∀ i j, i < s'.nx → j < s'.nx → g i = g j → i = j) (hkn : ∀ i, Z3h s' i → i < s'.nx)
  (hn : B.n0 ≤ s'.nx) (hg : ∀ i, i < B.n0 → g i = i) : GhB B s s' := by
 rintro a W ⟨d, rfl, hi, hs, hdef, hk, hn0⟩
 have exSl : ∀ {sl' : List (V Unit)} {sl : List (V Value)}, sl'.length = (sl.map erV).length → (∀ (t : Nat) v', sl'[t]? = some v' → v' = .un ∨ (sl.map erV)[t]? = some (renV g v')) →
   ∃ sl2 : List (V Value), sl2.map erV = sl' ∧ sl2.length = sl.length ∧ ∀ (t : Nat) v, sl2[t]? = some v → v = .un ∨ sl[t]? = some (renV g v) := by
  intro sl'
  induction sl' with
  | nil =>
   intro sl h _
   cases sl with
   | nil => exact ⟨[], rfl, rfl, by simp⟩
   | cons v sl => simp at h
  | cons v' sl' ih =>
   intro sl h hs
   cases sl with
   | nil => simp at h
   | cons v sl =>
    obtain ⟨sl2, h1, h2, h3⟩ := ih (sl := sl) (by simpa using h) (fun t w hw => by simpa using hs (t + 1) w (by simpa using hw))
    rcases hs 0 v' rfl with rfl | h0
    ·refine ⟨.un :: sl2, by simp [h1, erV, mapV], by simp [h2], fun t w hw => ?_⟩
     cases t with
     | zero => simp at hw; exact .inl hw.symm
     | succ t => simpa using h3 t w (by simpa using hw)
    ·simp only [List.map_cons, List.getElem?_cons_zero, Option.some.injEq] at h0
     obtain ⟨v2, e1, e2⟩ := erV_ren g h0
     refine ⟨v2 :: sl2, by simp [h1, e1], by simp [h2], fun t w hw => ?_⟩
     cases t with
     | zero => simp at hw; subst hw; right; simp [e2]
     | succ t => simpa using h3 t w (by simpa using hw)
 have exOb : ∀ {ob' : List (Nat × Ob Unit)}, (∀ p ∈ ob', look (erS d).ob (g p.1) = some (Y2 g p.2)) → ∃ ob2 : List (Nat × Ob Value), ob2.map (fun p => (p.1, erOb p.2)) = ob' ∧ ∀ p ∈ ob2, (g p.1, Y2 g p.2) ∈ d.ob := by
  intro ob'
  induction ob' with
  | nil => intro _; exact ⟨[], rfl, by simp⟩
  | cons p ob' ih =>
   intro h
   obtain ⟨ob2, h1, h2⟩ := ih fun q hq => h q (by simp [hq])
   obtain ⟨o, ho, he⟩ := U7 (h p (by simp))
   obtain ⟨i, ⟨oh, on, orr⟩⟩ := p
   have he' : o.n = on ∧ o.rows.map (fun r => r.map erL) = orr.map (fun r => r.map (renL g)) := by
    simp only [erOb, Z3e, Y2, Ob.mk.injEq] at he
    exact ⟨he.2.1, he.2.2⟩
   obtain ⟨r2, e1, e2⟩ := Y6y g he'.2
   refine ⟨(i, ⟨o.h, o.n, r2⟩) :: ob2, ?_, fun q hq => ?_⟩
   ·rw [List.map_cons, h1]
    simp only [erOb, Z3e, e1, he'.1]
   ·rcases List.mem_cons.1 hq with rfl | hq
    ·simp only [Y2, e2]
     exact find?_key ho
    ·exact h2 q hq
 obtain ⟨sl2, a1, a2, a3⟩ := exSl (sl' := s'.sl) (sl := d.sl) hlen hsl
 obtain ⟨ob2, b1, b2⟩ := exOb hob
 let d' : S Value := ⟨sl2, ob2, s'.nx⟩
 have he : erS d' = s' := by
  have : erS d' = ⟨sl2.map erV, ob2.map (fun p => (p.1, erOb p.2)), s'.nx⟩ := rfl
  rw [this, a1, b1]
 have hkn' : ∀ i, Z3h d' i → i < s'.nx := fun i hi => hkn i (by
  rcases hi with ⟨l, hl, hi⟩ | hi
  ·refine .inl ⟨erL l, ?_, by rw [Z9u]; exact hi⟩
   rw [← he]
   rcases mem_tops.1 hl with ⟨v, hv, hl2⟩ | hl2
   ·refine mem_tops.2 (.inl ⟨erV v, List.mem_map.2 ⟨v, hv, rfl⟩, ?_⟩)
    rw [Z9r]; exact List.mem_map.2 ⟨l, hl2, rfl⟩
   ·obtain ⟨p, hp, r, hr, hlr⟩ := mem_obLeaves.1 hl2
    refine mem_tops.2 (.inr (mem_obLeaves.2 ⟨(p.1, erOb p.2), List.mem_map.2 ⟨p, hp, rfl⟩, r.map erL, ?_, List.mem_map.2 ⟨l, hlr, rfl⟩⟩))
    exact List.mem_map.2 ⟨r, hr, rfl⟩
  ·refine .inr ?_
   rw [← he]
   obtain ⟨p, hp, rfl⟩ := List.mem_map.1 hi
   exact List.mem_map.2 ⟨(p.1, erOb p.2), List.mem_map.2 ⟨p, hp, rfl⟩, rfl⟩)
 have hids2 : (ob2.map (·.1)).Nodup := by
  have : ob2.map (·.1) = s'.ob.map (·.1) := by rw [← b1, List.map_map]; rfl
  rw [this]; exact hids
 have htop : ∀ l ∈ tops d', renL g l ∈ tops d := fun l hl => by
  rcases mem_tops.1 hl with ⟨v, hv, hl2⟩ | hl2
  ·obtain ⟨t, ht⟩ := List.mem_iff_getElem?.1 hv
   rcases a3 t v ht with rfl | h
   ·simp [Z3] at hl2
   ·exact mem_tops.2 (.inl ⟨_, List.mem_of_getElem? h, by rw [Z4m]; exact List.mem_map.2 ⟨l, hl2, rfl⟩⟩)
  ·obtain ⟨p, hp, r, hr, hlr⟩ := mem_obLeaves.1 hl2
   exact mem_tops.2 (.inr (mem_obLeaves.2 ⟨_, b2 p hp, r.map (renL g), List.mem_map.2 ⟨r, hr, rfl⟩, List.mem_map.2 ⟨l, hlr, rfl⟩⟩))
 have hlook : ∀ i o, look ob2 i = some o → look d.ob (g i) = some (Y2 g o) := fun i o ho => J2 hi.good.ids (b2 _ (find?_key ho))
 have hrows : ∀ o : Ob Value, (Y2 g o).rows.length = o.rows.length := fun o => by simp [Y2]
 have refL : ∀ l : L Value, W7 d.ob (renL g l) → W7 ob2 l := Z7c hlook
 obtain ⟨rest, hperm⟩ := Y4r (l' := ob2.map (fun p => (g p.1, Y2 g p.2))) (l := d.ob) (by
  have hnd : (ob2.map (fun p => g p.1)).Nodup := by
   rw [List.nodup_iff_pairwise_ne, List.pairwise_map]
   have h1 : ob2.Pairwise (fun p q => p.1 ≠ q.1) := by
    have := List.nodup_iff_pairwise_ne.1 hids2
    rwa [List.pairwise_map] at this
   refine List.Pairwise.imp_of_mem (fun hp hq hne heq => hne (hinj _ _ ?_ ?_ heq)) h1
   ·exact hkn' _ (.inr (List.mem_map.2 ⟨_, hp, rfl⟩))
   ·exact hkn' _ (.inr (List.mem_map.2 ⟨_, hq, rfl⟩))
  rw [List.nodup_iff_pairwise_ne, List.pairwise_map] at hnd ⊢
  exact hnd.imp fun h e => h (congrArg (·.1) e)) (fun x hx => by
  obtain ⟨p, hp, rfl⟩ := List.mem_map.1 hx
  exact b2 p hp)
 have hown : ∃ more, (ownS d).Perm (ownS d' ++ more) := by
  have e1 : (d.ob.flatMap (fun p => Y7 p.2.h p.2.n p.2.rows)).Perm (ob2.flatMap (fun p => Y7 p.2.h p.2.n p.2.rows) ++ rest.flatMap (fun p => Y7 p.2.h p.2.n p.2.rows)) := by
   refine (hperm.flatMap_right _).trans ?_
   rw [List.flatMap_append, List.flatMap_map]
   refine List.Perm.append_right _ (List.Perm.of_eq ?_)
   congr 1
   funext p
   have hv : valR (Y2 g p.2).rows = valR p.2.rows := by
    simp only [valR, Y2, List.map_flatten, List.map_map]
    congr 1
    refine List.map_congr_left fun r _ => ?_
    simp only [Function.comp_apply, List.map_map]
    exact List.map_congr_left fun l _ => Y0j g l
   simp only [Y7, hv]
   rfl
  have e2 : ((X6 d.ob).flatMap ownL).Perm ((X6 ob2).flatMap ownL ++ (X6 rest).flatMap ownL) := by
   have e0 : ∀ ob : List (Nat × Ob Value), (X6 ob).flatMap ownL = ob.flatMap (fun p => p.2.rows.flatten.flatMap ownL) := fun ob => by simp only [X6, List.flatMap_assoc]
   rw [e0, e0, e0]
   refine (hperm.flatMap_right _).trans ?_
   rw [List.flatMap_append, List.flatMap_map]
   refine List.Perm.append_right _ (List.Perm.of_eq ?_)
   congr 1
   funext p
   simp only [Y2, ← List.map_flatten, List.flatMap_map, Y9v]
  obtain ⟨m3, e3⟩ : ∃ m3, ((d.sl.flatMap Z3).flatMap ownL).Perm ((sl2.flatMap Z3).flatMap ownL ++ m3) := by
   rw [List.flatMap_assoc, List.flatMap_assoc]
   have := X4u (g := g) (f := ownL) (Y9v g) (sl' := sl2) (sl := d.sl) a2 a3
   exact this.exists_perm_append
  refine ⟨rest.flatMap (fun p => Y7 p.2.h p.2.n p.2.rows) ++ (m3 ++ (X6 rest).flatMap ownL), ?_⟩
  classical
  refine List.perm_iff_count.2 fun a => ?_
  have c1 := List.perm_iff_count.1 e1 a
  have c2 := List.perm_iff_count.1 e2 a
  have c3 := List.perm_iff_count.1 e3 a
  simp only [ownS, tops, d', List.flatMap_append, List.count_append] at c1 c2 c3 ⊢
  omega
 obtain ⟨more, hown⟩ := hown
 have hmem : ∀ p ∈ ownS d', p ∈ ownS d := fun p hp => hown.mem_iff.2 (List.mem_append_left _ hp)
 refine ⟨d', he, ?_, ⟨by rw [hs.1]; exact a2.symm, fun i v hv => ?_⟩, hdef, hkn', hn⟩
 ·refine hi.step (Nat.le_refl _) (Same.refl _) (fun _ _ _ => rfl) (fun l hl => ?_) (fun p hp => ?_) hids2 (fun p hp => ⟨hi.good.own p (hmem p hp), .inl ⟨p, hmem p hp, rfl⟩⟩) ?_ (fun p hp => ?_) (fun p hp hlt => ?_)
  ·have := hi.good.wf _ (htop l hl)
   exact ⟨(Y2i g false l).1 this.1, refL l this.2⟩
  ·have := hi.good.obs _ (b2 p hp)
   simp only [Y2, List.length_map, List.mem_map, List.map_eq_nil_iff] at this
   refine ⟨this.1, fun r hr => ?_⟩
   have h2 := this.2 _ ⟨r, hr, rfl⟩
   simpa using h2
  ·have := (hown.map (·.1)).nodup_iff.1 hi.good.nodup
   rw [List.map_append, List.nodup_append] at this
   exact this.1
  ·obtain ⟨l, hl, hp⟩ := List.mem_flatMap.1 hp
   exact .of_mem (List.mem_flatMap.2 ⟨_, htop l hl, by rw [Z7y]; exact hp⟩)
  ·have := hi.hdr _ (b2 p hp)
   simp only [Y2, hg p.1 hlt] at this
   exact this hlt
 ·rcases a3 i v hv with rfl | h
  ·trivial
  ·exact VR_ren g (hs.2 i _ h)
end
section
def Y6n {σ ρ : Type} (body : σ → Option (σ ⊕ ρ)) : Nat → σ → Option ρ
 | 0, _ => none
 | n + 1, s => match body s with
  | none => none
  | some (.inl s') => Y6n body n s'
  | some (.inr r) => some r
theorem Y6m {σ ρ : Type} {body : σ → Option (σ ⊕ ρ)} : ∀ {n m : Nat} {s : σ} {r : ρ}, n ≤ m → Y6n body n s = some r → Y6n body m s = some r
 | 0, _, _, _, _, h => by cases h
 | n + 1, 0, _, _, hle, _ => by omega
 | n + 1, m + 1, s, r, hle, h => by
  simp only [Y6n] at h ⊢
  split at h
  ·cases h
  ·exact Y6m (by omega) h
  ·exact h
open Classical in
noncomputable def Y6 {σ ρ : Type} (body : σ → Option (σ ⊕ ρ)) (s : σ) : Option ρ := if h : ∃ r n, Y6n body n s = some r then some h.choose else none
theorem loopO_iff {σ ρ : Type} {body : σ → Option (σ ⊕ ρ)} {s : σ} {r : ρ} : Y6 body s = some r ↔ ∃ n, Y6n body n s = some r := by
 unfold Y6
 constructor
 ·intro h
  split at h
  ·rename_i hx
   cases h
   exact hx.choose_spec
  ·cases h
 ·rintro ⟨n, h⟩
  have hx : ∃ r n, Y6n body n s = some r := ⟨r, n, h⟩
  rw [dif_pos hx]
  obtain ⟨m, hm⟩ := hx.choose_spec
  have h1 := Y6m (Nat.le_max_left n m) h
  have h2 := Y6m (Nat.le_max_right n m) hm
  rw [h1] at h2
  exact h2.symm
theorem Z1p {σ ρ : Type} (body : σ → Option (σ ⊕ ρ)) (s : σ) : Y6 body s = (body s).bind fun x => match x with | .inl s' => Y6 body s' | .inr r => some r := by
 cases hb : body s with
 | none =>
  cases h : Y6 body s with
  | none => rfl
  | some r =>
   obtain ⟨n, hn⟩ := loopO_iff.1 h
   cases n with
   | zero => cases hn
   | succ n => simp [Y6n, hb] at hn
 | some x =>
  cases x with
  | inr r =>
   exact loopO_iff.2 ⟨1, by simp [Y6n, hb]⟩
  | inl s' =>
   simp only [Option.bind_some]
   cases h : Y6 body s' with
   | some r =>
    obtain ⟨n, hn⟩ := loopO_iff.1 h
    exact loopO_iff.2 ⟨n + 1, by simp [Y6n, hb, hn]⟩
   | none =>
    cases h2 : Y6 body s with
    | none => rfl
    | some r =>
     obtain ⟨n, hn⟩ := loopO_iff.1 h2
     cases n with
     | zero => cases hn
     | succ n =>
      simp only [Y6n, hb] at hn
      rw [loopO_iff.2 ⟨n, hn⟩] at h
      cases h
theorem Z0 {α β : Type} {x : Option α} {f : α → Option β} {r : β} (h : x.bind f = some r) : ∃ a, x = some a ∧ f a = some r := bind_some h
theorem Z9 {c : Prop} [Decidable c] {β : Type} {x : Option β} {r : β} (h : (if c then x else none) = some r) : c ∧ x = some r := by
 by_cases hc : c
 ·rw [if_pos hc] at h; exact ⟨hc, h⟩
 ·rw [if_neg hc] at h; cases h
section
variable {P : Program} {B : Bd}
theorem Wp.ghb {c : Code} {Q : Exit → S Unit → Prop} {s : S Unit} (s' : S Unit) (hg : GhB B s s') (h : Wp (P := P) B c Q s') : Wp (P := P) B c Q s := fun a W hr => h a W (hg a W hr)
def jn (B : Bd) (sJ : S Unit) (Q : Exit → S Unit → Prop) : Exit → S Unit → Prop
 | .normal, s => GhB B s sJ
 | e, s => Q e s
theorem V7 {c : Code} {Q : Exit → S Unit → Prop} {s : S Unit} (sJ : S Unit) (h1 : Wp (P := P) B c (jn B sJ Q) s) (h2 : Q .normal sJ) : Wp (P := P) B c Q s := fun a W hr =>
 wp_mono (h1 a W hr) fun e a' W' ⟨s', hr', hq⟩ => by
  cases e with
  | normal => exact ⟨sJ, hq a' W' hr', h2⟩
  | _ => exact ⟨s', hr', hq⟩
theorem J7 {c : Code} {Q : Exit → S Unit → Prop} {s : S Unit} {σ ρ : Type} {body : σ → Option (σ ⊕ ρ)} {st0 : σ} {r : ρ} (hl : Y6 body st0 = some r) (S' : σ → S Unit) (R : ρ → Exit × S Unit) (h0 : GhB B s (S' st0))
  (round : ∀ st x, body st = some x → Wp (P := P) B c (fun e s' => match x with | .inl st' => e = .normal ∧ GhB B s' (S' st') | .inr r' => e = (R r').1 ∧ GhB B s' (R r').2) (S' st))
  (hx : ∀ y, (R y).1 ≠ .normal) (hQ : Q (R r).1 (R r).2) : Wp (P := P) B (.loop c) Q s := by
 obtain ⟨n, hn⟩ := loopO_iff.1 hl
 refine Wp.ghb (S' st0) h0 ?_
 clear h0
 have key : ∀ (n : Nat) (st : σ), Y6n body n st = some r → ∀ a W, Rel B (S' st) a W → ∀ b k cs, ∃ e a' w', (∃ s', Rel B s' a' w' ∧ Q e s') ∧ Arrives P (lone (b.at a (.code c :: .inLoop c :: k)) cs W) b k cs e a' w' := by
  intro n
  induction n with
  | zero => intro st h; cases h
  | succ n ih =>
   intro st h a W hr b k cs
   simp only [Y6n] at h
   split at h
   ·cases h
   ·rename_i st' hb
    obtain ⟨e, a₁, w₁, ⟨s₁, hr₁, he, hg⟩, harr⟩ := round st _ hb a W hr b (.inLoop c :: k) cs
    subst he
    obtain ⟨e₂, a₂, w₂, hq₂, harr₂⟩ := ih st' h a₁ w₁ (hg a₁ w₁ hr₁) b k cs
    exact ⟨e₂, a₂, w₂, hq₂, .of_steps (Steps.trans harr (.one step_inLoop)) harr₂⟩
   ·rename_i r' hb
    cases h
    obtain ⟨e, a₁, w₁, ⟨s₁, hr₁, he, hg⟩, harr⟩ := round st _ hb a W hr b (.inLoop c :: k) cs
    have hq : ∃ s', Rel B s' a₁ w₁ ∧ Q e s' := ⟨_, hg a₁ w₁ hr₁, he ▸ hQ⟩
    have hx := hx r
    rw [← he] at hx
    cases e with
    | normal => exact absurd rfl hx
    | exit id => exact ⟨_, a₁, w₁, hq, .pass (x := .inLoop c) rfl (fun _ _ => .inl (by simp)) harr⟩
    | goto l => exact ⟨_, a₁, w₁, hq, .pass (x := .inLoop c) rfl (fun _ _ => .inl (by simp)) harr⟩
    | ret => exact ⟨_, a₁, w₁, hq, .pass (x := .inLoop c) rfl (fun _ _ => .inl (by simp)) harr⟩
    | panic ch => exact ⟨_, a₁, w₁, hq, .pass (x := .inLoop c) rfl (fun _ _ => .inl (by simp)) harr⟩
    | outgrown => exact ⟨_, a₁, w₁, hq, .pass (x := .inLoop c) rfl (fun _ _ => .inl (by simp)) harr⟩
 intro a W hr b k cs
 obtain ⟨e, a', w', hq, harr⟩ := key n st0 hn a W hr b k cs
 exact ⟨e, a', w', hq, .of_steps (.one step_loop) harr⟩
class EncO {α : Type} (enc : α → List (L Unit)) : Prop where
 h : ∀ x, (enc x).all Z7e = true
class EncB {α : Type} (enc : α → List (L Unit)) : Prop where
 h : ∀ x, (enc x).all Z0k = true
theorem Y6c {δ : Type} {l : L δ} (h : Z0k l = true) : Z7e l = true := by cases l <;> simp_all [Z0k, Z7e]
instance {α : Type} (enc : α → List (L Unit)) [EncB enc] : EncO enc := ⟨fun x => by
 have := EncB.h (enc := enc) x
 rw [List.all_eq_true] at this ⊢
 exact fun l hl => Y6c (this l hl)⟩
theorem X2h {α : Type} (enc : α → List (L Unit)) [EncB enc] : encN enc := fun x => by
 have := EncB.h (enc := enc) x
 rw [List.all_eq_true] at this ⊢
 exact fun l hl => Y0u (this l hl)
theorem X3i {δ : Type} {l : L δ} (h : Z7e l = true) : idsL l = [] := by cases l <;> simp_all [Z0k, Z7e, idsL]
theorem W5t {δ : Type} (g : Nat → Nat) {l : L δ} (h : Z7e l = true) : renL g l = l := by cases l <;> simp_all [Z0k, Z7e, renL]
theorem X4y {α : Type} {enc : α → List (L Unit)} [EncO enc] (g : Nat → Nat) (m : Nat) (xs : List α) : Y2 g ⟨(), m, xs.map enc⟩ = ⟨(), m, xs.map enc⟩ := by
 simp only [Y2, List.map_map]
 congr 1
 refine List.map_congr_left fun x _ => ?_
 have := EncO.h (enc := enc) x
 rw [List.all_eq_true] at this
 simp only [Function.comp_apply]
 conv => rhs; rw [← List.map_id (enc x)]
 exact List.map_congr_left fun l hl => W5t g (this l hl)
def gOf (l : List Nat) (i : Nat) : Nat := l.getD i 0
inductive SubA (l : List Nat) (asg : Asg) : Asg → Prop
 | nil : SubA l asg []
 | cons {t : Nat} {v : V Unit} {r : Asg} (h : lkp asg t = some (renV (gOf l) v)) (hk : X5s l.length v = true) (hr : SubA l asg r) : SubA l asg ((t, v) :: r)
inductive SubO (l : List Nat) (oa : OAsg) (nx : Nat) : OAsg → Prop
 | nil : SubO l oa nx []
 | lit {i : Nat} {o : Ob Unit} {r : OAsg} (h : lko oa nx (gOf l i) = some (Y2 (gOf l) o)) (hk : Z0p l.length o.rows = true) (hr : SubO l oa nx r) : SubO l oa nx ((i, some o) :: r)
 | map {α : Type} {enc : α → List (L Unit)} [EncO enc] {i m : Nat} {xs : List α} {r : OAsg} (h : lko oa nx (gOf l i) = some ⟨(), m, xs.map enc⟩) (hr : SubO l oa nx r) : SubO l oa nx ((i, some ⟨(), m, xs.map enc⟩) :: r)
 | setr {α : Type} {enc : α → List (L Unit)} [EncO enc] {i m k : Nat} {xs : List α} {c0 c : List (L Unit)} {r : OAsg} (h : lko oa nx (gOf l i) = some ⟨(), m, (xs.map enc).set k c0⟩) (hc : c.map (renL (gOf l)) = c0) (hk : c.all (fun l' => (idsL l').all fun i => Nat.blt i l.length) = true) (hr : SubO l oa nx r) : SubO l oa nx ((i, some ⟨(), m, (xs.map enc).set k c⟩) :: r)
theorem SubA.get {l : List Nat} {asg asg' : Asg} (h : SubA l asg asg') {t : Nat} {v : V Unit} (hv : lkp asg' t = some v) : lkp asg t = some (renV (gOf l) v) ∧ X5s l.length v = true := by
 induction h with
 | nil => cases hv
 | @cons t' v' r h hk hr ih =>
  by_cases ht : t' = t
  ·subst ht
   rw [Z5a] at hv
   cases hv
   exact ⟨h, hk⟩
  ·rw [Z7w _ _ ht] at hv
   exact ih hv
theorem SubO.get {l : List Nat} {oa oa' : OAsg} {nx : Nat} (h : SubO l oa nx oa') {i : Nat} {o : Ob Unit} (hv : obAt oa' i = some o) : lko oa nx (gOf l i) = some (Y2 (gOf l) o) ∧ Z0p l.length o.rows = true := by
 induction h with
 | nil => cases hv
 | @lit i' o' r h hk hr ih =>
  by_cases ht : i' = i
  ·subst ht
   rw [Z9n] at hv
   cases hv
   exact ⟨h, hk⟩
  ·rw [Y0n _ _ ht] at hv
   exact ih hv
 | @map α enc _ i' m xs r h hr ih =>
  by_cases ht : i' = i
  ·subst ht
   rw [Z9n] at hv
   cases hv
   refine ⟨by rw [X4y]; exact h, ?_⟩
   simp only [Z0p, List.all_map, List.all_eq_true]
   intro x _
   have := EncO.h (enc := enc) x
   rw [List.all_eq_true] at this
   simp only [Function.comp_apply, List.all_eq_true]
   intro c hc i hi
   rw [X3i (this c hc)] at hi
   cases hi
  ·rw [Y0n _ _ ht] at hv
   exact ih hv
 | @setr α enc _ i' m k xs c0 c r h hc hk hr ih =>
  by_cases ht : i' = i
  ·subst ht
   rw [Z9n] at hv
   cases hv
   have e1 : (xs.map enc).map (fun r => r.map (renL (gOf l))) = xs.map enc := by
    have := X4y (enc := enc) (gOf l) m xs
    simpa [Y2] using this
   refine ⟨?_, ?_⟩
   ·simp only [Y2, List.map_set, e1, hc]
    exact h
   ·simp only [Z0p, List.all_eq_true]
    intro r1 hr1 c1 hc1
    rcases List.mem_or_eq_of_mem_set hr1 with h1 | rfl
    ·obtain ⟨x, _, rfl⟩ := List.mem_map.1 h1
     have := EncO.h (enc := enc) x
     rw [List.all_eq_true] at this
     intro i hi
     rw [X3i (this c1 hc1)] at hi
     cases hi
    ·rw [List.all_eq_true] at hk
     have := hk c1 hc1
     rwa [List.all_eq_true] at this
  ·rw [Y0n _ _ ht] at hv
   exact ih hv
theorem Y4x {oa : OAsg} {nx : Nat} {p : Nat × Ob Unit} (h : p ∈ obOf oa nx) : p.1 < nx ∧ obAt oa p.1 = some p.2 := by
 unfold obOf at h
 rw [List.mem_filterMap] at h
 obtain ⟨i, hi, h⟩ := h
 rw [Option.map_eq_some_iff] at h
 obtain ⟨o, ho, rfl⟩ := h
 exact ⟨by simpa using hi, ho⟩
theorem Y9w (oa : OAsg) (nx : Nat) : ((obOf oa nx).map (·.1)).Nodup := by
 have : (obOf oa nx).map (·.1) = (List.range nx).filter (fun i => (obAt oa i).isSome) := by
  unfold obOf
  rw [List.map_filterMap]
  rw [← List.filterMap_eq_filter]
  refine Z6g fun i _ => ?_
  cases h : obAt oa i <;> simp [Option.guard, h]
 rw [this]
 exact List.nodup_range.sublist List.filter_sublist
theorem w_ (l : List Nat) {N nx : Nat} {asg asg' : Asg} {oa oa' : OAsg} (hA : SubA l asg asg') (hO : SubO l oa nx oa') (hn : l.Nodup) (hB : ∀ i, i < B.n0 → l[i]? = some i) : GhB B (St N asg oa nx) (St N asg' oa' l.length) := by
 have hgo : ∀ i, i < l.length → l[i]? = some (gOf l i) := fun i hi => by simp [gOf, hi]
 refine GhB.view (gOf l) (by simp [St, Z1k]) (fun t v' hv => ?_) (fun p hp => ?_) (Y9w _ _) (fun i j hi hj e => ?_) (fun i hi => ?_) ?_ (fun i hi => ?_)
 ·have ht : t < N := by
   have := (List.getElem?_eq_some_iff.1 hv).1
   simpa [St, Z1k] using this
  have e : (St N asg' oa' l.length).sl[t]? = some (Y2p asg' t) := Y2m ht
  rw [e] at hv
  cases hv
  cases h : lkp asg' t with
  | none => left; simp [Y2p, h]
  | some v =>
   right
   have : Y2p asg' t = v := by simp [Y2p, h]
   rw [this]
   exact X2q ht (hA.get h).1
 ·obtain ⟨h1, h2⟩ := Y4x hp
  exact Q0 (N := N) (asg := asg) (hO.get h2).1
 ·have h1 := hgo i hi
  have h2 := hgo j hj
  rw [← e] at h2
  exact (List.getElem?_inj hi hn).1 (h1.trans h2.symm)
 ·show i < l.length
  rcases hi with ⟨c, hc, hi⟩ | hi
  ·rcases mem_tops.1 hc with ⟨v, hv, hc⟩ | hc
   ·simp only [St, Z1k, List.mem_map, List.mem_range] at hv
    obtain ⟨t, ht, rfl⟩ := hv
    cases h : lkp asg' t with
    | none => simp [Y2p, h, Z3] at hc
    | some v =>
     have e : Y2p asg' t = v := by simp [Y2p, h]
     rw [e] at hc
     have := (hA.get h).2
     simp only [X5s, List.all_eq_true] at this
     exact Z9w (this c hc i hi)
   ·obtain ⟨p, hp, r, hr, hcr⟩ := mem_obLeaves.1 hc
    obtain ⟨h1, h2⟩ := Y4x hp
    have := (hO.get h2).2
    simp only [Z0p, List.all_eq_true] at this
    exact Z9w (this r hr c hcr i hi)
  ·obtain ⟨p, hp, rfl⟩ := List.mem_map.1 hi
   exact (Y4x hp).1
 ·show B.n0 ≤ l.length
  rcases Nat.lt_or_ge l.length B.n0 with h | h
  ·have := hB l.length h
   simp at this
  ·exact h
 ·have := hB i hi
  simp [gOf, this]
theorem hB_0 {l : List Nat} (h : B.n0 = 0) : ∀ i, i < B.n0 → l[i]? = some i := fun i hi => by omega
theorem hB_n {l : List Nat} (n : Nat) (h : B.n0 = n) (hl : (List.range n).all (fun i => l[i]? == some i) = true) : ∀ i, i < B.n0 → l[i]? = some i := fun i hi => by
 rw [List.all_eq_true] at hl
 have := hl i (by rw [List.mem_range]; omega)
 simpa using this
end
end
section
def X4g (k : Nat) : List (U Unit) → Asg
 | [] => []
 | u :: us => (k, .u u) :: X4g (k + 1) us
def oaOf (k : Nat) : List (Ob Unit) → OAsg
 | [] => []
 | o :: os => (k, some o) :: oaOf (k + 1) os
theorem X0y : ∀ (us : List (U Unit)) (k t : Nat), lkp (X4g k us) t = if k ≤ t then (us[t - k]?).map .u else none
 | [], k, t => by simp [X4g, lkp]
 | u :: us, k, t => by
  by_cases h : k = t
  ·subst h; simp [X4g, Z5a]
  ·rw [X4g, Z7w _ _ h, X0y us (k + 1) t]
   by_cases hk : k + 1 ≤ t
   ·rw [if_pos hk, if_pos (by omega)]
    have : t - k = (t - (k + 1)) + 1 := by omega
    rw [this, List.getElem?_cons_succ]
   ·rw [if_neg hk, if_neg (by omega)]
theorem X3h : ∀ (os : List (Ob Unit)) (k t : Nat), obAt (oaOf k os) t = if k ≤ t then os[t - k]? else none
 | [], k, t => by simp [oaOf, obAt, lkp]
 | o :: os, k, t => by
  by_cases h : k = t
  ·subst h; simp [oaOf, Z9n]
  ·rw [oaOf, Y0n _ _ h, X3h os (k + 1) t]
   by_cases hk : k + 1 ≤ t
   ·rw [if_pos hk, if_pos (by omega)]
    have : t - k = (t - (k + 1)) + 1 := by omega
    rw [this, List.getElem?_cons_succ]
   ·rw [if_neg hk, if_neg (by omega)]
mutual
theorem X2w {δ : Type} : ∀ l : L δ, renL (fun i => i) l = l
 | .int _ _ | .bool _ | .str _ | .nl | .nilp | .bs _ _ _ | .os _ _ _ | .ip _ _ | .ref _ _ _ _ | .ptr _ _ _ _ => by simp [renL]
 | .fn v f caps => by simp [renL, W2d caps]
theorem W2d {δ : Type} : ∀ ls : List (L δ), renC (fun i => i) ls = ls
 | [] => rfl
 | l :: ls => by simp [renC, X2w l, W2d ls]
end
theorem W2b {δ : Type} (u : U δ) : renU (fun i => i) u = u := by
  cases u with
  | one l => simp [renU, X2w]
  | agg ls => simp only [renU, U.agg.injEq]; conv => rhs; rw [← List.map_id ls]
              exact List.map_congr_left fun l _ => X2w l
theorem W1z {δ : Type} (v : V δ) : renV (fun i => i) v = v := by
  cases v with
  | u x => simp [renV, W2b]
  | tup xs => simp only [renV, V.tup.injEq]; conv => rhs; rw [← List.map_id xs]
              exact List.map_congr_left fun l _ => W2b l
  | un => rfl
  | ud => rfl
theorem W5m {δ : Type} (o : Ob δ) : Y2 (fun i => i) o = o := by
 obtain ⟨h, n, rows⟩ := o
 simp only [Y2, Ob.mk.injEq, true_and]
 conv => rhs; rw [← List.map_id rows]
 refine List.map_congr_left fun r _ => ?_
 simp only [id]
 conv => rhs; rw [← List.map_id r]
 exact List.map_congr_left fun l _ => X2w l
theorem W0j (obs : List (Ob Unit)) : obOf (oaOf 0 obs) obs.length = K9 obs := by
 unfold obOf K9
 apply List.ext_getElem?
 intro i
 have e : ∀ n, n ≤ obs.length → (List.range n).filterMap (fun i => (obAt (oaOf 0 obs) i).map fun o => (i, o)) = ((obs.take n).zipIdx).map (fun q => (q.2, q.1)) := by
  intro n
  induction n with
  | zero => intro _; rfl
  | succ n ih =>
   intro hn
   rw [List.range_succ, List.filterMap_append, ih (by omega)]
   have hlt : n < obs.length := by omega
   rw [List.take_succ_eq_append_getElem hlt, List.zipIdx_append, List.map_append]
   congr 1
   have : obAt (oaOf 0 obs) n = some obs[n] := by
    rw [X3h]; simp [hlt]
   simp [this, List.length_take, Nat.min_eq_left (show n ≤ obs.length by omega)]
 rw [e _ (Nat.le_refl _), List.take_length]
theorem Y2b {P : Program} {f : FuncId} {fn : Func} {c : Code} (hf : P.funcs[f]? = some fn) (hb : fn.body = some c) {args : List (U Unit)} {obs obs' : List (Ob Unit)} {r : V Unit} {N k0 : Nat} (hN : fn.ntmps = N) (hk0 : obs.length = k0) (hn : Nat.ble args.length N = true)
  {rs : List ResultVar} (hrs : fn.results.toList = rs) (hk : args.all (fun u => (Z1 u).all fun l => (idsL l).all fun i => Nat.blt i obs.length) = true) (hk2 : obs.all (fun o => Z0p obs.length o.rows) = true)
  (hw : ∀ B, B.n0 = k0 → Wp (P := P) B c (RetQ P B rs obs r obs') (St N (X4g 0 args) (oaOf 0 obs) k0)) : Sim P f args obs r obs' := by
 subst hN hk0
 have hn' := Nat.le_of_ble_eq_true hn
 refine W1w hf hb hn' hrs rfl fun B hB => Wp.ghb _ ?_ (hw B hB)
 refine GhB.view (fun i => i) (by simp [St, Z1k]; omega) (fun t v' hv => ?_) (fun p hp => ?_) (Y9w _ _) (fun i j _ _ h => h) (fun i hi => ?_) (by rw [hB]; exact Nat.le_refl _) (fun _ _ => rfl)
 ·have ht : t < fn.ntmps := by
   have := (List.getElem?_eq_some_iff.1 hv).1
   simpa [St, Z1k] using this
  have e : (St fn.ntmps (X4g 0 args) (oaOf 0 obs) obs.length).sl[t]? = some (Y2p (X4g 0 args) t) := Y2m ht
  rw [e] at hv
  cases hv
  rw [W1z]
  simp only [Y2p, X0y, Nat.zero_le, if_true, Nat.sub_zero]
  by_cases h : t < args.length
  ·right
   rw [List.getElem?_append_left (by simpa using h), List.getElem?_map, List.getElem?_eq_getElem h]
   rfl
  ·left
   rw [List.getElem?_eq_none (by omega)]
   rfl
 ·rw [W5m]
  show look (K9 obs) p.1 = some p.2
  rw [← W0j]
  exact J2 (Y9w _ _) hp
 ·show i < obs.length
  rcases hi with ⟨c, hc, hi⟩ | hi
  ·rcases mem_tops.1 hc with ⟨v, hv, hc⟩ | hc
   ·simp only [St, Z1k, List.mem_map, List.mem_range] at hv
    obtain ⟨t, ht, rfl⟩ := hv
    simp only [Y2p, X0y, Nat.zero_le, if_true, Nat.sub_zero] at hc
    by_cases h : t < args.length
    ·rw [List.getElem?_eq_getElem h] at hc
     simp only [Option.map_some, Option.getD_some, Z3] at hc
     simp only [List.all_eq_true] at hk
     exact Z9w (hk _ (List.getElem_mem h) c hc i hi)
    ·rw [List.getElem?_eq_none (by omega)] at hc
     simp [Z3] at hc
   ·obtain ⟨p, hp, r, hr, hcr⟩ := mem_obLeaves.1 hc
    obtain ⟨h1, h2⟩ := Y4x hp
    have h3 : obs[p.1]? = some p.2 := by simpa [X3h] using h2
    simp only [List.all_eq_true, Z0p] at hk2
    exact Z9w (hk2 _ (List.mem_of_getElem? h3) r hr c hcr i hi)
  ·obtain ⟨p, hp, rfl⟩ := List.mem_map.1 hi
   exact (Y4x hp).1
def Rt (us : List (U Unit)) (oa : OAsg) (nx : Nat) : S Unit := ⟨us.map .u, obOf oa nx, nx⟩
section
variable {P : Program} {B : Bd} {N nx : Nat} {asg : Asg} {oa : OAsg}
theorem Y9s : Z9a P (St N asg oa nx).sl (look (St N asg oa nx).ob) [] = some [] := rfl
theorem Y9r {t : Nat} {u : U Unit} {rs : List ResultVar} {us : List (U Unit)} (hN : Nat.blt t N = true) (hv : lkp asg t = some (.u u)) (hn : Z5i u = true) (h : Z9a P (St N asg oa nx).sl (look (St N asg oa nx).ob) rs = some us) :
  Z9a P (St N asg oa nx).sl (look (St N asg oa nx).ob) (.tmp t :: rs) = some (u :: us) := by
 simp only [Z9a, resU, Z7p (oa := oa) (nx := nx) hN hv, uO, Option.bind_some, hn, if_true, h, Option.map_some]
theorem Y7d {a ty id e j : Nat} {i : TI} {o : Ob Unit} {r : List (L Unit)} {u : U Unit} {rs : List ResultVar} {us : List (U Unit)} (hN : Nat.blt a N = true) (ht : tiOf P ty = some i) (hv : lkp asg a = some (.u (.one (.ptr () id e j))))
  (ho : lko oa nx id = some o) (hr : o.rows[e]? = some r) (hu : pk i r j = some u) (hn : Z5i u = true) (h : Z9a P (St N asg oa nx).sl (look (St N asg oa nx).ob) rs = some us) :
  Z9a P (St N asg oa nx).sl (look (St N asg oa nx).ob) (.cell a ty :: rs) = some (u :: us) := by
 simp only [Z9a, resU, ht, Z7p (oa := oa) (nx := nx) hN hv, lO, Option.bind_some, Q0 ho, hr, hu, hn, if_true, h, Option.map_some]
theorem Z3s {α : Type} {enc : α → List (L Unit)} [EncO enc] {us us' : List (U Unit)} {u : U Unit} {m id : Nat} {xs : List α} (t j : Nat) (ht : us[t]? = some u) (hj : (Z1 u)[j]? = some (.ref () id 0 xs.length)) (ho : lko oa nx id = some ⟨(), m, xs.map enc⟩)
  (hu : us.set t (Z1j u j (.os () m (xs.map enc))) = us') : GhB B (Rt us oa nx) (Rt us' ((id, none) :: oa) nx) := by
 subst hu
 have h := Gh.fold (s := Rt us oa nx) (t := t) (j := j) (id := id) (len := xs.length) (u := u) (by simp [Rt, ht]) hj (o := ⟨(), m, xs.map enc⟩) (Q0 (N := 0) (asg := []) ho) (by simp) (by
  simp only [List.all_map, List.all_eq_true]
  intro x _
  simpa using EncO.h (enc := enc) x)
 have e : (⟨(Rt us oa nx).sl.set t (.u (Z1j u j (.os () m (xs.map enc)))), (Rt us oa nx).ob.filter (fun p => !(p.1 == id)), nx⟩ : S Unit) = Rt (us.set t (Z1j u j (.os () m (xs.map enc)))) ((id, none) :: oa) nx := by
  simp only [Rt, Y3g, List.map_set]
 rw [← e]
 exact h.b
theorem X0p {us : List (U Unit)} : GhB B (Rt us oa nx) ⟨us.map .u, K9 [], nx⟩ := by
 have h := Gh.drop (Rt us oa nx) (fun _ => false)
 have e : (⟨(Rt us oa nx).sl, (Rt us oa nx).ob.filter (fun _ => false), nx⟩ : S Unit) = ⟨us.map .u, K9 [], nx⟩ := by
  simp [Rt, K9]
 rw [← e]
 exact h.b
theorem f_nl {us us' : List (U Unit)} {u : U Unit} (t j m : Nat) (o : Bool) (ht : us[t]? = some u) (hj : (Z1 u)[j]? = some .nl) (hu : us.set t (Z1j u j (match o with | true => .os () m [] | false => .bs () m [])) = us') : GhB B (Rt us oa nx) (Rt us' oa nx) := by
 subst hu
 rintro a W ⟨d, he, hi, hs, hdef, hk, hn0⟩
 have hsl : d.sl.map erV = us.map .u := congrArg S.sl he
 have hob : (erS d).ob = obOf oa nx := congrArg S.ob he
 have hnx : d.nx = nx := congrArg S.nx he
 have h1 : (d.sl.map erV)[t]? = some (.u u) := by rw [hsl, List.getElem?_map, ht]; rfl
 rw [List.getElem?_map, Option.map_eq_some_iff] at h1
 obtain ⟨v, hv, hvu⟩ := h1
 obtain ⟨u', rfl, rfl⟩ : ∃ u', v = .u u' ∧ erU u' = u := by
  cases v with
  | u x => exact ⟨x, rfl, by injection hvu⟩
  | tup xs => cases hvu
  | un => cases hvu
  | ud => cases hvu
 rw [Q2, List.getElem?_map, Option.map_eq_some_iff] at hj
 obtain ⟨l', hj', hl'⟩ := hj
 obtain rfl : l' = .nl := by cases l' <;> simp [mapL] at hl'; rfl
 have hjlt : j < (Z1 u').length := (List.getElem?_eq_some_iff.1 hj').1
 have htlt : t < d.sl.length := (List.getElem?_eq_some_iff.1 hv).1
 let nl' : L Value := match o with | true => .os (.slice none 0 0) m [] | false => .bs (.slice none 0 0) m []
 have hno : ownL nl' = [] := by cases o <;> simp [nl', ownL, Y7, ownR]
 have him : immL nl' = [] := by cases o <;> simp [nl', immL, Z2w, immR]
 have hids : idsL nl' = [] := by cases o <;> rfl
 have hwf : wfL false nl' := by
  cases o
  ·exact ⟨⟨none, 0, rfl, Nat.le_refl _, by simp [LIM], fun h => absurd rfl h⟩, by simp, trivial⟩
  ·exact ⟨.inl ⟨rfl, rfl⟩, by simp, trivial⟩
 have hval : val nl' = val (.nl : L Value) := by cases o <;> rfl
 let nv : V Value := .u (Z1j u' j nl')
 have hlv : Z3 nv = (Z1 u').set j nl' := Z6s hjlt
 let d' : S Value := ⟨d.sl.set t nv, d.ob, d.nx⟩
 have htop : ∀ l ∈ tops d', l ∈ tops d ∨ l = nl' := fun l hl => by
  rcases mem_tops.1 hl with ⟨w, hw, hl2⟩ | hl2
  ·rcases List.mem_or_eq_of_mem_set hw with hw | rfl
   ·exact .inl (mem_tops.2 (.inl ⟨w, hw, hl2⟩))
   ·rw [hlv] at hl2
    rcases List.mem_or_eq_of_mem_set hl2 with hl2 | rfl
    ·exact .inl (mem_tops.2 (.inl ⟨.u u', List.mem_of_getElem? hv, hl2⟩))
    ·exact .inr rfl
  ·exact .inl (mem_tops.2 (.inr hl2))
 have hown : (ownS d').Perm (ownS d) := by
  have h1 : ((Z3 nv).flatMap ownL).Perm ([] ++ (Z3 (.u u')).flatMap ownL) := by
   rw [hlv]
   exact Z4z (e := []) hj' (by simp [hno, ownL])
  have h2 := Z4z (f := fun v => (Z3 v).flatMap ownL) (e := []) hv h1
  simp only [ownS, tops, List.flatMap_append, List.flatMap_assoc, d'] at h2 ⊢
  simp only [List.nil_append] at h2
  exact (h2.append_right _).append_left _
 refine ⟨d', ?_, ?_, ⟨by simpa [d'] using hs.1, fun i w hw => ?_⟩, hdef, fun i hi2 => hk i ?_, hn0⟩
 ·have e1 : (d'.sl.map erV) = (us.set t (Z1j (erU u') j (match o with | true => .os () m [] | false => .bs () m []))).map .u := by
   simp only [d', List.map_set, hsl]
   congr 1
   show V.u (erU (Z1j u' j nl')) = _
   rw [Y4j]
   cases o <;> simp [nl', mapL, mapR]
  have : erS d' = ⟨d'.sl.map erV, (erS d).ob, d.nx⟩ := rfl
  rw [this, e1, hob, hnx]
  rfl
 ·refine hi.step (Nat.le_refl _) (Same.refl _) (fun _ _ _ => rfl) (fun l hl => ?_) hi.good.obs hi.good.ids (fun p hp => ⟨hi.good.own p (hown.mem_iff.1 hp), .inl ⟨p, hown.mem_iff.1 hp, rfl⟩⟩) ((hown.map (·.1)).nodup_iff.2 hi.good.nodup) (fun p hp => ?_) hi.hdr
  ·rcases htop l hl with h | rfl
   ·exact hi.good.wf l h
   ·exact ⟨hwf, Z9g hids⟩
  ·obtain ⟨l, hl, hp⟩ := List.mem_flatMap.1 hp
   rcases htop l hl with h | rfl
   ·exact .of_mem (List.mem_flatMap.2 ⟨l, h, hp⟩)
   ·rw [him] at hp; cases hp
 ·simp only [d', List.getElem?_set] at hw
  by_cases hti : t = i
  ·subst hti
   rw [if_pos rfl, if_pos htlt] at hw
   cases hw
   exact Y4k (hs.2 t _ hv) hj' hval
  ·rw [if_neg hti] at hw
   exact hs.2 i w hw
 ·rcases hi2 with ⟨l, hl, h⟩ | h
  ·rcases htop l hl with h2 | rfl
   ·exact .inl ⟨l, h2, h⟩
   ·rw [hids] at h; cases h
  ·exact .inr h
theorem ret0 {rs : List ResultVar} {us us' : List (U Unit)} {r : V Unit} {e : Exit} {nx' : Nat} (he : (match e with | .normal => true | .ret => true | _ => false) = true) (hr : Z9a P (St N asg oa nx).sl (look (St N asg oa nx).ob) rs = some us)
  (hg : GhB B (Rt us oa nx) ⟨us'.map .u, K9 [], nx'⟩) (hrr : resR us' = r) (hk : us'.all (fun u => (Z1 u).all fun l => (idsL l).isEmpty) = true) : RetQ P B rs [] r [] e (St N asg oa nx) := by
 refine ⟨by cases e <;> simp_all, us, hr, us', nx', hg, hrr, rfl, Nat.le_refl _, ?_, rfl⟩
 simp only [List.all_eq_true, List.isEmpty_iff] at hk ⊢
 intro u hu l hl i hi
 rw [hk u hu l hl] at hi
 cases hi
end
section
variable {P : Program} {N nx : Nat} {asg : Asg} {oa : OAsg}
def BorL (k : Nat) (N : Nat) (asg : Asg) (oa : OAsg) (nx : Nat) (l l' : L Unit) : Prop := ∃ rd, borL (look (St N asg oa nx).ob) k l = some (l', rd)
def BorC (k : Nat) (N : Nat) (asg : Asg) (oa : OAsg) (nx : Nat) (ls ls' : List (L Unit)) : Prop := ∃ rd, mapO (borL (look (St N asg oa nx).ob) k) ls = some (ls', rd)
def BorA (N : Nat) (asg : Asg) (oa : OAsg) (nx : Nat) (xs : List Operand) (us : List (U Unit)) : Prop := ∃ rd, X1m (look (St N asg oa nx).ob) (evA (St N asg oa nx)) xs = some (us, rd)
theorem b_s {k : Nat} {l : L Unit} (h : Z0k l = true) : BorL (k + 1) N asg oa nx l l := ⟨[], by cases l <;> simp_all [Z0k, borL]⟩
theorem b_ip {k : Nat} {cs : List (L Unit)} : BorL (k + 1) N asg oa nx (.ip () cs) (.ip () cs) := ⟨[], rfl⟩
theorem Z9e {α : Type} {enc : α → List (L Unit)} [EncB enc] (xs : List α) : (xs.map enc).all (fun r => r.all Z0k) = true := by
 simp only [List.all_map, List.all_eq_true]
 intro x _
 simpa using EncB.h (enc := enc) x
theorem Y7j {α : Type} {enc : α → List (L Unit)} [EncO enc] (xs : List α) : (xs.map enc).all (fun r => r.all Z7e) = true := by
 simp only [List.all_map, List.all_eq_true]
 intro x _
 simpa using EncO.h (enc := enc) x
theorem X7j {α : Type} {enc : α → List (L Unit)} [EncB enc] {xs : List α} : Z8b (xs.map enc) = xs.map enc := by
 rw [Z9d, List.map_map]
 refine List.map_congr_left fun x _ => ?_
 have h := EncB.h (enc := enc) x
 rw [List.all_eq_true] at h
 show (enc x).map Z2x = enc x
 conv => rhs; rw [← List.map_id (enc x)]
 refine List.map_congr_left fun l hl => ?_
 have := h l hl
 cases l <;> simp_all [Z0k, Z2x]
theorem b_r {α : Type} {enc : α → List (L Unit)} [EncB enc] {k id m : Nat} {xs : List α} (ho : lko oa nx id = some ⟨(), m, xs.map enc⟩) : BorL (k + 1) N asg oa nx (.ref () id 0 xs.length) (.bs () m (xs.map enc)) := by
 refine ⟨[id], ?_⟩
 have e : ((xs.map enc).drop 0).take xs.length = xs.map enc := by rw [List.drop_zero, List.take_of_length_le (by simp)]
 simp only [borL, Q0 ho, Option.bind_some, e, Y7j, if_true, X7j (xs := xs)]
theorem c_n {k : Nat} : BorC k N asg oa nx [] [] := ⟨[], rfl⟩
theorem c_c {k : Nat} {l l' : L Unit} {ls ls' : List (L Unit)} (h : BorL k N asg oa nx l l') (ht : BorC k N asg oa nx ls ls') : BorC k N asg oa nx (l :: ls) (l' :: ls') := by
 obtain ⟨rd, h⟩ := h
 obtain ⟨rd2, ht⟩ := ht
 exact ⟨rd ++ rd2, by simp only [mapO, h, ht, Option.bind_some]⟩
theorem Z8w {k : Nat} {ls : List (L Unit)} (h : ls.all Z0k = true) : BorC (k + 1) N asg oa nx ls ls := by
 induction ls with
 | nil => exact c_n
 | cons l ls ih =>
  simp only [List.all_cons, Bool.and_eq_true] at h
  exact c_c (b_s h.1) (ih h.2)
theorem b_p {k id j n : Nat} {r cs : List (L Unit)} (ho : lko oa nx id = some ⟨(), n, [r]⟩) (h : BorC k N asg oa nx (r.drop j) cs) (hp : cs.all Z0k = true) : BorL (k + 1) N asg oa nx (.ptr () id 0 j) (.ip () cs) := by
 obtain ⟨rd, h⟩ := h
 exact ⟨id :: rd, by simp only [borL, Q0 ho, Option.bind_some, List.getElem?_cons_zero, h, hp, if_true]⟩
theorem b_f {k : Nat} {f : FuncId} {caps cs : List (L Unit)} (h : BorC k N asg oa nx caps cs) : BorL (k + 1) N asg oa nx (.fn () f caps) (.fn () f cs) := by
 obtain ⟨rd, h⟩ := h
 exact ⟨rd, by simp only [borL, h, Option.bind_some]⟩
theorem a_n : BorA N asg oa nx [] [] := ⟨[], rfl⟩
theorem a_1 {x : Operand} {xs : List Operand} {l l' : L Unit} {us : List (U Unit)} (hv : ev N asg x = some (.u (.one l))) (h : BorL 4 N asg oa nx l l') (ht : BorA N asg oa nx xs us) : BorA N asg oa nx (x :: xs) (.one l' :: us) := by
 obtain ⟨rd, h⟩ := h
 obtain ⟨rd2, ht⟩ := ht
 exact ⟨rd ++ rd2, by simp only [X1m, Y8z hv, borU, h, Option.map_some, Option.bind_some, ht]⟩
theorem a_a {x : Operand} {xs : List Operand} {ls ls' : List (L Unit)} {us : List (U Unit)} (hv : ev N asg x = some (.u (.agg ls))) (h : BorC 4 N asg oa nx ls ls') (ht : BorA N asg oa nx xs us) : BorA N asg oa nx (x :: xs) (.agg ls' :: us) := by
 obtain ⟨rd, h⟩ := h
 obtain ⟨rd2, ht⟩ := ht
 exact ⟨rd ++ rd2, by simp only [X1m, Y8z hv, borU, h, Option.map_some, Option.bind_some, ht]⟩
def Z6p : List (Nat × Ob Unit) → OAsg → OAsg
 | [], oa => oa
 | (i, o) :: l, oa => Z6p l ((i, some o) :: oa)
theorem Y4u : ∀ (l : List (Nat × Ob Unit)) (oa : OAsg) (nx : Nat), l.map (·.1) = List.range' nx l.length → obOf (Z6p l oa) (nx + l.length) = obOf oa nx ++ l
 | [], oa, nx, _ => by simp [Z6p]
 | (i, o) :: l, oa, nx, h => by
  simp only [List.map_cons, List.length_cons, List.range'_succ, List.cons.injEq] at h
  obtain ⟨rfl, h⟩ := h
  have := Y4u l ((i, some o) :: oa) (i + 1) h
  simp only [Z6p, List.length_cons]
  rw [show i + (l.length + 1) = i + 1 + l.length by omega, this, Y1h]
  simp
variable {t : Nat} {ty : TypeId} {pos : String} {aft : Array Edge} {K : S Unit → Prop}
theorem St_call {r : V Unit} {v : V Unit} {nobs : List (Nat × Ob Unit)} {rd : List Nat} (hroot : Z4a (fun _ => ()) nx r = (v, nobs)) :
  appE (St N asg oa nx) (some t) nx ⟨(Z4a (fun _ => ()) nx r).1, rd, (Z4a (fun _ => ()) nx r).2.map (·.2), [], [], True⟩ = St N ((t, v) :: asg) (Z6p nobs oa) (nx + nobs.length) := by
 have hk : nobs.map (·.1) = List.range' nx nobs.length := by
  have := Z6m (fun _ : Unit => ()) nx (Z3 r)
  have h2 := (Z8h (fun _ : Unit => ()) nx r).2
  rw [← h2, hroot] at this
  exact this
 have hre := X6j nx nobs hk
 simp only [St, hroot, appE, Y1u, hre, Y4u nobs oa nx hk, List.length_map, U1, Z5r]
theorem Z0b {x : Operand} {args : Array Operand} {ats : Array TypeId} {f : FuncId} {caps cs : List (L Unit)} {us : List (U Unit)} {r v : V Unit} {nobs : List (Nat × Ob Unit)} {oa' : OAsg} {nx' : Nat} (hf : ev N asg x = some (.u (.one (.fn () f caps)))) (ha : BorA N asg oa nx args.toList us)
  (hc : BorC 4 N asg oa nx caps cs) (hent : Ent P f) (hsim : Sim P f (us ++ cs.map .one) [] r []) (himf : Z2h r = true) (hroot : Z4a (fun _ => ()) nx r = (v, nobs)) (hoa : Z6p nobs oa = oa') (hnx : nx + nobs.length = nx')
  (hK : K (St N ((t, v) :: asg) oa' nx')) : aopK (sysC P) 0 ⟨some t, .call ⟨.value x, args, ats⟩, ty, pos, aft, none⟩ (St N asg oa nx) K := by
 subst hoa hnx
 obtain ⟨rd, ha⟩ := ha
 obtain ⟨rd2, hc⟩ := hc
 refine ⟨⟨(Z4a (fun _ => ()) nx r).1, rd ++ rd2, (Z4a (fun _ => ()) nx r).2.map (·.2), [], [], True⟩, fun h => absurd rfl h, .inr ⟨⟨.value x, args, ats⟩, f, caps, us, rd, cs, rd2, r, rfl, ?_, ha, hc, hent, hsim, himf, rfl⟩, fun _ => ?_⟩
 ·simp only [calE, Z2e hf]
 ·show K (appE (St N asg oa nx) (some t) nx _)
  rw [St_call hroot]
  exact hK
end
end
section
def iL (n : Int) : List (L Unit) := [.int .i64 n]
instance : EncB iL := ⟨fun _ => rfl⟩
def iK (k : IntKind) (n : Int) : List (L Unit) := [.int k n]
instance (k : IntKind) : EncB (iK k) := ⟨fun _ => rfl⟩
def bL (b : Bool) : List (L Unit) := [.bool b]
instance : EncB bL := ⟨fun _ => rfl⟩
def sL (s : List UInt8) : List (L Unit) := [.str (bts s)]
instance : EncB sL := ⟨fun _ => rfl⟩
def sl (o : Bool) (n : Nat) (rows : List (List (L Unit))) : L Unit := match o with | true => .os () n rows | false => .bs () n rows
def lL {α : Type} (o : Bool) (n : Nat) (enc : α → List (L Unit)) (xs : List α) : List (L Unit) := [sl o n (List.map enc xs)]
instance {α : Type} (n : Nat) (enc : α → List (L Unit)) : EncB (lL false n enc) := ⟨fun _ => rfl⟩
instance {α : Type} (o : Bool) (n : Nat) (enc : α → List (L Unit)) : EncO (lL o n enc) := ⟨fun _ => by cases o <;> rfl⟩
class EncF {α : Type} (enc : α → List (L Unit)) : Prop where
 h : ∀ x, Y0e (enc x) = true
theorem Y3i {α : Type} {enc : α → List (L Unit)} [EncF enc] : ∀ xs : List α, Z7m (List.map enc xs) = true
 | [] => rfl
 | x :: xs => by simp only [List.map_cons, Z7m, EncF.h (enc := enc) x, Y3i xs, Bool.and_self]
instance : EncF iL := ⟨fun _ => rfl⟩
instance (k : IntKind) : EncF (iK k) := ⟨fun _ => rfl⟩
instance : EncF bL := ⟨fun _ => rfl⟩
instance : EncF sL := ⟨fun _ => rfl⟩
instance {α : Type} (n : Nat) (enc : α → List (L Unit)) [EncF enc] : EncF (lL true n enc) := ⟨fun _ => by simp only [lL, sl, Y0e, Z4d, Y3i, Bool.and_self]⟩
end
section
def sysA (P : Program) : Sys P := { E := X1b P, ok := id }
instance {P : Program} : PlainY (sysA P) := ⟨X4q⟩
section
variable {P : Program} {N nx t : Nat} {asg : Asg} {oa : OAsg} {ty : TypeId} {pos : String} {aft : Array Edge} {K : S Unit → Prop}
theorem Z5 {o : Oper} {s : S Unit} (h : aopK (sysC P) 0 o s K) : aopK (sysA P) 0 o s K := by
 obtain ⟨e, _, h1, h2⟩ := h
 exact ⟨e, fun h => absurd rfl h, (sysC P).ok h1, h2⟩
end
end
section
def Q8 (p : Nat × Ob Value) : List OwnE := Y7 p.2.h p.2.n p.2.rows ++ p.2.rows.flatten.flatMap ownL
theorem V3 (d : S Value) : (ownS d).Perm (d.ob.flatMap Q8 ++ (d.sl.flatMap Z3).flatMap ownL) := by
 classical
 refine List.perm_iff_count.2 fun q => ?_
 have key : ∀ ob : List (Nat × Ob Value), List.count q (ob.flatMap Q8) = List.count q (ob.flatMap (fun p => Y7 p.2.h p.2.n p.2.rows)) + List.count q ((X6 ob).flatMap ownL) := by
  intro ob
  induction ob with
  | nil => rfl
  | cons p ob ih =>
   have e : X6 (p :: ob) = p.2.rows.flatten ++ X6 ob := by simp [X6]
   simp only [List.flatMap_cons, List.count_append, e, List.flatMap_append, ih, Q8]
   omega
 simp only [ownS, tops, List.flatMap_append, List.count_append, key]
 omega
theorem X9a (g : Nat → Nat) (rows : List (List (L Value))) : (rows.map (fun r => r.map (renL g))).flatten = rows.flatten.map (renL g) := by
 rw [List.map_flatten]
theorem W5a (g : Nat → Nat) (rows : List (List (L Value))) : valR (rows.map (fun r => r.map (renL g))) = valR rows := by
 unfold valR
 rw [X9a, List.map_map]
 exact List.map_congr_left fun l _ => Y0j g l
theorem W0s (g : Nat → Nat) (h : Value) (n : Nat) (rows : List (List (L Value))) : Y7 h n (rows.map (fun r => r.map (renL g))) = Y7 h n rows := by
 unfold Y7
 split
 ·rw [W5a]
 ·rfl
theorem ownOb_ren (g : Nat → Nat) (i j : Nat) (o : Ob Value) : Q8 (i, Y2 g o) = Q8 (j, o) := by
 unfold Q8
 simp only [Y2, W0s, X9a, List.flatMap_map]
 congr 1
 exact flatMap_congr' fun l _ => Y9v g l
where
 flatMap_congr' {α β : Type} {f h : α → List β} : ∀ {l : List α}, (∀ x ∈ l, f x = h x) → l.flatMap f = l.flatMap h
 | [], _ => rfl
 | x :: l, hx => by
  simp only [List.flatMap_cons, hx x (by simp)]
  rw [flatMap_congr' fun y hy => hx y (by simp [hy])]
mutual
theorem Y8i {g : Nat → Nat} {ob ob' : List (Nat × Ob Value)} : ∀ {l : L Value}, (∀ i ∈ idsL l, ∀ o', look ob' (g i) = some o' → ∃ o, look ob i = some o ∧ o.h = o'.h ∧ o.n = o'.n ∧ o.rows.length = o'.rows.length) → W7 ob l → W7 ob' (renL g l)
 | .int _ _, _, _ | .bool _, _, _ | .str _, _, _ | .nl, _, _ | .nilp, _, _ | .bs _ _ _, _, _ | .os _ _ _, _, _ | .ip _ _, _, _ => by simp [renL, W7]
 | .ref v id off len, hl, h => by
  simp only [renL, W7] at h ⊢
  intro o' ho'
  obtain ⟨o, h1, h2, h3, h4⟩ := hl id (by simp [idsL]) o' ho'
  have := h o h1
  rwa [h2, h3, h4] at this
 | .ptr v id e j, hl, h => by
  simp only [renL, W7] at h ⊢
  intro o' ho'
  obtain ⟨o, h1, h2, h3, h4⟩ := hl id (by simp [idsL]) o' ho'
  have := h o h1
  rwa [h2, h3] at this
 | .fn v f caps, hl, h => by
  simp only [renL, W7] at h ⊢
  exact X5c (fun i hi => hl i (by simpa [idsL] using hi)) h
theorem X5c {g : Nat → Nat} {ob ob' : List (Nat × Ob Value)} : ∀ {ls : List (L Value)}, (∀ i ∈ idsC ls, ∀ o', look ob' (g i) = some o' → ∃ o, look ob i = some o ∧ o.h = o'.h ∧ o.n = o'.n ∧ o.rows.length = o'.rows.length) → Z3j ob ls → Z3j ob' (renC g ls)
 | [], _, _ => by simp [renC, Z3j]
 | l :: ls, hl, h => by
  simp only [renC, Z3j] at h ⊢
  exact ⟨Y8i (fun i hi => hl i (by simp [idsC, hi])) h.1, X5c (fun i hi => hl i (by simp [idsC, hi])) h.2⟩
end
mutual
theorem X4z : ∀ l : L Value, renL (fun i => i) l = l
 | .int _ _ | .bool _ | .str _ | .nl | .nilp | .bs _ _ _ | .os _ _ _ | .ip _ _ | .ref _ _ _ _ | .ptr _ _ _ _ => by simp [renL]
 | .fn _ _ caps => by simp [renL, X5a caps]
theorem X5a : ∀ ls : List (L Value), renC (fun i => i) ls = ls
 | [] => rfl
 | l :: ls => by simp [renC, X4z l, X5a ls]
end
theorem Z7u {ob ob' : List (Nat × Ob Value)} {l : L Value} (hl : ∀ i ∈ idsL l, ∀ o', look ob' i = some o' → ∃ o, look ob i = some o ∧ o.h = o'.h ∧ o.n = o'.n ∧ o.rows.length = o'.rows.length) (h : W7 ob l) : W7 ob' l := by
 have := Y8i (g := fun i => i) hl h
 rwa [X4z] at this
mutual
theorem X2x (g : Nat → Nat) : ∀ l : L Value, erL (renL g l) = renL g (erL l)
 | .int _ _ | .bool _ | .str _ | .nl | .nilp | .bs _ _ _ | .os _ _ _ | .ip _ _ | .ref _ _ _ _ | .ptr _ _ _ _ => by simp [renL, mapL]
 | .fn _ _ caps => by simp [renL, mapL, W2e g caps]
theorem W2e (g : Nat → Nat) : ∀ ls : List (L Value), mapC (fun _ => ()) (renC g ls) = renC g (mapC (fun _ => ()) ls)
 | [] => rfl
 | l :: ls => by simp [renC, mapC, X2x g l, W2e g ls]
end
theorem W2c (g : Nat → Nat) (u : U Value) : erU (renU g u) = renU g (erU u) := by
 cases u with
 | one l => simp [renU, mapU, X2x]
 | agg ls => simp [renU, mapU, Function.comp_def, X2x]
theorem W2a (g : Nat → Nat) (v : V Value) : erV (renV g v) = renV g (erV v) := by
 cases v with
 | u x => simp [renV, mapV, W2c]
 | tup xs => simp [renV, mapV, Function.comp_def, W2c]
 | un => rfl
 | ud => rfl
theorem Y8h (g : Nat → Nat) (o : Ob Value) : erOb (Y2 g o) = Y2 g (erOb o) := by
 simp [Y2, Z3e, Function.comp_def, X2x]
theorem X4j (g : Nat → Nat) {u : U Value} {x : Value} : UR (renU g u) x ↔ UR u x := by
 cases u with
 | one l => simp [UR, renU, Y0j]
 | agg ls =>
  have : (ls.map (renL g)).map val = ls.map val := by rw [List.map_map]; exact List.map_congr_left fun l _ => Y0j g l
  simp only [UR, renU, this]
theorem W4s (g : Nat → Nat) {v : V Value} {x : Value} (h : VR v x) : VR (renV g v) x := by
 cases v with
 | u y => exact (X4j g).2 h
 | tup xs =>
  obtain ⟨vs, h1, h2, h3⟩ := h
  refine ⟨vs, h1, by simpa using h2, fun i y z hy hz => ?_⟩
  rw [List.getElem?_map, Option.map_eq_some_iff] at hy
  obtain ⟨y0, hy0, rfl⟩ := hy
  exact (X4j g).2 (h3 i y0 z hy0 hz)
 | un => trivial
 | ud => exact h
theorem X7v {δ : Type} (upd : List (Nat × List (List (L δ)))) (p : Nat × Ob δ) : (updP upd p).1 = p.1 := by
 unfold updP; split <;> rfl
theorem X1y {α β : Type} (f : α → β) (k : Nat) : ∀ l : List (Nat × α), (l.map fun p => (p.1, f p.2)).lookup k = (l.lookup k).map f
 | [] => rfl
 | (a, b) :: l => by
  simp only [List.map_cons, List.lookup_cons]
  split
  ·rfl
  ·exact X1y f k l
theorem W1f (upd : List (Nat × List (List (L Value)))) (p : Nat × Ob Value) : (fun q : Nat × Ob Value => (q.1, erOb q.2)) (updP upd p) = updP (upd.map fun q => (q.1, q.2.map fun r => r.map erL)) (p.1, erOb p.2) := by
 unfold updP
 simp only [X1y (f := fun rows : List (List (L Value)) => rows.map fun r => r.map erL)]
 cases upd.lookup p.1 with
 | none => rfl
 | some rows => rfl
theorem Y1j {α : Type} {k : Nat} : ∀ {l : List (Nat × α)}, k ∉ l.map (·.1) → l.lookup k = none
 | [], _ => rfl
 | (a, b) :: l, h => by
  simp only [List.map_cons, List.mem_cons, not_or] at h
  rw [List.lookup_cons]
  have : (k == a) = false := by simpa using h.1
  rw [this]
  exact Y1j h.2
theorem X1z {α : Type} : ∀ {l : List (Nat × α)} {i : Nat} {p : Nat × α}, (l.map (·.1)).Nodup → l[i]? = some p → l.lookup p.1 = some p.2
 | [], i, p, _, h => by simp at h
 | (a, b) :: l, 0, p, _, h => by
  simp at h; subst h
  simp [List.lookup_cons]
 | (a, b) :: l, i + 1, p, hn, h => by
  simp only [List.getElem?_cons_succ] at h
  simp only [List.map_cons, List.nodup_cons] at hn
  rw [List.lookup_cons]
  have : (p.1 == a) = false := by
   simp only [beq_eq_false_iff_ne, ne_eq]
   rintro rfl
   exact hn.1 (List.mem_map.2 ⟨p, List.mem_of_getElem? h, rfl⟩)
  rw [this]
  exact X1z hn.2 h
theorem W2w {δ : Type} {ob ob' : List (Nat × Ob δ)} (hn : (ob.map (·.1)).Nodup) (hp : ob.Perm ob') (i : Nat) : look ob i = look ob' i := by
 have hn' : (ob'.map (·.1)).Nodup := (hp.map (·.1)).nodup_iff.1 hn
 cases h : look ob i with
 | some o => exact (J2 hn' (hp.mem_iff.1 (find?_key h))).symm
 | none =>
  cases h' : look ob' i with
  | none => rfl
  | some o => rw [J2 hn (hp.mem_iff.2 (find?_key h'))] at h; cases h
end
section
def gG (hs : List Nat) (nid i : Nat) : Nat := match hs[i]? with
 | some h => h
 | none => nid + (i - hs.length)
theorem W3p {hs : List Nat} {nid i h : Nat} (hi : hs[i]? = some h) : gG hs nid i = h := by simp [gG, hi]
theorem gG_ge {hs : List Nat} {nid i : Nat} (hi : hs.length ≤ i) : gG hs nid i = nid + (i - hs.length) := by
 simp [gG, List.getElem?_eq_none hi]
def okK {δ : Type} (k : Nat) (l : L δ) : Bool := noOs l && (idsL l).all fun i => Nat.blt i k
inductive NlL (g : Nat → Nat) : L Unit → L Unit → Prop
 | same {l0 l : L Unit} (h : l0 = renL g l) : NlL g l0 l
 | nl {m : Nat} : NlL g .nl (.bs () m [])
inductive ArgsG (s : S Unit) (g : Nat → Nat) (hs : List Nat) (lent : Bool) : List Operand → List (U Unit) → Prop
 | nil : ArgsG s g hs lent [] []
 | given {x : Operand} {xs : List Operand} {u : U Unit} {us : List (U Unit)} : uO (evA s x) = some (renU g u) → (Z1 u).all (okK hs.length) = true → ArgsG s g hs lent xs us → ArgsG s g hs lent (x :: xs) (u :: us)
 | givn {x : Operand} {xs : List Operand} {ls0 ls : List (L Unit)} {us : List (U Unit)} : uO (evA s x) = some (.agg ls0) → All2 (NlL g) ls0 ls → ls.all (okK hs.length) = true → ArgsG s g hs lent xs us → ArgsG s g hs lent (x :: xs) (.agg ls :: us)
 | lent {x : Operand} {xs : List Operand} {u0 u : U Unit} {rd : List Nat} {us : List (U Unit)} : lent = true → uO (evA s x) = some u0 → borU (look s.ob) u0 = some (u, rd) → (∀ i ∈ rd, i ∉ hs) → ArgsG s g hs lent xs us → ArgsG s g hs lent (x :: xs) (u :: us)
def CallG (P : Program) (o : Oper) (s : S Unit) (nid : Nat) (e : Eff) : Prop :=
  ∃ (c : Call) (f : FuncId) (caps cs : List (L Unit)) (us : List (U Unit)) (hs : List Nat) (obs obs' : List (Ob Unit)) (r : V Unit) (lent : Bool), o.op = .call c ∧ calE (evA s) c.callee = some (f, caps) ∧ hs.Nodup ∧ All2 (fun h ob => look s.ob h = some (Y2 (gG hs nid) ob)) hs obs ∧
    (∀ ob ∈ obs, Z0p hs.length ob.rows = true) ∧ ArgsG s (gG hs nid) hs lent c.args.toList us ∧ caps = cs.map (renL (gG hs nid)) ∧ cs.all (okK hs.length) = true ∧
    Ent P f ∧ Sim P f (us ++ cs.map .one) obs r obs' ∧ (lent = false ∨ (Z2h r = true ∧ ∀ ob ∈ obs', Z7m ob.rows = true)) ∧
    e = { v := (Z4a (fun _ => ()) (nid + (obs'.length - hs.length)) (renV (gG hs nid) r)).1, rd := [],
          news := (obs'.drop hs.length).map (Y2 (gG hs nid)) ++ (Z4a (fun _ => ()) (nid + (obs'.length - hs.length)) (renV (gG hs nid) r)).2.map (·.2),
          upd := hs.zip ((obs'.take hs.length).map fun ob => (Y2 (gG hs nid) ob).rows) }

theorem Y8n {f f' : L Unit → Option (L Unit × List Nat)} : ∀ {ls : List (L Unit)} {p : List (L Unit) × List Nat}, mapO f ls = some p → (∀ l y, f l = some y → (∀ i ∈ y.2, i ∈ p.2) → f' l = some y) → mapO f' ls = some p
 | [], p, h, _ => h
 | l :: ls, p, h, hr => by
  simp only [mapO] at h ⊢
  obtain ⟨y, hy, h⟩ := bind_some h
  obtain ⟨ys, hys, h⟩ := bind_some h
  cases h
  rw [hr l y hy (fun i hi => List.mem_append_left _ hi), Y8n hys (fun l' y' h1 h2 => hr l' y' h1 fun i hi => List.mem_append_right _ (h2 i hi))]
  rfl
theorem Y8u {lk lk' : Lk} : ∀ (k : Nat) {l : L Unit} {p : L Unit × List Nat}, borL lk k l = some p → (∀ i ∈ p.2, lk' i = lk i) → borL lk' k l = some p
 | 0, _, _, h, _ => by cases h
 | k + 1, l, p, h, hl => by
  cases l with
  | ref v id off len =>
   simp only [borL] at h ⊢
   obtain ⟨o, ho, h⟩ := bind_some h
   split at h
   ·rename_i hp
    cases h
    rw [hl id (by simp), ho, Option.bind_some, if_pos hp]
   ·cases h
  | ptr v id e j =>
   simp only [borL] at h ⊢
   obtain ⟨o, ho, h⟩ := bind_some h
   obtain ⟨r, hr, h⟩ := bind_some h
   obtain ⟨q, hq, h⟩ := bind_some h
   split at h
   ·rename_i hp
    cases h
    rw [hl id (by simp), ho]
    simp only [Option.bind_some, hr]
    rw [Y8n hq (fun l' y' h1 h2 => Y8u k h1 fun i hi => hl i (by simp [h2 i hi]))]
    rw [Option.bind_some, if_pos hp]
   ·cases h
  | fn v f caps =>
   simp only [borL] at h ⊢
   obtain ⟨q, hq, h⟩ := bind_some h
   cases h
   rw [Y8n hq (fun l' y' h1 h2 => Y8u k h1 fun i hi => hl i (h2 i hi))]
   rfl
  | os v n rows => simp [borL] at h
  | _ => simpa [borL] using h
theorem W6p {lk lk' : Lk} {u : U Unit} {p : U Unit × List Nat} (h : borU lk u = some p) (hl : ∀ i ∈ p.2, lk' i = lk i) : borU lk' u = some p := by
 cases u with
 | one l =>
  simp only [borU, Option.map_eq_some_iff] at h ⊢
  obtain ⟨q, hq, rfl⟩ := h
  exact ⟨q, Y8u 4 hq hl, rfl⟩
 | agg ls =>
  simp only [borU, Option.map_eq_some_iff] at h ⊢
  obtain ⟨q, hq, rfl⟩ := h
  exact ⟨q, Y8n hq (fun l' y' h1 h2 => Y8u 4 h1 fun i hi => hl i (h2 i hi)), rfl⟩
structure ArgK (W : World) (d dr : S Value) (dcob : List (Nat × Ob Value)) (k : Nat) (lent : Bool) (u : U Value) (x : Value) : Prop where
 ur : UR u x
 leaf : ∀ l ∈ Z1 u, noOs l = true ∧ (∀ i ∈ idsL l, i < k) ∧ wfL false l ∧ W7 dcob l ∧ ∀ p ∈ immL l, p.2 = [] ∨ SubIn p (immS d) ∨ (lent = true ∧ ImmFact W p ∧ ∃ q ∈ ownS dr, q.1 = p.1.block)
theorem Y6f {k : Nat} {l : L Unit} : okK k l = true ↔ noOs l = true ∧ ∀ i ∈ idsL l, i < k := by
 unfold okK
 simp only [Bool.and_eq_true, List.all_eq_true]
 constructor
 ·rintro ⟨h1, h2⟩
  exact ⟨h1, fun i hi => Z9w (h2 i hi)⟩
 ·rintro ⟨h1, h2⟩
  exact ⟨h1, fun i hi => by have := h2 i hi; simp [Nat.blt]; omega⟩
theorem nl_lift {W : World} {d : S Value} {dcob : List (Nat × Ob Value)} {g : Nat → Nat} {k : Nat} (hdc : ∀ i ob, look dcob i = some ob → look d.ob (g i) = some (Y2 g ob)) : ∀ {ls0 : List (L Value)} {l0 ls : List (L Unit)}, ls0.map erL = l0 → All2 (NlL g) l0 ls → (∀ l ∈ ls0, Has d l) → ls.all (okK k) = true →
  ∃ ls2 : List (L Value), ls2.map erL = ls ∧ ls2.map val = ls0.map val ∧ ∀ l ∈ ls2, noOs l = true ∧ (∀ i ∈ idsL l, i < k) ∧ wfL false l ∧ W7 dcob l ∧ ∀ p ∈ immL l, p.2 = [] ∨ SubIn p (immS d) := by
 intro ls0 l0 ls he h
 induction h generalizing ls0 with
 | nil =>
  intro _ _
  cases ls0 with
  | nil => exact ⟨[], rfl, rfl, by simp⟩
  | cons a b => simp at he
 | cons h1 _ ih =>
  rename_i x y xs ys _
  intro hh hk
  cases ls0 with
  | nil => simp at he
  | cons a b =>
   simp only [List.map_cons, List.cons.injEq] at he
   simp only [List.all_cons, Bool.and_eq_true] at hk
   obtain ⟨ls2, e1, e2, e3⟩ := ih he.2 (fun l hl => hh l (by simp [hl])) hk.2
   cases h1 with
   | same h =>
    obtain ⟨cs, c1, c2⟩ := Y5q g (ls := [a]) (ls' := [y]) (by simp [he.1, h])
    obtain ⟨a2, rfl⟩ : ∃ a2, cs = [a2] := by
     cases cs with
     | nil => simp at c1
     | cons q qs => cases qs with
      | nil => exact ⟨q, rfl⟩
      | cons _ _ => simp at c1
    simp only [List.map_cons, List.map_nil, List.cons.injEq, and_true] at c1 c2
    have hha := hh a (by simp)
    rw [← c2] at hha
    have ho := hk.1
    rw [← c1, Y6f, Z9p, Z9u] at ho
    refine ⟨a2 :: ls2, by simp [c1, e1], by simp [e2, ← c2, Y0j], fun l hl => ?_⟩
    rcases List.mem_cons.1 hl with rfl | hl
    ·exact ⟨ho.1, ho.2, (Y2i g false _).1 hha.1, Z7c hdc _ hha.2.1, fun p hp => .inr (hha.2.2.1 p (by rwa [Z7y]))⟩
    ·exact e3 l hl
   | nl =>
    rename_i m
    obtain rfl : a = .nl := W6g he.1
    refine ⟨.bs (.slice none 0 0) m [] :: ls2, by simp [mapL, mapR, e1], by simp [e2, val], fun l hl => ?_⟩
    rcases List.mem_cons.1 hl with rfl | hl
    ·exact ⟨rfl, by simp [idsL], ⟨⟨none, 0, rfl, Nat.le_refl _, by simp [LIM], fun h => absurd rfl h⟩, by simp, trivial⟩, by simp [W7], fun p hp => by simp [immL, Z2w, immR] at hp⟩
    ·exact e3 l hl
theorem W6t {W : World} {d dr : S Value} {dcob : List (Nat × Ob Value)} {a : Act} {g : Nat → Nat} {hs : List Nat} {lent : Bool} (hg : Good W d) (hgr : Good W dr) (hs1 : SlR d a) (hs2 : SlR dr a) (hsl : dr.sl = d.sl)
  (hlk : ∀ i, i ∉ hs → look dr.ob i = look d.ob i) (himm : ∀ p ∈ immS dr, p ∈ immS d) (hdc : ∀ i ob, look dcob i = some ob → look d.ob (g i) = some (Y2 g ob)) :
  ∀ {xs : List Operand} {us : List (U Unit)}, ArgsG (erS d) g hs lent xs us → ∃ us', us'.map erU = us ∧ All2 (ArgK W d dr dcob hs.length lent) us' (xs.map a.eval) := by
 intro xs us h
 induction h with
 | nil => exact ⟨[], rfl, .nil⟩
 | given h1 h2 _ ih =>
  rename_i x xs u us _
  obtain ⟨us', e1, e2⟩ := ih
  obtain ⟨u0, k1, k2, k3⟩ := u_ok hg hs1 h1
  obtain ⟨u2, k4, k5⟩ := X3x g k1
  subst k5
  refine ⟨u2 :: us', by simp [k4, e1], .cons ⟨(X4j g).1 k2, fun l hl => ?_⟩ e2⟩
  rw [Y1m] at k3
  have hh := k3 (renL g l) (List.mem_map.2 ⟨l, hl, rfl⟩)
  have ho : okK hs.length (erL l) = true := by
   rw [List.all_eq_true] at h2
   refine h2 _ ?_
   rw [← k4]
   cases u2 with
   | one l0 => simp only [Z1, List.mem_singleton] at hl; subst hl; simp [mapU, Z1]
   | agg ls => simp only [mapU, Z1] at hl ⊢; exact List.mem_map.2 ⟨l, hl, rfl⟩
  rw [Y6f, Z9p, Z9u] at ho
  refine ⟨ho.1, ho.2, (Y2i g false l).1 hh.1, Z7c hdc l hh.2.1, fun p hp => .inr (.inl (hh.2.2.1 p (by rwa [Z7y])))⟩
 | givn h1 h2 h3 _ ih =>
  rename_i x xs ls0 ls us _
  obtain ⟨us', e1, e2⟩ := ih
  obtain ⟨u0, k1, k2, k3⟩ := u_ok hg hs1 h1
  obtain ⟨ls1, rfl, hls⟩ : ∃ ls1 : List (L Value), u0 = .agg ls1 ∧ ls1.map erL = ls0 := by
   cases u0 with
   | one l => cases k1
   | agg ls1 => exact ⟨ls1, rfl, by injection k1⟩
  obtain ⟨ls2, f1, f2, f3⟩ := nl_lift (W := W) hdc hls h2 (fun l hl => k3 l hl) h3
  refine ⟨.agg ls2 :: us', by simp [mapU, f1, e1], .cons ⟨?_, fun l hl => ?_⟩ e2⟩
  ·simp only [UR] at k2 ⊢
   rw [k2, f2]
  ·obtain ⟨a1, a2, a3, a4, a5⟩ := f3 l hl
   exact ⟨a1, a2, a3, a4, fun p hp => (a5 p hp).imp id .inl⟩
 | lent h0 h1 h2 h3 _ ih =>
  rename_i x xs u0 u rd us _
  obtain ⟨us', e1, e2⟩ := ih
  have hev : evA (erS dr) x = evA (erS d) x := by
   cases x <;> simp [evV, erS, mapS, hsl]
  rw [← hev] at h1
  obtain ⟨u1, k1, k2, k3⟩ := u_ok hgr hs2 h1
  subst k1
  have h2' := W6p (lk' := look (erS dr).ob) h2 (fun i hi => by
   have := hlk i (h3 i hi)
   have e : ∀ (s : S Value) i, look (erS s).ob i = (look s.ob i).map erOb := fun s i => by
    unfold look
    simp only [erS, mapS, List.find?_map, Option.map_map]
    rfl
   rw [e, e, this])
  obtain ⟨u2, k4, k5⟩ := W4i hgr k2 k3 h2'
  refine ⟨u2 :: us', by simp [k4, e1], .cons ⟨k5.ur, fun l hl => ?_⟩ e2⟩
  obtain ⟨a1, a2, a3, a4⟩ := k5.leaf l hl
  refine ⟨a1, by rw [a2]; simp, a3, Z9g a2, fun p hp => ?_⟩
  rcases a4 p hp with b | b | ⟨b1, b2⟩
  ·exact .inl b
  ·exact .inr (.inl (b.trans fun q hq => .of_mem (himm q hq)))
  ·exact .inr (.inr ⟨h0, b1, b2⟩)
theorem X8q {B : Bd} {W : World} {sl : List (V Value)} {ob : List (Nat × Ob Value)} {nx : Nat} {rv : V Value} (hi : Inv B W ⟨sl ++ [rv], ob, nx⟩) (hno : ∀ l ∈ Z3 rv, noOs l = true) (dst : Option Nat) :
  Inv B W (U1 ⟨sl, ob, nx⟩ dst rv) ∧ ∀ l ∈ tops (U1 ⟨sl, ob, nx⟩ dst rv), l ∈ tops (⟨sl ++ [rv], ob, nx⟩ : S Value) := by
 let d1 : S Value := ⟨sl ++ [rv], ob, nx⟩
 let d2 : S Value := U1 ⟨sl, ob, nx⟩ dst rv
 have hd2ob : d2.ob = d1.ob := Z4y _ _ _
 have hno' : (Z3 rv).flatMap ownL = [] := List.flatMap_eq_nil_iff.2 fun l hl => Z0m (hno l hl)
 have htop2 : ∀ l ∈ tops d2, l ∈ tops d1 := fun l hl => by
  rcases mem_tops.1 hl with ⟨u, hu, hl2⟩ | hl2
  ·refine mem_tops.2 (.inl ⟨u, ?_, hl2⟩)
   show u ∈ sl ++ [rv]
   cases hdst : dst with
   | none =>
    simp only [d2, hdst, U1] at hu
    exact List.mem_append_left _ hu
   | some t =>
    simp only [d2, hdst, U1] at hu
    rcases List.mem_or_eq_of_mem_set hu with hu | rfl
    ·exact List.mem_append_left _ hu
    ·exact List.mem_append_right _ (by simp)
  ·rw [hd2ob] at hl2
   exact mem_tops.2 (.inr hl2)
 have hsub2 : (ownS d2).Sublist (ownS d1) := by
  simp only [ownS, tops, hd2ob, List.flatMap_append]
  refine (List.Sublist.refl _).append (List.Sublist.append ?_ (List.Sublist.refl _))
  rw [List.flatMap_assoc, List.flatMap_assoc]
  have e : d1.sl.flatMap (fun x => List.flatMap ownL (Z3 x)) = sl.flatMap (fun x => List.flatMap ownL (Z3 x)) := by
   simp only [d1, List.flatMap_append, List.flatMap_cons, List.flatMap_nil, List.append_nil, hno']
  rw [e]
  cases hdst : dst with
  | none =>
   simp only [d2, hdst, U1]
   exact List.Sublist.refl _
  | some t =>
   simp only [d2, hdst, U1]
   exact Z1h (fun x => List.flatMap ownL (Z3 x)) _ hno' _ _
 refine ⟨hi.step (Nat.le_refl _) (Same.refl _) (fun _ _ _ => rfl) (fun l hl => by rw [hd2ob]; exact hi.good.wf l (htop2 l hl)) (by rw [hd2ob]; exact hi.good.obs) (by rw [hd2ob]; exact hi.good.ids)
  (fun p hp => ⟨hi.good.own p (hsub2.subset hp), .inl ⟨p, hsub2.subset hp, rfl⟩⟩) (hi.good.nodup.sublist (hsub2.map _)) (fun p hp => by
   obtain ⟨l, hl, hp⟩ := List.mem_flatMap.1 hp
   exact .of_mem (List.mem_flatMap.2 ⟨l, htop2 l hl, hp⟩)) (by rw [hd2ob]; exact hi.hdr), htop2⟩
end
section
theorem W6i (g : Nat → Nat) {o' : Ob Unit} {o : Ob Value} (h : erOb o = Y2 g o') : ∃ o2 : Ob Value, erOb o2 = o' ∧ Y2 g o2 = o := by
 obtain ⟨hh, n, rows⟩ := o
 obtain ⟨hh', n', rows'⟩ := o'
 simp only [Z3e, Y2, Ob.mk.injEq] at h
 obtain ⟨_, rfl, h3⟩ := h
 obtain ⟨r2, h4, h5⟩ := Y6y g h3
 exact ⟨⟨hh, n, r2⟩, by simp [Z3e, h4], by simp [Y2, h5]⟩
theorem X0k {d : S Value} {g : Nat → Nat} : ∀ {hs : List Nat} {obs : List (Ob Unit)}, All2 (fun h ob => look (erS d).ob h = some (Y2 g ob)) hs obs →
  ∃ hobs : List (Ob Value), hobs.map erOb = obs ∧ All2 (fun h ob => look d.ob h = some (Y2 g ob)) hs hobs
 | _, _, .nil => ⟨[], rfl, .nil⟩
 | _, _, .cons h t => by
  obtain ⟨hobs, e1, e2⟩ := X0k t
  obtain ⟨o', k1, k2⟩ := U7 h
  obtain ⟨o2, k3, k4⟩ := W6i g k2
  subst k4
  exact ⟨o2 :: hobs, by simp [k3, e1], .cons k1 e2⟩
def Z6q (g : Nat → Nat) (hs : List Nat) (obs : List (Ob Value)) : List (Nat × Ob Value) := (hs.zip obs).map fun q => (q.1, Y2 g q.2)
theorem Y6e {g : Nat → Nat} : ∀ {hs : List Nat} {obs : List (Ob Value)}, hs.length = obs.length → (Z6q g hs obs).map (·.1) = hs
 | [], [], _ => rfl
 | h :: hs, o :: obs, hl => by
  have := Y6e (g := g) (hs := hs) (obs := obs) (by simpa using hl)
  simp only [Z6q] at this
  simp [Z6q, this]
 | [], _ :: _, hl => by simp at hl
 | _ :: _, [], hl => by simp at hl
theorem Y4s {g : Nat → Nat} : ∀ {hs : List Nat} {obs : List (Ob Value)}, hs.length = obs.length → (Z6q g hs obs).flatMap Q8 = obs.flatMap (fun o => Q8 (0, o))
 | [], [], _ => rfl
 | h :: hs, o :: obs, hl => by
  have := Y4s (g := g) (hs := hs) (obs := obs) (by simpa using hl)
  simp only [Z6q] at this
  simp only [Z6q, List.zip_cons_cons, List.map_cons, List.flatMap_cons, this, ownOb_ren g h 0 o]
 | [], _ :: _, hl => by simp at hl
 | _ :: _, [], hl => by simp at hl
theorem Y4t {g : Nat → Nat} {hs : List Nat} {obs : List (Ob Value)} {i h : Nat} {o : Ob Value} (h1 : hs[i]? = some h) (h2 : obs[i]? = some o) : (Z6q g hs obs)[i]? = some (h, Y2 g o) := by
 have : (hs.zip obs)[i]? = some (h, o) := by rw [List.getElem?_zip_eq_some]; exact ⟨h1, h2⟩
 simp [Z6q, this]
theorem Z9f : ∀ (n : Nat) (obs : List (Ob Value)), ((obs.zipIdx n).map (fun q => (q.2, q.1))).flatMap Q8 = obs.flatMap (fun o => Q8 (0, o))
 | n, [] => rfl
 | n, o :: obs => by
  simp only [List.zipIdx_cons, List.map_cons, List.flatMap_cons, Z9f (n + 1) obs]
  rfl
theorem Y0z {δ : Type} : ∀ (n : Nat) (obs : List (Ob δ)), ((obs.zipIdx n).map (fun q => (q.2, q.1))).map (·.1) = List.range' n obs.length
 | n, [] => rfl
 | n, o :: obs => by
  simp only [List.zipIdx_cons, List.map_cons, List.length_cons, List.range'_succ, Y0z (n + 1) obs]
theorem Z2i {δ : Type} {n : Nat} {obs : List (Ob δ)} {p : Nat × Ob δ} (h : p ∈ (obs.zipIdx n).map (fun q => (q.2, q.1))) : n ≤ p.1 ∧ obs[p.1 - n]? = some p.2 := by
 obtain ⟨q, hq, rfl⟩ := List.mem_map.1 h
 rw [List.mem_zipIdx_iff_le_and_getElem?_sub] at hq
 exact hq
theorem Y2f {δ : Type} {n i : Nat} {obs : List (Ob δ)} {o : Ob δ} (h : obs[i]? = some o) : (n + i, o) ∈ (obs.zipIdx n).map (fun q => (q.2, q.1)) := by
 refine List.mem_map.2 ⟨(o, n + i), ?_, rfl⟩
 rw [List.mem_zipIdx_iff_le_and_getElem?_sub]
 exact ⟨by simp, by simpa using h⟩
theorem keyed_look {δ : Type} {obs : List (Ob δ)} {i : Nat} {o : Ob δ} : look (K9 obs) i = some o ↔ obs[i]? = some o := by
 constructor
 ·intro h
  have := Z2i (n := 0) (find?_key h)
  simpa using this.2
 ·intro h
  refine J2 (by rw [Z6u]; exact List.nodup_range) ?_
  have := Y2f (n := 0) h
  simpa [K9] using this
theorem W2p (ob : List (Nat × Ob Value)) : (ob.flatMap Q8).Perm (ob.flatMap (fun p => Y7 p.2.h p.2.n p.2.rows) ++ (X6 ob).flatMap ownL) := by
 have := V3 ⟨[], ob, 0⟩
 simp only [List.flatMap_nil, List.append_nil] at this
 refine this.symm.trans ?_
 simp only [ownS, tops, List.flatMap_nil, List.nil_append]
 exact .refl _
theorem W5f {us : List (U Value)} (h : ∀ u ∈ us, ∀ l ∈ Z1 u, noOs l = true) : ((us.map V.u).flatMap Z3).flatMap ownL = [] := by
 rw [List.flatMap_eq_nil_iff]
 intro l hl
 obtain ⟨v, hv, hl⟩ := List.mem_flatMap.1 hl
 obtain ⟨u, hu, rfl⟩ := List.mem_map.1 hv
 exact Z0m (h u hu l hl)
theorem W3n {B : Bd} {d : S Value} {W : World} {g : Nat → Nat} {hs : List Nat} {hobs : List (Ob Value)} (hi : Inv B W d) (hn : hs.Nodup) (ha : All2 (fun h ob => look d.ob h = some (Y2 g ob)) hs hobs)
  (hgi : ∀ i h, hs[i]? = some h → g i = h) :
  ∃ rest, d.ob.Perm (Z6q g hs hobs ++ rest) ∧ (∀ i, i ∉ hs → look rest i = look d.ob i) ∧ (∀ p ∈ rest, p.1 ∉ hs) ∧ Good W ⟨d.sl, rest, d.nx⟩ ∧ (∀ p ∈ immS ⟨d.sl, rest, d.nx⟩, p ∈ immS d) ∧
   (∀ i ob, look (K9 hobs) i = some ob → look d.ob (g i) = some (Y2 g ob)) ∧
   ∀ us : List (U Value), (∀ u ∈ us, ∀ l ∈ Z1 u, noOs l = true) → (ownS d).Perm (ownS ⟨us.map .u, K9 hobs, hobs.length⟩ ++ ownS ⟨d.sl, rest, d.nx⟩) := by
 have hlen := Z3g ha
 have hkeys := Y6e (g := g) hlen
 have hmem : ∀ p ∈ Z6q g hs hobs, p ∈ d.ob := by
  intro p hp
  obtain ⟨q, hq, rfl⟩ := List.mem_map.1 hp
  obtain ⟨i, hi1⟩ := List.getElem?_of_mem hq
  rw [List.getElem?_zip_eq_some] at hi1
  exact find?_key (Z1i ha i _ _ hi1.1 hi1.2)
 have hnp : (Z6q g hs hobs).Nodup := by
  have : ((Z6q g hs hobs).map (·.1)).Nodup := by rw [hkeys]; exact hn
  exact (List.pairwise_map.1 this).imp fun h e => h (congrArg Prod.fst e)
 obtain ⟨rest, hperm⟩ := Y4r hnp hmem
 have hids : ((Z6q g hs hobs ++ rest).map (·.1)).Nodup := (hperm.map (·.1)).nodup_iff.1 hi.good.ids
 rw [List.map_append, List.nodup_append, hkeys] at hids
 have hrk : ∀ p ∈ rest, p.1 ∉ hs := fun p hp hm => hids.2.2 p.1 hm p.1 (List.mem_map.2 ⟨p, hp, rfl⟩) rfl
 have hrm : ∀ p ∈ rest, p ∈ d.ob := fun p hp => hperm.mem_iff.2 (List.mem_append_right _ hp)
 have hlook : ∀ i, i ∉ hs → look rest i = look d.ob i := fun i hi1 => by
  rw [W2w hi.good.ids hperm]
  unfold look
  rw [List.find?_append]
  have : (Z6q g hs hobs).find? (fun p => p.1 == i) = none := by
   rw [List.find?_eq_none]
   intro p hp
   simp only [beq_iff_eq]
   rintro rfl
   have : p.1 ∈ (Z6q g hs hobs).map (·.1) := List.mem_map.2 ⟨p, hp, rfl⟩
   rw [hkeys] at this
   exact hi1 this
  rw [this, Option.none_or]
 have hsome : ∀ i o, look rest i = some o → look d.ob i = some o := fun i o h => J2 hi.good.ids (hrm _ (find?_key h))
 have htop : ∀ l ∈ tops (⟨d.sl, rest, d.nx⟩ : S Value), l ∈ tops d := fun l hl => by
  rcases mem_tops.1 hl with h | h
  ·exact mem_tops.2 (.inl h)
  ·obtain ⟨p, hp, r, hr, hl⟩ := mem_obLeaves.1 h
   exact mem_tops.2 (.inr (mem_obLeaves.2 ⟨p, hrm p hp, r, hr, hl⟩))
 have himm : ∀ p ∈ immS (⟨d.sl, rest, d.nx⟩ : S Value), p ∈ immS d := fun p hp => by
  obtain ⟨l, hl, hp⟩ := List.mem_flatMap.1 hp
  exact List.mem_flatMap.2 ⟨l, htop l hl, hp⟩
 have hown : ∀ us : List (U Value), (∀ u ∈ us, ∀ l ∈ Z1 u, noOs l = true) → (ownS d).Perm (ownS ⟨us.map .u, K9 hobs, hobs.length⟩ ++ ownS ⟨d.sl, rest, d.nx⟩) := by
  intro us hus
  have e1 := V3 d
  have e2 := V3 ⟨us.map .u, K9 hobs, hobs.length⟩
  have e3 := V3 ⟨d.sl, rest, d.nx⟩
  simp only [W5f hus, List.append_nil] at e2 e3
  have e4 : (K9 hobs).flatMap Q8 = (Z6q g hs hobs).flatMap Q8 := by rw [Y4s hlen]; exact Z9f 0 hobs
  rw [e4] at e2
  have e5 : (d.ob.flatMap Q8).Perm ((Z6q g hs hobs).flatMap Q8 ++ rest.flatMap Q8) := by
   rw [← List.flatMap_append]
   exact hperm.flatMap_right _
  refine e1.trans ?_
  refine ((e5.append_right _).trans ?_)
  rw [List.append_assoc]
  exact (e2.symm.append e3.symm)
 refine ⟨rest, hperm, hlook, hrk, ?_, himm, ?_, hown⟩
 ·have hp0 := hown [] (by simp)
  have hsub : ∀ q ∈ ownS (⟨d.sl, rest, d.nx⟩ : S Value), q ∈ ownS d := fun q hq => hp0.mem_iff.2 (List.mem_append_right _ hq)
  have hnd := (hp0.map (·.1)).nodup_iff.1 hi.good.nodup
  rw [List.map_append, List.nodup_append] at hnd
  exact {
   wf := fun l hl => by
    have := hi.good.wf l (htop l hl)
    exact ⟨this.1, Z7u (fun i _ o' ho' => ⟨o', hsome i o' ho', rfl, rfl, rfl⟩) this.2⟩
   obs := fun p hp => hi.good.obs p (hrm p hp)
   ids := hids.2.1
   own := fun p hp => hi.good.own p (hsub p hp)
   nodup := hnd.2.1
   imm := fun p hp hne => by
    obtain ⟨h1, h2⟩ := hi.good.imm p (himm p hp) hne
    exact ⟨h1, fun q hq => h2 q (hsub q hq)⟩ }
 ·intro i ob h
  have h1 := keyed_look.1 h
  have hlt := (List.getElem?_eq_some_iff.1 h1).1
  have h2 : hs[i]? = some hs[i] := List.getElem?_eq_getElem (by omega)
  rw [hgi i _ h2]
  exact Z1i ha i _ _ h2 h1
end
section
theorem X8n {ob : List (Nat × Ob Value)} {obs' : List (Ob Unit)} (h : ob.map (fun p => (p.1, erOb p.2)) = K9 obs') : ob = K9 (ob.map (·.2)) ∧ (ob.map (·.2)).map erOb = obs' := by
 have h1 : ob.map (·.1) = List.range obs'.length := by
  have := congrArg (List.map (·.1)) h
  rw [Z6u, List.map_map] at this
  exact this
 have h2 : (ob.map (·.2)).map erOb = obs' := by
  have := congrArg (List.map (·.2)) h
  have e : (K9 obs').map (·.2) = obs' := by
   have : ∀ (n : Nat) (l : List (Ob Unit)), ((l.zipIdx n).map (fun q => (q.2, q.1))).map (·.2) = l := by
    intro n l
    induction l generalizing n with
    | nil => rfl
    | cons x l ih => simp only [List.zipIdx_cons, List.map_cons, ih]
   exact this 0 obs'
  rw [e, List.map_map] at this
  rw [List.map_map]
  exact this
 refine ⟨?_, h2⟩
 have hl : obs'.length = ob.length := by rw [← h2]; simp
 have := X6j 0 ob (by rw [h1, hl, List.range_eq_range'])
 exact this.symm
theorem X4m {g : Nat → Nat} {hs : List Nat} {hobs nobs : List (Ob Value)} (hn : hs.Nodup) (hl : hs.length = hobs.length) (hl2 : nobs.length = hobs.length) (hh : ∀ (i : Nat) (o o' : Ob Value), hobs[i]? = some o → nobs[i]? = some o' → o'.h = o.h ∧ o'.n = o.n) :
  (Z6q g hs hobs).map (updP (hs.zip (nobs.map fun ob => (Y2 g ob).rows))) = Z6q g hs nobs := by
 apply List.ext_getElem?
 intro i
 rw [List.getElem?_map]
 by_cases hi : i < hs.length
 ·have h1 : hs[i]? = some hs[i] := List.getElem?_eq_getElem hi
  have h2 : hobs[i]? = some (hobs[i]'(by omega)) := List.getElem?_eq_getElem (by omega)
  have h3 : nobs[i]? = some (nobs[i]'(by omega)) := List.getElem?_eq_getElem (by omega)
  rw [Y4t h1 h2, Y4t h1 h3, Option.map_some]
  have hz : (hs.zip (nobs.map fun ob => (Y2 g ob).rows))[i]? = some (hs[i], (Y2 g (nobs[i]'(by omega))).rows) := by
   rw [List.getElem?_zip_eq_some]
   exact ⟨h1, by rw [List.getElem?_map, h3]; rfl⟩
  have hk : ((hs.zip (nobs.map fun ob => (Y2 g ob).rows)).map (·.1)).Nodup := by
   rw [List.map_fst_zip (by simp; omega)]
   exact hn
  have := X1z hk hz
  simp only at this
  unfold updP
  simp only [this]
  obtain ⟨e1, e2⟩ := hh i _ _ h2 h3
  simp only [Y2, e1, e2]
 ·rw [List.getElem?_eq_none (by simp [Z6q]; omega), List.getElem?_eq_none (by simp [Z6q]; omega)]
  rfl
theorem X7u {upd : List (Nat × List (List (L Value)))} {rest : List (Nat × Ob Value)} (h : ∀ p ∈ rest, p.1 ∉ upd.map (·.1)) : rest.map (updP upd) = rest := by
 conv => rhs; rw [← List.map_id rest]
 refine List.map_congr_left fun p hp => ?_
 unfold updP
 rw [Y1j (h p hp)]
 rfl
set_option maxHeartbeats 4000000 in
theorem Y2j {P : Program} {o : Oper} {s : S Unit} {nid : Nat} {e : Eff} (h : CallG P o s nid e) : X1b P o s nid e := by
 obtain ⟨c, f, caps, cs, us, hs, obs, obs', r, lent, ho, hcal, hnd, hhand, hkn, hargs, hcaps, hcsk, hent, hsim, himf, rfl⟩ := h
 intro B d a W hd hi hsl hf hdef
 subst hd
 refine ⟨trivial, ?_⟩
 generalize hgd : gG hs nid = g at *
 have hgi : ∀ i h, hs[i]? = some h → g i = h := fun i h h1 => by rw [← hgd]; exact W3p h1
 have hge : ∀ i, hs.length ≤ i → g i = nid + (i - hs.length) := fun i h1 => by rw [← hgd]; exact gG_ge h1
 obtain ⟨x, hx, v, hlx⟩ : ∃ x, c.callee = .value x ∧ ∃ v, lO (evA (erS d) x) = some (.fn v f caps) := by
  unfold calE at hcal
  split at hcal
  ·rename_i x hcx
   split at hcal
   ·rename_i v f' caps' hl
    cases hcal
    exact ⟨x, hcx, v, hl⟩
   ·cases hcal
  ·cases hcal
 obtain ⟨l', h1, h2, h3⟩ := V8 hi.good hsl hlx
 obtain ⟨v', caps', rfl, hc'⟩ : ∃ v' caps', l' = .fn v' f caps' ∧ caps'.map erL = caps := by
  cases l' <;> simp [mapL] at h1
  rename_i v' f' c'
  exact ⟨v', c', by rw [h1.1], by rw [← h1.2, Z7f]⟩
 obtain ⟨_, hv', hw'⟩ := h3.1
 have hcap : ∀ l ∈ caps', Has d l := fun l hl => by
  refine ⟨(Z8n _ _).1 hw' l hl, (Z9h _ _).1 h3.2.1 l hl, fun p hp => h3.2.2.1 p ?_, fun i hi => h3.2.2.2 i ?_⟩
  ·simp only [immL, Z7z]
   exact List.mem_flatMap.2 ⟨l, hl, hp⟩
  ·simp only [idsL, Y2w]
   exact List.mem_flatMap.2 ⟨l, hl, hi⟩
 obtain ⟨cs', hcs1, hcs2⟩ := Y5q g (hc'.trans hcaps)
 obtain ⟨hobs, hob1, hob2⟩ := X0k hhand
 have hlen := Z3g hob2
 obtain ⟨rest, hperm, hrl, hrk, hgr, hrimm, hdc, hown⟩ := W3n hi hnd hob2 hgi
 obtain ⟨us', hus1, hus2⟩ := W6t (dr := ⟨d.sl, rest, d.nx⟩) (dcob := K9 hobs) hi.good hgr hsl ⟨hsl.1, hsl.2⟩ rfl hrl hrimm hdc hargs
 have hrun : (execOp a.eval o).run P W = .ok (.enter f (c.args.toList.map a.eval ++ cs'.map val).toArray) W := by
  simp only [execOp, ho, resolve, hx, h2, val, hv', Deferred.ofValue, pure_bind, invoke]
  rw [Y2q hent]
  congr 2
  apply Array.ext'
  have e : caps'.map val = cs'.map val := by rw [← hcs2, List.map_map]; exact List.map_congr_left fun l _ => Y0j g l
  simp [e]
 let args' : List (U Value) := us' ++ cs'.map U.one
 let dc : S Value := ⟨args'.map V.u, K9 hobs, hobs.length⟩
 have hargl : ∀ u ∈ args', ∀ l ∈ Z1 u, noOs l = true ∧ (∀ i ∈ idsL l, i < hs.length) ∧ wfL false l ∧ W7 (K9 hobs) l ∧ ∀ p ∈ immL l, p.2 = [] ∨ SubIn p (immS d) ∨ (lent = true ∧ ImmFact W p ∧ ∃ q ∈ ownS (⟨d.sl, rest, d.nx⟩ : S Value), q.1 = p.1.block) := by
  intro u hu l hl
  rcases List.mem_append.1 hu with hu | hu
  ·obtain ⟨i, hi1⟩ := List.mem_iff_getElem?.1 hu
   have hl2 := Z3g hus2
   have hlt : i < (c.args.toList.map a.eval).length := by rw [← hl2]; exact (List.getElem?_eq_some_iff.1 hi1).1
   exact (Z1i hus2 i u _ hi1 (List.getElem?_eq_getElem hlt)).leaf l hl
  ·obtain ⟨l0, hl0, rfl⟩ := List.mem_map.1 hu
   simp only [Z1, List.mem_singleton] at hl
   subst hl
   have hh := hcap (renL g l) (by rw [← hcs2]; exact List.mem_map.2 ⟨l, hl0, rfl⟩)
   have hk := List.all_eq_true.1 hcsk (erL l) (by rw [← hcs1]; exact List.mem_map.2 ⟨l, hl0, rfl⟩)
   rw [Y6f, Z9p, Z9u] at hk
   exact ⟨hk.1, hk.2, (Y2i g false l).1 hh.1, Z7c hdc l hh.2.1, fun p hp => .inr (.inl (hh.2.2.1 p (by rwa [Z7y])))⟩
 have hno : ∀ u ∈ args', ∀ l ∈ Z1 u, noOs l = true := fun u hu l hl => (hargl u hu l hl).1
 have hperm0 := hown args' hno
 have hnd0 := (hperm0.map (·.1)).nodup_iff.1 hi.good.nodup
 rw [List.map_append, List.nodup_append] at hnd0
 have hrow : ∀ (i : Nat) ob, hobs[i]? = some ob → ∃ h, hs[i]? = some h ∧ look d.ob h = some (Y2 g ob) := fun i ob hi1 => by
  have hlt := (List.getElem?_eq_some_iff.1 hi1).1
  exact ⟨_, List.getElem?_eq_getElem (by omega), Z1i hob2 i _ _ (List.getElem?_eq_getElem (by omega)) hi1⟩
 have hrowl : ∀ p ∈ K9 hobs, ∀ r ∈ p.2.rows, ∀ l ∈ r, renL g l ∈ tops d := fun p hp r hr l hl => by
  have h5 := (Z2i (n := 0) hp).2
  obtain ⟨h, _, h7⟩ := hrow _ _ h5
  exact mem_tops.2 (.inr (mem_obLeaves.2 ⟨_, find?_key h7, r.map (renL g), List.mem_map.2 ⟨r, hr, rfl⟩, List.mem_map.2 ⟨l, hl, rfl⟩⟩))
 have hids : ∀ l ∈ tops dc, ∀ i ∈ idsL l, i < obs.length := by
  intro l hl i hi1
  have hol : obs.length = hs.length := by rw [← hob1, List.length_map, hlen]
  rcases mem_tops.1 hl with ⟨u0, hu0, hl⟩ | hl
  ·obtain ⟨u, hu1, rfl⟩ := List.mem_map.1 hu0
   rw [hol]
   exact (hargl u hu1 l hl).2.1 i hi1
  ·obtain ⟨p, hp, r, hr, hl⟩ := mem_obLeaves.1 hl
   have h5 := (Z2i (n := 0) hp).2
   have h6 := hkn (erOb p.2) (by rw [← hob1]; exact List.mem_map.2 ⟨_, List.mem_of_getElem? h5, rfl⟩)
   simp only [Z0p, Z3e, List.all_map, List.all_eq_true, Function.comp_def] at h6
   have := h6 r hr l hl i (by rw [Z9u]; exact hi1)
   rw [hol]
   exact Z9w this
 have himmdc : ∀ p ∈ immS dc, p.2 = [] ∨ SubIn p (immS d) ∨ (lent = true ∧ ImmFact W p ∧ ∃ q ∈ ownS (⟨d.sl, rest, d.nx⟩ : S Value), q.1 = p.1.block) := by
  intro p hp
  obtain ⟨l, hl, hp⟩ := List.mem_flatMap.1 hp
  rcases mem_tops.1 hl with ⟨u0, hu0, hl⟩ | hl
  ·obtain ⟨u, hu1, rfl⟩ := List.mem_map.1 hu0
   exact (hargl u hu1 l hl).2.2.2.2 p hp
  ·obtain ⟨q, hq, r, hr, hl⟩ := mem_obLeaves.1 hl
   exact .inr (.inl (.of_mem (List.mem_flatMap.2 ⟨_, hrowl q hq r hr l hl, by rwa [Z7y]⟩)))
 have hgood : Good W dc := {
  wf := fun l hl => by
   rcases mem_tops.1 hl with ⟨u0, hu0, hl⟩ | hl
   ·obtain ⟨u, hu1, rfl⟩ := List.mem_map.1 hu0
    have := hargl u hu1 l hl
    exact ⟨this.2.2.1, this.2.2.2.1⟩
   ·obtain ⟨p, hp, r, hr, hl⟩ := mem_obLeaves.1 hl
    have := hi.good.wf _ (hrowl p hp r hr l hl)
    exact ⟨(Y2i g false l).1 this.1, Z7c hdc l this.2⟩
  obs := fun p hp => by
   have h5 := (Z2i (n := 0) hp).2
   obtain ⟨h, _, h7⟩ := hrow _ _ h5
   have := hi.good.obs _ (find?_key h7)
   simp only [Y2, List.map_eq_nil_iff, List.length_map] at this
   refine ⟨this.1, fun r hr => ?_⟩
   have := this.2 (r.map (renL g)) (List.mem_map.2 ⟨r, hr, rfl⟩)
   simpa using this
  ids := by
   show ((K9 hobs).map (·.1)).Nodup
   rw [Z6u]; exact List.nodup_range
  own := fun p hp => hi.good.own p (hperm0.mem_iff.2 (List.mem_append_left _ hp))
  nodup := hnd0.1
  imm := fun p hp hne => by
   rcases himmdc p hp with h0 | h0 | ⟨_, h0, q, hq, hqe⟩
   ·exact absurd h0 hne
   ·rcases h0 with h0 | ⟨q, hq, hs'⟩
    ·exact absurd h0 hne
    ·obtain ⟨k1, k2⟩ := hi.good.imm q hq (hs'.ne hne)
     exact ⟨hs'.fact k1, fun q2 hq2 => by rw [hs'.1]; exact k2 q2 (hperm0.mem_iff.2 (List.mem_append_left _ hq2))⟩
   ·exact ⟨h0, fun q2 hq2 e => hnd0.2.2 q2.1 (List.mem_map.2 ⟨q2, hq2, rfl⟩) q.1 (List.mem_map.2 ⟨q, hq, rfl⟩) (e.trans hqe.symm)⟩ }
 have hall : All2 UR args' (c.args.toList.map a.eval ++ cs'.map val) :=
  Y1v (Y0i (fun _ _ h => h.ur) hus2) (Y8w fun l _ => rfl)
 have hobk : (erS dc).ob = obs.zipIdx.map (fun q => (q.2, q.1)) := by
  rw [← hob1]
  simp only [dc, erS, mapS, K9, List.zipIdx_map, List.map_map]
  rfl
 have hcalls := hsim W dc args' _ rfl (by simp [args', hus1, ← hcs1, mapU, Function.comp_def]) hall hobk hgood hids
 unfold Oper.wp
 rw [hrun]
 simp only [Oper.upon]
 refine Calls.mono hcalls fun e W' he => ?_
 obtain ⟨y, d', rv, rfl, hd'sl, hrv, hd'ob, hvr, hend⟩ := he
 have hd'ob2 : d'.ob.map (fun p => (p.1, erOb p.2)) = K9 obs' := hd'ob
 obtain ⟨hk1, hk2⟩ := X8n hd'ob2
 generalize hno2 : d'.ob.map (·.2) = nobs at hk1 hk2
 have hm : obs'.length = nobs.length := by rw [← hk2]; simp
 have hk0 : hobs.length = hs.length := hlen.symm
 have hdcob : dc.ob.length = hs.length := by simp [dc, K9, hk0]
 have hhdr := hend.hdr
 rw [hdcob] at hhdr
 have hkm : hs.length ≤ nobs.length := by
  have := congrArg List.length hhdr
  simp only [List.length_map, List.length_take, hdcob] at this
  rw [hk1] at this
  simp [K9] at this
  omega
 have hh2 : ∀ (i : Nat) (o o' : Ob Value), hobs[i]? = some o → nobs[i]? = some o' → o'.h = o.h ∧ o'.n = o.n ∧ o'.rows.length = o.rows.length := by
  intro i o1 o2 ho1 ho2
  have hlt := (List.getElem?_eq_some_iff.1 ho1).1
  have e := congrArg (fun l => l[i]?) hhdr
  simp only [List.getElem?_map, List.getElem?_take] at e
  rw [if_pos (by omega)] at e
  have e1 : dc.ob[i]? = some (i, o1) := by
   show (K9 hobs)[i]? = _
   simp [K9, List.getElem?_map, List.getElem?_zipIdx, ho1]
  have e2 : d'.ob[i]? = some (i, o2) := by
   rw [hk1]
   simp [K9, List.getElem?_map, List.getElem?_zipIdx, ho2]
  rw [e1, e2] at e
  simp only [Option.map_some, Option.some.injEq, Prod.mk.injEq, true_and] at e
  exact e
 have hlen2 : nobs.length = obs'.length := hm.symm
 generalize hrr : Z4a hdV (nid + (nobs.length - hs.length)) (renV g rv) = rr
 obtain ⟨rv', ro⟩ := rr
 have herv := X2s (nid + (nobs.length - hs.length)) (renV g rv)
 rw [W2a, hrv, hrr] at herv
 simp only at herv
 rw [hm] at hf ⊢
 rw [herv] at hf ⊢
 simp only [List.length_append, List.length_map, List.length_drop, hm] at hf ⊢
 obtain ⟨hlv, hlo⟩ := Z8h hdV (nid + (nobs.length - hs.length)) (renV g rv)
 have hmm := Y0t (nid + (nobs.length - hs.length)) (Z3 (renV g rv))
 have hrokeys := Z6m hdV (nid + (nobs.length - hs.length)) (Z3 (renV g rv))
 have hroown := Y0s (nid + (nobs.length - hs.length)) (Z3 (renV g rv))
 rw [← hlv, ← hlo] at hmm
 rw [← hlo] at hrokeys
 rw [← hlv, ← hlo] at hroown
 rw [hrr] at hmm hrokeys hroown
 simp only at hmm hrokeys hroown
 have hrvk : ∀ l ∈ Z3 rv, l ∈ tops d' := fun l hl => mem_tops.2 (.inl ⟨rv, by rw [hd'sl]; simp, hl⟩)
 let nk := nobs.take hs.length
 let nn := nobs.drop hs.length
 let updV : List (Nat × List (List (L Value))) := hs.zip (nk.map fun ob => (Y2 g ob).rows)
 let obU := d.ob.map (updP updV)
 let newsA : List (Nat × Ob Value) := ((nn.map (Y2 g)).zipIdx nid).map (fun q => (q.2, q.1))
 let ob1 := obU ++ (newsA ++ ro)
 let d1 : S Value := ⟨d.sl ++ [rv'], ob1, d.nx + (nobs.length - hs.length + ro.length)⟩
 have hnkl : nk.length = hobs.length := by simp [nk]; omega
 have hnkg : ∀ (i : Nat) o', nk[i]? = some o' → nobs[i]? = some o' ∧ i < hs.length := fun i o' h => by
  have hlt := (List.getElem?_eq_some_iff.1 h).1
  simp only [nk, List.getElem?_take] at h
  split at h
  ·exact ⟨h, by omega⟩
  ·cases h
 have hnng : ∀ (i : Nat) o', nn[i]? = some o' → nobs[hs.length + i]? = some o' := fun i o' h => by
  simp only [nn, List.getElem?_drop] at h
  exact h
 have hU : obU.Perm (Z6q g hs nk ++ rest) := by
  have h5 := hperm.map (updP updV)
  rw [List.map_append, X4m hnd hlen hnkl (fun i o1 o2 a1 a2 => by
   have := hh2 i o1 o2 a1 (hnkg i o2 a2).1
   exact ⟨this.1, this.2.1⟩), X7u (upd := updV) (rest := rest) (fun p hp => by
   have e : updV.map (·.1) = hs := List.map_fst_zip (by simp [hnkl]; omega)
   rw [e]
   exact hrk p hp)] at h5
  exact h5
 have hUk : obU.map (·.1) = d.ob.map (·.1) := by
  simp only [obU, List.map_map]
  exact List.map_congr_left fun p _ => X7v updV p
 have hnewk : (newsA ++ ro).map (·.1) = List.range' nid (nobs.length - hs.length + ro.length) := by
  have e1 : newsA.map (·.1) = List.range' nid (nobs.length - hs.length) := by
   rw [Y0z]
   simp [nn]
  rw [List.map_append, e1, hrokeys, List.range'_append_1]
 have hnk : ∀ i, Z3h d i → i ∉ (newsA ++ ro).map (·.1) := fun i hk hm2 => by
  rw [hnewk, List.mem_range'_1] at hm2
  have := hf.1 i hk
  omega
 have hnodup : (ob1.map (·.1)).Nodup := by
  show ((obU ++ (newsA ++ ro)).map (·.1)).Nodup
  rw [List.map_append, List.nodup_append]
  refine ⟨by rw [hUk]; exact hi.good.ids, by rw [hnewk]; exact List.nodup_range', fun i hi2 j hj e => ?_⟩
  subst e
  rw [hUk] at hi2
  exact hnk i (.inr hi2) hj
 have hpk : ∀ p ∈ Z6q g hs nk, ∃ (j h : Nat) (ob ob0 : Ob Value), hs[j]? = some h ∧ nobs[j]? = some ob ∧ hobs[j]? = some ob0 ∧ p = (h, Y2 g ob) ∧ look d.ob h = some (Y2 g ob0) := by
  intro p hp
  obtain ⟨q, hq, rfl⟩ := List.mem_map.1 hp
  obtain ⟨j, hj⟩ := List.getElem?_of_mem hq
  rw [List.getElem?_zip_eq_some] at hj
  obtain ⟨a1, a2⟩ := hnkg j _ hj.2
  have a3 : hobs[j]? = some (hobs[j]'(by omega)) := List.getElem?_eq_getElem (by omega)
  exact ⟨j, _, _, _, hj.1, a1, a3, rfl, Z1i hob2 j _ _ hj.1 a3⟩
 have hrestm : ∀ p ∈ rest, p ∈ d.ob := fun p hp => hperm.mem_iff.2 (List.mem_append_right _ hp)
 have hnewm : ∀ p ∈ newsA, ∃ (j : Nat) (ob : Ob Value), nobs[j]? = some ob ∧ hs.length ≤ j ∧ p = (nid + (j - hs.length), Y2 g ob) := by
  intro p hp
  obtain ⟨a1, a2⟩ := Z2i hp
  rw [List.getElem?_map, Option.map_eq_some_iff] at a2
  obtain ⟨ob, a3, a4⟩ := a2
  refine ⟨hs.length + (p.1 - nid), ob, hnng _ _ a3, by omega, ?_⟩
  rw [a4]
  refine Prod.ext ?_ rfl
  simp only
  omega
 have hd'm : ∀ (j : Nat) ob, nobs[j]? = some ob → (j, ob) ∈ d'.ob := fun j ob h => by
  rw [hk1]
  have := Y2f (n := 0) h
  simpa [K9] using this
 have hd'l : ∀ (j : Nat) ob, nobs[j]? = some ob → ∀ r ∈ ob.rows, ∀ l ∈ r, l ∈ tops d' := fun j ob h r hr l hl =>
  mem_tops.2 (.inr (mem_obLeaves.2 ⟨_, hd'm j ob h, r, hr, hl⟩))
 have hkn' : ∀ l ∈ tops d', ∀ i ∈ idsL l, i < nobs.length := fun l hl i hi1 => by
  have := hend.known l hl i hi1
  rw [hk1] at this
  simpa [K9] using this
 have hL1 : ∀ (j : Nat) ob, nobs[j]? = some ob → look ob1 (g j) = some (Y2 g ob) := fun j ob h => by
  refine J2 hnodup ?_
  rcases Nat.lt_or_ge j hs.length with hj | hj
  ·have a1 : hs[j]? = some hs[j] := List.getElem?_eq_getElem hj
   rw [hgi j _ a1]
   refine List.mem_append_left _ (hU.mem_iff.2 (List.mem_append_left _ ?_))
   have a2 : nk[j]? = some ob := by simp [nk, List.getElem?_take, hj, h]
   exact List.mem_of_getElem? (Y4t a1 a2)
  ·rw [hge j hj]
   refine List.mem_append_right _ (List.mem_append_left _ ?_)
   exact Y2f (by
    rw [List.getElem?_map]
    have : nn[j - hs.length]? = some ob := by
     simp only [nn, List.getElem?_drop]
     rw [show hs.length + (j - hs.length) = j by omega]
     exact h
    rw [this]
    rfl)
 have hA : ∀ l ∈ tops d', wfL false (renL g l) ∧ W7 ob1 (renL g l) := fun l hl => by
  have h5 := hend.good.wf l hl
  refine ⟨(Y2i g false l).2 h5.1, Y8i (fun i hi1 o' ho' => ?_) h5.2⟩
  have hlt := hkn' l hl i hi1
  have a1 : nobs[i]? = some nobs[i] := List.getElem?_eq_getElem hlt
  rw [hL1 i _ a1] at ho'
  cases ho'
  refine ⟨nobs[i], ?_, rfl, rfl, by simp [Y2]⟩
  rw [hk1]
  exact keyed_look.2 a1
 have hB : ∀ l, Has d l → W7 ob1 l := fun l hh => by
  refine Z7u (fun i hi1 o' ho' => ?_) hh.2.1
  have hkw := hh.2.2.2 i hi1
  have hmem1 := find?_key ho'
  rcases List.mem_append.1 hmem1 with h5 | h5
  ·rcases List.mem_append.1 (hU.mem_iff.1 h5) with h5 | h5
   ·obtain ⟨j, h, ob, ob0, a1, a2, a3, a4, a5⟩ := hpk _ h5
    cases a4
    have := hh2 j ob0 ob a3 a2
    exact ⟨_, a5, by simp [Y2, this.1], by simp [Y2, this.2.1], by simp [Y2, this.2.2]⟩
   ·exact ⟨o', J2 hi.good.ids (hrestm _ h5), rfl, rfl, rfl⟩
  ·exact absurd (List.mem_map.2 ⟨_, h5, rfl⟩) (hnk i hkw)
 have hrvl : ∀ v' m' rows, (.os v' m' rows : L Value) ∈ Z3 (renV g rv) → (.os v' m' rows : L Value) ∈ Z3 rv := fun v' m' rows h => by
  rw [Z4m] at h
  obtain ⟨l0, a1, a2⟩ := List.mem_map.1 h
  cases l0 <;> simp only [renL, reduceCtorEq] at a2
  cases a2
  exact a1
 have hro : ∀ p ∈ ro, ∃ v' m' rows, (.os v' m' rows : L Value) ∈ Z3 rv ∧ p.2 = ⟨hdV v', m', rows⟩ ∧ X3p v' rows ∧ (∀ r ∈ rows, r.length = m') ∧ wfR true rows := fun p hp => by
  obtain ⟨v', m', rows, a1, a2⟩ := hmm.2 p hp
  have a3 := hrvl _ _ _ a1
  have := (hend.good.wf _ (hrvk _ a3)).1
  exact ⟨v', m', rows, a3, a2, this.1, this.2.1, this.2.2⟩
 have hrol : ∀ p ∈ ro, ∀ r ∈ p.2.rows, ∀ l ∈ r, wfL true l ∧ ∀ q ∈ immL l, q ∈ immS d' := fun p hp r hr l hl => by
  obtain ⟨v', m', rows, a1, a2, _, _, a5⟩ := hro p hp
  rw [a2] at hr
  refine ⟨(Z5h _ _).1 a5 r hr l hl, fun q hq => List.mem_flatMap.2 ⟨_, hrvk _ a1, ?_⟩⟩
  simp only [immL, Z4r]
  exact List.mem_flatMap.2 ⟨l, List.mem_flatten.2 ⟨r, hr, hl⟩, hq⟩
 have hwfo : ∀ l ∈ Z3 rv', wfL false l ∧ W7 ob1 l ∧ noOs l = true ∧ (∀ i ∈ idsL l, (∃ j, j < nobs.length ∧ i = g j) ∨ i ∈ ro.map (·.1)) ∧ ∀ q ∈ immL l, q ∈ immS d' := fun l hl => by
  rcases hmm.1 l hl with ⟨a1, a2⟩ | ⟨i, v', m', rows, rfl, a2, a3⟩
  ·rw [Z4m] at a1
   obtain ⟨l0, a3, rfl⟩ := List.mem_map.1 a1
   have := hA l0 (hrvk l0 a3)
   refine ⟨this.1, this.2, a2, fun i hi1 => ?_, fun q hq => ?_⟩
   ·rw [Y5i] at hi1
    obtain ⟨j, a4, rfl⟩ := List.mem_map.1 hi1
    exact .inl ⟨j, hkn' l0 (hrvk l0 a3) j a4, rfl⟩
   ·rw [Z7y] at hq
    exact List.mem_flatMap.2 ⟨l0, hrvk l0 a3, hq⟩
  ·have a4 := (hend.good.wf _ (hrvk _ (hrvl _ _ _ a2))).1
   have hown2 := a4.1
   have hv2 : ∃ a n c, v' = .slice a n c := by
    rcases hown2 with ⟨rfl, _⟩ | ⟨_, _, _, rfl, _⟩ <;> exact ⟨_, _, _, rfl⟩
   refine ⟨⟨rfl, hv2⟩, fun o2 ho2 => ?_, rfl, fun j hj => ?_, fun q hq => by simp [immL] at hq⟩
   ·rw [J2 hnodup (List.mem_append_right _ (List.mem_append_right _ a3))] at ho2
    cases ho2
    refine ⟨by simp, ?_⟩
    rcases hown2 with ⟨rfl, _⟩ | ⟨b, x, c, rfl, _⟩
    ·exact .inl ⟨rfl, rfl⟩
    ·exact .inr ⟨b, x, c, rfl, .inl (by simp)⟩
   ·simp only [idsL, List.mem_singleton] at hj
    subst hj
    exact .inr (List.mem_map.2 ⟨_, a3, rfl⟩)
 have htop1 : ∀ l ∈ tops d1, l ∈ tops d ∨ (∃ l0 ∈ tops d', l = renL g l0) ∨ l ∈ Z3 rv' ∨ ∃ p ∈ ro, ∃ r ∈ p.2.rows, l ∈ r := fun l hl => by
  rcases mem_tops.1 hl with ⟨u, hu, hl2⟩ | hl
  ·rcases List.mem_append.1 hu with hu | hu
   ·exact .inl (mem_tops.2 (.inl ⟨u, hu, hl2⟩))
   ·simp only [List.mem_singleton] at hu
    subst hu
    exact .inr (.inr (.inl hl2))
  ·obtain ⟨p, hp, r, hr, hl⟩ := mem_obLeaves.1 hl
   rcases List.mem_append.1 hp with hp | hp
   ·rcases List.mem_append.1 (hU.mem_iff.1 hp) with hp | hp
    ·obtain ⟨j, h, ob, ob0, a1, a2, a3, rfl, a5⟩ := hpk _ hp
     obtain ⟨r0, b1, rfl⟩ := List.mem_map.1 hr
     obtain ⟨l0, b2, rfl⟩ := List.mem_map.1 hl
     exact .inr (.inl ⟨l0, hd'l j ob a2 r0 b1 l0 b2, rfl⟩)
    ·exact .inl (mem_tops.2 (.inr (mem_obLeaves.2 ⟨p, hrestm p hp, r, hr, hl⟩)))
   ·rcases List.mem_append.1 hp with hp | hp
    ·obtain ⟨j, ob, a1, a2, rfl⟩ := hnewm _ hp
     obtain ⟨r0, b1, rfl⟩ := List.mem_map.1 hr
     obtain ⟨l0, b2, rfl⟩ := List.mem_map.1 hl
     exact .inr (.inl ⟨l0, hd'l j ob a1 r0 b1 l0 b2, rfl⟩)
    ·exact .inr (.inr (.inr ⟨p, hp, r, hr, hl⟩))
 have hinv1 : Inv B W' d1 := by
  refine X0x hi (rest := ownS ⟨d.sl, rest, d.nx⟩) hperm0 ?_ hend ?_ (fun p hp => ?_) (fun l hl => ?_) (fun p hp => ?_) hnodup (fun p hp hlt => ?_)
  ·rcases himf with h5 | ⟨h5, h6⟩
   ·left
    intro q hq hne
    rcases himmdc q hq with h7 | h7 | ⟨h7, _⟩
    ·exact absurd h7 hne
    ·rcases h7 with h7 | ⟨q', hq', hs'⟩
     ·exact absurd h7 hne
     ·exact ⟨q', hq', hs'.ne hne, hs'.1.symm⟩
    ·rw [h5] at h7; cases h7
   ·right
    simp only [immS, List.flatMap_eq_nil_iff]
    intro l hl
    rcases mem_tops.1 hl with ⟨u, hu, hl⟩ | hl
    ·rw [hd'sl] at hu
     simp only [List.mem_singleton] at hu
     subst hu
     rw [← hrv] at h5
     simp only [Z2h, Z9r, List.all_map, List.all_eq_true, Function.comp_def] at h5
     exact Y3h (h5 l hl)
    ·obtain ⟨p, hp, r, hr, hl⟩ := mem_obLeaves.1 hl
     have h7 := h6 (erOb p.2) (by rw [← hk2, ← hno2]; exact List.mem_map.2 ⟨p.2, List.mem_map.2 ⟨p, hp, rfl⟩, rfl⟩)
     have h8 : immR p.2.rows = [] := Y1q (by rw [Z1m]; exact h7)
     rw [Z4r, List.flatMap_eq_nil_iff] at h8
     exact h8 l (List.mem_flatten.2 ⟨r, hr, hl⟩)
  ·classical
   refine List.perm_iff_count.2 fun q => ?_
   have c1 := List.perm_iff_count.1 (V3 d1) q
   have c2 := List.perm_iff_count.1 (V3 d') q
   have c3 := List.perm_iff_count.1 (V3 ⟨d.sl, rest, d.nx⟩) q
   have c4 := List.perm_iff_count.1 (hU.flatMap_right Q8) q
   have c5 := List.perm_iff_count.1 (W2p ro) q
   have c6 := List.perm_iff_count.1 hroown.2 q
   have c7 : newsA.flatMap Q8 = nn.flatMap (fun o => Q8 (0, o)) := by
    rw [Z9f, List.flatMap_map]
    exact ownOb_ren.flatMap_congr' fun o _ => ownOb_ren g 0 0 o
   have c8 : (Z6q g hs nk).flatMap Q8 = nk.flatMap (fun o => Q8 (0, o)) := Y4s (by rw [hnkl, hk0])
   have c9 : d'.ob.flatMap Q8 = nk.flatMap (fun o => Q8 (0, o)) ++ nn.flatMap (fun o => Q8 (0, o)) := by
    rw [← List.flatMap_append, List.take_append_drop, hk1]
    exact Z9f 0 nobs
   have c10 : (Z3 (renV g rv)).flatMap ownL = (Z3 rv).flatMap ownL := by
    rw [Z4m, List.flatMap_map]
    exact ownOb_ren.flatMap_congr' fun l _ => Y9v g l
   rw [c10] at c6
   rw [c9] at c2
   simp only [List.flatMap_append, c8, List.count_append] at c4
   simp only [d1, ob1, List.flatMap_append, c7, List.flatMap_cons, List.flatMap_nil, List.append_nil, hroown.1, List.count_append] at c1
   simp only [hd'sl, List.flatMap_cons, List.flatMap_nil, List.append_nil, List.count_append] at c2
   simp only [List.count_append] at c3 c5 c6 ⊢
   have c11 : List.count q (ownS d1) = _ := c1
   omega
  ·obtain ⟨l, hl, hp⟩ := List.mem_flatMap.1 hp
   rcases htop1 l hl with h5 | ⟨l0, h5, rfl⟩ | h5 | ⟨q, hq, r', hr', h5⟩
   ·exact .inl (.of_mem (List.mem_flatMap.2 ⟨l, h5, hp⟩))
   ·rw [Z7y] at hp
    exact .inr (List.mem_flatMap.2 ⟨l0, h5, hp⟩)
   ·exact .inr ((hwfo l h5).2.2.2.2 p hp)
   ·exact .inr ((hrol q hq r' hr' l h5).2 p hp)
  ·rcases htop1 l hl with h5 | ⟨l0, h5, rfl⟩ | h5 | ⟨q, hq, r', hr', h5⟩
   ·have hh := Z8a hi.good h5
    exact ⟨hh.1, hB l hh⟩
   ·exact hA l0 h5
   ·exact ⟨(hwfo l h5).1, (hwfo l h5).2.1⟩
   ·have := Z6k (hrol q hq r' hr' l h5).1
    exact ⟨this.1, this.2.1 _⟩
  ·have hren : ∀ (j : Nat) ob, nobs[j]? = some ob → (((Y2 g ob).h = .slice none 0 0 ∧ (Y2 g ob).rows = []) ∨ ∃ b x c, (Y2 g ob).h = .slice (some ⟨b, x, none⟩) 0 c ∧ (Y2 g ob).rows.length ≤ c ∧ (Y2 g ob).rows.length ≤ LIM) ∧ ∀ r ∈ (Y2 g ob).rows, r.length = (Y2 g ob).n := fun j ob h => by
    have := hend.good.obs _ (hd'm j ob h)
    simp only at this
    refine ⟨by simpa [Y2] using this.1, fun r hr => ?_⟩
    obtain ⟨r0, b1, rfl⟩ := List.mem_map.1 hr
    simpa [Y2] using this.2 r0 b1
   rcases List.mem_append.1 hp with hp | hp
   ·rcases List.mem_append.1 (hU.mem_iff.1 hp) with hp | hp
    ·obtain ⟨j, h, ob, ob0, a1, a2, a3, rfl, a5⟩ := hpk _ hp
     exact hren j ob a2
    ·exact hi.good.obs p (hrestm p hp)
   ·rcases List.mem_append.1 hp with hp | hp
    ·obtain ⟨j, ob, a1, a2, rfl⟩ := hnewm _ hp
     exact hren j ob a1
    ·obtain ⟨v', m', rows, _, a2, a3, a4, _⟩ := hro p hp
     rw [a2]
     refine ⟨?_, a4⟩
     rcases a3 with ⟨rfl, rfl⟩ | ⟨b, x, c, rfl, a5, a6⟩
     ·exact .inl ⟨rfl, rfl⟩
     ·exact .inr ⟨b, x, c, rfl, a5, a6⟩
  ·rcases List.mem_append.1 hp with hp | hp
   ·rcases List.mem_append.1 (hU.mem_iff.1 hp) with hp | hp
    ·obtain ⟨j, h, ob, ob0, a1, a2, a3, rfl, a5⟩ := hpk _ hp
     have := hi.hdr _ (find?_key a5) hlt
     simp only [Y2] at this ⊢
     rw [(hh2 j ob0 ob a3 a2).1]
     exact this
    ·exact hi.hdr p (hrestm p hp) hlt
   ·have : p.1 ∈ (newsA ++ ro).map (·.1) := List.mem_map.2 ⟨p, hp, rfl⟩
    rw [hnewk, List.mem_range'_1] at this
    have := hf.2
    omega
 obtain ⟨hinv2, htop2⟩ := X8q (sl := d.sl) (ob := ob1) (nx := d.nx + (nobs.length - hs.length + ro.length)) hinv1 (fun l hl => (hwfo l hl).2.2.1) o.dst
 refine ⟨U1 ⟨d.sl, ob1, d.nx + (nobs.length - hs.length + ro.length)⟩ o.dst rv', ?_, hinv2, SlR.put (d := ⟨d.sl, ob1, d.nx + (nobs.length - hs.length + ro.length)⟩) ⟨hsl.1, hsl.2⟩ o.dst ?_, by rw [Z6n]; exact hdef, fun i hk => ?_⟩
 ·have k1 : updV.map (fun q => (q.1, q.2.map fun r => r.map erL)) = hs.zip ((obs'.take hs.length).map fun ob => (Y2 g ob).rows) := by
   rw [← hk2, ← List.map_take, List.map_map]
   simp only [updV, nk]
   rw [List.zip_map_right, List.zip_map_right, List.map_map]
   refine List.map_congr_left fun q _ => ?_
   simp only [Function.comp, Prod.map, id]
   refine Prod.ext rfl ?_
   show _ = (Y2 g (erOb q.2)).rows
   rw [← Y8h]
   rfl
  have k2 : (obs'.drop hs.length).map (Y2 g) = (nn.map (Y2 g)).map erOb := by
   rw [← hk2, ← List.map_drop, List.map_map, List.map_map]
   exact List.map_congr_left fun ob _ => (Y8h g ob).symm
  have k3 : (((ro.map (fun p => (p.1, erOb p.2))).map (·.2)).zipIdx (nid + (nobs.length - hs.length))).map (fun q => (q.2, q.1)) = ro.map (fun p => (p.1, erOb p.2)) := by
   refine X6j _ _ ?_
   rw [List.map_map, List.length_map, ← hrokeys]
   rfl
  rw [Y0x]
  unfold appE app
  congr 1
  simp only [erS, mapS, S.mk.injEq, true_and]
  refine ⟨?_, ?_⟩
  ·have k4 : obU.map (fun p => (p.1, erOb p.2)) = (d.ob.map (fun p => (p.1, erOb p.2))).map (updP (hs.zip ((obs'.take hs.length).map fun ob => (Y2 g ob).rows))) := by
    rw [← k1, List.map_map, List.map_map]
    exact List.map_congr_left fun p _ => W1f updV p
   have k5 : (d.ob.map (fun p => (p.1, erOb p.2))).filter (fun p => !([] : List Nat).contains p.1) = d.ob.map (fun p => (p.1, erOb p.2)) := List.filter_eq_self.2 (fun _ _ => rfl)
   have k6 : nn.length = nobs.length - hs.length := by simp [nn]
   rw [k5, ← k4, k2, List.zipIdx_append]
   simp only [List.length_map, ob1, List.map_append, k6]
   rw [k3]
   congr 2
   simp only [newsA, List.zipIdx_map, List.map_map]
   rfl
  ·simp [hm]
 ·have := X2t (n := nid + (nobs.length - hs.length)) (W4s g hvr)
  rw [hrr] at this
  exact this
 ·have hgk : ∀ j, j < nobs.length → Z3h d (g j) ∨ (nid ≤ g j ∧ g j < nid + (nobs.length - hs.length + ro.length)) := fun j hj => by
   rcases Nat.lt_or_ge j hs.length with h5 | h5
   ·have a1 : hs[j]? = some hs[j] := List.getElem?_eq_getElem h5
    rw [hgi j _ a1]
    have a2 := Z1i hob2 j _ _ a1 (List.getElem?_eq_getElem (by omega))
    exact .inl (.inr (List.mem_map.2 ⟨_, find?_key a2, rfl⟩))
   ·rw [hge j h5]
    exact .inr (by omega)
  rcases hk with ⟨l, hl, hi2⟩ | hi2
  ·rcases htop1 l (htop2 l hl) with h5 | ⟨l0, h5, rfl⟩ | h5 | ⟨q, hq, r', hr', h5⟩
   ·exact .inl (.inl ⟨l, h5, hi2⟩)
   ·rw [Y5i] at hi2
    obtain ⟨j, a4, rfl⟩ := List.mem_map.1 hi2
    exact hgk j (hkn' l0 h5 j a4)
   ·rcases (hwfo l h5).2.2.2.1 i hi2 with ⟨j, hj, rfl⟩ | h6
    ·exact hgk j hj
    ·have : i ∈ (newsA ++ ro).map (·.1) := by rw [List.map_append]; exact List.mem_append_right _ h6
     rw [hnewk, List.mem_range'_1] at this
     exact .inr this
   ·rw [(Z6k (hrol q hq r' hr' l h5).1).2.2] at hi2; cases hi2
  ·rw [Z4y] at hi2
   have hi2 : i ∈ (obU ++ (newsA ++ ro)).map (·.1) := hi2
   rw [List.map_append, List.mem_append] at hi2
   rcases hi2 with hi2 | hi2
   ·rw [hUk] at hi2
    exact .inl (.inr hi2)
   ·rw [hnewk, List.mem_range'_1] at hi2
    exact .inr hi2
end
section
def updO : List (Nat × Ob Unit) → OAsg → OAsg
 | [], oa => oa
 | (i, o) :: l, oa => updO l ((i, some o) :: oa)
theorem W1g {ob : List (Nat × Ob Unit)} {h : Nat} {rows : List (List (L Unit))} {l : List (Nat × List (List (L Unit)))} (hn : h ∉ l.map (·.1)) : ob.map (updP ((h, rows) :: l)) = (K0 ob h rows).map (updP l) := by
 simp only [K0, List.map_map]
 refine List.map_congr_left fun p _ => ?_
 simp only [Function.comp]
 by_cases hp : p.1 = h
 ·subst hp
  rw [if_pos rfl]
  unfold updP
  simp only [List.lookup_cons, beq_self_eq_true, Y1j hn]
 ·rw [if_neg hp]
  unfold updP
  simp only [List.lookup_cons]
  have : (p.1 == h) = false := by simpa using hp
  rw [this]
theorem W2y {oa : OAsg} {nx i j : Nat} (o : Option (Ob Unit)) (h : i ≠ j) : lko ((i, o) :: oa) nx j = lko oa nx j := by
 simp only [lko, Y0n oa o h]
theorem X5j {nx : Nat} : ∀ {l : List (Nat × Ob Unit)} {oa : OAsg}, (l.map (·.1)).Nodup → (∀ p ∈ l, ∃ o, lko oa nx p.1 = some o ∧ o.n = p.2.n) → obOf (updO l oa) nx = (obOf oa nx).map (updP (l.map fun p => (p.1, p.2.rows)))
 | [], oa, _, _ => by simp [updO, Y3a]
 | (h, o) :: l, oa, hn, hl => by
  simp only [List.map_cons, List.nodup_cons] at hn
  obtain ⟨o0, h1, h2⟩ := hl (h, o) (by simp)
  simp only at h1 h2
  have e : (⟨(), o.n, o.rows⟩ : Ob Unit) = ⟨o0.h, o0.n, o.rows⟩ := by rw [h2]
  have ho : o = ⟨o0.h, o0.n, o.rows⟩ := by rw [← e]
  have h3 := Y1g h1 o.rows
  rw [← ho] at h3
  simp only [updO, List.map_cons]
  rw [X5j hn.2 (fun p hp => by
   obtain ⟨o1, a1, a2⟩ := hl p (by simp [hp])
   refine ⟨o1, ?_, a2⟩
   rw [W2y _ (fun e => hn.1 (by rw [e]; exact List.mem_map.2 ⟨p, hp, rfl⟩))]
   exact a1), h3]
  rw [W1g (by rw [List.map_map]; exact hn.1)]
def dstA (dst : Option Nat) (v : V Unit) (asg : Asg) : Asg := match dst with
 | some t => (t, v) :: asg
 | none => asg
def oaG (g : Nat → Nat) (nx : Nat) (hs : List Nat) (obs' : List (Ob Unit)) (nobs : List (Nat × Ob Unit)) (oa : OAsg) : OAsg :=
 Z6p nobs (Z6p ((((obs'.drop hs.length).map (Y2 g)).zipIdx nx).map fun q => (q.2, q.1)) (updO (hs.zip ((obs'.take hs.length).map (Y2 g))) oa))
section
variable {P : Program} {N nx : Nat} {asg : Asg} {oa : OAsg} {K : S Unit → Prop}
theorem W6v {dst : Option Nat} {r v : V Unit} {nobs : List (Nat × Ob Unit)} {hs : List Nat} {obs obs' : List (Ob Unit)} {g : Nat → Nat} {rd : List Nat} (hnd : hs.Nodup) (hh : All2 (fun h ob => lko oa nx h = some (Y2 g ob)) hs obs)
  (hn : (obs'.take hs.length).map (·.n) = obs.map (·.n)) (hroot : Z4a (fun _ => ()) (nx + (obs'.length - hs.length)) (renV g r) = (v, nobs)) :
  appE (St N asg oa nx) dst nx { v := (Z4a (fun _ => ()) (nx + (obs'.length - hs.length)) (renV g r)).1, rd := rd, news := (obs'.drop hs.length).map (Y2 g) ++ (Z4a (fun _ => ()) (nx + (obs'.length - hs.length)) (renV g r)).2.map (·.2), upd := hs.zip ((obs'.take hs.length).map fun ob => (Y2 g ob).rows) } = St N (dstA dst v asg) (oaG g nx hs obs' nobs oa) (nx + (obs'.length - hs.length + nobs.length)) := by
 have hlen := Z3g hh
 have hlk : (obs'.take hs.length).length = hs.length := by
  have := congrArg List.length hn
  simp only [List.length_map] at this
  omega
 have hk : nobs.map (·.1) = List.range' (nx + (obs'.length - hs.length)) nobs.length := by
  have := Z6m (fun _ : Unit => ()) (nx + (obs'.length - hs.length)) (Z3 (renV g r))
  have h2 := (Z8h (fun _ : Unit => ()) (nx + (obs'.length - hs.length)) (renV g r)).2
  rw [← h2, hroot] at this
  exact this
 have hre := X6j _ nobs hk
 have k1 : (hs.zip ((obs'.take hs.length).map (Y2 g))).map (fun p => (p.1, p.2.rows)) = hs.zip ((obs'.take hs.length).map fun ob => (Y2 g ob).rows) := by
  rw [List.zip_map_right, List.zip_map_right, List.map_map]
  rfl
 have k2 : obOf (updO (hs.zip ((obs'.take hs.length).map (Y2 g))) oa) nx = (obOf oa nx).map (updP (hs.zip ((obs'.take hs.length).map fun ob => (Y2 g ob).rows))) := by
  rw [X5j ?_ ?_, k1]
  ·rw [List.map_fst_zip (by simp only [List.length_map]; omega)]
   exact hnd
  ·intro p hp
   obtain ⟨i, hi⟩ := List.getElem?_of_mem hp
   rw [List.getElem?_zip_eq_some, List.getElem?_map, Option.map_eq_some_iff] at hi
   obtain ⟨h1, ob', h2, h3⟩ := hi
   have hlt := (List.getElem?_eq_some_iff.1 h1).1
   have h4 : obs[i]? = some (obs[i]'(by omega)) := List.getElem?_eq_getElem (by omega)
   refine ⟨_, Z1i hh i _ _ h1 h4, ?_⟩
   have h5 := congrArg (fun l => l[i]?) hn
   simp only [List.getElem?_map, h2, h4, Option.map_some, Option.some.injEq] at h5
   rw [← h3]
   exact h5.symm
 have k3 : ((((obs'.drop hs.length).map (Y2 g)).zipIdx nx).map (fun q => (q.2, q.1))).map (·.1) = List.range' nx ((((obs'.drop hs.length).map (Y2 g)).zipIdx nx).map (fun q => (q.2, q.1))).length := by
  rw [Y0z]
  simp
 have kl : ((((obs'.drop hs.length).map (Y2 g)).zipIdx nx).map (fun q => (q.2, q.1))).length = obs'.length - hs.length := by simp
 have k4 := Y4u _ (updO (hs.zip ((obs'.take hs.length).map (Y2 g))) oa) nx k3
 rw [kl] at k4
 have k5 := Y4u nobs (Z6p ((((obs'.drop hs.length).map (Y2 g)).zipIdx nx).map fun q => (q.2, q.1)) (updO (hs.zip ((obs'.take hs.length).map (Y2 g))) oa)) (nx + (obs'.length - hs.length)) hk
 rw [k4, k2] at k5
 have k6 : nx + (obs'.length - hs.length + nobs.length) = nx + (obs'.length - hs.length) + nobs.length := by omega
 have e1 : ∀ (oa' : OAsg) (nx' : Nat), St N (dstA dst v asg) oa' nx' = U1 ⟨Z1k N asg, obOf oa' nx', nx'⟩ dst v := fun oa' nx' => by
  cases dst with
  | none => rfl
  | some t => simp only [dstA, St, U1, Z5r]
 rw [e1]
 unfold appE app
 rw [hroot]
 simp only
 congr 1
 have k7 : (obOf oa nx).filter (fun p => !([] : List Nat).contains p.1) = obOf oa nx := List.filter_eq_self.2 (fun _ _ => rfl)
 have k8 : ((((obs'.drop hs.length).map (Y2 g)) ++ nobs.map (·.2)).zipIdx nx).map (fun q => (q.2, q.1)) = (((obs'.drop hs.length).map (Y2 g)).zipIdx nx).map (fun q => (q.2, q.1)) ++ nobs := by
  rw [List.zipIdx_append, List.map_append]
  congr 1
  simp only [List.length_map, List.length_drop]
  exact hre
 simp only [St, S.mk.injEq, true_and]
 refine ⟨?_, by simp⟩
 rw [k7, k8, k6]
 unfold oaG
 rw [k5, List.append_assoc]
theorem x_cg {dst : Option Nat} {ty : TypeId} {pos : String} {aft : Array Edge} {x : Operand} {args : Array Operand} {ats : Array TypeId} {f : FuncId} {caps cs : List (L Unit)} {us : List (U Unit)} {r v : V Unit} {nobs : List (Nat × Ob Unit)} {oa' : OAsg} {nx' : Nat} {obs obs' : List (Ob Unit)}
  (hs : List Nat) (lent : Bool) (hf : ev N asg x = some (.u (.one (.fn () f caps)))) (hnd : hs.Nodup) (hh : All2 (fun h ob => lko oa nx h = some (Y2 (gG hs nx) ob)) hs obs) (hkn : obs.all (fun ob => Z0p hs.length ob.rows) = true)
  (ha : ArgsG (St N asg oa nx) (gG hs nx) hs lent args.toList us) (hcaps : caps = cs.map (renL (gG hs nx))) (hck : cs.all (okK hs.length) = true) (hent : Ent P f) (hsim : Sim P f (us ++ cs.map .one) obs r obs')
  (himf : lent = false ∨ (Z2h r = true ∧ obs'.all (fun ob => Z7m ob.rows) = true)) (hn : (obs'.take hs.length).map (·.n) = obs.map (·.n)) (hroot : Z4a (fun _ => ()) (nx + (obs'.length - hs.length)) (renV (gG hs nx) r) = (v, nobs))
  (hoa : oaG (gG hs nx) nx hs obs' nobs oa = oa') (hnx : nx + (obs'.length - hs.length + nobs.length) = nx') (hK : K (St N (dstA dst v asg) oa' nx')) : aopK (sysA P) 0 ⟨dst, .call ⟨.value x, args, ats⟩, ty, pos, aft, none⟩ (St N asg oa nx) K := by
 subst hoa hnx
 have hh' : All2 (fun h ob => look (St N asg oa nx).ob h = some (Y2 (gG hs nx) ob)) hs obs := Y0i (fun _ _ h => Q0 h) hh
 refine ⟨_, fun h => absurd rfl h, Y2j ⟨⟨.value x, args, ats⟩, f, caps, cs, us, hs, obs, obs', r, lent, rfl, ?_, hnd, hh', List.all_eq_true.1 hkn, ha, hcaps, hck, hent, hsim, himf.imp id fun h => ⟨h.1, List.all_eq_true.1 h.2⟩, rfl⟩, fun _ => ?_⟩
 ·simp only [calE, Z2e hf]
 ·have e := W6v (rd := []) (N := N) (asg := asg) (dst := dst) hnd hh hn hroot
  rw [← e] at hK
  exact hK
variable {g : Nat → Nat} {hs : List Nat} {lent : Bool}
theorem h_n : All2 (fun h ob => lko oa nx h = some (Y2 g ob)) [] [] := .nil
theorem h_c {h : Nat} {ob : Ob Unit} {hs : List Nat} {obs : List (Ob Unit)} (h1 : lko oa nx h = some (Y2 g ob)) (h2 : All2 (fun h ob => lko oa nx h = some (Y2 g ob)) hs obs) : All2 (fun h ob => lko oa nx h = some (Y2 g ob)) (h :: hs) (ob :: obs) := .cons h1 h2
theorem g_an {x : Operand} {xs : List Operand} {ls0 ls : List (L Unit)} {us : List (U Unit)} (hv : ev N asg x = some (.u (.agg ls0))) (hr : All2 (NlL g) ls0 ls) (hk : ls.all (okK hs.length) = true) (ht : ArgsG (St N asg oa nx) g hs lent xs us) : ArgsG (St N asg oa nx) g hs lent (x :: xs) (.agg ls :: us) :=
 .givn (Y8z hv) hr hk ht
theorem g_n : ArgsG (St N asg oa nx) g hs lent [] [] := .nil
theorem g_1 {x : Operand} {xs : List Operand} {l0 l : L Unit} {us : List (U Unit)} (hv : ev N asg x = some (.u (.one l0))) (hr : l0 = renL g l) (hk : okK hs.length l = true) (ht : ArgsG (St N asg oa nx) g hs lent xs us) : ArgsG (St N asg oa nx) g hs lent (x :: xs) (.one l :: us) :=
 .given (by rw [Y8z hv, hr]; rfl) (by simp only [Z1, List.all_cons, hk, List.all_nil, Bool.and_self]) ht
theorem g_a {x : Operand} {xs : List Operand} {ls0 ls : List (L Unit)} {us : List (U Unit)} (hv : ev N asg x = some (.u (.agg ls0))) (hr : ls0 = ls.map (renL g)) (hk : ls.all (okK hs.length) = true) (ht : ArgsG (St N asg oa nx) g hs lent xs us) : ArgsG (St N asg oa nx) g hs lent (x :: xs) (.agg ls :: us) :=
 .given (by rw [Y8z hv, hr]; rfl) hk ht
end
end
section
section
variable {P : Program} {B : Bd} {N nx : Nat} {asg : Asg} {oa : OAsg}
theorem f_end {us us' : List (U Unit)} {obs' : List (Ob Unit)} {k0 : Nat} (ids : List Nat) (hu : us = us'.map (renU (gG ids 0))) (hh : All2 (fun h ob => lko oa nx h = some (Y2 (gG ids 0) ob)) ids obs') (hnd : ids.Nodup)
  (hk : us'.all (fun u => (Z1 u).all fun l => (idsL l).all fun i => Nat.blt i ids.length) = true) (hkr : obs'.all (fun o => Z0p ids.length o.rows) = true) (hB : B.n0 = k0) (hpre : ids.take k0 = List.range k0) (hk0 : Nat.ble k0 ids.length = true) :
  GhB B (Rt us oa nx) ⟨us'.map .u, K9 obs', ids.length⟩ := by
 have hlen := Z3g hh
 have hk0' := Nat.le_of_ble_eq_true hk0
 have hgi : ∀ i (h : i < ids.length), gG ids 0 i = ids[i] := fun i h => W3p (List.getElem?_eq_getElem h)
 refine GhB.view (gG ids 0) (by simp [Rt, hu]) (fun t v' hv => ?_) (fun p hp => ?_) (by rw [Z6u]; exact List.nodup_range) (fun i j hi hj e => ?_) (fun i hi => ?_) (by rw [hB]; exact hk0') (fun i hi => ?_)
 ·right
  simp only [List.getElem?_map, Option.map_eq_some_iff] at hv
  obtain ⟨u', h1, rfl⟩ := hv
  simp only [Rt, hu, List.getElem?_map, h1, Option.map_some]
  rfl
 ·have h1 := (Z2i (n := 0) hp).2
  simp only [Nat.sub_zero] at h1
  have hlt := (List.getElem?_eq_some_iff.1 h1).1
  rw [hgi p.1 (by omega)]
  exact Q0 (N := 0) (asg := []) (Z1i hh p.1 _ _ (List.getElem?_eq_getElem (by omega)) h1)
 ·simp only at hi hj
  rw [hgi i hi, hgi j hj] at e
  exact (List.getElem_inj hnd).1 e
 ·show i < ids.length
  rcases hi with ⟨l, hl, hi⟩ | hi
  ·rcases mem_tops.1 hl with ⟨v, hv, hl⟩ | hl
   ·obtain ⟨u, hu2, rfl⟩ := List.mem_map.1 hv
    simp only [List.all_eq_true] at hk
    exact Z9w (hk u hu2 l hl i hi)
   ·obtain ⟨p, hp, r, hr, hl⟩ := mem_obLeaves.1 hl
    have h1 := (Z2i (n := 0) hp).2
    simp only [List.all_eq_true, Z0p] at hkr
    exact Z9w (hkr _ (List.mem_of_getElem? h1) r hr l hl i hi)
  ·have : i ∈ (K9 obs').map (·.1) := hi
   rw [Z6u, List.mem_range] at this
   omega
 ·rw [hB] at hi
  rw [hgi i (by omega)]
  have h1 : (ids.take k0)[i]? = (List.range k0)[i]? := by rw [hpre]
  rw [List.getElem?_take, if_pos hi, List.getElem?_eq_getElem (by omega), List.getElem?_range hi] at h1
  exact Option.some.inj h1
theorem retG {rs : List ResultVar} {us us' : List (U Unit)} {r : V Unit} {e : Exit} {nx' : Nat} {obs obs' : List (Ob Unit)} (he : (match e with | .normal => true | .ret => true | _ => false) = true) (hr : Z9a P (St N asg oa nx).sl (look (St N asg oa nx).ob) rs = some us)
  (hg : GhB B (Rt us oa nx) ⟨us'.map .u, K9 obs', nx'⟩) (hrr : resR us' = r) (hs : (obs'.take obs.length).map Z8g = obs.map Z8g) (hl : Nat.ble obs.length obs'.length = true)
  (hk : us'.all (fun u => (Z1 u).all fun l => (idsL l).all fun i => Nat.blt i obs'.length) = true) (hkr : obs'.all (fun o => Z0p obs'.length o.rows) = true) : RetQ P B rs obs r obs' e (St N asg oa nx) :=
 ⟨by cases e <;> simp_all, us, hr, us', nx', hg, hrr, hs, Nat.le_of_ble_eq_true hl, hk, hkr⟩
end
end
section
section
variable {P : Program} {Y : Sys P}
theorem Y0y {ops : Array Oper} {post : List Oper} {B : Bd} {Q : Exit → Act → World → Prop} {K : S Unit → Prop} (hK : ∀ s a W, K s → Rel B s a W → wpList P ops Q post a W) :
  ∀ (rest : List Oper) (s : S Unit) (a : Act) (W : World), J8 Y ops.toList rest s K → Rel B s a W → wpList P ops Q (rest ++ post) a W
 | [], s, a, W, h, hr => hK s a W h hr
 | o :: rest, s, a, W, h, hr => by
  have run : ∀ s a W, aop Y o s (fun e => J8 Y ops.toList rest (appE s o.dst s.nx e) K) → Rel B s a W → o.wp P a W (wpList P ops Q (rest ++ post)) Q := by
   intro s a W h hr
   obtain ⟨e, he, h⟩ := h
   obtain ⟨h1, h2⟩ := hr.step (Y.ok he)
   exact Z9i (Oper.wp_mono (fun a' W' hr' => Y0y hK rest _ a' W' (h h1) hr') h2)
  have run2 : ∀ s a W, aop Y ⟨o.dst, o.op, o.type, o.pos, o.after, none⟩ s (fun e => J8 Y ops.toList rest (appE s o.dst s.nx e) K) → Rel B s a W → o.wp P a W (wpList P ops Q (rest ++ post)) Q := by
   intro s a W h hr
   obtain ⟨e, he, h⟩ := h
   obtain ⟨h1, h2⟩ := hr.step (Y.ok he)
   have h3 : o.wp P a W (fun a' W' => Rel B (appE s o.dst s.nx e) a' W') (fun _ _ _ => False) := h2
   exact Z9i (Oper.wp_mono (fun a' W' hr' => Y0y hK rest _ a' W' (h h1) hr') h3)
  simp only [J8] at h
  simp only [List.cons_append, wpList]
  split at h
  ·rename_i hg
   rw [Y1a hg, if_pos rfl]
   exact .inl (run s a W h hr)
  ·rename_i j want hg
   split at h
   ·cases h
   ·rename_i t hj
    rw [Array.getElem?_toList] at hj
    split at h
    ·rename_i b hb
     obtain ⟨d, rfl, hi, hs, hdef, hk⟩ := hr
     have hw := Y3v hg hj (Y2n hs hb)
     rw [hw]
     by_cases hbw : b = want
     ·subst hbw
      simp only [beq_self_eq_true, if_true]
      have h1 := h.1 rfl
      rw [Z2g hb] at h1
      exact .inl (run2 _ a W h1 ⟨d, rfl, hi, hs, hdef, hk⟩)
     ·have hbn : b = !want := by cases b <;> cases want <;> simp_all
      have : (b == want) = false := by simpa using hbw
      rw [this, if_neg (by simp)]
      subst hbn
      have h2 := h.2 rfl
      rw [Z2g hb] at h2
      exact Y0y hK rest _ _ _ h2 (Rel.skip ⟨d, rfl, hi, hs, hdef, hk⟩ o.dst)
    ·rename_i hb
     obtain ⟨d, rfl, hi, hs, hdef, hk⟩ := hr
     have hw := Y8y hg hj (X6f hs hb)
     rw [hw, if_neg (by simp)]
     exact Y0y hK rest _ _ _ h (Rel.skip ⟨d, rfl, hi, hs, hdef, hk⟩ o.dst)
    ·cases h
def WpO (P : Program) (B : Bd) (ops : List Oper) (Q : Exit → S Unit → Prop) (rest : List Oper) (s : S Unit) : Prop :=
 ∀ a W, Rel B s a W → wpList P ops.toArray (fun e a' W' => ∃ s', Rel B s' a' W' ∧ Q e s') rest a W
variable {B : Bd} {Q : Exit → S Unit → Prop} {ops rest : List Oper} {s s' : S Unit}
theorem X7 {id : Nat} (h : WpO P B ops Q ops s) : Wp (P := P) B (.region id ops.toArray false) Q s := by
 intro a W hr
 have := h a W hr
 refine wp_region ?_
 have e := wpOps_eq_wpList (P := P) (ops := ops.toArray) (Q := fun e a' W' => ∃ s', Rel B s' a' W' ∧ Q e s') ops 0 (by simp)
 rw [← List.range_eq_range'] at e
 have h2 : (List.range ops.toArray.size) = List.range ops.length := by simp
 rw [h2, e]
 exact this
theorem X6s (k : Nat) (h : J8 Y ops (rest.take k) s (fun s' => WpO P B ops Q (rest.drop k) s')) : WpO P B ops Q rest s := by
 intro a W hr
 have := Y0y (Y := Y) (ops := ops.toArray) (post := rest.drop k) (B := B) (Q := fun e a' W' => ∃ s', Rel B s' a' W' ∧ Q e s') (K := fun s' => WpO P B ops Q (rest.drop k) s') (fun s a W h hr => h a W hr) (rest.take k) s a W (by simpa using h) hr
 rwa [List.take_append_drop] at this
theorem W5 (h : Q .normal s) : WpO P B ops Q [] s := fun _ _ hr => ⟨_, hr, h⟩
theorem WpO.ghb (hg : GhB B s s') (h : WpO P B ops Q rest s') : WpO P B ops Q rest s := fun a W hr => h a W (hg a W hr)
end
end
section
section
variable {P : Program} {N nx t : Nat} {asg : Asg} {oa : OAsg} {ty : TypeId} {pos : String} {aft : Array Edge} {B : Bd} {Q : Exit → S Unit → Prop} {ops rest : List Oper}
theorem o_nlq {tt t2 e : TypeId} {x y : Operand} {n : Nat} {rows : List (List (L Unit))} (ht : P.underlying tt = some (.slice e)) (h1 : ev N asg x = some (.u (.one (.bs () n rows)))) (h2 : ev N asg y = some (.u (.one .nl)))
  (hK1 : rows = [] → WpO P B ops Q rest (St N ((t, .u (.one (.bool true))) :: asg) oa nx)) (hK2 : WpO P B ops Q rest (St N ((t, .u (.one (.bool false))) :: asg) oa nx)) :
  WpO P B ops Q (⟨some t, .binOp .eql tt x y t2, ty, pos, aft, none⟩ :: rest) (St N asg oa nx) := by
 intro a W hr
 simp only [wpList]
 rw [Y1a rfl, if_pos rfl]
 refine .inl ?_
 obtain ⟨d, hd, hi, hs, hdef, hk, hn0⟩ := hr
 obtain ⟨l1, hl1, v1, g1⟩ := V8 hi.good hs (l := .bs () n rows) (x := x) (by rw [hd]; exact Z2e h1)
 obtain ⟨l2, hl2, v2, _⟩ := V8 hi.good hs (l := .nl) (x := y) (by rw [hd]; exact Z2e h2)
 obtain ⟨v, rows', rfl, hrows⟩ := W6h hl1
 have := W6g hl2
 subst this
 have hw := g1.1
 simp only [wfL] at hw
 obtain ⟨⟨ad, c, hv, _, _, hne⟩, _⟩ := hw
 simp only [val, hv] at v1
 simp only [val] at v2
 have hrun : (execOp a.eval ⟨some t, .binOp .eql tt x y t2, ty, pos, aft, none⟩).run P W = .ok (.value (val (.bool ad.isNone : L Value))) W := by
  simp only [execOp, v1, v2, eqGuard]
  simp only [Sem.run_bind]
  simp [Lib.run_eql_slice_nil W tt e ad rows'.length c 0 0 ht, val]
 obtain ⟨_, r, xx, W', d', hr', hx, he, hi', hs', hk'⟩ := J4 (B := B) (nid := d.nx) (rd := []) (hyp := True) hi hs hrun rfl (X8u _)
 have hst : erS d' = St N ((t, .u (.one (.bool ad.isNone))) :: asg) oa nx := by
  rw [he, hd]
  exact Z0u ..
 unfold Oper.wp
 rw [hr']
 have hfin : Rel B (St N ((t, .u (.one (.bool ad.isNone))) :: asg) oa nx) (a.put (some t) xx) W' := by
  have hnx : d'.nx = d.nx := by
   have h1 : (erS d').nx = (erS d).nx := by rw [hst, hd]; rfl
   exact h1
  refine ⟨d', hst, hi', hs', by rw [Z6n]; exact hdef, fun i hi => ?_, by omega⟩
  rcases hk' i hi with h | ⟨h, h'⟩
  ·have := hk i h
   omega
  ·simp at h'; omega
 have key : wpList P ops.toArray (fun e a' W' => ∃ s', Rel B s' a' W' ∧ Q e s') rest (a.put (some t) xx) W' := by
  cases hn : ad with
  | none =>
   have hr0 : rows = [] := by
    rw [← hrows]
    cases rows' with
    | nil => rfl
    | cons r rs =>
     obtain ⟨b, o, hbo⟩ := hne (by simp)
     rw [hn] at hbo
     cases hbo
   rw [hn] at hfin
   exact hK1 hr0 _ _ hfin
  | some p =>
   rw [hn] at hfin
   exact hK2 _ _ hfin
 rcases hx with rfl | ⟨rfl, rfl⟩
 ·exact key
 ·exact key
end
end
section
section
variable {δ : Type}
def frzL (id n : Nat) (rows : List (List (L δ))) : L δ → L δ
 | .ref v i off len => match Nat.beq i id && Nat.beq off 0 && Nat.beq len rows.length with
  | true => .bs v n rows
  | false => .ref v i off len
 | l => l
def frzU (id n : Nat) (rows : List (List (L δ))) : U δ → U δ
 | .one l => .one (frzL id n rows l)
 | .agg ls => .agg (ls.map (frzL id n rows))
def frzV (id n : Nat) (rows : List (List (L δ))) : V δ → V δ
 | .u x => .u (frzU id n rows x)
 | .tup xs => .tup (xs.map (frzU id n rows))
 | .un => .un
 | .ud => .ud
theorem X0b (id n : Nat) (rows : List (List (L δ))) (u : U δ) : Z1 (frzU id n rows u) = (Z1 u).map (frzL id n rows) := by cases u <;> simp [Z1, frzU]
theorem X0a (id n : Nat) (rows : List (List (L δ))) (v : V δ) : Z3 (frzV id n rows v) = (Z3 v).map (frzL id n rows) := by
 cases v with
 | u x => exact X0b id n rows x
 | tup xs => simp [Z3, frzV, List.map_flatMap, List.flatMap_map, X0b]
 | un => rfl
 | ud => rfl
end
theorem frzL_er (id n : Nat) (rows : List (List (L Value))) (l : L Value) : erL (frzL id n rows l) = frzL id n (Z7t rows) (erL l) := by
 cases l with
 | ref v i off len =>
  simp only [frzL, mapL, Z7t, List.length_map]
  split <;> rename_i h <;> simp only [h, mapL, Z1m]
 | _ => simp [frzL, mapL]
theorem frzU_er (id n : Nat) (rows : List (List (L Value))) (u : U Value) : erU (frzU id n rows u) = frzU id n (Z7t rows) (erU u) := by
 cases u <;> simp [frzU, mapU, frzL_er, Function.comp_def]
theorem frzV_er (id n : Nat) (rows : List (List (L Value))) (v : V Value) : erV (frzV id n rows v) = frzV id n (Z7t rows) (erV v) := by
 cases v <;> simp [frzV, mapV, frzU_er, Function.comp_def]
theorem X8v (id n : Nat) (rows : List (List (L Value))) (l : L Value) : val (frzL id n rows l) = val l := by
 cases l with
 | ref v i off len => simp only [frzL]; split <;> rfl
 | _ => rfl
theorem W6b (id n : Nat) (rows : List (List (L Value))) (hr : ∀ r ∈ rows, ∀ l ∈ r, Z0k l = true) (l : L Value) : ownL (frzL id n rows l) = ownL l := by
 cases l with
 | ref v i off len => simp only [frzL]; split <;> simp [ownL]
 | _ => rfl
theorem W0t (id n : Nat) (rows : List (List (L Value))) (l : L Value) : frzL id n rows l = l ∨ ∃ v, l = .ref v id 0 rows.length ∧ frzL id n rows l = .bs v n rows := by
 cases l with
 | ref v i off len =>
  simp only [frzL]
  split
  ·rename_i h
   simp only [Bool.and_eq_true] at h
   obtain ⟨⟨h1, h2⟩, h3⟩ := h
   have e1 := Nat.eq_of_beq_eq_true h1
   have e2 := Nat.eq_of_beq_eq_true h2
   have e3 := Nat.eq_of_beq_eq_true h3
   subst e1 e2 e3
   exact .inr ⟨v, rfl, rfl⟩
  ·exact .inl rfl
 | _ => exact .inl rfl
theorem UR_frz {id n : Nat} {rows : List (List (L Value))} {u : U Value} {x : Value} (h : UR u x) : UR (frzU id n rows u) x := by
 cases u with
 | one l => simp only [UR, frzU, X8v] at h ⊢; exact h
 | agg ls =>
  have : (ls.map (frzL id n rows)).map val = ls.map val := by rw [List.map_map]; exact List.map_congr_left fun l _ => X8v id n rows l
  simp only [UR, frzU, this] at h ⊢
  exact h
theorem VR_frz {id n : Nat} {rows : List (List (L Value))} {v : V Value} {x : Value} (h : VR v x) : VR (frzV id n rows v) x := by
 cases v with
 | u y => exact UR_frz h
 | tup xs =>
  obtain ⟨vs, h1, h2, h3⟩ := h
  refine ⟨vs, h1, by simpa using h2, fun i y z hy hz => ?_⟩
  rw [List.getElem?_map, Option.map_eq_some_iff] at hy
  obtain ⟨y0, hy0, rfl⟩ := hy
  exact UR_frz (h3 i y0 z hy0 hz)
 | un => trivial
 | ud => exact h
theorem GhB.freeze {B : Bd} {s : S Unit} {id : Nat} {o : Ob Unit} (ho : look s.ob id = some o) (hp : o.rows.all (fun r => r.all Z0k) = true) :
  GhB B s ⟨s.sl.map (frzV id o.n o.rows), s.ob.filter (fun p => !(p.1 == id)), s.nx⟩ := by
 rintro a W ⟨d, rfl, hi, hs, hdef, hk, hn0⟩
 obtain ⟨o', ho', rfl⟩ := U7 ho
 have hobs : _ ∧ ∀ r ∈ o'.rows, r.length = o'.n := hi.good.obs _ (find?_key ho')
 have hplain : ∀ r ∈ o'.rows, ∀ l ∈ r, Z0k l = true := by
  simp only [erOb, Z3e, List.all_map, List.all_eq_true, Function.comp_def, X3b] at hp
  exact hp
 have hsub : (d.ob.filter (fun p => !(p.1 == id))).Sublist d.ob := List.filter_sublist
 let d' : S Value := ⟨d.sl.map (frzV id o'.n o'.rows), d.ob.filter (fun p => !(p.1 == id)), d.nx⟩
 have htop : ∀ l ∈ tops d', l ∈ tops d ∨ ∃ v, .ref v id 0 o'.rows.length ∈ tops d ∧ l = .bs v o'.n o'.rows := fun l hl => by
  rcases mem_tops.1 hl with ⟨w, hw, hl2⟩ | hl2
  ·obtain ⟨w0, hw0, rfl⟩ := List.mem_map.1 hw
   rw [X0a] at hl2
   obtain ⟨l0, hl0, rfl⟩ := List.mem_map.1 hl2
   have hm : l0 ∈ tops d := mem_tops.2 (.inl ⟨w0, hw0, hl0⟩)
   rcases W0t id o'.n o'.rows l0 with h | ⟨v, h1, h2⟩
   ·rw [h]; exact .inl hm
   ·exact .inr ⟨v, by rw [← h1]; exact hm, h2⟩
  ·obtain ⟨p, hp, r, hr, hlr⟩ := mem_obLeaves.1 hl2
   exact .inl (mem_tops.2 (.inr (mem_obLeaves.2 ⟨p, hsub.subset hp, r, hr, hlr⟩)))
 have hrow0 : o'.rows.flatten.flatMap ownL = [] := by
  rw [List.flatMap_eq_nil_iff]
  intro l hl
  obtain ⟨r, hr, hl⟩ := List.mem_flatten.1 hl
  exact Z0m (Y0u (hplain r hr l hl))
 have hperm : (ownS d).Perm (Y7 o'.h o'.n o'.rows ++ ownS d') := by
  classical
  obtain ⟨l1, l2, hob, h1, h2⟩ := Z2p ho' hi.good.ids
  have hf : d'.ob = l1 ++ l2 := by
   show d.ob.filter _ = _
   rw [hob]
   exact Y2x h1 h2
  refine List.perm_iff_count.2 fun q => ?_
  have c1 := List.perm_iff_count.1 (V3 d) q
  have c2 := List.perm_iff_count.1 (V3 d') q
  have c3 : (d'.sl.flatMap Z3).flatMap ownL = (d.sl.flatMap Z3).flatMap ownL := by
   simp only [d', List.flatMap_map, List.flatMap_assoc]
   refine ownOb_ren.flatMap_congr' fun v _ => ?_
   rw [X0a, List.flatMap_map]
   exact ownOb_ren.flatMap_congr' fun l _ => W6b id o'.n o'.rows hplain l
  rw [hf, c3] at c2
  rw [hob] at c1
  simp only [List.flatMap_append, List.flatMap_cons, List.count_append, Q8, hrow0, List.append_nil] at c1 c2 ⊢
  omega
 have hnd := (hperm.map (·.1)).nodup_iff.1 hi.good.nodup
 rw [List.map_append, List.nodup_append] at hnd
 have hown' : ∀ q ∈ ownS d', q ∈ ownS d := fun q hq => hperm.mem_iff.2 (List.mem_append_right _ hq)
 have hbs : ∀ v, .ref v id 0 o'.rows.length ∈ tops d → isSl v o'.rows ∧ ∀ p ∈ Z2w v (valR o'.rows), p.2 ≠ [] → ImmFact W p ∧ (∀ q ∈ ownS d', q.1 ≠ p.1.block) ∧ ∃ q ∈ ownS d, q.1 = p.1.block := fun v hv => by
  obtain ⟨_, hform⟩ := (hi.good.wf _ hv).2 o' ho'
  rcases hform with ⟨h0, hv0⟩ | ⟨b, x, c0, h0, hv0⟩
  ·have hr0 : o'.rows = [] := by
    rcases hobs.1 with ⟨_, h1⟩ | ⟨_, _, _, h1, _⟩
    ·exact h1
    ·simp only at h1; rw [h0] at h1; cases h1
   rw [hr0]
   exact ⟨⟨none, 0, by simpa using hv0, by simp, by simp [LIM], fun h => absurd rfl h⟩, fun p hp => by rw [hv0] at hp; simp [Z2w] at hp⟩
  ·rcases hv0 with hv0 | ⟨y, _, _, h9, _⟩
   ·rcases hobs.1 with ⟨h7, _⟩ | ⟨b2, x2, c2, h7, h8, h9⟩
    ·simp only at h7; rw [h0] at h7; cases h7
    ·simp only at h7 h8 h9
     rw [h0] at h7
     cases h7
     simp only [Nat.zero_mul, Nat.add_zero, Nat.sub_zero] at hv0
     refine ⟨⟨_, _, hv0, h8, h9, fun _ => ⟨_, _, rfl⟩⟩, fun p hp hne => ?_⟩
     rw [hv0] at hp
     simp only [Z2w, List.mem_singleton] at hp
     subst hp
     have hm0 : (b, x, c0 * o'.n, valR o'.rows) ∈ Y7 o'.h o'.n o'.rows := by simp [Y7, h0]
     have hm : (b, x, c0 * o'.n, valR o'.rows) ∈ ownS d := hperm.mem_iff.2 (List.mem_append_left _ hm0)
     refine ⟨fun j u hj => ?_, fun q hq e => ?_, _, hm, rfl⟩
     ·obtain ⟨arr, ty, k1, _, _, k4⟩ := hi.good.own _ hm
      have := k4 _ _ hj
      simp only [World.cell?, k1]
      simpa using this
     ·exact hnd.2.2 b (List.mem_map.2 ⟨_, hm0, rfl⟩) q.1 (List.mem_map.2 ⟨q, hq, rfl⟩) e.symm
   ·omega
 have hrowimm : ∀ r ∈ o'.rows, ∀ l ∈ r, ∀ p ∈ immL l, p ∈ immS d := fun r hr l hl p hp =>
  List.mem_flatMap.2 ⟨l, mem_tops.2 (.inr (mem_obLeaves.2 ⟨_, find?_key ho', r, hr, hl⟩)), hp⟩
 have himm : ∀ p ∈ immS d', p ∈ immS d ∨ ∃ v, .ref v id 0 o'.rows.length ∈ tops d ∧ p ∈ Z2w v (valR o'.rows) := fun p hp => by
  obtain ⟨l, hl, hp⟩ := List.mem_flatMap.1 hp
  rcases htop l hl with h | ⟨v, h1, rfl⟩
  ·exact .inl (List.mem_flatMap.2 ⟨l, h, hp⟩)
  ·simp only [immL, List.mem_append] at hp
   rcases hp with hp | hp
   ·exact .inr ⟨v, h1, hp⟩
   ·rw [Z4r] at hp
    obtain ⟨l2, hl2, hp⟩ := List.mem_flatMap.1 hp
    obtain ⟨r, hr, hl2⟩ := List.mem_flatten.1 hl2
    exact .inl (hrowimm r hr l2 hl2 p hp)
 refine ⟨d', ?_, ?_, ⟨by simpa [d'] using hs.1, fun i w hw => ?_⟩, hdef, fun i hi2 => hk i ?_, hn0⟩
 ·have e1 : d'.sl.map erV = (d.sl.map erV).map (frzV id (erOb o').n (erOb o').rows) := by
   simp only [d', List.map_map]
   exact List.map_congr_left fun v _ => frzV_er id o'.n o'.rows v
  have e2 : (d.ob.filter (fun p => !(p.1 == id))).map (fun p => (p.1, erOb p.2)) = (d.ob.map (fun p => (p.1, erOb p.2))).filter (fun p => !(p.1 == id)) := by
   rw [List.filter_map]
   rfl
  simp only [erS, mapS, S.mk.injEq, and_true]
  exact ⟨e1, e2, rfl⟩
 ·constructor
  ·refine ⟨fun l hl => ?_, fun p hp => hi.good.obs p (hsub.subset hp), hi.good.ids.sublist (hsub.map _), fun p hp => hi.good.own p (hown' p hp), hnd.2.1, fun p hp hne => ?_⟩
   ·rcases htop l hl with h | ⟨v, h1, rfl⟩
    ·have := hi.good.wf l h
     exact ⟨this.1, Z7v (fun i _ => Z9q (f := fun j => !(j == id))) this.2⟩
    ·refine ⟨⟨(hbs v h1).1, hobs.2, (Z5h _ _).2 fun r hr l hlr => X3a (hplain r hr l hlr) (Z6v hi.good ho' hr hlr).1⟩, by simp [W7]⟩
   ·rcases himm p hp with h | ⟨v, h1, h2⟩
    ·obtain ⟨k1, k2⟩ := hi.good.imm p h hne
     exact ⟨k1, fun q hq => k2 q (hown' q hq)⟩
    ·have := (hbs v h1).2 p h2 hne
     exact ⟨this.1, this.2.1⟩
  ·exact hi.fr
  ·exact fun p hp => hi.mine p (hown' p hp)
  ·intro p hp hne
   rcases himm p hp with h | ⟨v, h1, h2⟩
   ·exact hi.seen p h hne
   ·obtain ⟨_, _, q, hq, e⟩ := (hbs v h1).2 p h2 hne
    rw [← e]
    rcases hi.mine q hq with h | h
    ·exact .inr (.inl h)
    ·exact .inr (.inr h)
  ·exact fun p hp => hi.hdr p (hsub.subset hp)
 ·simp only [d', List.getElem?_map, Option.map_eq_some_iff] at hw
  obtain ⟨w0, hw0, rfl⟩ := hw
  exact VR_frz (hs.2 i w0 hw0)
 ·rcases hi2 with ⟨l, hl, h⟩ | h
  ·rcases htop l hl with h2 | ⟨v, h1, rfl⟩
   ·exact .inl ⟨l, h2, h⟩
   ·simp [idsL] at h
  ·exact .inr ((hsub.map _).subset h)
section
variable {B : Bd} {N nx : Nat} {asg : Asg} {oa : OAsg}
def X6k {δ : Type} (id : Nat) : L δ → Bool
 | .ref _ i _ _ => Nat.beq i id
 | _ => false
theorem X7c {id n : Nat} {rows : List (List (L Unit))} {l : L Unit} (h : X6k id l = false) : frzL id n rows l = l := by
 cases l with
 | ref v i off len =>
  simp only [X6k] at h
  simp only [frzL, h, Bool.false_and]
 | _ => rfl
theorem X7b {id n : Nat} {rows : List (List (L Unit))} {u : U Unit} (h : ∀ l ∈ Z1 u, X6k id l = false) : frzU id n rows u = u := by
 cases u with
 | one l => simp only [frzU, X7c (h l (by simp [Z1]))]
 | agg ls =>
  simp only [frzU, U.agg.injEq]
  conv => rhs; rw [← List.map_id ls]
  exact List.map_congr_left fun l hl => X7c (h l hl)
theorem frzV_no {id n : Nat} {rows : List (List (L Unit))} {v : V Unit} (h : ∀ l ∈ Z3 v, X6k id l = false) : frzV id n rows v = v := by
 cases v with
 | u x => simp only [frzV, X7b h]
 | tup xs =>
  simp only [frzV, V.tup.injEq]
  conv => rhs; rw [← List.map_id xs]
  exact List.map_congr_left fun x hx => X7b fun l hl => h l (List.mem_flatMap.2 ⟨x, hx, hl⟩)
 | un => rfl
 | ud => rfl
theorem W2x {α : Type} : ∀ {l : List (Nat × α)} {k : Nat} {v : α}, lkp l k = some v → (k, v) ∈ l
 | [], k, v, h => by simp [lkp] at h
 | (a, b) :: l, k, v, h => by
  by_cases hk : a = k
  ·subst hk
   rw [Z5a] at h
   cases h
   simp
  ·rw [Z7w _ _ hk] at h
   exact List.mem_cons_of_mem _ (W2x h)
inductive Fz (asg : Asg) (id k : Nat) : List Nat → Prop
 | nil : Fz asg id k []
 | cons {t len : Nat} {ts : List Nat} : lkp asg t = some (.u (.one (.ref () id 0 len))) → len = k → Fz asg id k ts → Fz asg id k (t :: ts)
def frzA (v : V Unit) : List Nat → Asg → Asg
 | [], asg => asg
 | t :: ts, asg => (t, v) :: frzA v ts asg
theorem X8w (v : V Unit) (t : Nat) (asg : Asg) : ∀ ts : List Nat, lkp (frzA v ts asg) t = if t ∈ ts then some v else lkp asg t
 | [] => by simp [frzA]
 | t0 :: ts => by
  simp only [frzA]
  by_cases h : t0 = t
  ·subst h; rw [Z5a]; simp
  ·rw [Z7w _ _ h, X8w v t asg ts]
   have : (t ∈ t0 :: ts) ↔ t ∈ ts := by simp [Ne.symm h]
   simp only [this]
theorem Fz.mem {asg : Asg} {id k : Nat} : ∀ {ts : List Nat}, Fz asg id k ts → ∀ t ∈ ts, lkp asg t = some (.u (.one (.ref () id 0 k)))
 | _, .nil, t, h => by cases h
 | _, .cons h1 h2 h3, t, h => by
  subst h2
  rcases List.mem_cons.1 h with rfl | h
  ·exact h1
  ·exact h3.mem t h
theorem f_frz {o : Ob Unit} (id : Nat) (ts : List Nat) (ho : lko oa nx id = some o) (hp : o.rows.all (fun r => r.all Z0k) = true) (hts : Fz asg id o.rows.length ts) (hno : asg.all (fun p => ts.contains p.1 || (Z3 p.2).all fun l => !X6k id l) = true) :
  GhB B (St N asg oa nx) (St N (frzA (.u (.one (.bs () o.n o.rows))) ts asg) ((id, none) :: oa) nx) := by
 have h := GhB.freeze (B := B) (s := St N asg oa nx) (Q0 ho) hp
 have e1 : (Z1k N asg).map (frzV id o.n o.rows) = Z1k N (frzA (.u (.one (.bs () o.n o.rows))) ts asg) := by
  unfold Z1k
  rw [List.map_map]
  refine List.map_congr_left fun t _ => ?_
  simp only [Function.comp, Y2p, X8w]
  by_cases ht : t ∈ ts
  ·rw [if_pos ht, hts.mem t ht]
   simp [frzV, frzU, frzL]
  ·rw [if_neg ht]
   cases hl : lkp asg t with
   | none => rfl
   | some v =>
    have h1 := List.all_eq_true.1 hno _ (W2x hl)
    simp only [Bool.or_eq_true, List.contains_iff_mem, ht, false_or, List.all_eq_true, Bool.not_eq_true'] at h1
    exact frzV_no h1
 have e2 : (⟨(St N asg oa nx).sl.map (frzV id o.n o.rows), (St N asg oa nx).ob.filter (fun p => !(p.1 == id)), (St N asg oa nx).nx⟩ : S Unit) = St N (frzA (.u (.one (.bs () o.n o.rows))) ts asg) ((id, none) :: oa) nx := by
  simp only [St, e1, Y3g]
 rw [← e2]
 exact h
end
end
section
theorem GhB.nl {B : Bd} {s : S Unit} {u : U Unit} (t j m : Nat) (o : Bool) (ht : s.sl[t]? = some (.u u)) (hj : (Z1 u)[j]? = some .nl) : GhB B s ⟨s.sl.set t (.u (Z1j u j (match o with | true => .os () m [] | false => .bs () m []))), s.ob, s.nx⟩ := by
 rintro a W ⟨d, he, hi, hs, hdef, hk, hn0⟩
 have hsl : d.sl.map erV = s.sl := congrArg S.sl he
 have hob : (erS d).ob = s.ob := congrArg S.ob he
 have hnx : d.nx = s.nx := congrArg S.nx he
 have h1 : (d.sl.map erV)[t]? = some (.u u) := by rw [hsl, ht]
 rw [List.getElem?_map, Option.map_eq_some_iff] at h1
 obtain ⟨v, hv, hvu⟩ := h1
 obtain ⟨u', rfl, rfl⟩ : ∃ u', v = .u u' ∧ erU u' = u := by
  cases v with
  | u x => exact ⟨x, rfl, by injection hvu⟩
  | tup xs => cases hvu
  | un => cases hvu
  | ud => cases hvu
 rw [Q2, List.getElem?_map, Option.map_eq_some_iff] at hj
 obtain ⟨l', hj', hl'⟩ := hj
 obtain rfl : l' = .nl := by cases l' <;> simp [mapL] at hl'; rfl
 have hjlt : j < (Z1 u').length := (List.getElem?_eq_some_iff.1 hj').1
 have htlt : t < d.sl.length := (List.getElem?_eq_some_iff.1 hv).1
 let nl' : L Value := match o with | true => .os (.slice none 0 0) m [] | false => .bs (.slice none 0 0) m []
 have hno : ownL nl' = [] := by cases o <;> simp [nl', ownL, Y7, ownR]
 have him : immL nl' = [] := by cases o <;> simp [nl', immL, Z2w, immR]
 have hids : idsL nl' = [] := by cases o <;> rfl
 have hwf : wfL false nl' := by
  cases o
  ·exact ⟨⟨none, 0, rfl, Nat.le_refl _, by simp [LIM], fun h => absurd rfl h⟩, by simp, trivial⟩
  ·exact ⟨.inl ⟨rfl, rfl⟩, by simp, trivial⟩
 have hval : val nl' = val (.nl : L Value) := by cases o <;> rfl
 let nv : V Value := .u (Z1j u' j nl')
 have hlv : Z3 nv = (Z1 u').set j nl' := Z6s hjlt
 let d' : S Value := ⟨d.sl.set t nv, d.ob, d.nx⟩
 have htop : ∀ l ∈ tops d', l ∈ tops d ∨ l = nl' := fun l hl => by
  rcases mem_tops.1 hl with ⟨w, hw, hl2⟩ | hl2
  ·rcases List.mem_or_eq_of_mem_set hw with hw | rfl
   ·exact .inl (mem_tops.2 (.inl ⟨w, hw, hl2⟩))
   ·rw [hlv] at hl2
    rcases List.mem_or_eq_of_mem_set hl2 with hl2 | rfl
    ·exact .inl (mem_tops.2 (.inl ⟨.u u', List.mem_of_getElem? hv, hl2⟩))
    ·exact .inr rfl
  ·exact .inl (mem_tops.2 (.inr hl2))
 have hown : (ownS d').Perm (ownS d) := by
  have h1 : ((Z3 nv).flatMap ownL).Perm ([] ++ (Z3 (.u u')).flatMap ownL) := by
   rw [hlv]
   exact Z4z (e := []) hj' (by simp [hno, ownL])
  have h2 := Z4z (f := fun v => (Z3 v).flatMap ownL) (e := []) hv h1
  simp only [ownS, tops, List.flatMap_append, List.flatMap_assoc, d'] at h2 ⊢
  simp only [List.nil_append] at h2
  exact (h2.append_right _).append_left _
 refine ⟨d', ?_, ?_, ⟨by simpa [d'] using hs.1, fun i w hw => ?_⟩, hdef, fun i hi2 => hk i ?_, hn0⟩
 ·have e1 : (d'.sl.map erV) = s.sl.set t (.u (Z1j (erU u') j (match o with | true => .os () m [] | false => .bs () m []))) := by
   simp only [d', List.map_set, hsl]
   congr 1
   show V.u (erU (Z1j u' j nl')) = _
   rw [Y4j]
   cases o <;> simp [nl', mapL, mapR]
  have : erS d' = ⟨d'.sl.map erV, (erS d).ob, d.nx⟩ := rfl
  rw [this, e1, hob, hnx]
 ·refine hi.step (Nat.le_refl _) (Same.refl _) (fun _ _ _ => rfl) (fun l hl => ?_) hi.good.obs hi.good.ids (fun p hp => ⟨hi.good.own p (hown.mem_iff.1 hp), .inl ⟨p, hown.mem_iff.1 hp, rfl⟩⟩) ((hown.map (·.1)).nodup_iff.2 hi.good.nodup) (fun p hp => ?_) hi.hdr
  ·rcases htop l hl with h | rfl
   ·exact hi.good.wf l h
   ·exact ⟨hwf, Z9g hids⟩
  ·obtain ⟨l, hl, hp⟩ := List.mem_flatMap.1 hp
   rcases htop l hl with h | rfl
   ·exact .of_mem (List.mem_flatMap.2 ⟨l, h, hp⟩)
   ·rw [him] at hp; cases hp
 ·simp only [d', List.getElem?_set] at hw
  by_cases hti : t = i
  ·subst hti
   rw [if_pos rfl, if_pos htlt] at hw
   cases hw
   exact Y4k (hs.2 t _ hv) hj' hval
  ·rw [if_neg hti] at hw
   exact hs.2 i w hw
 ·rcases hi2 with ⟨l, hl, h⟩ | h
  ·rcases htop l hl with h2 | rfl
   ·exact .inl ⟨l, h2, h⟩
   ·rw [hids] at h; cases h
  ·exact .inr h
section
variable {B : Bd} {N nx : Nat} {asg : Asg} {oa : OAsg}
theorem f_nb {u u' : U Unit} (t j m : Nat) (hN : Nat.blt t N = true) (ht : lkp asg t = some (.u u)) (hj : (Z1 u)[j]? = some .nl) (hu : Z1j u j (.bs () m []) = u') : GhB B (St N asg oa nx) (St N ((t, .u u') :: asg) oa nx) := by
 subst hu
 have h := GhB.nl (B := B) t j m false (Z7p (oa := oa) (nx := nx) hN ht) hj
 have e : (⟨(St N asg oa nx).sl.set t (.u (Z1j u j (.bs () m []))), (St N asg oa nx).ob, (St N asg oa nx).nx⟩ : S Unit) = St N ((t, .u (Z1j u j (.bs () m []))) :: asg) oa nx := by
  simp only [St, Z5r]
 rw [← e]
 exact h
end
end
section
theorem Z7s {α β : Type} {f : α → List β} : ∀ {ls : List α} {j : Nat} {x x0 : α}, ls[j]? = some x0 → f x = f x0 → (ls.set j x).flatMap f = ls.flatMap f
 | [], j, x, x0, h, _ => by simp at h
 | y :: ls, 0, x, x0, h, he => by
  simp only [List.getElem?_cons_zero, Option.some.injEq] at h
  subst h
  simp [he]
 | y :: ls, j + 1, x, x0, h, he => by
  simp only [List.getElem?_cons_succ] at h
  simp [Z7s h he]
theorem X6g {α β : Type} {f : α → β} : ∀ {ls : List α} {j : Nat} {x x0 : α}, ls[j]? = some x0 → f x = f x0 → (ls.set j x).map f = ls.map f
 | [], j, x, x0, h, _ => by simp at h
 | y :: ls, 0, x, x0, h, he => by
  simp only [List.getElem?_cons_zero, Option.some.injEq] at h
  subst h
  simp [he]
 | y :: ls, j + 1, x, x0, h, he => by
  simp only [List.getElem?_cons_succ] at h
  simp only [List.set_cons_succ, List.map_cons, X6g h he]
theorem GhB.nlc {B : Bd} {s : S Unit} {id e j : Nat} {o : Ob Unit} {r : List (L Unit)} (m : Nat) (ho : look s.ob id = some o) (hr : o.rows[e]? = some r) (hj : r[j]? = some .nl) :
  GhB B s ⟨s.sl, K0 (s.ob ++ [(s.nx, ⟨(), m, []⟩)]) id (o.rows.set e (r.set j (.ref () s.nx 0 0))), s.nx + 1⟩ := by
 rintro a W ⟨d, rfl, hi, hs, hdef, hk, hn0⟩
 obtain ⟨o', ho', rfl⟩ := U7 ho
 obtain ⟨r', hr', rfl⟩ := Y1c hr
 rw [List.getElem?_map, Option.map_eq_some_iff] at hj
 obtain ⟨l', hj', hl'⟩ := hj
 obtain rfl : l' = .nl := by cases l' <;> simp [mapL] at hl'; rfl
 have hfr : ∀ i, Z3h d i → i ≠ d.nx := fun i hi1 he => by have := hk i hi1; omega
 obtain ⟨hinv, hkn⟩ := hi.new (W' := W) (fun _ => true) hfr hn0 (hd := .slice none 0 0) (n := m) (rows := []) (by simp) (by simp) (Nat.le_refl _) (Same.refl _) (fun _ _ _ => rfl) (.inl ⟨rfl, rfl⟩)
 have hfl : d.ob.filter (fun _ => true) = d.ob := List.filter_eq_self.2 fun _ _ => rfl
 simp only [hfl] at hinv hkn
 let d1 : S Value := ⟨d.sl, d.ob ++ [(d.nx, ⟨.slice none 0 0, m, []⟩)], d.nx + 1⟩
 have hinv1 : Inv B W d1 := hinv
 have hlook : look d1.ob id = some o' := J2 hinv1.good.ids (List.mem_append_left _ (find?_key ho'))
 have hlookn : look d1.ob d.nx = some ⟨.slice none 0 0, m, []⟩ := J2 hinv1.good.ids (List.mem_append_right _ (by simp))
 have hobs : _ ∧ ∀ r ∈ o'.rows, r.length = o'.n := hi.good.obs _ (find?_key ho')
 have hrm := List.mem_of_getElem? hr'
 obtain ⟨b, x, c, hh, hle, hlim⟩ : ∃ b x c, o'.h = .slice (some ⟨b, x, none⟩) 0 c ∧ o'.rows.length ≤ c ∧ o'.rows.length ≤ LIM := by
  rcases hobs.1 with ⟨_, h1⟩ | h1
  ·simp only at h1; rw [h1] at hrm; cases hrm
  ·exact h1
 have hm : (b, x, c * o'.n, valR o'.rows) ∈ ownS d1 := by
  simp only [ownS, List.mem_append]
  left
  exact List.mem_flatMap.2 ⟨(id, o'), find?_key hlook, by simp [Y7, hh]⟩
 let rows' := o'.rows.set e (r'.set j (.ref (.slice none 0 0) d.nx 0 0))
 have hval : valR rows' = valR o'.rows := by
  unfold valR
  have e1 : ∀ rs : List (List (L Value)), rs.flatten.map val = rs.flatMap (fun r => r.map val) := fun rs => by rw [List.map_flatten, List.flatMap_def]
  rw [e1, e1]
  exact Z7s hr' (X6g hj' rfl)
 have hown : ownR rows' = ownR o'.rows := by
  rw [Z0t, Z0t]
  have e1 : ∀ rs : List (List (L Value)), rs.flatten.flatMap ownL = rs.flatMap (fun r => r.flatMap ownL) := fun rs => by rw [List.flatMap_def, List.flatMap_def, List.map_flatten, List.flatten_flatten, List.map_map]; rfl
  rw [e1, e1]
  exact Z7s hr' (Z7s hj' rfl)
 have hmem : ∀ r ∈ rows', r ∈ o'.rows ∨ r = r'.set j (.ref (.slice none 0 0) d.nx 0 0) := fun r hr => List.mem_or_eq_of_mem_set hr
 obtain ⟨hinv2, hkn2⟩ := hinv1.upd (W' := W) hlook (rows := rows') (fun r hr => by
   rcases hmem r hr with h | rfl
   ·exact hobs.2 r h
   ·rw [List.length_set]; exact hobs.2 r' hrm) (by simp [rows']) (fun r hr l hl => by
   rcases hmem r hr with h | rfl
   ·exact Z6v hinv1.good hlook h hl
   ·rcases List.mem_or_eq_of_mem_set hl with h | rfl
    ·exact Z6v hinv1.good hlook hrm h
    ·refine ⟨⟨rfl, _, _, _, rfl⟩, fun o2 ho2 => ?_, fun p hp => by simp [immL] at hp, fun i hi1 => ?_⟩
     ·rw [hlookn] at ho2
      cases ho2
      exact ⟨by simp, .inl ⟨rfl, rfl⟩⟩
     ·simp only [idsL, List.mem_singleton] at hi1
      subst hi1
      exact .inr (List.mem_map.2 ⟨_, List.mem_append_right _ (List.mem_singleton.2 rfl), rfl⟩)) (by rw [hown]; exact List.Sublist.refl _) hh rfl (Same.refl _) (fun _ _ => rfl) (by rw [hval]; exact hinv1.good.own _ hm)
 refine ⟨⟨d.sl, K0 d1.ob id rows', d.nx + 1⟩, ?_, hinv2, ⟨hs.1, hs.2⟩, hdef, fun i hi1 => ?_, ?_⟩
 ·simp only [erS, mapS, S.mk.injEq, true_and, and_true]
  have e1 : rows'.map (fun r => r.map erL) = (erOb o').rows.set e ((r'.map erL).set j (.ref () d.nx 0 0)) := by
   simp [rows', erOb, Z3e, List.map_set, mapL]
  have e2 : d1.ob.map (fun p => (p.1, erOb p.2)) = d.ob.map (fun p => (p.1, erOb p.2)) ++ [(d.nx, ⟨(), m, []⟩)] := by simp [d1, Z3e]
  rw [← e1]
  unfold K0
  rw [← e2, List.map_map, List.map_map]
  refine List.map_congr_left fun p _ => ?_
  simp only [Function.comp]
  split <;> rfl
 ·have := hkn2 i hi1
  rcases hkn i this with h | h
  ·have := hk i h; show i < d.nx + 1; omega
  ·show i < d.nx + 1; omega
 ·show B.n0 ≤ d.nx + 1; omega
section
variable {B : Bd} {N nx : Nat} {asg : Asg} {oa : OAsg}
theorem f_nlc {n : Nat} {rows rows' : List (List (L Unit))} {r : List (L Unit)} (id e j m : Nat) (ho : lko oa nx id = some ⟨(), n, rows⟩) (hr : rows[e]? = some r) (hj : r[j]? = some .nl) (hrows : rows.set e (r.set j (.ref () nx 0 0)) = rows') :
  GhB B (St N asg oa nx) (St N asg ((id, some ⟨(), n, rows'⟩) :: (nx, some ⟨(), m, []⟩) :: oa) (nx + 1)) := by
 subst hrows
 have h := GhB.nlc (B := B) (s := St N asg oa nx) m (Q0 ho) hr hj
 obtain ⟨hlt, hat⟩ := W2z ho
 have h1 : lko ((nx, some (⟨(), m, []⟩ : Ob Unit)) :: oa) (nx + 1) id = some ⟨(), n, rows⟩ := by
  unfold lko
  have : Nat.blt id (nx + 1) = true := by simp [Nat.blt]; omega
  rw [this]
  simp only
  rw [Y0n _ _ (by omega)]
  exact hat
 have h2 := Y1g h1 (rows.set e (r.set j (.ref () nx 0 0)))
 rw [Y1h] at h2
 have e2 : (⟨(St N asg oa nx).sl, K0 ((St N asg oa nx).ob ++ [((St N asg oa nx).nx, ⟨(), m, []⟩)]) id (rows.set e (r.set j (.ref () (St N asg oa nx).nx 0 0))), (St N asg oa nx).nx + 1⟩ : S Unit) = St N asg ((id, some ⟨(), n, rows.set e (r.set j (.ref () nx 0 0))⟩) :: (nx, some ⟨(), m, []⟩) :: oa) (nx + 1) := by
  simp only [St]
  rw [h2]
 rw [← e2]
 exact h
end
end
end Go.Proofs.YtaocimmckbhhbaaGreat.AM
