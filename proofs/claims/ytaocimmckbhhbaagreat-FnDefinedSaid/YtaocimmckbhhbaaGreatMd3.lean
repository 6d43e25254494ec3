import Derived.Test.YtaocimmckbhhbaaGreatMd2
import Derived.MapKept
import Derived.Test.YtaocimmckbhhbaaGreatProg
import Derived.KernelRfl
set_option linter.unusedVariables false
set_option linter.unusedSimpArgs false
namespace Go.Proofs.YtaocimmckbhhbaaGreat.AM
open Go
section
section
variable {P : Program}
theorem ArgsG.loc {s s' : S Unit} {g : Nat → Nat} {hs : List Nat} {lent : Bool} (hob : s'.ob = s.ob) : ∀ {xs : List Operand} {us : List (U Unit)}, ArgsG s g hs lent xs us → (∀ x ∈ xs, evA s' x = evA s x) → ArgsG s' g hs lent xs us
 | _, _, .nil, _ => .nil
 | _, _, .given h1 h2 h3, he => .given (by rw [he _ (by simp)]; exact h1) h2 (h3.loc hob fun x hx => he x (by simp [hx]))
 | _, _, .givn h1 h2 h3 h4, he => .givn (by rw [he _ (by simp)]; exact h1) h2 h3 (h4.loc hob fun x hx => he x (by simp [hx]))
 | _, _, .lent h0 h1 h2 h3 h4, he => .lent h0 (by rw [he _ (by simp)]; exact h1) (by rw [hob]; exact h2) h3 (h4.loc hob fun x hx => he x (by simp [hx]))
def sysG (P : Program) : Sys P := { E := fun o s nid e => (sysC P).E o s nid e ∨ CallG P o s nid e, ok := fun h => h.elim (sysC P).ok Y2j }
theorem locG : LocY (sysG P) := ⟨fun {o s s' nid e} h hρ hob => by
 rcases h with h | ⟨c, f, caps, cs, us, hs, obs, obs', r, lent, h1, h2, h3, h4, h5, h6, h7⟩
 ·exact .inl (locC.op h hρ hob)
 ·refine .inr ⟨c, f, caps, cs, us, hs, obs, obs', r, lent, h1, ?_, h3, by rw [hob]; exact h4, h5, ?_, h7⟩
  ·rw [h1] at hρ
   unfold calE at h2 ⊢
   split at h2
   ·rename_i x hx
    rw [hρ x (by simp [Op.operands, Call.operands, hx])]
    exact h2
   ·cases h2
  ·exact h6.loc hob fun x hx => hρ x (by rw [h1]; simp only [Op.operands, Call.operands, Array.mem_append]; exact .inr (by simpa using hx))⟩
def X5e : Op → Bool
 | .call c => Y7e (.call c) && (match c.callee with
  | .value _ => false
  | _ => true)
 | op => Y7e op
instance : PlainY (sysG P) := ⟨fun h => .inl (.inl h)⟩
theorem X5d {o : Oper} {s : S Unit} {nid : Nat} {e : Eff} (hq : X5e o.op = true) (h : (sysG P).E o s nid e) : e.upd = [] ∧ e.del = [] := by
 rcases h with h | ⟨c, f, caps, cs, us, hs, obs, obs', r, lent, h1, h2, _⟩
 ·refine QuietY.ok (Y := sysC P) (o := o) ?_ h
  show Y7e o.op = true
  unfold X5e at hq
  split at hq
  ·rename_i c hc
   rw [hc]
   simp only [Bool.and_eq_true] at hq
   exact hq.1
  ·exact hq
 ·unfold calE at h2
  split at h2
  ·rename_i x hx
   rw [h1] at hq
   simp only [X5e, hx, Bool.and_false, Bool.false_eq_true] at hq
  ·cases h2
instance : QuietY (sysG P) := ⟨X5e, X5d, locG, fun h => h⟩
variable {K : S Unit → Prop}
end
section
variable {P : Program} {N nx : Nat} {asg : Asg} {oa : OAsg} {K : S Unit → Prop}
theorem x_cgG {dst : Option Nat} {ty : TypeId} {pos : String} {aft : Array Edge} {x : Operand} {args : Array Operand} {ats : Array TypeId} {f : FuncId} {caps cs : List (L Unit)} {us : List (U Unit)} {r v : V Unit} {nobs : List (Nat × Ob Unit)} {oa' : OAsg} {nx' : Nat} {obs obs' : List (Ob Unit)}
  (hs : List Nat) (lent : Bool) (hf : ev N asg x = some (.u (.one (.fn () f caps)))) (hnd : hs.Nodup) (hh : All2 (fun h ob => lko oa nx h = some (Y2 (gG hs nx) ob)) hs obs) (hkn : obs.all (fun ob => Z0p hs.length ob.rows) = true)
  (ha : ArgsG (St N asg oa nx) (gG hs nx) hs lent args.toList us) (hcaps : caps = cs.map (renL (gG hs nx))) (hck : cs.all (okK hs.length) = true) (hent : Ent P f) (hsim : Sim P f (us ++ cs.map .one) obs r obs')
  (himf : lent = false ∨ (Z2h r = true ∧ obs'.all (fun ob => Z7m ob.rows) = true)) (hn : (obs'.take hs.length).map (·.n) = obs.map (·.n)) (hroot : Z4a (fun _ => ()) (nx + (obs'.length - hs.length)) (renV (gG hs nx) r) = (v, nobs))
  (hoa : oaG (gG hs nx) nx hs obs' nobs oa = oa') (hnx : nx + (obs'.length - hs.length + nobs.length) = nx') (hK : K (St N (dstA dst v asg) oa' nx')) : aopK (sysG P) 0 ⟨dst, .call ⟨.value x, args, ats⟩, ty, pos, aft, none⟩ (St N asg oa nx) K := by
 subst hoa hnx
 have hh' : All2 (fun h ob => look (St N asg oa nx).ob h = some (Y2 (gG hs nx) ob)) hs obs := Y0i (fun _ _ h => Q0 h) hh
 refine ⟨_, fun h => absurd rfl h, Or.inr ⟨⟨.value x, args, ats⟩, f, caps, cs, us, hs, obs, obs', r, lent, rfl, ?_, hnd, hh', List.all_eq_true.1 hkn, ha, hcaps, hck, hent, hsim, himf.imp id fun h => ⟨h.1, List.all_eq_true.1 h.2⟩, rfl⟩, fun _ => ?_⟩
 ·simp only [calE, Z2e hf]
 ·have e := W6v (rd := []) (N := N) (asg := asg) (dst := dst) hnd hh hn hroot
  rw [← e] at hK
  exact hK
end
section
variable {P : Program} {Y : Sys P} {N nx fuel : Nat} {asg : Asg} {oa : OAsg} {K : S Unit → Prop} {ops : List Oper} {L : Array Bool} {dst dst' : Option Nat} {op op' : Op} {ty ty' : TypeId} {pos pos' : String} {aft aft' : Array Edge}
def bothB (ops : Array Oper) (L : Array Bool) (i j : Nat) : Bool := (Region.ready .any ops L) == [i, j]
theorem t_2 (i j : Nat) (hi : ops[i]? = some ⟨dst, op, ty, pos, aft, none⟩) (hj : ops[j]? = some ⟨dst', op', ty', pos', aft', none⟩) (hb : bothB ops.toArray L i j = true)
  (h1 : aopK Y 0 ⟨dst, op, ty, pos, aft, none⟩ (St N asg oa nx) (fun s' => aAny Y ops fuel (L.setIfInBounds i true) s' K))
  (h2 : aopK Y 0 ⟨dst', op', ty', pos', aft', none⟩ (St N asg oa nx) (fun s' => aAny Y ops fuel (L.setIfInBounds j true) s' K)) : aAny Y ops (fuel + 1) L (St N asg oa nx) K := by
 have hr : Region.ready .any ops.toArray L = [i, j] := by simpa [bothB] using hb
 refine ⟨fun h0 => (by rw [h0] at hr; cases hr), fun k hk o ho => ?_⟩
 rw [hr] at hk
 simp only [List.mem_cons, List.not_mem_nil, or_false] at hk
 rcases hk with rfl | rfl
 ·rw [hi] at ho
  cases ho
  obtain ⟨e, _, h1, h2⟩ := h1
  exact ⟨e, h1, fun hh => h2 fun _ => hh⟩
 ·rw [hj] at ho
  cases ho
  obtain ⟨e, _, h1, h2⟩ := h2
  exact ⟨e, h1, fun hh => h2 fun _ => hh⟩
end
theorem f_foldl {B : Bd} {nx : Nat} {oa : OAsg} {α : Type} {enc : α → List (L Unit)} [EncO enc] {us us' : List (U Unit)} {u : U Unit} {m id n : Nat} {xs : List α} (t j : Nat) (ht : us[t]? = some u) (hj : (Z1 u)[j]? = some (.ref () id 0 n)) (ho : lko oa nx id = some ⟨(), m, xs.map enc⟩) (hn : n = xs.length)
  (hu : us.set t (Z1j u j (.os () m (xs.map enc))) = us') : GhB B (Rt us oa nx) (Rt us' ((id, none) :: oa) nx) := by
 subst hn
 exact Z3s t j ht hj ho hu
end
section
section
variable {P : Program} {Y : Sys P} [PlainY Y] {N nx t pr : Nat} {asg : Asg} {oa : OAsg} {K : S Unit → Prop} {ty : TypeId} {pos : String} {aft : Array Edge}
def BdS (N : Nat) (asg : Asg) (x : Option Operand) (dflt n : Nat) : Prop := (x = none ∧ n = dflt) ∨ ∃ y k m, x = some y ∧ ev N asg y = some (.u (.one (.int k m))) ∧ 0 ≤ m ∧ n = m.toNat
theorem bd_n {d : Nat} : BdS N asg none d d := .inl ⟨rfl, rfl⟩
theorem bd_s {y : Operand} {d : Nat} {k : IntKind} {m : Int} (h : ev N asg y = some (.u (.one (.int k m)))) (h0 : 0 ≤ m) : BdS N asg (some y) d m.toNat := .inr ⟨y, k, m, rfl, h, h0, rfl⟩
theorem BdS.e {x : Option Operand} {d n : Nat} (h : BdS N asg x d n) : bdE (evA (St N asg oa nx)) x d = some n := by
 rcases h with ⟨rfl, rfl⟩ | ⟨y, k, m, rfl, h1, h2, rfl⟩
 ·rfl
 ·simp only [bdE, Z2e h1, if_pos h2]
theorem x_slb {α : Type} {tt : TypeId} {x : Operand} {lo hi : Option Operand} {m l h : Nat} {xs : List α} {enc : α → List (L Unit)} (he : elS P tt = some m) (h1 : ev N asg x = some (.u (.one (.bs () m (xs.map enc))))) (hl : BdS N asg lo 0 l) (hh : BdS N asg hi xs.length h)
  (hb : l ≤ h ∧ h ≤ xs.length) (hK : K (St N ((t, .u (.one (.bs () m (((xs.drop l).take (h - l)).map enc)))) :: asg) oa nx)) : aopK Y pr ⟨some t, .slice tt x lo hi none, ty, pos, aft, none⟩ (St N asg oa nx) K := by
 obtain ⟨i, ie, a1, a2, a3, rfl⟩ := Y8r he
 have e1 := hl.e (oa := oa) (nx := nx)
 have e2 := hh.e (oa := oa) (nx := nx)
 rw [List.map_take, List.map_drop] at hK
 exact Z4u (v := one1 (.bs () ie.size (((xs.map enc).drop l).take (h - l)))) (rd := []) (hyp := True) (by simp only [opF, slF, a1, a2, a3, Option.bind_some, Z2e h1, e1, List.length_map, e2, if_true, if_pos hb]) rd0 (fun _ => by rw [Z0u]; exact hK)
theorem W4u {tt : TypeId} {x : Operand} {lo hi : Option Operand} {m l h id off len : Nat} {rows : List (List (L Unit))} (hp : Nat.beq pr 1 = false) (he : elS P tt = some m) (h1 : ev N asg x = some (.u (.one (.ref () id off len)))) (ho : lko oa nx id = some ⟨(), m, rows⟩) (hl : BdS N asg lo 0 l) (hh : BdS N asg hi len h)
  (hb : l ≤ h ∧ h ≤ len) (hK : K (St N ((t, .u (.one (.ref () id (off + l) (h - l)))) :: asg) oa nx)) : aopK Y pr ⟨some t, .slice tt x lo hi none, ty, pos, aft, none⟩ (St N asg oa nx) K := by
 obtain ⟨i, ie, a1, a2, a3, rfl⟩ := Y8r he
 have e1 := hl.e (oa := oa) (nx := nx)
 have e2 := hh.e (oa := oa) (nx := nx)
 exact Z4u (v := one1 (.ref () id (off + l) (h - l))) (rd := [id]) (hyp := True) (by simp only [opF, slF, a1, a2, a3, Option.bind_some, Z2e h1, Q0 ho, e1, e2, if_true, if_pos hb]) (rd1 hp (Q0 ho)) (fun _ => by rw [Z0u]; exact hK)
end
end
section
theorem GhB.cut {B : Bd} {s : S Unit} {t id off len : Nat} {o : Ob Unit} (ht : s.sl[t]? = some (.u (.one (.ref () id off len)))) (ho : look s.ob id = some o) (hno : o.rows.all (fun r => r.all noOs) = true) :
  GhB B s ⟨s.sl.set t (.u (.one (.ref () s.nx 0 len))), s.ob.filter (fun p => !(p.1 == id)) ++ [(s.nx, ⟨(), o.n, (o.rows.drop off).take len⟩)], s.nx + 1⟩ := by
 rintro a W ⟨d, rfl, hi, hs, hdef, hk, hn0⟩
 obtain ⟨v1, hv1, hv2⟩ := Y5n ht
 obtain ⟨v, rfl⟩ : ∃ v, v1 = .u (.one (.ref v id off len)) := by
  cases v1 with
  | u x => cases x with
   | one l =>
    simp only [mapV, mapU, V.u.injEq, U.one.injEq] at hv2
    obtain ⟨v, rfl⟩ := Y5m hv2
    exact ⟨v, rfl⟩
   | agg ls => cases hv2
  | tup xs => cases hv2
  | un => cases hv2
  | ud => cases hv2
 obtain ⟨o', ho', rfl⟩ := U7 ho
 have hobs : _ ∧ ∀ r ∈ o'.rows, r.length = o'.n := hi.good.obs _ (find?_key ho')
 have hnos : ∀ r ∈ o'.rows, ∀ l ∈ r, noOs l = true := by
  simp only [erOb, Z3e, List.all_map, List.all_eq_true, Function.comp_def, Z9p] at hno
  exact hno
 have hmem : L.ref v id off len ∈ tops d := mem_tops.2 (.inl ⟨_, List.mem_of_getElem? hv1, by simp [Z3, Z1]⟩)
 obtain ⟨hle, hform⟩ := (hi.good.wf _ hmem).2 o' ho'
 let rows' := (o'.rows.drop off).take len
 have hlr : rows'.length = len := by simp only [rows', List.length_take, List.length_drop]; omega
 have hsubr : ∀ r ∈ rows', r ∈ o'.rows := fun r hr => List.mem_of_mem_drop (List.mem_of_mem_take hr)
 have hkey : (id, o') ∈ d.ob := find?_key ho'
 obtain ⟨h', hh1, hh2, hh3⟩ : ∃ h', ((h' = .slice none 0 0 ∧ rows' = []) ∨ ∃ b x c, h' = .slice (some ⟨b, x, none⟩) 0 c ∧ rows'.length ≤ c ∧ rows'.length ≤ LIM) ∧
   (∀ ob : List (Nat × Ob Value), look ob d.nx = some ⟨h', o'.n, rows'⟩ → W7 ob (.ref v d.nx 0 len)) ∧
   (∀ p ∈ Y7 h' o'.n rows', OwnFact W p ∧ ∃ q ∈ Y7 o'.h o'.n o'.rows, q.1 = p.1) := by
  rcases hform with ⟨h0, hv0⟩ | ⟨b, x, c0, h0, hv0⟩
  ·have hr0 : o'.rows = [] := by
    rcases hobs.1 with ⟨_, h1⟩ | ⟨_, _, _, h1, _⟩
    ·exact h1
    ·simp only at h1; rw [h0] at h1; cases h1
   have hr1 : rows' = [] := by simp [rows', hr0]
   refine ⟨.slice none 0 0, .inl ⟨rfl, hr1⟩, fun ob hl o2 ho2 => ?_, fun p hp => by simp [Y7] at hp⟩
   rw [hl] at ho2
   cases ho2
   exact ⟨by simp [hlr], .inl ⟨rfl, hv0⟩⟩
  ·have hc : o'.rows.length ≤ c0 ∧ o'.rows.length ≤ LIM := by
    rcases hobs.1 with ⟨h7, _⟩ | ⟨b2, x2, c2, h7, h8, h9⟩
    ·simp only at h7; rw [h0] at h7; cases h7
    ·simp only at h7 h8 h9; rw [h0] at h7; cases h7; exact ⟨h8, h9⟩
   have hm0 : (b, x, c0 * o'.n, valR o'.rows) ∈ Y7 o'.h o'.n o'.rows := by simp [Y7, h0]
   have hm : (b, x, c0 * o'.n, valR o'.rows) ∈ ownS d := by
    simp only [ownS, List.mem_append]
    left
    exact List.mem_flatMap.2 ⟨(id, o'), hkey, hm0⟩
   obtain ⟨arr, ty, k1, k2, k3, k4⟩ := hi.good.own _ hm
   simp only at k2 k3 k4
   rcases hv0 with hv0 | ⟨y, hv0, hl0, h9, h10⟩
   ·refine ⟨.slice (some ⟨b, x + off * o'.n, none⟩) 0 (c0 - off), .inr ⟨_, _, _, rfl, by omega, by omega⟩, fun ob hl o2 ho2 => ?_, fun p hp => ?_⟩
    ·rw [hl] at ho2
     cases ho2
     exact ⟨by simp [hlr], .inr ⟨b, _, _, rfl, .inl (by rw [hv0]; simp)⟩⟩
    ·simp only [Y7, List.mem_singleton] at hp
     subst hp
     refine ⟨⟨arr, ty, k1, ?_, ?_, fun j u hj => ?_⟩, _, hm0, rfl⟩
     ·simp only
      have : off * o'.n + (c0 - off) * o'.n = c0 * o'.n := by rw [← Nat.add_mul]; congr 1; omega
      omega
     ·simp only
      rw [Z2f fun r hr => hobs.2 r (hsubr r hr)]
      exact Nat.mul_le_mul_right _ (by omega)
     ·have h2 := Z6d hobs.2 off len j hj
      have := k4 _ _ h2
      simpa [Nat.add_assoc] using this
   ·have hr1 : rows' = [] := List.eq_nil_of_length_eq_zero (by omega)
    refine ⟨.slice (some ⟨b, y, none⟩) 0 0, .inr ⟨_, _, _, rfl, by omega, by omega⟩, fun ob hl o2 ho2 => ?_, fun p hp => ?_⟩
    ·rw [hl] at ho2
     cases ho2
     exact ⟨by simp [hlr], .inr ⟨b, _, _, rfl, .inl (by rw [hv0, hl0]; simp)⟩⟩
    ·simp only [Y7, List.mem_singleton] at hp
     subst hp
     refine ⟨⟨arr, ty, k1, ?_, ?_, fun j u hj => ?_⟩, _, hm0, rfl⟩
     ·simp only [Nat.zero_mul]; omega
     ·simp [hr1, valR]
     ·simp [hr1, valR] at hj
 let nv : V Value := .u (.one (.ref v d.nx 0 len))
 let no : Ob Value := ⟨h', o'.n, rows'⟩
 let d' : S Value := ⟨d.sl.set t nv, d.ob.filter (fun p => !(p.1 == id)) ++ [(d.nx, no)], d.nx + 1⟩
 have hsub : (d.ob.filter (fun p => !(p.1 == id))).Sublist d.ob := List.filter_sublist
 have hnk : d.nx ∉ d.ob.map (·.1) := fun hm => by have := hk d.nx (.inr hm); omega
 have hnd' : (d'.ob.map (·.1)).Nodup := by
  show ((d.ob.filter _ ++ [(d.nx, no)]).map (·.1)).Nodup
  rw [List.map_append, List.nodup_append]
  refine ⟨hi.good.ids.sublist (hsub.map _), by simp, fun i hi1 j hj e => ?_⟩
  simp only [List.map_cons, List.map_nil, List.mem_singleton] at hj
  subst e hj
  exact hnk ((hsub.map _).subset hi1)
 have hlookn : look d'.ob d.nx = some no := J2 hnd' (List.mem_append_right _ (by simp))
 have htop : ∀ l ∈ tops d', l ∈ tops d ∨ l = .ref v d.nx 0 len := fun l hl => by
  rcases mem_tops.1 hl with ⟨w, hw, hl2⟩ | hl2
  ·rcases List.mem_or_eq_of_mem_set hw with hw | rfl
   ·exact .inl (mem_tops.2 (.inl ⟨w, hw, hl2⟩))
   ·simp only [nv, Z3, Z1, List.mem_singleton] at hl2
    exact .inr hl2
  ·obtain ⟨p, hp, r, hr, hlr⟩ := mem_obLeaves.1 hl2
   rcases List.mem_append.1 hp with hp | hp
   ·exact .inl (mem_tops.2 (.inr (mem_obLeaves.2 ⟨p, hsub.subset hp, r, hr, hlr⟩)))
   ·simp only [List.mem_singleton] at hp
    subst hp
    exact .inl (mem_tops.2 (.inr (mem_obLeaves.2 ⟨_, hkey, r, hsubr r hr, hlr⟩)))
 have hlook' : ∀ i, Z3h d i → look d'.ob i = look d.ob i ∨ look d'.ob i = none := fun i hi1 => by
  have hne : i ≠ d.nx := fun e => by have := hk i hi1; omega
  have e1 : look d'.ob i = look (d.ob.filter (fun p => !(p.1 == id))) i := by
   unfold look
   simp only [d', List.find?_append]
   have : List.find? (fun p : Nat × Ob Value => p.1 == i) [(d.nx, no)] = none := by simp [Ne.symm hne]
   rw [this, Option.or_none]
  rw [e1]
  exact Z9q (f := fun j => !(j == id))
 have hown0 : o'.rows.flatten.flatMap ownL = [] := by
  rw [List.flatMap_eq_nil_iff]
  intro l hl
  obtain ⟨r, hr, hl⟩ := List.mem_flatten.1 hl
  exact Z0m (hnos r hr l hl)
 have hown1 : rows'.flatten.flatMap ownL = [] := by
  rw [List.flatMap_eq_nil_iff]
  intro l hl
  obtain ⟨r, hr, hl⟩ := List.mem_flatten.1 hl
  exact Z0m (hnos r (hsubr r hr) l hl)
 obtain ⟨R, hR, hR'⟩ : ∃ R, (ownS d).Perm (Y7 o'.h o'.n o'.rows ++ R) ∧ (ownS d').Perm (Y7 h' o'.n rows' ++ R) := by
  classical
  obtain ⟨l1, l2, hob, h1, h2⟩ := Z2p ho' hi.good.ids
  have hf : d.ob.filter (fun p => !(p.1 == id)) = l1 ++ l2 := by rw [hob]; exact Y2x h1 h2
  refine ⟨(l1 ++ l2).flatMap Q8 ++ (d.sl.flatMap Z3).flatMap ownL, List.perm_iff_count.2 fun q => ?_, List.perm_iff_count.2 fun q => ?_⟩
  ·have c1 := List.perm_iff_count.1 (V3 d) q
   rw [hob] at c1
   simp only [List.flatMap_append, List.flatMap_cons, List.count_append, Q8, hown0, List.append_nil] at c1 ⊢
   omega
  ·have c1 := List.perm_iff_count.1 (V3 d') q
   have c2 : (d'.sl.flatMap Z3).flatMap ownL = (d.sl.flatMap Z3).flatMap ownL := by
    rw [List.flatMap_assoc, List.flatMap_assoc]
    exact Z7s hv1 (by simp [nv, Z3, Z1, ownL])
   have c3 : d'.ob = (l1 ++ l2) ++ [(d.nx, no)] := by show d.ob.filter _ ++ _ = _; rw [hf]
   rw [c2, c3] at c1
   simp only [List.flatMap_append, List.flatMap_cons, List.flatMap_nil, List.append_nil, List.count_append, Q8, no, hown1] at c1 ⊢
   omega
 have hnd := (hR.map (·.1)).nodup_iff.1 hi.good.nodup
 rw [List.map_append, List.nodup_append] at hnd
 have h1' : (Y7 h' o'.n rows').length ≤ 1 := by unfold Y7; split <;> simp
 refine ⟨d', ?_, ?_, ⟨by simpa [d'] using hs.1, fun i w hw => ?_⟩, hdef, fun i hi2 => ?_, ?_⟩
 ·have e1 : d'.sl.map erV = (d.sl.map erV).set t (.u (.one (.ref () d.nx 0 len))) := by
   simp only [d', nv, List.map_set, mapV, mapU, mapL]
  have e2 : (d.ob.filter (fun p => !(p.1 == id))).map (fun p => (p.1, erOb p.2)) = (d.ob.map (fun p => (p.1, erOb p.2))).filter (fun p => !(p.1 == id)) := by
   rw [List.filter_map]; rfl
  have e3 : erOb no = ⟨(), (erOb o').n, ((erOb o').rows.drop off).take len⟩ := by
   simp [no, rows', erOb, Z3e, List.map_take, List.map_drop]
  simp only [erS, mapS, S.mk.injEq, and_true]
  refine ⟨e1, ?_, rfl⟩
  show List.map _ (d.ob.filter _ ++ [(d.nx, no)]) = _
  rw [List.map_append, e2]
  congr 1
  simp only [List.map_cons, List.map_nil]
  rw [show Z3e (fun _ => ()) no = erOb no from rfl, e3]
 ·refine hi.step (Nat.le_refl _) (Same.refl _) (fun _ _ _ => rfl) (fun l hl => ?_) (fun p hp => ?_) hnd' (fun p hp => ?_) ?_ (fun p hp => ?_) (fun p hp hlt => ?_)
  ·rcases htop l hl with h | rfl
   ·have hh := Z8a hi.good h
    exact ⟨hh.1, Z7v (fun i hi1 => hlook' i (hh.2.2.2 i hi1)) hh.2.1⟩
   ·exact ⟨⟨rfl, (hi.good.wf _ hmem).1.2⟩, hh2 _ hlookn⟩
  ·rcases List.mem_append.1 hp with hp | hp
   ·exact hi.good.obs p (hsub.subset hp)
   ·simp only [List.mem_singleton] at hp
    subst hp
    exact ⟨hh1, fun r hr => hobs.2 r (hsubr r hr)⟩
  ·rcases List.mem_append.1 (hR'.mem_iff.1 hp) with hp | hp
   ·obtain ⟨k1, q, k2, k3⟩ := hh3 p hp
    exact ⟨k1, .inl ⟨q, hR.mem_iff.2 (List.mem_append_left _ k2), k3⟩⟩
   ·have := hR.mem_iff.2 (List.mem_append_right _ hp)
    exact ⟨hi.good.own p this, .inl ⟨p, this, rfl⟩⟩
  ·rw [(hR'.map (·.1)).nodup_iff, List.map_append, List.nodup_append]
   refine ⟨?_, hnd.2.1, fun i hi1 j hj e => ?_⟩
   ·unfold Y7; split <;> simp
   ·obtain ⟨p, hp, rfl⟩ := List.mem_map.1 hi1
    obtain ⟨_, q, k2, k3⟩ := hh3 p hp
    exact hnd.2.2 q.1 (List.mem_map.2 ⟨q, k2, rfl⟩) j hj (k3.trans e)
  ·obtain ⟨l, hl, hp⟩ := List.mem_flatMap.1 hp
   rcases htop l hl with h | rfl
   ·exact .of_mem (List.mem_flatMap.2 ⟨l, h, hp⟩)
   ·simp [immL] at hp
  ·rcases List.mem_append.1 hp with hp | hp
   ·exact hi.hdr p (hsub.subset hp) hlt
   ·simp only [List.mem_singleton] at hp
    subst hp
    simp only at hlt
    omega
 ·simp only [d', List.getElem?_set] at hw
  by_cases hti : t = i
  ·subst hti
   have hlt : t < d.sl.length := (List.getElem?_eq_some_iff.1 hv1).1
   rw [if_pos rfl, if_pos hlt] at hw
   cases hw
   have := hs.2 t _ hv1
   simpa [nv, VR, UR, val] using this
  ·rw [if_neg hti] at hw
   exact hs.2 i w hw
 ·show i < d.nx + 1
  rcases hi2 with ⟨l, hl, h⟩ | h
  ·rcases htop l hl with h2 | rfl
   ·have := hk i (.inl ⟨l, h2, h⟩); omega
   ·simp only [idsL, List.mem_singleton] at h; omega
  ·have : i ∈ (d.ob.filter (fun p => !(p.1 == id)) ++ [(d.nx, no)]).map (·.1) := h
   rw [List.map_append, List.mem_append] at this
   rcases this with h3 | h3
   ·have := hk i (.inr ((hsub.map _).subset h3)); omega
   ·simp only [List.map_cons, List.map_nil, List.mem_singleton] at h3; omega
 ·show B.n0 ≤ d.nx + 1; omega
section
variable {B : Bd} {N nx : Nat} {asg : Asg} {oa : OAsg}
theorem X6d {α : Type} {enc : α → List (L Unit)} [EncB enc] (xs : List α) : (xs.map enc).all (fun r => r.all noOs) = true := by
 simp only [List.all_map, List.all_eq_true]
 intro x _
 have := EncB.h (enc := enc) x
 simp only [List.all_eq_true] at this
 simp only [Function.comp, List.all_eq_true]
 exact fun l hl => Y0u (this l hl)
theorem f_cut {α : Type} {enc : α → List (L Unit)} [EncB enc] {id off len n len' : Nat} (t : Nat) (xs : List α) (hN : Nat.blt t N = true) (ht : lkp asg t = some (.u (.one (.ref () id off len)))) (ho : lko oa nx id = some ⟨(), n, xs.map enc⟩) (hl : len = len') :
  GhB B (St N asg oa nx) (St N ((t, .u (.one (.ref () nx 0 len'))) :: asg) ((nx, some ⟨(), n, ((xs.drop off).take len').map enc⟩) :: (id, none) :: oa) (nx + 1)) := by
 subst hl
 have h := GhB.cut (B := B) (s := St N asg oa nx) (Z7p (oa := oa) (nx := nx) hN ht) (Q0 ho) (X6d xs)
 have e : (⟨(St N asg oa nx).sl.set t (.u (.one (.ref () (St N asg oa nx).nx 0 len))), (St N asg oa nx).ob.filter (fun p => !(p.1 == id)) ++ [((St N asg oa nx).nx, ⟨(), n, ((xs.map enc).drop off).take len⟩)], (St N asg oa nx).nx + 1⟩ : S Unit) =
   St N ((t, .u (.one (.ref () nx 0 len))) :: asg) ((nx, some ⟨(), n, ((xs.drop off).take len).map enc⟩) :: (id, none) :: oa) (nx + 1) := by
  simp only [St, Z5r, Y9x, List.map_take, List.map_drop]
 rw [← e]
 exact h
end
end
section
theorem GhB.nls {B : Bd} {s : S Unit} {u : U Unit} (t j m : Nat) (ht : s.sl[t]? = some (.u u)) (hj : (Z1 u)[j]? = some .nl) : GhB B s ⟨s.sl.set t (.u (Z1j u j (.ref () s.nx 0 0))), s.ob ++ [(s.nx, ⟨(), m, []⟩)], s.nx + 1⟩ := by
 rintro a W ⟨d, rfl, hi0, hs, hdef, hk, hn0⟩
 have h1 : (d.sl.map erV)[t]? = some (.u u) := ht
 rw [List.getElem?_map, Option.map_eq_some_iff] at h1
 obtain ⟨v, hv, hvu⟩ := h1
 obtain ⟨u', rfl, rfl⟩ : ∃ u', v = .u u' ∧ erU u' = u := by
  cases v with
  | u x => exact ⟨x, rfl, by injection hvu⟩
  | tup xs => cases hvu
  | un => cases hvu
  | ud => cases hvu
 rw [Q2, List.getElem?_map, Option.map_eq_some_iff] at hj
 obtain ⟨l', hj', hl'⟩ := hj
 obtain rfl : l' = .nl := by cases l' <;> simp [mapL] at hl'; rfl
 have hjlt : j < (Z1 u').length := (List.getElem?_eq_some_iff.1 hj').1
 have htlt : t < d.sl.length := (List.getElem?_eq_some_iff.1 hv).1
 have hfr : ∀ i, Z3h d i → i ≠ d.nx := fun i hi1 he => by have := hk i hi1; omega
 obtain ⟨hi, hkn⟩ := hi0.new (W' := W) (fun _ => true) hfr hn0 (hd := .slice none 0 0) (n := m) (rows := []) (by simp) (by simp) (Nat.le_refl _) (Same.refl _) (fun _ _ _ => rfl) (.inl ⟨rfl, rfl⟩)
 have hfl : d.ob.filter (fun _ => true) = d.ob := List.filter_eq_self.2 fun _ _ => rfl
 simp only [hfl] at hi hkn
 let d1 : S Value := ⟨d.sl, d.ob ++ [(d.nx, ⟨.slice none 0 0, m, []⟩)], d.nx + 1⟩
 have hi : Inv B W d1 := hi
 have hlookn : look d1.ob d.nx = some ⟨.slice none 0 0, m, []⟩ := J2 hi.good.ids (List.mem_append_right _ (by simp))
 let nl' : L Value := .ref (.slice none 0 0) d.nx 0 0
 have hno : ownL nl' = [] := rfl
 have him : immL nl' = [] := by simp [nl', immL]
 have hids : idsL nl' = [d.nx] := rfl
 have hwf : wfL false nl' := ⟨rfl, _, _, _, rfl⟩
 have hrf : W7 d1.ob nl' := fun o2 ho2 => by
  rw [hlookn] at ho2
  cases ho2
  exact ⟨by simp, .inl ⟨rfl, rfl⟩⟩
 have hval : val nl' = val (.nl : L Value) := rfl
 let nv : V Value := .u (Z1j u' j nl')
 have hlv : Z3 nv = (Z1 u').set j nl' := Z6s hjlt
 let d' : S Value := ⟨d.sl.set t nv, d1.ob, d.nx + 1⟩
 have htop : ∀ l ∈ tops d', l ∈ tops d1 ∨ l = nl' := fun l hl => by
  rcases mem_tops.1 hl with ⟨w, hw, hl2⟩ | hl2
  ·rcases List.mem_or_eq_of_mem_set hw with hw | rfl
   ·exact .inl (mem_tops.2 (.inl ⟨w, hw, hl2⟩))
   ·rw [hlv] at hl2
    rcases List.mem_or_eq_of_mem_set hl2 with hl2 | rfl
    ·exact .inl (mem_tops.2 (.inl ⟨.u u', List.mem_of_getElem? hv, hl2⟩))
    ·exact .inr rfl
  ·exact .inl (mem_tops.2 (.inr hl2))
 have hown : (ownS d').Perm (ownS d1) := by
  have h1 : ((Z3 nv).flatMap ownL).Perm ([] ++ (Z3 (.u u')).flatMap ownL) := by
   rw [hlv]
   exact Z4z (e := []) hj' (by simp [hno, ownL])
  have h2 := Z4z (f := fun v => (Z3 v).flatMap ownL) (e := []) hv h1
  simp only [ownS, tops, List.flatMap_append, List.flatMap_assoc, d', d1] at h2 ⊢
  simp only [List.nil_append] at h2
  exact (h2.append_right _).append_left _
 refine ⟨d', ?_, ?_, ⟨by simpa [d'] using hs.1, fun i w hw => ?_⟩, hdef, fun i hi2 => ?_, ?_⟩
 ·have e1 : (d'.sl.map erV) = (d.sl.map erV).set t (.u (Z1j (erU u') j (.ref () d.nx 0 0))) := by
   simp only [d', List.map_set]
   congr 1
   show V.u (erU (Z1j u' j nl')) = _
   rw [Y4j]
   simp [nl', mapL]
  have e2 : erS d' = ⟨d'.sl.map erV, d1.ob.map (fun p => (p.1, erOb p.2)), d'.nx⟩ := rfl
  rw [e2, e1]
  simp only [d1, List.map_append, List.map_cons, List.map_nil, Z3e]
  rfl
 ·refine hi.step (Nat.le_refl _) (Same.refl _) (fun _ _ _ => rfl) (fun l hl => ?_) hi.good.obs hi.good.ids (fun p hp => ⟨hi.good.own p (hown.mem_iff.1 hp), .inl ⟨p, hown.mem_iff.1 hp, rfl⟩⟩) ((hown.map (·.1)).nodup_iff.2 hi.good.nodup) (fun p hp => ?_) hi.hdr
  ·rcases htop l hl with h | rfl
   ·exact hi.good.wf l h
   ·exact ⟨hwf, hrf⟩
  ·obtain ⟨l, hl, hp⟩ := List.mem_flatMap.1 hp
   rcases htop l hl with h | rfl
   ·exact .of_mem (List.mem_flatMap.2 ⟨l, h, hp⟩)
   ·rw [him] at hp; cases hp
 ·simp only [d', List.getElem?_set] at hw
  by_cases hti : t = i
  ·subst hti
   rw [if_pos rfl, if_pos htlt] at hw
   cases hw
   exact Y4k (hs.2 t _ hv) hj' hval
  ·rw [if_neg hti] at hw
   exact hs.2 i w hw
 ·show i < d.nx + 1
  rcases hi2 with ⟨l, hl, h⟩ | h
  ·rcases htop l hl with h2 | rfl
   ·rcases hkn i (.inl ⟨l, h2, h⟩) with h | h
    ·have := hk i h; omega
    ·omega
   ·rw [hids] at h
    simp only [List.mem_singleton] at h
    omega
  ·rcases hkn i (.inr h) with h | h
   ·have := hk i h; omega
   ·omega
 ·show B.n0 ≤ d.nx + 1; omega
section
variable {B : Bd} {N nx : Nat} {asg : Asg} {oa : OAsg}
theorem f_nls {u u' : U Unit} (t j m : Nat) (hN : Nat.blt t N = true) (ht : lkp asg t = some (.u u)) (hj : (Z1 u)[j]? = some .nl) (hu : Z1j u j (.ref () nx 0 0) = u') :
  GhB B (St N asg oa nx) (St N ((t, .u u') :: asg) ((nx, some ⟨(), m, []⟩) :: oa) (nx + 1)) := by
 subst hu
 have h := GhB.nls (B := B) t j m (Z7p (oa := oa) (nx := nx) hN ht) hj
 have e : (⟨(St N asg oa nx).sl.set t (.u (Z1j u j (.ref () (St N asg oa nx).nx 0 0))), (St N asg oa nx).ob ++ [((St N asg oa nx).nx, ⟨(), m, []⟩)], (St N asg oa nx).nx + 1⟩ : S Unit) =
   St N ((t, .u (Z1j u j (.ref () nx 0 0))) :: asg) ((nx, some ⟨(), m, []⟩) :: oa) (nx + 1) := by
  simp only [St, Z5r, Y1h]
 rw [← e]
 exact h
theorem W3x {α : Type} {enc : α → List (L Unit)} [EncB enc] {id off len n : Nat} (t : Nat) (xs ys : List α) (hN : Nat.blt t N = true) (ht : lkp asg t = some (.u (.one (.ref () id off len)))) (ho : lko oa nx id = some ⟨(), n, xs.map enc⟩) (hl : len = ys.length) (hy : (xs.drop off).take len = ys) :
  GhB B (St N asg oa nx) (St N ((t, .u (.one (.ref () nx 0 ys.length))) :: asg) ((nx, some ⟨(), n, ys.map enc⟩) :: (id, none) :: oa) (nx + 1)) := by
 have := f_cut (B := B) t xs hN ht ho hl
 rw [← hl, hy, hl] at this
 exact this
theorem W6a {us us' : List (U Unit)} {u : U Unit} {n id : Nat} {rows : List (List (L Unit))} {t j : Nat} (ht : us[t]? = some u) (hj : (Z1 u)[j]? = some (.ref () id 0 rows.length)) (hu : us.set t (Z1j u j (.bs () n rows)) = us')
  (hno : us'.all (fun u => (Z1 u).all fun l => !X6k id l) = true) : us.map (frzU id n rows) = us' := by
 subst hu
 have hjlt : j < (Z1 u).length := (List.getElem?_eq_some_iff.1 hj).1
 simp only [List.all_eq_true, Bool.not_eq_true'] at hno
 apply List.ext_getElem?
 intro i
 rw [List.getElem?_map, List.getElem?_set]
 by_cases hti : t = i
 ·subst hti
  have htlt : t < us.length := (List.getElem?_eq_some_iff.1 ht).1
  rw [ht, if_pos rfl, if_pos htlt]
  simp only [Option.map_some, Option.some.injEq]
  have h2 := hno (Z1j u j (.bs () n rows)) (List.mem_of_getElem? (i := t) (by rw [List.getElem?_set, if_pos rfl, if_pos htlt]))
  rw [Z6s hjlt] at h2
  cases u with
  | one l =>
   simp only [Z1, List.length_singleton] at hjlt
   obtain rfl : j = 0 := by omega
   simp only [Z1, List.getElem?_cons_zero, Option.some.injEq] at hj
   subst hj
   simp [frzU, frzL, Z1j]
  | agg ls =>
   simp only [Z1] at hj hjlt h2
   simp only [frzU, Z1j, U.agg.injEq]
   apply List.ext_getElem?
   intro k
   rw [List.getElem?_map, List.getElem?_set]
   by_cases hjk : j = k
   ·subst hjk
    rw [hj, if_pos rfl, if_pos hjlt]
    simp [frzL]
   ·rw [if_neg hjk]
    cases hk : ls[k]? with
    | none => rfl
    | some l =>
     simp only [Option.map_some, Option.some.injEq]
     exact X7c (h2 l (List.mem_of_getElem? (i := k) (by rw [List.getElem?_set, if_neg hjk, hk])))
 ·rw [if_neg hti]
  cases hk : us[i]? with
  | none => rfl
  | some w =>
   simp only [Option.map_some, Option.some.injEq]
   exact X7b fun l hl => hno w (List.mem_of_getElem? (i := i) (by rw [List.getElem?_set, if_neg hti, hk])) l hl
theorem f_frR {α : Type} {enc : α → List (L Unit)} [EncB enc] {us us' : List (U Unit)} {u : U Unit} {m id n : Nat} {xs : List α} (t j : Nat) (ht : us[t]? = some u) (hj : (Z1 u)[j]? = some (.ref () id 0 n)) (ho : lko oa nx id = some ⟨(), m, xs.map enc⟩) (hn : n = xs.length)
  (hu : us.set t (Z1j u j (.bs () m (xs.map enc))) = us') (hno : us'.all (fun u => (Z1 u).all fun l => !X6k id l) = true) : GhB B (Rt us oa nx) (Rt us' ((id, none) :: oa) nx) := by
 subst hn
 have h := GhB.freeze (B := B) (s := Rt us oa nx) (Q0 (N := 0) (asg := []) ho) (Z9e xs)
 have e : (⟨(Rt us oa nx).sl.map (frzV id m (xs.map enc)), (Rt us oa nx).ob.filter (fun p => !(p.1 == id)), (Rt us oa nx).nx⟩ : S Unit) = Rt us' ((id, none) :: oa) nx := by
  simp only [Rt, Y3g, S.mk.injEq, and_true]
  rw [← W6a ht (by simpa using hj) hu hno]
  simp [frzV, Function.comp_def]
 rw [← e]
 exact h
end
end
section
section
variable {B : Bd} {N nx : Nat} {asg : Asg} {oa : OAsg}
end
end
section
theorem X9b (rows : List (List (L Value))) : rows.flatten.flatMap ownL = rows.flatMap (fun r => r.flatMap ownL) := by
 rw [List.flatMap_def, List.flatMap_def, List.map_flatten, List.flatten_flatten, List.map_map]; rfl
theorem X8z (rows : List (List (L Value))) : rows.flatten.map val = rows.flatMap (fun r => r.map val) := by
 rw [List.map_flatten, List.flatMap_def]
theorem Y5s {rows : List (List (L Value))} {e j : Nat} {r : List (L Value)} {l l0 : L Value} {E : List OwnE} (hr : rows[e]? = some r) (hj : r[j]? = some l0) (hp : (ownL l).Perm (E ++ ownL l0)) :
  ((rows.set e (r.set j l)).flatten.flatMap ownL).Perm (E ++ rows.flatten.flatMap ownL) := by
 rw [X9b, X9b]
 exact Z4z (f := fun r => r.flatMap ownL) hr (Z4z hj hp)
theorem Y8t {rows : List (List (L Value))} {e j : Nat} {r : List (L Value)} {l l0 : L Value} (hr : rows[e]? = some r) (hj : r[j]? = some l0) (hv : val l = val l0) : valR (rows.set e (r.set j l)) = valR rows := by
 unfold valR
 rw [X8z, X8z]
 exact Z7s hr (X6g hj hv)
theorem W3k {v : Value} {m : Nat} {rows : List (List (L Value))} (h : X3p v rows) : Y7 (hdV v) m rows = Y7 v m rows ∧ ((hdV v = .slice none 0 0 ∧ rows = []) ∨ ∃ b x c, hdV v = .slice (some ⟨b, x, none⟩) 0 c ∧ rows.length ≤ c ∧ rows.length ≤ LIM) := by
 rcases h with ⟨rfl, h⟩ | ⟨b, x, c, rfl, h1, h2⟩
 ·exact ⟨rfl, .inl ⟨rfl, h⟩⟩
 ·exact ⟨rfl, .inr ⟨b, x, c, rfl, h1, h2⟩⟩
theorem Z3t {δ : Type} (ob : List (Nat × Ob δ)) (id : Nat) (rows : List (List (L δ))) : (K0 ob id rows).map (·.1) = ob.map (·.1) := by
 unfold K0
 rw [List.map_map]
 refine List.map_congr_left fun p _ => ?_
 simp only [Function.comp]
 split <;> rfl
theorem X4n {δ : Type} (a b : List (Nat × Ob δ)) (id : Nat) (rows : List (List (L δ))) : K0 (a ++ b) id rows = K0 a id rows ++ K0 b id rows := by
 unfold K0
 rw [List.map_append]
theorem W1h {δ : Type} {ob : List (Nat × Ob δ)} {id : Nat} (rows : List (List (L δ))) (h : ∀ p ∈ ob, p.1 ≠ id) : K0 ob id rows = ob := by
 unfold K0
 conv => rhs; rw [← List.map_id ob]
 refine List.map_congr_left fun p hp => ?_
 rw [if_neg (h p hp)]
 rfl
theorem Z1e {ob : List (Nat × Ob Value)} {id : Nat} {rows : List (List (L Value))} {p : Nat × Ob Value} (h : p ∈ K0 ob id rows) : (p ∈ ob ∧ p.1 ≠ id) ∨ ∃ o, (id, o) ∈ ob ∧ p = (id, ⟨o.h, o.n, rows⟩) := by
 obtain ⟨q, hq, rfl⟩ := List.mem_map.1 h
 by_cases hi : q.1 = id
 ·rw [if_pos hi]
  exact .inr ⟨q.2, by rw [← hi]; exact hq, by rw [hi]⟩
 ·rw [if_neg hi]
  exact .inl ⟨hq, hi⟩
theorem Y5p (ob : List (Nat × Ob Value)) (id : Nat) (rows : List (List (L Value))) : (K0 ob id rows).map (fun p => (p.1, erOb p.2)) = K0 (ob.map fun p => (p.1, erOb p.2)) id (rows.map fun r => r.map erL) := by
 unfold K0
 rw [List.map_map, List.map_map]
 refine List.map_congr_left fun p _ => ?_
 simp only [Function.comp]
 split <;> rfl
theorem GhB.openC {B : Bd} {s : S Unit} {id e j m : Nat} {o : Ob Unit} {r : List (L Unit)} {rows2 : List (List (L Unit))} (ho : look s.ob id = some o) (hr : o.rows[e]? = some r) (hj : r[j]? = some (.os () m rows2)) :
  GhB B s ⟨s.sl, K0 (s.ob ++ [(s.nx, ⟨(), m, rows2⟩)]) id (o.rows.set e (r.set j (.ref () s.nx 0 rows2.length))), s.nx + 1⟩ := by
 rintro a W ⟨d, rfl, hi, hs, hdef, hk, hn0⟩
 obtain ⟨o', ho', rfl⟩ := U7 ho
 obtain ⟨r', hr', rfl⟩ := Y1c hr
 rw [List.getElem?_map, Option.map_eq_some_iff] at hj
 obtain ⟨l', hj', hl'⟩ := hj
 obtain ⟨v, rows3, rfl, rfl⟩ : ∃ v rows3, l' = .os v m rows3 ∧ rows3.map (fun r => r.map erL) = rows2 := by
  cases l' <;> simp only [mapL, reduceCtorEq, L.os.injEq, true_and] at hl'
  obtain ⟨rfl, h⟩ := hl'
  exact ⟨_, _, rfl, by rw [← h, Z1m]⟩
 have hrm := List.mem_of_getElem? hr'
 have hlm := List.mem_of_getElem? hj'
 have hkey : (id, o') ∈ d.ob := find?_key ho'
 have hmem : L.os v m rows3 ∈ tops d := mem_tops.2 (.inr (mem_obLeaves.2 ⟨_, hkey, r', hrm, hlm⟩))
 have hwf := (hi.good.wf _ hmem).1
 simp only [wfL] at hwf
 obtain ⟨hown, hlen, hwr⟩ := hwf
 obtain ⟨hh1, hh2⟩ := W3k (m := m) hown
 have hobs : _ ∧ ∀ r ∈ o'.rows, r.length = o'.n := hi.good.obs _ hkey
 have hsl3 : ∃ a n c, v = .slice a n c := by
  rcases hown with ⟨rfl, _⟩ | ⟨_, _, _, rfl, _⟩ <;> exact ⟨_, _, _, rfl⟩
 let no : Ob Value := ⟨hdV v, m, rows3⟩
 let nref : L Value := .ref v d.nx 0 rows3.length
 let rows1 := o'.rows.set e (r'.set j nref)
 let ob1 := K0 (d.ob ++ [(d.nx, no)]) id rows1
 let d' : S Value := ⟨d.sl, ob1, d.nx + 1⟩
 have hnk : d.nx ∉ d.ob.map (·.1) := fun hm => by have := hk d.nx (.inr hm); omega
 have hne : id ≠ d.nx := fun he => by
  have := hk id (.inr (List.mem_map.2 ⟨_, hkey, rfl⟩)); omega
 have hob1 : ob1 = K0 d.ob id rows1 ++ [(d.nx, no)] := by
  show K0 (d.ob ++ [(d.nx, no)]) id rows1 = _
  rw [X4n, W1h (ob := [(d.nx, no)]) rows1 (fun p hp => by
   simp only [List.mem_singleton] at hp; subst hp; exact Ne.symm hne)]
 have hids : (d'.ob.map (·.1)).Nodup := by
  show (ob1.map (·.1)).Nodup
  rw [hob1, List.map_append, Z3t, List.nodup_append]
  refine ⟨hi.good.ids, by simp, fun i hi1 k hk1 e => ?_⟩
  simp only [List.map_cons, List.map_nil, List.mem_singleton] at hk1
  subst e hk1
  exact hnk hi1
 have hlen1 : rows1.length = o'.rows.length := by simp [rows1]
 have hlook : ∀ i, i ≠ d.nx → look ob1 i = if i = id then (look d.ob i).map (fun o => ⟨o.h, o.n, rows1⟩) else look d.ob i := fun i hi1 => by
  rw [← Y8p (rows := rows1)]
  rw [hob1]
  unfold look
  rw [List.find?_append]
  have : List.find? (fun p : Nat × Ob Value => p.1 == i) [(d.nx, no)] = none := by simp [Ne.symm hi1]
  rw [this, Option.or_none]
 have hlookn : look ob1 d.nx = some no := J2 hids (by
  show _ ∈ ob1
  rw [hob1]; exact List.mem_append_right _ (by simp))
 have hrefOk : ∀ l, Has d l → W7 ob1 l := fun l hh => by
  refine Z7u (fun i hi1 o2 ho2 => ?_) hh.2.1
  have hkn := hk i (hh.2.2.2 i hi1)
  rw [hlook i (by omega)] at ho2
  split at ho2
  ·rename_i he
   subst he
   rw [ho'] at ho2
   cases ho2
   exact ⟨o', ho', rfl, rfl, hlen1.symm⟩
  ·exact ⟨o2, ho2, rfl, rfl, rfl⟩
 have hnref : wfL false nref ∧ W7 ob1 nref := by
  refine ⟨⟨rfl, hsl3⟩, fun o2 ho2 => ?_⟩
  rw [hlookn] at ho2
  cases ho2
  refine ⟨by simp [no], ?_⟩
  rcases hown with ⟨rfl, _⟩ | ⟨b, x, c, rfl, _⟩
  ·exact .inl ⟨rfl, rfl⟩
  ·exact .inr ⟨b, x, c, rfl, .inl (by simp)⟩
 have hin3 : ∀ r ∈ rows3, ∀ l ∈ r, wfL true l ∧ ∀ q ∈ immL l, q ∈ immS d := fun r hr l hl => by
  refine ⟨(Z5h _ _).1 hwr r hr l hl, fun q hq => List.mem_flatMap.2 ⟨_, hmem, ?_⟩⟩
  simp only [immL, Z4r]
  exact List.mem_flatMap.2 ⟨l, List.mem_flatten.2 ⟨r, hr, hl⟩, hq⟩
 have hrow1 : ∀ r ∈ rows1, r ∈ o'.rows ∨ r = r'.set j nref := fun r hr => List.mem_or_eq_of_mem_set hr
 have htop : ∀ l ∈ tops d', l ∈ tops d ∨ l = nref ∨ ∃ r ∈ rows3, l ∈ r := fun l hl => by
  rcases mem_tops.1 hl with h | h
  ·exact .inl (mem_tops.2 (.inl h))
  ·obtain ⟨p, hp, r, hr, hl⟩ := mem_obLeaves.1 h
   have hp : p ∈ ob1 := hp
   rw [hob1] at hp
   rcases List.mem_append.1 hp with hp | hp
   ·rcases Z1e hp with ⟨hp, _⟩ | ⟨o2, hp, rfl⟩
    ·exact .inl (mem_tops.2 (.inr (mem_obLeaves.2 ⟨p, hp, r, hr, hl⟩)))
    ·rcases hrow1 r hr with h | rfl
     ·exact .inl (mem_tops.2 (.inr (mem_obLeaves.2 ⟨_, hkey, r, h, hl⟩)))
     ·rcases List.mem_or_eq_of_mem_set hl with h | rfl
      ·exact .inl (mem_tops.2 (.inr (mem_obLeaves.2 ⟨_, hkey, r', hrm, h⟩)))
      ·exact .inr (.inl rfl)
   ·simp only [List.mem_singleton] at hp
    subst hp
    exact .inr (.inr ⟨r, hr, hl⟩)
 have hval : valR rows1 = valR o'.rows := Y8t hr' hj' rfl
 have hperm : (ownS d').Perm (ownS d) := by
  classical
  obtain ⟨l1, l2, hob, h1, h2⟩ := Z2p ho' hi.good.ids
  have hu : K0 d.ob id rows1 = l1 ++ (id, ⟨o'.h, o'.n, rows1⟩) :: l2 := by rw [hob]; exact Z7q h1 h2 rows1
  have hc := Y5s (rows := rows1) (e := e) (j := j) (r := r'.set j nref) (l := .os v m rows3) (l0 := nref) (E := ownL (.os v m rows3)) (by
   have : e < o'.rows.length := (List.getElem?_eq_some_iff.1 hr').1
   simp [rows1, this]) (by
   have : j < r'.length := (List.getElem?_eq_some_iff.1 hj').1
   simp [this]) (by simp [nref, ownL])
  have hback : rows1.set e ((r'.set j nref).set j (.os v m rows3)) = o'.rows := by
   have e1 : r'.set j (.os v m rows3) = r' := by
    apply List.ext_getElem?
    intro i
    rw [List.getElem?_set]
    by_cases hji : j = i
    ·subst hji
     rw [hj']
     simp [(List.getElem?_eq_some_iff.1 hj').1]
    ·rw [if_neg hji]
   have e2 : o'.rows.set e r' = o'.rows := by
    apply List.ext_getElem?
    intro i
    rw [List.getElem?_set]
    by_cases hei : e = i
    ·subst hei
     rw [hr']
     simp [(List.getElem?_eq_some_iff.1 hr').1]
    ·rw [if_neg hei]
   simp only [rows1, List.set_set, e1, e2]
  rw [hback] at hc
  refine List.perm_iff_count.2 fun q => ?_
  have c1 := List.perm_iff_count.1 hc q
  have c2 := List.perm_iff_count.1 (V3 d) q
  have c3 := List.perm_iff_count.1 (V3 d') q
  have e1 : d'.ob = (l1 ++ (id, ⟨o'.h, o'.n, rows1⟩) :: l2) ++ [(d.nx, no)] := by show ob1 = _; rw [hob1, hu]
  have e2 : d'.sl = d.sl := rfl
  have e3 : Y7 o'.h o'.n rows1 = Y7 o'.h o'.n o'.rows := by unfold Y7; rw [hval]
  rw [e1, e2] at c3
  rw [hob] at c2
  simp only [List.flatMap_append, List.flatMap_cons, List.flatMap_nil, List.append_nil, List.count_append, Q8, no, hh1, e3, ownL, Z0t] at c1 c2 c3 ⊢
  omega
 refine ⟨d', ?_, ?_, ⟨hs.1, hs.2⟩, hdef, fun i hi2 => ?_, ?_⟩
 ·simp only [erS, mapS, d', S.mk.injEq, true_and, and_true]
  show (K0 (d.ob ++ [(d.nx, no)]) id rows1).map (fun p => (p.1, erOb p.2)) = _
  rw [Y5p]
  simp [rows1, nref, no, Z3e, List.map_set, mapL]
 ·refine hi.step (Nat.le_refl _) (Same.refl _) (fun _ _ _ => rfl) (fun l hl => ?_) (fun p hp => ?_) hids (fun p hp => ⟨hi.good.own p (hperm.mem_iff.1 hp), .inl ⟨p, hperm.mem_iff.1 hp, rfl⟩⟩) ((hperm.map (·.1)).nodup_iff.2 hi.good.nodup) (fun p hp => ?_) (fun p hp hlt => ?_)
  ·rcases htop l hl with h | rfl | ⟨r, hr, h⟩
   ·have hh := Z8a hi.good h
    exact ⟨hh.1, hrefOk l hh⟩
   ·exact hnref
   ·have := Z6k (hin3 r hr l h).1
    exact ⟨this.1, this.2.1 _⟩
  ·have hp : p ∈ ob1 := hp
   rw [hob1] at hp
   rcases List.mem_append.1 hp with hp | hp
   ·rcases Z1e hp with ⟨hp, _⟩ | ⟨o2, hp2, rfl⟩
    ·exact hi.good.obs p hp
    ·have : o2 = o' := by
      have h1 := J2 hi.good.ids hp2
      rw [ho'] at h1; cases h1; rfl
     subst this
     refine ⟨?_, fun r hr => ?_⟩
     ·rcases hobs.1 with ⟨h1, h2⟩ | ⟨b, x, c, h1, h2, h3⟩
      ·exact .inl ⟨h1, by simp only at h2; simp [rows1, h2]⟩
      ·exact .inr ⟨b, x, c, h1, by simp only [hlen1]; exact h2, by simp only [hlen1]; exact h3⟩
     ·rcases hrow1 r hr with h | rfl
      ·exact hobs.2 r h
      ·rw [List.length_set]; exact hobs.2 r' hrm
   ·simp only [List.mem_singleton] at hp
    subst hp
    exact ⟨hh2, hlen⟩
  ·obtain ⟨l, hl, hp⟩ := List.mem_flatMap.1 hp
   rcases htop l hl with h | rfl | ⟨r, hr, h⟩
   ·exact .of_mem (List.mem_flatMap.2 ⟨l, h, hp⟩)
   ·simp [nref, immL] at hp
   ·exact .of_mem ((hin3 r hr l h).2 p hp)
  ·have hp : p ∈ ob1 := hp
   rw [hob1] at hp
   rcases List.mem_append.1 hp with hp | hp
   ·rcases Z1e hp with ⟨hp, _⟩ | ⟨o2, hp2, rfl⟩
    ·exact hi.hdr p hp hlt
    ·exact hi.hdr (id, o2) hp2 hlt
   ·simp only [List.mem_singleton] at hp
    subst hp
    simp only at hlt
    omega
 ·show i < d.nx + 1
  rcases hi2 with ⟨l, hl, h⟩ | h
  ·rcases htop l hl with h2 | rfl | ⟨r, hr, h2⟩
   ·have := hk i (.inl ⟨l, h2, h⟩); omega
   ·simp only [nref, idsL, List.mem_singleton] at h; omega
   ·rw [(Z6k (hin3 r hr l h2).1).2.2] at h; cases h
  ·have : i ∈ ob1.map (·.1) := h
   rw [hob1, List.map_append, Z3t, List.mem_append] at this
   rcases this with h3 | h3
   ·have := hk i (.inr h3); omega
   ·simp only [List.map_cons, List.map_nil, List.mem_singleton] at h3; omega
 ·show B.n0 ≤ d.nx + 1; omega
theorem GhB.foldC {B : Bd} {s : S Unit} {id id2 e j len : Nat} {o o2 : Ob Unit} {r : List (L Unit)} (ho : look s.ob id = some o) (hr : o.rows[e]? = some r) (hj : r[j]? = some (.ref () id2 0 len)) (ho2 : look s.ob id2 = some o2) (hne : id ≠ id2) (hl : len = o2.rows.length)
  (hn : o2.rows.all (fun r => r.all Z7e) = true) : GhB B s ⟨s.sl, K0 (s.ob.filter (fun p => !(p.1 == id2))) id (o.rows.set e (r.set j (.os () o2.n o2.rows))), s.nx⟩ := by
 rintro a W ⟨d, rfl, hi, hs, hdef, hk, hn0⟩
 obtain ⟨o', ho', rfl⟩ := U7 ho
 obtain ⟨p2, ho2', rfl⟩ := U7 ho2
 obtain ⟨r', hr', rfl⟩ := Y1c hr
 rw [List.getElem?_map, Option.map_eq_some_iff] at hj
 obtain ⟨l', hj', hl'⟩ := hj
 obtain ⟨v', rfl⟩ := Y5m hl'
 have hlen' : len = p2.rows.length := by simpa [erOb, Z3e] using hl
 subst hlen'
 have hrm := List.mem_of_getElem? hr'
 have hlm := List.mem_of_getElem? hj'
 have hkey : (id, o') ∈ d.ob := find?_key ho'
 have hkey2 : (id2, p2) ∈ d.ob := find?_key ho2'
 have hmem : L.ref v' id2 0 p2.rows.length ∈ tops d := mem_tops.2 (.inr (mem_obLeaves.2 ⟨_, hkey, r', hrm, hlm⟩))
 obtain ⟨_, hform⟩ := (hi.good.wf _ hmem).2 p2 ho2'
 have hobs2 : _ ∧ ∀ r ∈ p2.rows, r.length = p2.n := hi.good.obs _ hkey2
 have hobs : _ ∧ ∀ r ∈ o'.rows, r.length = o'.n := hi.good.obs _ hkey
 have hnest : ∀ r ∈ p2.rows, ∀ l ∈ r, Z7e l = true := by
  simp only [erOb, Z3e, List.all_map, List.all_eq_true, Function.comp_def, Y6h] at hn
  exact hn
 have hos : X3p v' p2.rows ∧ Y7 v' p2.n p2.rows = Y7 p2.h p2.n p2.rows := by
  rcases hform with ⟨h0, hv⟩ | ⟨b, x, c0, h0, hv⟩
  ·have hr0 : p2.rows = [] := by
    rcases hobs2.1 with ⟨_, h1⟩ | ⟨_, _, _, h1, _⟩
    ·exact h1
    ·simp only at h1; rw [h0] at h1; cases h1
   exact ⟨.inl ⟨hv, hr0⟩, by rw [hv, h0]⟩
  ·rcases hv with hv | ⟨y, _, _, h9, _⟩
   ·rcases hobs2.1 with ⟨h7, _⟩ | ⟨b2, x2, c2, h7, h8, h9⟩
    ·simp only at h7; rw [h0] at h7; cases h7
    ·simp only at h7 h8 h9
     rw [h0] at h7
     cases h7
     simp only [Nat.zero_mul, Nat.add_zero, Nat.sub_zero] at hv
     exact ⟨.inr ⟨b, x, c0, hv, h8, h9⟩, by rw [hv, h0]; rfl⟩
   ·omega
 let nos : L Value := .os v' p2.n p2.rows
 have hwfo : wfL false nos := ⟨hos.1, hobs2.2, (Z5h _ _).2 fun r hr l hlr => Y6g (hnest r hr l hlr) (Z6v hi.good ho2' hr hlr).1⟩
 let rows1 := o'.rows.set e (r'.set j nos)
 let ob2 := d.ob.filter (fun p => !(p.1 == id2))
 let ob1 := K0 ob2 id rows1
 let d' : S Value := ⟨d.sl, ob1, d.nx⟩
 have hsub : ob2.Sublist d.ob := List.filter_sublist
 have hkeyf : (id, o') ∈ ob2 := List.mem_filter.2 ⟨hkey, by simpa using hne⟩
 have hids2 : (ob2.map (·.1)).Nodup := hi.good.ids.sublist (hsub.map _)
 have hids : (d'.ob.map (·.1)).Nodup := by
  show (ob1.map (·.1)).Nodup
  rw [Z3t]; exact hids2
 have hlen1 : rows1.length = o'.rows.length := by simp [rows1]
 have hrefOk : ∀ l, Has d l → W7 ob1 l := fun l hh => by
  refine Z7u (fun i hi1 o2 ho2 => ?_) hh.2.1
  rw [Y8p] at ho2
  have hf : ∀ o3, look ob2 i = some o3 → look d.ob i = some o3 := fun o3 h3 => J2 hi.good.ids (hsub.subset (find?_key h3))
  split at ho2
  ·rename_i he
   subst he
   rw [Option.map_eq_some_iff] at ho2
   obtain ⟨o3, h3, rfl⟩ := ho2
   have := hf o3 h3
   rw [ho'] at this
   cases this
   exact ⟨o', ho', rfl, rfl, hlen1.symm⟩
  ·exact ⟨o2, hf o2 ho2, rfl, rfl, rfl⟩
 have hrow1 : ∀ r ∈ rows1, r ∈ o'.rows ∨ r = r'.set j nos := fun r hr => List.mem_or_eq_of_mem_set hr
 have htop : ∀ l ∈ tops d', l ∈ tops d ∨ l = nos := fun l hl => by
  rcases mem_tops.1 hl with h | h
  ·exact .inl (mem_tops.2 (.inl h))
  ·obtain ⟨p, hp, r, hr, hl⟩ := mem_obLeaves.1 h
   rcases Z1e hp with ⟨hp, _⟩ | ⟨o2, hp, rfl⟩
   ·exact .inl (mem_tops.2 (.inr (mem_obLeaves.2 ⟨p, hsub.subset hp, r, hr, hl⟩)))
   ·rcases hrow1 r hr with h | rfl
    ·exact .inl (mem_tops.2 (.inr (mem_obLeaves.2 ⟨_, hkey, r, h, hl⟩)))
    ·rcases List.mem_or_eq_of_mem_set hl with h | rfl
     ·exact .inl (mem_tops.2 (.inr (mem_obLeaves.2 ⟨_, hkey, r', hrm, h⟩)))
     ·exact .inr rfl
 have hval : valR rows1 = valR o'.rows := Y8t hr' hj' rfl
 have hperm : (ownS d').Perm (ownS d) := by
  classical
  obtain ⟨k1, k2, hob0, g1, g2⟩ := Z2p ho2' hi.good.ids
  have hf : ob2 = k1 ++ k2 := by
   show d.ob.filter _ = _
   rw [hob0]; exact Y2x g1 g2
  obtain ⟨l1, l2, hob, h1, h2⟩ := Z2p (J2 hids2 hkeyf) hids2
  have hu : ob1 = l1 ++ (id, ⟨o'.h, o'.n, rows1⟩) :: l2 := by
   show K0 ob2 id rows1 = _
   rw [hob]; exact Z7q h1 h2 rows1
  have hc := Y5s (rows := o'.rows) (e := e) (j := j) (r := r') (l := nos) (E := ownL nos) hr' hj' (by simp [ownL])
  refine List.perm_iff_count.2 fun q => ?_
  have c1 := List.perm_iff_count.1 hc q
  have c2 := List.perm_iff_count.1 (V3 d) q
  have c3 := List.perm_iff_count.1 (V3 d') q
  have c4 : List.count q ((k1 ++ k2).flatMap Q8) = List.count q ((l1 ++ (id, o') :: l2).flatMap Q8) := by rw [← hf, hob]
  have e1 : d'.ob = l1 ++ (id, ⟨o'.h, o'.n, rows1⟩) :: l2 := hu
  have e2 : d'.sl = d.sl := rfl
  have e3 : Y7 o'.h o'.n rows1 = Y7 o'.h o'.n o'.rows := by unfold Y7; rw [hval]
  have e4 : ownL nos = Y7 p2.h p2.n p2.rows ++ p2.rows.flatten.flatMap ownL := by simp only [nos, ownL, hos.2, Z0t]
  rw [e4] at c1
  rw [e1, e2] at c3
  rw [hob0] at c2
  simp only [List.flatMap_append, List.flatMap_cons, List.count_append, Q8, e3] at c1 c2 c3 c4 ⊢
  simp only [rows1] at c3
  omega
 refine ⟨d', ?_, ?_, ⟨hs.1, hs.2⟩, hdef, fun i hi2 => hk i ?_, hn0⟩
 ·simp only [erS, mapS, d', S.mk.injEq, true_and, and_true]
  show (K0 ob2 id rows1).map (fun p => (p.1, erOb p.2)) = _
  rw [Y5p]
  simp [rows1, nos, ob2, Z3e, List.map_set, mapL, Z1m, List.filter_map, Function.comp_def]
 ·refine hi.step (Nat.le_refl _) (Same.refl _) (fun _ _ _ => rfl) (fun l hl => ?_) (fun p hp => ?_) hids (fun p hp => ⟨hi.good.own p (hperm.mem_iff.1 hp), .inl ⟨p, hperm.mem_iff.1 hp, rfl⟩⟩) ((hperm.map (·.1)).nodup_iff.2 hi.good.nodup) (fun p hp => ?_) (fun p hp hlt => ?_)
  ·rcases htop l hl with h | rfl
   ·have hh := Z8a hi.good h
    exact ⟨hh.1, hrefOk l hh⟩
   ·exact ⟨hwfo, by simp [nos, W7]⟩
  ·rcases Z1e hp with ⟨hp, _⟩ | ⟨o2, hp2, rfl⟩
   ·exact hi.good.obs p (hsub.subset hp)
   ·have : o2 = o' := by
     have h1 := J2 hi.good.ids (hsub.subset hp2)
     rw [ho'] at h1; cases h1; rfl
    subst this
    refine ⟨?_, fun r hr => ?_⟩
    ·rcases hobs.1 with ⟨h1, h2⟩ | ⟨b, x, c, h1, h2, h3⟩
     ·exact .inl ⟨h1, by simp only at h2; simp [rows1, h2]⟩
     ·exact .inr ⟨b, x, c, h1, by simp only [hlen1]; exact h2, by simp only [hlen1]; exact h3⟩
    ·rcases hrow1 r hr with h | rfl
     ·exact hobs.2 r h
     ·rw [List.length_set]; exact hobs.2 r' hrm
  ·obtain ⟨l, hl, hp⟩ := List.mem_flatMap.1 hp
   rcases htop l hl with h | rfl
   ·exact .of_mem (List.mem_flatMap.2 ⟨l, h, hp⟩)
   ·simp only [nos, immL, Z4r] at hp
    obtain ⟨l2, hl2, hp⟩ := List.mem_flatMap.1 hp
    obtain ⟨r, hr, hl2⟩ := List.mem_flatten.1 hl2
    exact (Z6v hi.good ho2' hr hl2).2.2.1 p hp
  ·rcases Z1e hp with ⟨hp, _⟩ | ⟨o2, hp2, rfl⟩
   ·exact hi.hdr p (hsub.subset hp) hlt
   ·exact hi.hdr (id, o2) (hsub.subset hp2) hlt
 ·rcases hi2 with ⟨l, hl, h⟩ | h
  ·rcases htop l hl with h2 | rfl
   ·exact .inl ⟨l, h2, h⟩
   ·simp [nos, idsL] at h
  ·refine .inr ((hsub.map _).subset ?_)
   have : i ∈ ob1.map (·.1) := h
   rwa [Z3t] at this
end
section
inductive ArgsO (s : S Unit) (g : Nat → Nat) (hs : List Nat) : List Operand → List (U Unit) → List Nat → Prop
 | nil : ArgsO s g hs [] [] []
 | given {x : Operand} {xs : List Operand} {u : U Unit} {us : List (U Unit)} {cs : List Nat} : uO (evA s x) = some (renU g u) → (Z1 u).all (okK hs.length) = true → ArgsO s g hs xs us cs → ArgsO s g hs (x :: xs) (u :: us) cs
 | owned {x : Operand} {xs : List Operand} {X n len : Nat} {rows : List (List (L Unit))} {us : List (U Unit)} {cs : List Nat} : lO (evA s x) = some (.ref () X 0 len) → look s.ob X = some ⟨(), n, rows⟩ → len = rows.length → rows.all (fun r => r.all Z7e) = true → ArgsO s g hs xs us cs →
   ArgsO s g hs (x :: xs) (.one (.os () n rows) :: us) (X :: cs)
def CallO (P : Program) (o : Oper) (s : S Unit) (nid : Nat) (e : Eff) : Prop :=
  ∃ (c : Call) (f : FuncId) (caps cs : List (L Unit)) (us : List (U Unit)) (hs cons : List Nat) (obs obs' : List (Ob Unit)) (r : V Unit), o.op = .call c ∧ calE (evA s) c.callee = some (f, caps) ∧ (hs ++ cons).Nodup ∧ All2 (fun h ob => look s.ob h = some (Y2 (gG hs nid) ob)) hs obs ∧
    (∀ ob ∈ obs, Z0p hs.length ob.rows = true) ∧ ArgsO s (gG hs nid) hs c.args.toList us cons ∧ caps = cs.map (renL (gG hs nid)) ∧ cs.all (okK hs.length) = true ∧
    Ent P f ∧ Sim P f (us ++ cs.map .one) obs r obs' ∧
    e = { v := (Z4a (fun _ => ()) (nid + (obs'.length - hs.length)) (renV (gG hs nid) r)).1, rd := [],
          news := (obs'.drop hs.length).map (Y2 (gG hs nid)) ++ (Z4a (fun _ => ()) (nid + (obs'.length - hs.length)) (renV (gG hs nid) r)).2.map (·.2),
          upd := hs.zip ((obs'.take hs.length).map fun ob => (Y2 (gG hs nid) ob).rows), del := cons }
theorem W1b : ∀ {xs : List Nat} {obs : List (Ob Value)}, xs.length = obs.length → (xs.zip obs).flatMap Q8 = obs.flatMap (fun o => Q8 (0, o))
 | [], [], _ => rfl
 | [], o :: os, h => by simp at h
 | x :: xs, [], h => by simp at h
 | x :: xs, o :: os, h => by
  simp only [List.zip_cons_cons, List.flatMap_cons, W1b (xs := xs) (obs := os) (by simpa using h)]
  rfl
structure ArgP (W : World) (d dr : S Value) (dcob : List (Nat × Ob Value)) (k : Nat) (lent : Bool) (u : U Value) (x : Value) : Prop where
 ur : UR u x
 leaf : ∀ l ∈ Z1 u, True ∧ (∀ i ∈ idsL l, i < k) ∧ wfL false l ∧ W7 dcob l ∧ ∀ p ∈ immL l, p.2 = [] ∨ SubIn p (immS d) ∨ (lent = true ∧ ImmFact W p ∧ ∃ q ∈ ownS dr, q.1 = p.1.block)
theorem W6s {W : World} {d dr : S Value} {dcob : List (Nat × Ob Value)} {a : Act} {g : Nat → Nat} {hs : List Nat} {lent : Bool} (hg : Good W d) (hs1 : SlR d a) (hdc : ∀ i ob, look dcob i = some ob → look d.ob (g i) = some (Y2 g ob)) :
  ∀ {xs : List Operand} {us : List (U Unit)} {cons : List Nat}, ArgsO (erS d) g hs xs us cons → ∃ us' cobs, us'.map erU = us ∧ All2 (ArgP W d dr dcob hs.length lent) us' (xs.map a.eval) ∧ All2 (fun X o => look d.ob X = some o) cons cobs ∧
   (us'.flatMap Z1).flatMap ownL = cobs.flatMap (fun o => Q8 (0, o)) := by
 intro xs us cons h
 induction h with
 | nil => exact ⟨[], [], rfl, .nil, .nil, rfl⟩
 | given h1 h2 _ ih =>
  rename_i x xs u us cs _
  obtain ⟨us', cobs, e1, e2, e3, e4⟩ := ih
  obtain ⟨u0, k1, k2, k3⟩ := u_ok hg hs1 h1
  obtain ⟨u2, k4, k5⟩ := X3x g k1
  subst k5
  have hok : ∀ l ∈ Z1 u2, noOs l = true ∧ ∀ i ∈ idsL l, i < hs.length := fun l hl => by
   have ho : okK hs.length (erL l) = true := by
    rw [List.all_eq_true] at h2
    refine h2 _ ?_
    rw [← k4]
    cases u2 with
    | one l0 => simp only [Z1, List.mem_singleton] at hl; subst hl; simp [mapU, Z1]
    | agg ls => simp only [mapU, Z1] at hl ⊢; exact List.mem_map.2 ⟨l, hl, rfl⟩
   rwa [Y6f, Z9p, Z9u] at ho
  refine ⟨u2 :: us', cobs, by simp [k4, e1], .cons ⟨(X4j g).1 k2, fun l hl => ?_⟩ e2, e3, ?_⟩
  ·rw [Y1m] at k3
   have hh := k3 (renL g l) (List.mem_map.2 ⟨l, hl, rfl⟩)
   exact ⟨trivial, (hok l hl).2, (Y2i g false l).1 hh.1, Z7c hdc l hh.2.1, fun p hp => .inr (.inl (hh.2.2.1 p (by rwa [Z7y])))⟩
  ·rw [List.flatMap_cons, List.flatMap_append, e4]
   have : (Z1 u2).flatMap ownL = [] := List.flatMap_eq_nil_iff.2 fun l hl => Z0m (hok l hl).1
   rw [this, List.nil_append]
 | owned h1 h2 h3 h4 _ ih =>
  rename_i x xs X n len rows us cs _
  obtain ⟨us', cobs, e1, e2, e3, e4⟩ := ih
  obtain ⟨l', k1, k2, k3⟩ := V8 hg hs1 h1
  obtain ⟨v', rfl⟩ := Y5m k1
  obtain ⟨p2, ho2', hp2⟩ := U7 h2
  have hn2 : p2.n = n := congrArg Ob.n hp2
  have hrows2 : p2.rows.map (fun r => r.map erL) = rows := congrArg Ob.rows hp2
  subst hn2 hrows2
  have hlen' : len = p2.rows.length := by simpa using h3
  subst hlen'
  have hform := k3.2.1 p2 ho2'
  have hobs2 : _ ∧ ∀ r ∈ p2.rows, r.length = p2.n := hg.obs _ (find?_key ho2')
  have hnest : ∀ r ∈ p2.rows, ∀ l ∈ r, Z7e l = true := by
   simp only [List.all_map, List.all_eq_true, Function.comp_def, Y6h] at h4
   exact h4
  have hos : X3p v' p2.rows ∧ Y7 v' p2.n p2.rows = Y7 p2.h p2.n p2.rows := by
   rcases hform.2 with ⟨h0, hv⟩ | ⟨b, x, c0, h0, hv⟩
   ·have hr0 : p2.rows = [] := by
     rcases hobs2.1 with ⟨_, h1⟩ | ⟨_, _, _, h1, _⟩
     ·exact h1
     ·simp only at h1; rw [h0] at h1; cases h1
    exact ⟨.inl ⟨hv, hr0⟩, by rw [hv, h0]⟩
   ·rcases hv with hv | ⟨y, _, _, h9, _⟩
    ·rcases hobs2.1 with ⟨h7, _⟩ | ⟨b2, x2, c2, h7, h8, h9⟩
     ·simp only at h7; rw [h0] at h7; cases h7
     ·simp only at h7 h8 h9
      rw [h0] at h7
      cases h7
      simp only [Nat.zero_mul, Nat.add_zero, Nat.sub_zero] at hv
      exact ⟨.inr ⟨b, x, c0, hv, h8, h9⟩, by rw [hv, h0]; rfl⟩
    ·omega
  refine ⟨.one (.os v' p2.n p2.rows) :: us', p2 :: cobs, by simp [mapU, mapL, Z1m, e1], .cons ⟨?_, fun l hl => ?_⟩ e2, .cons ho2' e3, ?_⟩
  ·simp only [UR]
   rw [k2]
   rfl
  ·simp only [Z1, List.mem_singleton] at hl
   subst hl
   refine ⟨trivial, fun i hi => by simp [idsL] at hi, ⟨hos.1, hobs2.2, (Z5h _ _).2 fun r hr l hlr => Y6g (hnest r hr l hlr) (Z6v hg ho2' hr hlr).1⟩, by simp [W7], fun p hp => ?_⟩
   simp only [immL, Z4r] at hp
   obtain ⟨l2, hl2, hp⟩ := List.mem_flatMap.1 hp
   obtain ⟨r, hr, hl2⟩ := List.mem_flatten.1 hl2
   exact .inr (.inl ((Z6v hg ho2' hr hl2).2.2.1 p hp))
  ·rw [List.flatMap_cons, List.flatMap_append, e4, List.flatMap_cons]
   simp only [Z1, List.flatMap_cons, List.flatMap_nil, List.append_nil, ownL, Q8, hos.2, Z0t]
set_option maxHeartbeats 4000000 in
theorem X4r {P : Program} {o : Oper} {s : S Unit} {nid : Nat} {e : Eff} (h : CallO P o s nid e) : X1b P o s nid e := by
 obtain ⟨c, f, caps, cs, us, hs, cons, obs, obs', r, ho, hcal, hndc, hhand, hkn, hargs, hcaps, hcsk, hent, hsim, rfl⟩ := h
 obtain ⟨hnd, hndx, hdis⟩ := List.nodup_append.1 hndc
 obtain ⟨lent, hlent⟩ : ∃ lent : Bool, lent = false := ⟨_, rfl⟩
 have himf : lent = false ∨ (Z2h r = true ∧ ∀ ob ∈ obs', Z7m ob.rows = true) := .inl hlent
 intro B d a W hd hi hsl hf hdef
 subst hd
 refine ⟨trivial, ?_⟩
 generalize hgd : gG hs nid = g at *
 have hgi : ∀ i h, hs[i]? = some h → g i = h := fun i h h1 => by rw [← hgd]; exact W3p h1
 have hge : ∀ i, hs.length ≤ i → g i = nid + (i - hs.length) := fun i h1 => by rw [← hgd]; exact gG_ge h1
 obtain ⟨x, hx, v, hlx⟩ : ∃ x, c.callee = .value x ∧ ∃ v, lO (evA (erS d) x) = some (.fn v f caps) := by
  unfold calE at hcal
  split at hcal
  ·rename_i x hcx
   split at hcal
   ·rename_i v f' caps' hl
    cases hcal
    exact ⟨x, hcx, v, hl⟩
   ·cases hcal
  ·cases hcal
 obtain ⟨l', h1, h2, h3⟩ := V8 hi.good hsl hlx
 obtain ⟨v', caps', rfl, hc'⟩ : ∃ v' caps', l' = .fn v' f caps' ∧ caps'.map erL = caps := by
  cases l' <;> simp [mapL] at h1
  rename_i v' f' c'
  exact ⟨v', c', by rw [h1.1], by rw [← h1.2, Z7f]⟩
 obtain ⟨_, hv', hw'⟩ := h3.1
 have hcap : ∀ l ∈ caps', Has d l := fun l hl => by
  refine ⟨(Z8n _ _).1 hw' l hl, (Z9h _ _).1 h3.2.1 l hl, fun p hp => h3.2.2.1 p ?_, fun i hi => h3.2.2.2 i ?_⟩
  ·simp only [immL, Z7z]
   exact List.mem_flatMap.2 ⟨l, hl, hp⟩
  ·simp only [idsL, Y2w]
   exact List.mem_flatMap.2 ⟨l, hl, hi⟩
 obtain ⟨cs', hcs1, hcs2⟩ := Y5q g (hc'.trans hcaps)
 obtain ⟨hobs, hob1, hob2⟩ := X0k hhand
 have hlen := Z3g hob2
 obtain ⟨rest0, hperm00, hrl0, hrk0, _, _, hdc, hown00⟩ := W3n hi hnd hob2 hgi
 obtain ⟨us', cobs, hus1, hus2, hcob, hcown⟩ := W6s (dr := d) (lent := lent) (dcob := K9 hobs) hi.good hsl hdc hargs
 have hczl : cons.length = cobs.length := Z3g hcob
 have hzk : (cons.zip cobs).map (·.1) = cons := List.map_fst_zip (by omega)
 have hzn : (cons.zip cobs).Nodup := by
  have : ((cons.zip cobs).map (·.1)).Nodup := by rw [hzk]; exact hndx
  exact (List.pairwise_map.1 this).imp fun h e => h (congrArg Prod.fst e)
 have hidsr : (rest0.map (·.1)).Nodup := by
  have := (hperm00.map (·.1)).nodup_iff.1 hi.good.ids
  rw [List.map_append, List.nodup_append] at this
  exact this.2.1
 obtain ⟨rest, hpr⟩ := Y4r (l := rest0) hzn (fun p hp => by
  obtain ⟨i, hi1⟩ := List.getElem?_of_mem hp
  rw [List.getElem?_zip_eq_some] at hi1
  have h5 := Z1i hcob i _ _ hi1.1 hi1.2
  have hm : p.1 ∈ cons := List.mem_of_getElem? hi1.1
  have h6 := hrl0 p.1 (fun hh => hdis _ hh _ hm rfl)
  rw [h5] at h6
  exact find?_key h6)
 have hperm : d.ob.Perm (Z6q g hs hobs ++ (cons.zip cobs ++ rest)) := hperm00.trans (hpr.append_left _)
 have hrk : ∀ p ∈ rest, p.1 ∉ hs := fun p hp => hrk0 p (hpr.mem_iff.2 (List.mem_append_right _ hp))
 have hrc : ∀ p ∈ rest, p.1 ∉ cons := fun p hp hm => by
  have := (hpr.map (·.1)).nodup_iff.1 hidsr
  rw [List.map_append, List.nodup_append, hzk] at this
  exact this.2.2 p.1 hm p.1 (List.mem_map.2 ⟨p, hp, rfl⟩) rfl
 have hrun : (execOp a.eval o).run P W = .ok (.enter f (c.args.toList.map a.eval ++ cs'.map val).toArray) W := by
  simp only [execOp, ho, resolve, hx, h2, val, hv', Deferred.ofValue, pure_bind, invoke]
  rw [Y2q hent]
  congr 2
  apply Array.ext'
  have e : caps'.map val = cs'.map val := by rw [← hcs2, List.map_map]; exact List.map_congr_left fun l _ => Y0j g l
  simp [e]
 let args' : List (U Value) := us' ++ cs'.map U.one
 let dc : S Value := ⟨args'.map V.u, K9 hobs, hobs.length⟩
 have hargl : ∀ u ∈ args', ∀ l ∈ Z1 u, True ∧ (∀ i ∈ idsL l, i < hs.length) ∧ wfL false l ∧ W7 (K9 hobs) l ∧ ∀ p ∈ immL l, p.2 = [] ∨ SubIn p (immS d) ∨ (lent = true ∧ ImmFact W p ∧ ∃ q ∈ ownS (⟨d.sl, rest, d.nx⟩ : S Value), q.1 = p.1.block) := by
  intro u hu l hl
  rcases List.mem_append.1 hu with hu | hu
  ·obtain ⟨i, hi1⟩ := List.mem_iff_getElem?.1 hu
   have hl2 := Z3g hus2
   have hlt : i < (c.args.toList.map a.eval).length := by rw [← hl2]; exact (List.getElem?_eq_some_iff.1 hi1).1
   obtain ⟨a1, a2, a3, a4, a5⟩ := (Z1i hus2 i u _ hi1 (List.getElem?_eq_getElem hlt)).leaf l hl
   exact ⟨a1, a2, a3, a4, fun p hp => (a5 p hp).imp id (Or.imp id fun h => by rw [hlent] at h; exact absurd h.1 (by decide))⟩
  ·obtain ⟨l0, hl0, rfl⟩ := List.mem_map.1 hu
   simp only [Z1, List.mem_singleton] at hl
   subst hl
   have hh := hcap (renL g l) (by rw [← hcs2]; exact List.mem_map.2 ⟨l, hl0, rfl⟩)
   have hk := List.all_eq_true.1 hcsk (erL l) (by rw [← hcs1]; exact List.mem_map.2 ⟨l, hl0, rfl⟩)
   rw [Y6f, Z9p, Z9u] at hk
   exact ⟨trivial, hk.2, (Y2i g false l).1 hh.1, Z7c hdc l hh.2.1, fun p hp => .inr (.inl (hh.2.2.1 p (by rwa [Z7y])))⟩
 have hcown2 : ((args'.map V.u).flatMap Z3).flatMap ownL = cobs.flatMap (fun o => Q8 (0, o)) := by
  have e1 : (args'.map V.u).flatMap Z3 = args'.flatMap Z1 := by rw [List.flatMap_map]; rfl
  rw [e1]
  simp only [args', List.flatMap_append]
  rw [hcown]
  have e2 : ((cs'.map U.one).flatMap Z1).flatMap ownL = [] := by
   rw [List.flatMap_eq_nil_iff]
   intro l hl
   obtain ⟨u, hu, hl⟩ := List.mem_flatMap.1 hl
   obtain ⟨l0, hl0, rfl⟩ := List.mem_map.1 hu
   simp only [Z1, List.mem_singleton] at hl
   subst hl
   have hk := List.all_eq_true.1 hcsk (erL l) (by rw [← hcs1]; exact List.mem_map.2 ⟨l, hl0, rfl⟩)
   rw [Y6f, Z9p] at hk
   exact Z0m hk.1
  rw [e2, List.append_nil]
 have hperm0 : (ownS d).Perm (ownS dc ++ ownS (⟨d.sl, rest, d.nx⟩ : S Value)) := by
  classical
  have k0 := hown00 [] (by simp)
  refine List.perm_iff_count.2 fun q => ?_
  have c0 := List.perm_iff_count.1 k0 q
  have c1 := List.perm_iff_count.1 (V3 (⟨([] : List (U Value)).map .u, K9 hobs, hobs.length⟩ : S Value)) q
  have c2 := List.perm_iff_count.1 (V3 (⟨d.sl, rest0, d.nx⟩ : S Value)) q
  have c3 := List.perm_iff_count.1 (V3 dc) q
  have c4 := List.perm_iff_count.1 (V3 (⟨d.sl, rest, d.nx⟩ : S Value)) q
  have c5 := List.perm_iff_count.1 (hpr.flatMap_right Q8) q
  have c6 : (cons.zip cobs).flatMap Q8 = cobs.flatMap (fun o => Q8 (0, o)) := W1b hczl
  have c7 : ((dc.sl).flatMap Z3).flatMap ownL = cobs.flatMap (fun o => Q8 (0, o)) := hcown2
  rw [List.count_append, c7] at c3
  rw [List.flatMap_append, c6, List.count_append] at c5
  rw [List.count_append] at c0 c1 c2 c4 ⊢
  have c8 : List.count q (((([] : List (U Value)).map V.u).flatMap Z3).flatMap ownL) = 0 := rfl
  have c9 : dc.ob = K9 hobs := rfl
  rw [c9] at c3
  simp only at c1 c2 c4
  omega
 have hnd0 := (hperm0.map (·.1)).nodup_iff.1 hi.good.nodup
 rw [List.map_append, List.nodup_append] at hnd0
 have hrow : ∀ (i : Nat) ob, hobs[i]? = some ob → ∃ h, hs[i]? = some h ∧ look d.ob h = some (Y2 g ob) := fun i ob hi1 => by
  have hlt := (List.getElem?_eq_some_iff.1 hi1).1
  exact ⟨_, List.getElem?_eq_getElem (by omega), Z1i hob2 i _ _ (List.getElem?_eq_getElem (by omega)) hi1⟩
 have hrowl : ∀ p ∈ K9 hobs, ∀ r ∈ p.2.rows, ∀ l ∈ r, renL g l ∈ tops d := fun p hp r hr l hl => by
  have h5 := (Z2i (n := 0) hp).2
  obtain ⟨h, _, h7⟩ := hrow _ _ h5
  exact mem_tops.2 (.inr (mem_obLeaves.2 ⟨_, find?_key h7, r.map (renL g), List.mem_map.2 ⟨r, hr, rfl⟩, List.mem_map.2 ⟨l, hl, rfl⟩⟩))
 have hids : ∀ l ∈ tops dc, ∀ i ∈ idsL l, i < obs.length := by
  intro l hl i hi1
  have hol : obs.length = hs.length := by rw [← hob1, List.length_map, hlen]
  rcases mem_tops.1 hl with ⟨u0, hu0, hl⟩ | hl
  ·obtain ⟨u, hu1, rfl⟩ := List.mem_map.1 hu0
   rw [hol]
   exact (hargl u hu1 l hl).2.1 i hi1
  ·obtain ⟨p, hp, r, hr, hl⟩ := mem_obLeaves.1 hl
   have h5 := (Z2i (n := 0) hp).2
   have h6 := hkn (erOb p.2) (by rw [← hob1]; exact List.mem_map.2 ⟨_, List.mem_of_getElem? h5, rfl⟩)
   simp only [Z0p, Z3e, List.all_map, List.all_eq_true, Function.comp_def] at h6
   have := h6 r hr l hl i (by rw [Z9u]; exact hi1)
   rw [hol]
   exact Z9w this
 have himmdc : ∀ p ∈ immS dc, p.2 = [] ∨ SubIn p (immS d) ∨ (lent = true ∧ ImmFact W p ∧ ∃ q ∈ ownS (⟨d.sl, rest, d.nx⟩ : S Value), q.1 = p.1.block) := by
  intro p hp
  obtain ⟨l, hl, hp⟩ := List.mem_flatMap.1 hp
  rcases mem_tops.1 hl with ⟨u0, hu0, hl⟩ | hl
  ·obtain ⟨u, hu1, rfl⟩ := List.mem_map.1 hu0
   exact (hargl u hu1 l hl).2.2.2.2 p hp
  ·obtain ⟨q, hq, r, hr, hl⟩ := mem_obLeaves.1 hl
   exact .inr (.inl (.of_mem (List.mem_flatMap.2 ⟨_, hrowl q hq r hr l hl, by rwa [Z7y]⟩)))
 have hgood : Good W dc := {
  wf := fun l hl => by
   rcases mem_tops.1 hl with ⟨u0, hu0, hl⟩ | hl
   ·obtain ⟨u, hu1, rfl⟩ := List.mem_map.1 hu0
    have := hargl u hu1 l hl
    exact ⟨this.2.2.1, this.2.2.2.1⟩
   ·obtain ⟨p, hp, r, hr, hl⟩ := mem_obLeaves.1 hl
    have := hi.good.wf _ (hrowl p hp r hr l hl)
    exact ⟨(Y2i g false l).1 this.1, Z7c hdc l this.2⟩
  obs := fun p hp => by
   have h5 := (Z2i (n := 0) hp).2
   obtain ⟨h, _, h7⟩ := hrow _ _ h5
   have := hi.good.obs _ (find?_key h7)
   simp only [Y2, List.map_eq_nil_iff, List.length_map] at this
   refine ⟨this.1, fun r hr => ?_⟩
   have := this.2 (r.map (renL g)) (List.mem_map.2 ⟨r, hr, rfl⟩)
   simpa using this
  ids := by
   show ((K9 hobs).map (·.1)).Nodup
   rw [Z6u]; exact List.nodup_range
  own := fun p hp => hi.good.own p (hperm0.mem_iff.2 (List.mem_append_left _ hp))
  nodup := hnd0.1
  imm := fun p hp hne => by
   rcases himmdc p hp with h0 | h0 | ⟨_, h0, q, hq, hqe⟩
   ·exact absurd h0 hne
   ·rcases h0 with h0 | ⟨q, hq, hs'⟩
    ·exact absurd h0 hne
    ·obtain ⟨k1, k2⟩ := hi.good.imm q hq (hs'.ne hne)
     exact ⟨hs'.fact k1, fun q2 hq2 => by rw [hs'.1]; exact k2 q2 (hperm0.mem_iff.2 (List.mem_append_left _ hq2))⟩
   ·exact ⟨h0, fun q2 hq2 e => hnd0.2.2 q2.1 (List.mem_map.2 ⟨q2, hq2, rfl⟩) q.1 (List.mem_map.2 ⟨q, hq, rfl⟩) (e.trans hqe.symm)⟩ }
 have hall : All2 UR args' (c.args.toList.map a.eval ++ cs'.map val) :=
  Y1v (Y0i (fun _ _ h => h.ur) hus2) (Y8w fun l _ => rfl)
 have hobk : (erS dc).ob = obs.zipIdx.map (fun q => (q.2, q.1)) := by
  rw [← hob1]
  simp only [dc, erS, mapS, K9, List.zipIdx_map, List.map_map]
  rfl
 have hcalls := hsim W dc args' _ rfl (by simp [args', hus1, ← hcs1, mapU, Function.comp_def]) hall hobk hgood hids
 unfold Oper.wp
 rw [hrun]
 simp only [Oper.upon]
 refine Calls.mono hcalls fun e W' he => ?_
 obtain ⟨y, d', rv, rfl, hd'sl, hrv, hd'ob, hvr, hend⟩ := he
 have hd'ob2 : d'.ob.map (fun p => (p.1, erOb p.2)) = K9 obs' := hd'ob
 obtain ⟨hk1, hk2⟩ := X8n hd'ob2
 generalize hno2 : d'.ob.map (·.2) = nobs at hk1 hk2
 have hm : obs'.length = nobs.length := by rw [← hk2]; simp
 have hk0 : hobs.length = hs.length := hlen.symm
 have hdcob : dc.ob.length = hs.length := by simp [dc, K9, hk0]
 have hhdr := hend.hdr
 rw [hdcob] at hhdr
 have hkm : hs.length ≤ nobs.length := by
  have := congrArg List.length hhdr
  simp only [List.length_map, List.length_take, hdcob] at this
  rw [hk1] at this
  simp [K9] at this
  omega
 have hh2 : ∀ (i : Nat) (o o' : Ob Value), hobs[i]? = some o → nobs[i]? = some o' → o'.h = o.h ∧ o'.n = o.n ∧ o'.rows.length = o.rows.length := by
  intro i o1 o2 ho1 ho2
  have hlt := (List.getElem?_eq_some_iff.1 ho1).1
  have e := congrArg (fun l => l[i]?) hhdr
  simp only [List.getElem?_map, List.getElem?_take] at e
  rw [if_pos (by omega)] at e
  have e1 : dc.ob[i]? = some (i, o1) := by
   show (K9 hobs)[i]? = _
   simp [K9, List.getElem?_map, List.getElem?_zipIdx, ho1]
  have e2 : d'.ob[i]? = some (i, o2) := by
   rw [hk1]
   simp [K9, List.getElem?_map, List.getElem?_zipIdx, ho2]
  rw [e1, e2] at e
  simp only [Option.map_some, Option.some.injEq, Prod.mk.injEq, true_and] at e
  exact e
 have hlen2 : nobs.length = obs'.length := hm.symm
 generalize hrr : Z4a hdV (nid + (nobs.length - hs.length)) (renV g rv) = rr
 obtain ⟨rv', ro⟩ := rr
 have herv := X2s (nid + (nobs.length - hs.length)) (renV g rv)
 rw [W2a, hrv, hrr] at herv
 simp only at herv
 rw [hm] at hf ⊢
 rw [herv] at hf ⊢
 simp only [List.length_append, List.length_map, List.length_drop, hm] at hf ⊢
 obtain ⟨hlv, hlo⟩ := Z8h hdV (nid + (nobs.length - hs.length)) (renV g rv)
 have hmm := Y0t (nid + (nobs.length - hs.length)) (Z3 (renV g rv))
 have hrokeys := Z6m hdV (nid + (nobs.length - hs.length)) (Z3 (renV g rv))
 have hroown := Y0s (nid + (nobs.length - hs.length)) (Z3 (renV g rv))
 rw [← hlv, ← hlo] at hmm
 rw [← hlo] at hrokeys
 rw [← hlv, ← hlo] at hroown
 rw [hrr] at hmm hrokeys hroown
 simp only at hmm hrokeys hroown
 have hrvk : ∀ l ∈ Z3 rv, l ∈ tops d' := fun l hl => mem_tops.2 (.inl ⟨rv, by rw [hd'sl]; simp, hl⟩)
 let nk := nobs.take hs.length
 let nn := nobs.drop hs.length
 let updV : List (Nat × List (List (L Value))) := hs.zip (nk.map fun ob => (Y2 g ob).rows)
 let obU := (d.ob.filter (fun p => !cons.contains p.1)).map (updP updV)
 let newsA : List (Nat × Ob Value) := ((nn.map (Y2 g)).zipIdx nid).map (fun q => (q.2, q.1))
 let ob1 := obU ++ (newsA ++ ro)
 let d1 : S Value := ⟨d.sl ++ [rv'], ob1, d.nx + (nobs.length - hs.length + ro.length)⟩
 have hnkl : nk.length = hobs.length := by simp [nk]; omega
 have hnkg : ∀ (i : Nat) o', nk[i]? = some o' → nobs[i]? = some o' ∧ i < hs.length := fun i o' h => by
  have hlt := (List.getElem?_eq_some_iff.1 h).1
  simp only [nk, List.getElem?_take] at h
  split at h
  ·exact ⟨h, by omega⟩
  ·cases h
 have hnng : ∀ (i : Nat) o', nn[i]? = some o' → nobs[hs.length + i]? = some o' := fun i o' h => by
  simp only [nn, List.getElem?_drop] at h
  exact h
 have hU : obU.Perm (Z6q g hs nk ++ rest) := by
  have h5 := (hperm.filter (fun p => !cons.contains p.1)).map (updP updV)
  have f1 : (Z6q g hs hobs).filter (fun p => !cons.contains p.1) = Z6q g hs hobs := List.filter_eq_self.2 fun p hp => by
   have hm : p.1 ∈ (Z6q g hs hobs).map (·.1) := List.mem_map.2 ⟨p, hp, rfl⟩
   rw [Y6e hlen] at hm
   simp only [Bool.not_eq_true', List.contains_eq_mem, decide_eq_false_iff_not]
   exact fun h => hdis _ hm _ h rfl
  have f2 : (cons.zip cobs).filter (fun p => !cons.contains p.1) = [] := List.filter_eq_nil_iff.2 fun p hp => by
   have hm : p.1 ∈ (cons.zip cobs).map (·.1) := List.mem_map.2 ⟨p, hp, rfl⟩
   rw [hzk] at hm
   simp [hm]
  have f3 : rest.filter (fun p => !cons.contains p.1) = rest := List.filter_eq_self.2 fun p hp => by simp [hrc p hp]
  rw [List.filter_append, List.filter_append, f1, f2, f3, List.nil_append] at h5
  rw [List.map_append, X4m hnd hlen hnkl (fun i o1 o2 a1 a2 => by
   have := hh2 i o1 o2 a1 (hnkg i o2 a2).1
   exact ⟨this.1, this.2.1⟩), X7u (upd := updV) (rest := rest) (fun p hp => by
   have e : updV.map (·.1) = hs := List.map_fst_zip (by simp [hnkl]; omega)
   rw [e]
   exact hrk p hp)] at h5
  exact h5
 have hUk : (obU.map (·.1)).Sublist (d.ob.map (·.1)) := by
  have e : obU.map (·.1) = (d.ob.filter (fun p => !cons.contains p.1)).map (·.1) := by
   simp only [obU, List.map_map]
   exact List.map_congr_left fun p _ => X7v updV p
  rw [e]
  exact List.filter_sublist.map _
 have hnewk : (newsA ++ ro).map (·.1) = List.range' nid (nobs.length - hs.length + ro.length) := by
  have e1 : newsA.map (·.1) = List.range' nid (nobs.length - hs.length) := by
   rw [Y0z]
   simp [nn]
  rw [List.map_append, e1, hrokeys, List.range'_append_1]
 have hnk : ∀ i, Z3h d i → i ∉ (newsA ++ ro).map (·.1) := fun i hk hm2 => by
  rw [hnewk, List.mem_range'_1] at hm2
  have := hf.1 i hk
  omega
 have hnodup : (ob1.map (·.1)).Nodup := by
  show ((obU ++ (newsA ++ ro)).map (·.1)).Nodup
  rw [List.map_append, List.nodup_append]
  refine ⟨hi.good.ids.sublist hUk, by rw [hnewk]; exact List.nodup_range', fun i hi2 j hj e => ?_⟩
  subst e
  have hi2 := hUk.subset hi2
  exact hnk i (.inr hi2) hj
 have hpk : ∀ p ∈ Z6q g hs nk, ∃ (j h : Nat) (ob ob0 : Ob Value), hs[j]? = some h ∧ nobs[j]? = some ob ∧ hobs[j]? = some ob0 ∧ p = (h, Y2 g ob) ∧ look d.ob h = some (Y2 g ob0) := by
  intro p hp
  obtain ⟨q, hq, rfl⟩ := List.mem_map.1 hp
  obtain ⟨j, hj⟩ := List.getElem?_of_mem hq
  rw [List.getElem?_zip_eq_some] at hj
  obtain ⟨a1, a2⟩ := hnkg j _ hj.2
  have a3 : hobs[j]? = some (hobs[j]'(by omega)) := List.getElem?_eq_getElem (by omega)
  exact ⟨j, _, _, _, hj.1, a1, a3, rfl, Z1i hob2 j _ _ hj.1 a3⟩
 have hrestm : ∀ p ∈ rest, p ∈ d.ob := fun p hp => hperm.mem_iff.2 (List.mem_append_right _ (List.mem_append_right _ hp))
 have hnewm : ∀ p ∈ newsA, ∃ (j : Nat) (ob : Ob Value), nobs[j]? = some ob ∧ hs.length ≤ j ∧ p = (nid + (j - hs.length), Y2 g ob) := by
  intro p hp
  obtain ⟨a1, a2⟩ := Z2i hp
  rw [List.getElem?_map, Option.map_eq_some_iff] at a2
  obtain ⟨ob, a3, a4⟩ := a2
  refine ⟨hs.length + (p.1 - nid), ob, hnng _ _ a3, by omega, ?_⟩
  rw [a4]
  refine Prod.ext ?_ rfl
  simp only
  omega
 have hd'm : ∀ (j : Nat) ob, nobs[j]? = some ob → (j, ob) ∈ d'.ob := fun j ob h => by
  rw [hk1]
  have := Y2f (n := 0) h
  simpa [K9] using this
 have hd'l : ∀ (j : Nat) ob, nobs[j]? = some ob → ∀ r ∈ ob.rows, ∀ l ∈ r, l ∈ tops d' := fun j ob h r hr l hl =>
  mem_tops.2 (.inr (mem_obLeaves.2 ⟨_, hd'm j ob h, r, hr, hl⟩))
 have hkn' : ∀ l ∈ tops d', ∀ i ∈ idsL l, i < nobs.length := fun l hl i hi1 => by
  have := hend.known l hl i hi1
  rw [hk1] at this
  simpa [K9] using this
 have hL1 : ∀ (j : Nat) ob, nobs[j]? = some ob → look ob1 (g j) = some (Y2 g ob) := fun j ob h => by
  refine J2 hnodup ?_
  rcases Nat.lt_or_ge j hs.length with hj | hj
  ·have a1 : hs[j]? = some hs[j] := List.getElem?_eq_getElem hj
   rw [hgi j _ a1]
   refine List.mem_append_left _ (hU.mem_iff.2 (List.mem_append_left _ ?_))
   have a2 : nk[j]? = some ob := by simp [nk, List.getElem?_take, hj, h]
   exact List.mem_of_getElem? (Y4t a1 a2)
  ·rw [hge j hj]
   refine List.mem_append_right _ (List.mem_append_left _ ?_)
   exact Y2f (by
    rw [List.getElem?_map]
    have : nn[j - hs.length]? = some ob := by
     simp only [nn, List.getElem?_drop]
     rw [show hs.length + (j - hs.length) = j by omega]
     exact h
    rw [this]
    rfl)
 have hA : ∀ l ∈ tops d', wfL false (renL g l) ∧ W7 ob1 (renL g l) := fun l hl => by
  have h5 := hend.good.wf l hl
  refine ⟨(Y2i g false l).2 h5.1, Y8i (fun i hi1 o' ho' => ?_) h5.2⟩
  have hlt := hkn' l hl i hi1
  have a1 : nobs[i]? = some nobs[i] := List.getElem?_eq_getElem hlt
  rw [hL1 i _ a1] at ho'
  cases ho'
  refine ⟨nobs[i], ?_, rfl, rfl, by simp [Y2]⟩
  rw [hk1]
  exact keyed_look.2 a1
 have hB : ∀ l, Has d l → W7 ob1 l := fun l hh => by
  refine Z7u (fun i hi1 o' ho' => ?_) hh.2.1
  have hkw := hh.2.2.2 i hi1
  have hmem1 := find?_key ho'
  rcases List.mem_append.1 hmem1 with h5 | h5
  ·rcases List.mem_append.1 (hU.mem_iff.1 h5) with h5 | h5
   ·obtain ⟨j, h, ob, ob0, a1, a2, a3, a4, a5⟩ := hpk _ h5
    cases a4
    have := hh2 j ob0 ob a3 a2
    exact ⟨_, a5, by simp [Y2, this.1], by simp [Y2, this.2.1], by simp [Y2, this.2.2]⟩
   ·exact ⟨o', J2 hi.good.ids (hrestm _ h5), rfl, rfl, rfl⟩
  ·exact absurd (List.mem_map.2 ⟨_, h5, rfl⟩) (hnk i hkw)
 have hrvl : ∀ v' m' rows, (.os v' m' rows : L Value) ∈ Z3 (renV g rv) → (.os v' m' rows : L Value) ∈ Z3 rv := fun v' m' rows h => by
  rw [Z4m] at h
  obtain ⟨l0, a1, a2⟩ := List.mem_map.1 h
  cases l0 <;> simp only [renL, reduceCtorEq] at a2
  cases a2
  exact a1
 have hro : ∀ p ∈ ro, ∃ v' m' rows, (.os v' m' rows : L Value) ∈ Z3 rv ∧ p.2 = ⟨hdV v', m', rows⟩ ∧ X3p v' rows ∧ (∀ r ∈ rows, r.length = m') ∧ wfR true rows := fun p hp => by
  obtain ⟨v', m', rows, a1, a2⟩ := hmm.2 p hp
  have a3 := hrvl _ _ _ a1
  have := (hend.good.wf _ (hrvk _ a3)).1
  exact ⟨v', m', rows, a3, a2, this.1, this.2.1, this.2.2⟩
 have hrol : ∀ p ∈ ro, ∀ r ∈ p.2.rows, ∀ l ∈ r, wfL true l ∧ ∀ q ∈ immL l, q ∈ immS d' := fun p hp r hr l hl => by
  obtain ⟨v', m', rows, a1, a2, _, _, a5⟩ := hro p hp
  rw [a2] at hr
  refine ⟨(Z5h _ _).1 a5 r hr l hl, fun q hq => List.mem_flatMap.2 ⟨_, hrvk _ a1, ?_⟩⟩
  simp only [immL, Z4r]
  exact List.mem_flatMap.2 ⟨l, List.mem_flatten.2 ⟨r, hr, hl⟩, hq⟩
 have hwfo : ∀ l ∈ Z3 rv', wfL false l ∧ W7 ob1 l ∧ noOs l = true ∧ (∀ i ∈ idsL l, (∃ j, j < nobs.length ∧ i = g j) ∨ i ∈ ro.map (·.1)) ∧ ∀ q ∈ immL l, q ∈ immS d' := fun l hl => by
  rcases hmm.1 l hl with ⟨a1, a2⟩ | ⟨i, v', m', rows, rfl, a2, a3⟩
  ·rw [Z4m] at a1
   obtain ⟨l0, a3, rfl⟩ := List.mem_map.1 a1
   have := hA l0 (hrvk l0 a3)
   refine ⟨this.1, this.2, a2, fun i hi1 => ?_, fun q hq => ?_⟩
   ·rw [Y5i] at hi1
    obtain ⟨j, a4, rfl⟩ := List.mem_map.1 hi1
    exact .inl ⟨j, hkn' l0 (hrvk l0 a3) j a4, rfl⟩
   ·rw [Z7y] at hq
    exact List.mem_flatMap.2 ⟨l0, hrvk l0 a3, hq⟩
  ·have a4 := (hend.good.wf _ (hrvk _ (hrvl _ _ _ a2))).1
   have hown2 := a4.1
   have hv2 : ∃ a n c, v' = .slice a n c := by
    rcases hown2 with ⟨rfl, _⟩ | ⟨_, _, _, rfl, _⟩ <;> exact ⟨_, _, _, rfl⟩
   refine ⟨⟨rfl, hv2⟩, fun o2 ho2 => ?_, rfl, fun j hj => ?_, fun q hq => by simp [immL] at hq⟩
   ·rw [J2 hnodup (List.mem_append_right _ (List.mem_append_right _ a3))] at ho2
    cases ho2
    refine ⟨by simp, ?_⟩
    rcases hown2 with ⟨rfl, _⟩ | ⟨b, x, c, rfl, _⟩
    ·exact .inl ⟨rfl, rfl⟩
    ·exact .inr ⟨b, x, c, rfl, .inl (by simp)⟩
   ·simp only [idsL, List.mem_singleton] at hj
    subst hj
    exact .inr (List.mem_map.2 ⟨_, a3, rfl⟩)
 have htop1 : ∀ l ∈ tops d1, l ∈ tops d ∨ (∃ l0 ∈ tops d', l = renL g l0) ∨ l ∈ Z3 rv' ∨ ∃ p ∈ ro, ∃ r ∈ p.2.rows, l ∈ r := fun l hl => by
  rcases mem_tops.1 hl with ⟨u, hu, hl2⟩ | hl
  ·rcases List.mem_append.1 hu with hu | hu
   ·exact .inl (mem_tops.2 (.inl ⟨u, hu, hl2⟩))
   ·simp only [List.mem_singleton] at hu
    subst hu
    exact .inr (.inr (.inl hl2))
  ·obtain ⟨p, hp, r, hr, hl⟩ := mem_obLeaves.1 hl
   rcases List.mem_append.1 hp with hp | hp
   ·rcases List.mem_append.1 (hU.mem_iff.1 hp) with hp | hp
    ·obtain ⟨j, h, ob, ob0, a1, a2, a3, rfl, a5⟩ := hpk _ hp
     obtain ⟨r0, b1, rfl⟩ := List.mem_map.1 hr
     obtain ⟨l0, b2, rfl⟩ := List.mem_map.1 hl
     exact .inr (.inl ⟨l0, hd'l j ob a2 r0 b1 l0 b2, rfl⟩)
    ·exact .inl (mem_tops.2 (.inr (mem_obLeaves.2 ⟨p, hrestm p hp, r, hr, hl⟩)))
   ·rcases List.mem_append.1 hp with hp | hp
    ·obtain ⟨j, ob, a1, a2, rfl⟩ := hnewm _ hp
     obtain ⟨r0, b1, rfl⟩ := List.mem_map.1 hr
     obtain ⟨l0, b2, rfl⟩ := List.mem_map.1 hl
     exact .inr (.inl ⟨l0, hd'l j ob a1 r0 b1 l0 b2, rfl⟩)
    ·exact .inr (.inr (.inr ⟨p, hp, r, hr, hl⟩))
 have hinv1 : Inv B W' d1 := by
  refine X0x hi (rest := ownS ⟨d.sl, rest, d.nx⟩) hperm0 ?_ hend ?_ (fun p hp => ?_) (fun l hl => ?_) (fun p hp => ?_) hnodup (fun p hp hlt => ?_)
  ·rcases himf with h5 | ⟨h5, h6⟩
   ·left
    intro q hq hne
    rcases himmdc q hq with h7 | h7 | ⟨h7, _⟩
    ·exact absurd h7 hne
    ·rcases h7 with h7 | ⟨q', hq', hs'⟩
     ·exact absurd h7 hne
     ·exact ⟨q', hq', hs'.ne hne, hs'.1.symm⟩
    ·rw [h5] at h7; cases h7
   ·right
    simp only [immS, List.flatMap_eq_nil_iff]
    intro l hl
    rcases mem_tops.1 hl with ⟨u, hu, hl⟩ | hl
    ·rw [hd'sl] at hu
     simp only [List.mem_singleton] at hu
     subst hu
     rw [← hrv] at h5
     simp only [Z2h, Z9r, List.all_map, List.all_eq_true, Function.comp_def] at h5
     exact Y3h (h5 l hl)
    ·obtain ⟨p, hp, r, hr, hl⟩ := mem_obLeaves.1 hl
     have h7 := h6 (erOb p.2) (by rw [← hk2, ← hno2]; exact List.mem_map.2 ⟨p.2, List.mem_map.2 ⟨p, hp, rfl⟩, rfl⟩)
     have h8 : immR p.2.rows = [] := Y1q (by rw [Z1m]; exact h7)
     rw [Z4r, List.flatMap_eq_nil_iff] at h8
     exact h8 l (List.mem_flatten.2 ⟨r, hr, hl⟩)
  ·classical
   refine List.perm_iff_count.2 fun q => ?_
   have c1 := List.perm_iff_count.1 (V3 d1) q
   have c2 := List.perm_iff_count.1 (V3 d') q
   have c3 := List.perm_iff_count.1 (V3 ⟨d.sl, rest, d.nx⟩) q
   have c4 := List.perm_iff_count.1 (hU.flatMap_right Q8) q
   have c5 := List.perm_iff_count.1 (W2p ro) q
   have c6 := List.perm_iff_count.1 hroown.2 q
   have c7 : newsA.flatMap Q8 = nn.flatMap (fun o => Q8 (0, o)) := by
    rw [Z9f, List.flatMap_map]
    exact ownOb_ren.flatMap_congr' fun o _ => ownOb_ren g 0 0 o
   have c8 : (Z6q g hs nk).flatMap Q8 = nk.flatMap (fun o => Q8 (0, o)) := Y4s (by rw [hnkl, hk0])
   have c9 : d'.ob.flatMap Q8 = nk.flatMap (fun o => Q8 (0, o)) ++ nn.flatMap (fun o => Q8 (0, o)) := by
    rw [← List.flatMap_append, List.take_append_drop, hk1]
    exact Z9f 0 nobs
   have c10 : (Z3 (renV g rv)).flatMap ownL = (Z3 rv).flatMap ownL := by
    rw [Z4m, List.flatMap_map]
    exact ownOb_ren.flatMap_congr' fun l _ => Y9v g l
   rw [c10] at c6
   rw [c9] at c2
   simp only [List.flatMap_append, c8, List.count_append] at c4
   simp only [d1, ob1, List.flatMap_append, c7, List.flatMap_cons, List.flatMap_nil, List.append_nil, hroown.1, List.count_append] at c1
   simp only [hd'sl, List.flatMap_cons, List.flatMap_nil, List.append_nil, List.count_append] at c2
   simp only [List.count_append] at c3 c5 c6 ⊢
   have c11 : List.count q (ownS d1) = _ := c1
   omega
  ·obtain ⟨l, hl, hp⟩ := List.mem_flatMap.1 hp
   rcases htop1 l hl with h5 | ⟨l0, h5, rfl⟩ | h5 | ⟨q, hq, r', hr', h5⟩
   ·exact .inl (.of_mem (List.mem_flatMap.2 ⟨l, h5, hp⟩))
   ·rw [Z7y] at hp
    exact .inr (List.mem_flatMap.2 ⟨l0, h5, hp⟩)
   ·exact .inr ((hwfo l h5).2.2.2.2 p hp)
   ·exact .inr ((hrol q hq r' hr' l h5).2 p hp)
  ·rcases htop1 l hl with h5 | ⟨l0, h5, rfl⟩ | h5 | ⟨q, hq, r', hr', h5⟩
   ·have hh := Z8a hi.good h5
    exact ⟨hh.1, hB l hh⟩
   ·exact hA l0 h5
   ·exact ⟨(hwfo l h5).1, (hwfo l h5).2.1⟩
   ·have := Z6k (hrol q hq r' hr' l h5).1
    exact ⟨this.1, this.2.1 _⟩
  ·have hren : ∀ (j : Nat) ob, nobs[j]? = some ob → (((Y2 g ob).h = .slice none 0 0 ∧ (Y2 g ob).rows = []) ∨ ∃ b x c, (Y2 g ob).h = .slice (some ⟨b, x, none⟩) 0 c ∧ (Y2 g ob).rows.length ≤ c ∧ (Y2 g ob).rows.length ≤ LIM) ∧ ∀ r ∈ (Y2 g ob).rows, r.length = (Y2 g ob).n := fun j ob h => by
    have := hend.good.obs _ (hd'm j ob h)
    simp only at this
    refine ⟨by simpa [Y2] using this.1, fun r hr => ?_⟩
    obtain ⟨r0, b1, rfl⟩ := List.mem_map.1 hr
    simpa [Y2] using this.2 r0 b1
   rcases List.mem_append.1 hp with hp | hp
   ·rcases List.mem_append.1 (hU.mem_iff.1 hp) with hp | hp
    ·obtain ⟨j, h, ob, ob0, a1, a2, a3, rfl, a5⟩ := hpk _ hp
     exact hren j ob a2
    ·exact hi.good.obs p (hrestm p hp)
   ·rcases List.mem_append.1 hp with hp | hp
    ·obtain ⟨j, ob, a1, a2, rfl⟩ := hnewm _ hp
     exact hren j ob a1
    ·obtain ⟨v', m', rows, _, a2, a3, a4, _⟩ := hro p hp
     rw [a2]
     refine ⟨?_, a4⟩
     rcases a3 with ⟨rfl, rfl⟩ | ⟨b, x, c, rfl, a5, a6⟩
     ·exact .inl ⟨rfl, rfl⟩
     ·exact .inr ⟨b, x, c, rfl, a5, a6⟩
  ·rcases List.mem_append.1 hp with hp | hp
   ·rcases List.mem_append.1 (hU.mem_iff.1 hp) with hp | hp
    ·obtain ⟨j, h, ob, ob0, a1, a2, a3, rfl, a5⟩ := hpk _ hp
     have := hi.hdr _ (find?_key a5) hlt
     simp only [Y2] at this ⊢
     rw [(hh2 j ob0 ob a3 a2).1]
     exact this
    ·exact hi.hdr p (hrestm p hp) hlt
   ·have : p.1 ∈ (newsA ++ ro).map (·.1) := List.mem_map.2 ⟨p, hp, rfl⟩
    rw [hnewk, List.mem_range'_1] at this
    have := hf.2
    omega
 obtain ⟨hinv2, htop2⟩ := X8q (sl := d.sl) (ob := ob1) (nx := d.nx + (nobs.length - hs.length + ro.length)) hinv1 (fun l hl => (hwfo l hl).2.2.1) o.dst
 refine ⟨U1 ⟨d.sl, ob1, d.nx + (nobs.length - hs.length + ro.length)⟩ o.dst rv', ?_, hinv2, SlR.put (d := ⟨d.sl, ob1, d.nx + (nobs.length - hs.length + ro.length)⟩) ⟨hsl.1, hsl.2⟩ o.dst ?_, by rw [Z6n]; exact hdef, fun i hk => ?_⟩
 ·have k1 : updV.map (fun q => (q.1, q.2.map fun r => r.map erL)) = hs.zip ((obs'.take hs.length).map fun ob => (Y2 g ob).rows) := by
   rw [← hk2, ← List.map_take, List.map_map]
   simp only [updV, nk]
   rw [List.zip_map_right, List.zip_map_right, List.map_map]
   refine List.map_congr_left fun q _ => ?_
   simp only [Function.comp, Prod.map, id]
   refine Prod.ext rfl ?_
   show _ = (Y2 g (erOb q.2)).rows
   rw [← Y8h]
   rfl
  have k2 : (obs'.drop hs.length).map (Y2 g) = (nn.map (Y2 g)).map erOb := by
   rw [← hk2, ← List.map_drop, List.map_map, List.map_map]
   exact List.map_congr_left fun ob _ => (Y8h g ob).symm
  have k3 : (((ro.map (fun p => (p.1, erOb p.2))).map (·.2)).zipIdx (nid + (nobs.length - hs.length))).map (fun q => (q.2, q.1)) = ro.map (fun p => (p.1, erOb p.2)) := by
   refine X6j _ _ ?_
   rw [List.map_map, List.length_map, ← hrokeys]
   rfl
  rw [Y0x]
  unfold appE app
  congr 1
  simp only [erS, mapS, S.mk.injEq, true_and]
  refine ⟨?_, ?_⟩
  ·have k4 : obU.map (fun p => (p.1, erOb p.2)) = ((d.ob.map (fun p => (p.1, erOb p.2))).filter (fun p => !cons.contains p.1)).map (updP (hs.zip ((obs'.take hs.length).map fun ob => (Y2 g ob).rows))) := by
    rw [← k1, List.filter_map, List.map_map, List.map_map]
    exact List.map_congr_left fun p _ => W1f updV p
   have k6 : nn.length = nobs.length - hs.length := by simp [nn]
   rw [← k4, k2, List.zipIdx_append]
   simp only [List.length_map, ob1, List.map_append, k6]
   rw [k3]
   congr 2
   simp only [newsA, List.zipIdx_map, List.map_map]
   rfl
  ·simp [hm]
 ·have := X2t (n := nid + (nobs.length - hs.length)) (W4s g hvr)
  rw [hrr] at this
  exact this
 ·have hgk : ∀ j, j < nobs.length → Z3h d (g j) ∨ (nid ≤ g j ∧ g j < nid + (nobs.length - hs.length + ro.length)) := fun j hj => by
   rcases Nat.lt_or_ge j hs.length with h5 | h5
   ·have a1 : hs[j]? = some hs[j] := List.getElem?_eq_getElem h5
    rw [hgi j _ a1]
    have a2 := Z1i hob2 j _ _ a1 (List.getElem?_eq_getElem (by omega))
    exact .inl (.inr (List.mem_map.2 ⟨_, find?_key a2, rfl⟩))
   ·rw [hge j h5]
    exact .inr (by omega)
  rcases hk with ⟨l, hl, hi2⟩ | hi2
  ·rcases htop1 l (htop2 l hl) with h5 | ⟨l0, h5, rfl⟩ | h5 | ⟨q, hq, r', hr', h5⟩
   ·exact .inl (.inl ⟨l, h5, hi2⟩)
   ·rw [Y5i] at hi2
    obtain ⟨j, a4, rfl⟩ := List.mem_map.1 hi2
    exact hgk j (hkn' l0 h5 j a4)
   ·rcases (hwfo l h5).2.2.2.1 i hi2 with ⟨j, hj, rfl⟩ | h6
    ·exact hgk j hj
    ·have : i ∈ (newsA ++ ro).map (·.1) := by rw [List.map_append]; exact List.mem_append_right _ h6
     rw [hnewk, List.mem_range'_1] at this
     exact .inr this
   ·rw [(Z6k (hrol q hq r' hr' l h5).1).2.2] at hi2; cases hi2
  ·rw [Z4y] at hi2
   have hi2 : i ∈ (obU ++ (newsA ++ ro)).map (·.1) := hi2
   rw [List.map_append, List.mem_append] at hi2
   rcases hi2 with hi2 | hi2
   ·exact .inl (.inr (hUk.subset hi2))
   ·rw [hnewk, List.mem_range'_1] at hi2
    exact .inr hi2
end
section
theorem Y8f {α : Type} {l : List α} {i : Nat} {x : α} (h : l[i]? = some x) : l.set i x = l := by
 apply List.ext_getElem?
 intro k
 rw [List.getElem?_set]
 by_cases hk : i = k
 ·subst hk
  rw [h]
  simp [(List.getElem?_eq_some_iff.1 h).1]
 ·rw [if_neg hk]
theorem GhB.openS {B : Bd} {s : S Unit} {u : U Unit} {rows2 : List (List (L Unit))} (t j m : Nat) (ht : s.sl[t]? = some (.u u)) (hj : (Z1 u)[j]? = some (.os () m rows2)) :
  GhB B s ⟨s.sl.set t (.u (Z1j u j (.ref () s.nx 0 rows2.length))), s.ob ++ [(s.nx, ⟨(), m, rows2⟩)], s.nx + 1⟩ := by
 rintro a W ⟨d, rfl, hi, hs, hdef, hk, hn0⟩
 have h1 : (d.sl.map erV)[t]? = some (.u u) := ht
 rw [List.getElem?_map, Option.map_eq_some_iff] at h1
 obtain ⟨w, hv, hvu⟩ := h1
 obtain ⟨u', rfl, rfl⟩ : ∃ u', w = .u u' ∧ erU u' = u := by
  cases w with
  | u x => exact ⟨x, rfl, by injection hvu⟩
  | tup xs => cases hvu
  | un => cases hvu
  | ud => cases hvu
 rw [Q2, List.getElem?_map, Option.map_eq_some_iff] at hj
 obtain ⟨l', hj', hl'⟩ := hj
 obtain ⟨v, rows3, rfl, rfl⟩ : ∃ v rows3, l' = .os v m rows3 ∧ rows3.map (fun r => r.map erL) = rows2 := by
  cases l' <;> simp only [mapL, reduceCtorEq, L.os.injEq, true_and] at hl'
  obtain ⟨rfl, h⟩ := hl'
  exact ⟨_, _, rfl, by rw [← h, Z1m]⟩
 have hjlt : j < (Z1 u').length := (List.getElem?_eq_some_iff.1 hj').1
 have htlt : t < d.sl.length := (List.getElem?_eq_some_iff.1 hv).1
 have hmem : L.os v m rows3 ∈ tops d := mem_tops.2 (.inl ⟨.u u', List.mem_of_getElem? hv, List.mem_of_getElem? hj'⟩)
 have hwf := (hi.good.wf _ hmem).1
 simp only [wfL] at hwf
 obtain ⟨hown, hlen, hwr⟩ := hwf
 obtain ⟨hh1, hh2⟩ := W3k (m := m) hown
 have hsl3 : ∃ a n c, v = .slice a n c := by
  rcases hown with ⟨rfl, _⟩ | ⟨_, _, _, rfl, _⟩ <;> exact ⟨_, _, _, rfl⟩
 let no : Ob Value := ⟨hdV v, m, rows3⟩
 let nref : L Value := .ref v d.nx 0 rows3.length
 let nv : V Value := .u (Z1j u' j nref)
 let ob1 := d.ob ++ [(d.nx, no)]
 let d' : S Value := ⟨d.sl.set t nv, ob1, d.nx + 1⟩
 have hlv : Z3 nv = (Z1 u').set j nref := Z6s hjlt
 have hnk : d.nx ∉ d.ob.map (·.1) := fun hm => by have := hk d.nx (.inr hm); omega
 have hids : (d'.ob.map (·.1)).Nodup := by
  show (ob1.map (·.1)).Nodup
  rw [List.map_append, List.nodup_append]
  refine ⟨hi.good.ids, by simp, fun i hi1 k hk1 e => ?_⟩
  simp only [List.map_cons, List.map_nil, List.mem_singleton] at hk1
  subst e hk1
  exact hnk hi1
 have hlook : ∀ i, i ≠ d.nx → look ob1 i = look d.ob i := fun i hi1 => by
  unfold look
  rw [List.find?_append]
  have : List.find? (fun p : Nat × Ob Value => p.1 == i) [(d.nx, no)] = none := by simp [Ne.symm hi1]
  rw [this, Option.or_none]
 have hlookn : look ob1 d.nx = some no := J2 hids (List.mem_append_right _ (by simp))
 have hrefOk : ∀ l, Has d l → W7 ob1 l := fun l hh => by
  refine Z7u (fun i hi1 o2 ho2 => ?_) hh.2.1
  have hkn := hk i (hh.2.2.2 i hi1)
  rw [hlook i (by omega)] at ho2
  exact ⟨o2, ho2, rfl, rfl, rfl⟩
 have hnref : wfL false nref ∧ W7 ob1 nref := by
  refine ⟨⟨rfl, hsl3⟩, fun o2 ho2 => ?_⟩
  rw [hlookn] at ho2
  cases ho2
  refine ⟨by simp [no], ?_⟩
  rcases hown with ⟨rfl, _⟩ | ⟨b, x, c, rfl, _⟩
  ·exact .inl ⟨rfl, rfl⟩
  ·exact .inr ⟨b, x, c, rfl, .inl (by simp)⟩
 have hin3 : ∀ r ∈ rows3, ∀ l ∈ r, wfL true l ∧ ∀ q ∈ immL l, q ∈ immS d := fun r hr l hl => by
  refine ⟨(Z5h _ _).1 hwr r hr l hl, fun q hq => List.mem_flatMap.2 ⟨_, hmem, ?_⟩⟩
  simp only [immL, Z4r]
  exact List.mem_flatMap.2 ⟨l, List.mem_flatten.2 ⟨r, hr, hl⟩, hq⟩
 have htop : ∀ l ∈ tops d', l ∈ tops d ∨ l = nref ∨ ∃ r ∈ rows3, l ∈ r := fun l hl => by
  rcases mem_tops.1 hl with ⟨w, hw, hl2⟩ | h
  ·rcases List.mem_or_eq_of_mem_set hw with hw | rfl
   ·exact .inl (mem_tops.2 (.inl ⟨w, hw, hl2⟩))
   ·rw [hlv] at hl2
    rcases List.mem_or_eq_of_mem_set hl2 with hl2 | rfl
    ·exact .inl (mem_tops.2 (.inl ⟨.u u', List.mem_of_getElem? hv, hl2⟩))
    ·exact .inr (.inl rfl)
  ·obtain ⟨p, hp, r, hr, hl⟩ := mem_obLeaves.1 h
   rcases List.mem_append.1 (show p ∈ d.ob ++ [(d.nx, no)] from hp) with hp | hp
   ·exact .inl (mem_tops.2 (.inr (mem_obLeaves.2 ⟨p, hp, r, hr, hl⟩)))
   ·simp only [List.mem_singleton] at hp
    subst hp
    exact .inr (.inr ⟨r, hr, hl⟩)
 have hperm : (ownS d').Perm (ownS d) := by
  classical
  have hleaf : ((Z3 (.u u')).flatMap ownL).Perm (ownL (.os v m rows3) ++ (Z3 nv).flatMap ownL) := by
   have e : Z3 (.u u') = (Z3 nv).set j (.os v m rows3) := by
    rw [hlv, List.set_set]
    exact (Y8f hj').symm
   rw [e]
   exact Z4z (f := ownL) (x0 := nref) (by rw [hlv]; simp [hjlt]) (by simp [nref, ownL])
  have hsl := Z4z (f := fun v => (Z3 v).flatMap ownL) (ls := d.sl.set t nv) (j := t) (x := .u u') (x0 := nv) (e := ownL (.os v m rows3)) (by simp [htlt]) hleaf
  rw [List.set_set, Y8f hv] at hsl
  refine List.perm_iff_count.2 fun q => ?_
  have c1 := List.perm_iff_count.1 hsl q
  have c2 := List.perm_iff_count.1 (V3 d) q
  have c3 := List.perm_iff_count.1 (V3 d') q
  have e1 : d'.ob = d.ob ++ [(d.nx, no)] := rfl
  have e2 : d'.sl = d.sl.set t nv := rfl
  rw [e1, e2] at c3
  simp only [List.flatMap_append, List.flatMap_assoc, List.flatMap_cons, List.flatMap_nil, List.append_nil, List.count_append, Q8, no, hh1, ownL, Z0t] at c1 c2 c3 ⊢
  omega
 refine ⟨d', ?_, ?_, ⟨by simpa [d'] using hs.1, fun i w hw => ?_⟩, hdef, fun i hi2 => ?_, ?_⟩
 ·have e1 : (d'.sl.map erV) = (d.sl.map erV).set t (.u (Z1j (erU u') j (.ref () d.nx 0 rows3.length))) := by
   simp only [d', List.map_set]
   congr 1
   show V.u (erU (Z1j u' j nref)) = _
   rw [Y4j]
   simp [nref, mapL]
  have e2 : erS d' = ⟨d'.sl.map erV, ob1.map (fun p => (p.1, erOb p.2)), d'.nx⟩ := rfl
  rw [e2, e1]
  simp only [ob1, List.map_append, List.map_cons, List.map_nil, Z3e, List.length_map, no]
  rfl
 ·refine hi.step (Nat.le_refl _) (Same.refl _) (fun _ _ _ => rfl) (fun l hl => ?_) (fun p hp => ?_) hids (fun p hp => ⟨hi.good.own p (hperm.mem_iff.1 hp), .inl ⟨p, hperm.mem_iff.1 hp, rfl⟩⟩) ((hperm.map (·.1)).nodup_iff.2 hi.good.nodup) (fun p hp => ?_) (fun p hp hlt => ?_)
  ·rcases htop l hl with h | rfl | ⟨r, hr, h⟩
   ·have hh := Z8a hi.good h
    exact ⟨hh.1, hrefOk l hh⟩
   ·exact hnref
   ·have := Z6k (hin3 r hr l h).1
    exact ⟨this.1, this.2.1 _⟩
  ·rcases List.mem_append.1 (show p ∈ d.ob ++ [(d.nx, no)] from hp) with hp | hp
   ·exact hi.good.obs p hp
   ·simp only [List.mem_singleton] at hp
    subst hp
    exact ⟨hh2, hlen⟩
  ·obtain ⟨l, hl, hp⟩ := List.mem_flatMap.1 hp
   rcases htop l hl with h | rfl | ⟨r, hr, h⟩
   ·exact .of_mem (List.mem_flatMap.2 ⟨l, h, hp⟩)
   ·simp [nref, immL] at hp
   ·exact .of_mem ((hin3 r hr l h).2 p hp)
  ·rcases List.mem_append.1 (show p ∈ d.ob ++ [(d.nx, no)] from hp) with hp | hp
   ·exact hi.hdr p hp hlt
   ·simp only [List.mem_singleton] at hp
    subst hp
    simp only at hlt
    omega
 ·simp only [d', List.getElem?_set] at hw
  by_cases hti : t = i
  ·subst hti
   rw [if_pos rfl, if_pos htlt] at hw
   cases hw
   exact Y4k (hs.2 t _ hv) hj' rfl
  ·rw [if_neg hti] at hw
   exact hs.2 i w hw
 ·show i < d.nx + 1
  rcases hi2 with ⟨l, hl, h⟩ | h
  ·rcases htop l hl with h2 | rfl | ⟨r, hr, h2⟩
   ·have := hk i (.inl ⟨l, h2, h⟩); omega
   ·simp only [nref, idsL, List.mem_singleton] at h; omega
   ·rw [(Z6k (hin3 r hr l h2).1).2.2] at h; cases h
  ·have : i ∈ (d.ob ++ [(d.nx, no)]).map (·.1) := h
   rw [List.map_append, List.mem_append] at this
   rcases this with h3 | h3
   ·have := hk i (.inr h3); omega
   ·simp only [List.map_cons, List.map_nil, List.mem_singleton] at h3; omega
 ·show B.n0 ≤ d.nx + 1; omega
section
variable {B : Bd} {N nx : Nat} {asg : Asg} {oa : OAsg}
theorem f_ops {u u' : U Unit} {rows : List (List (L Unit))} {len : Nat} (t j m : Nat) (hN : Nat.blt t N = true) (ht : lkp asg t = some (.u u)) (hj : (Z1 u)[j]? = some (.os () m rows)) (hl : len = rows.length) (hu : Z1j u j (.ref () nx 0 len) = u') :
  GhB B (St N asg oa nx) (St N ((t, .u u') :: asg) ((nx, some ⟨(), m, rows⟩) :: oa) (nx + 1)) := by
 subst hu hl
 have h := GhB.openS (B := B) t j m (Z7p (oa := oa) (nx := nx) hN ht) hj
 have e : (⟨(St N asg oa nx).sl.set t (.u (Z1j u j (.ref () (St N asg oa nx).nx 0 rows.length))), (St N asg oa nx).ob ++ [((St N asg oa nx).nx, ⟨(), m, rows⟩)], (St N asg oa nx).nx + 1⟩ : S Unit) =
   St N ((t, .u (Z1j u j (.ref () nx 0 rows.length))) :: asg) ((nx, some ⟨(), m, rows⟩) :: oa) (nx + 1) := by
  simp only [St, Z5r, Y1h]
 rw [← e]
 exact h
theorem op_ob {id n : Nat} {rows : List (List (L Unit))} {o2 : Ob Unit} (rows' : List (List (L Unit))) (ho : lko oa nx id = some ⟨(), n, rows⟩) : K0 (obOf oa nx ++ [(nx, o2)]) id rows' = obOf ((id, some ⟨(), n, rows'⟩) :: (nx, some o2) :: oa) (nx + 1) := by
 obtain ⟨hlt, hat⟩ := W2z ho
 have h1 : lko ((nx, some o2) :: oa) (nx + 1) id = some ⟨(), n, rows⟩ := by
  unfold lko
  have : Nat.blt id (nx + 1) = true := by simp [Nat.blt]; omega
  rw [this]
  simp only
  rw [Y0n _ _ (by omega)]
  exact hat
 have h2 := Y1g h1 rows'
 rw [Y1h] at h2
 exact h2.symm
theorem f_op {n m len : Nat} {rows rows' rows2 : List (List (L Unit))} {r : List (L Unit)} (id e j : Nat) (ho : lko oa nx id = some ⟨(), n, rows⟩) (hr : rows[e]? = some r) (hj : r[j]? = some (.os () m rows2)) (hl : len = rows2.length) (hrows : rows.set e (r.set j (.ref () nx 0 len)) = rows') :
  GhB B (St N asg oa nx) (St N asg ((id, some ⟨(), n, rows'⟩) :: (nx, some ⟨(), m, rows2⟩) :: oa) (nx + 1)) := by
 subst hrows hl
 have h := GhB.openC (B := B) (s := St N asg oa nx) (Q0 ho) hr hj
 have e2 : (⟨(St N asg oa nx).sl, K0 ((St N asg oa nx).ob ++ [((St N asg oa nx).nx, ⟨(), m, rows2⟩)]) id (rows.set e (r.set j (.ref () (St N asg oa nx).nx 0 rows2.length))), (St N asg oa nx).nx + 1⟩ : S Unit) =
   St N asg ((id, some ⟨(), n, rows.set e (r.set j (.ref () nx 0 rows2.length))⟩) :: (nx, some ⟨(), m, rows2⟩) :: oa) (nx + 1) := by
  simp only [St]
  rw [op_ob _ ho]
 rw [← e2]
 exact h
theorem cl_ob {id id2 n : Nat} {rows : List (List (L Unit))} (rows' : List (List (L Unit))) (ho : lko oa nx id = some ⟨(), n, rows⟩) (hne : id ≠ id2) : K0 ((obOf oa nx).filter (fun p => !(p.1 == id2))) id rows' = obOf ((id, some ⟨(), n, rows'⟩) :: (id2, none) :: oa) nx := by
 have h1 : lko ((id2, none) :: oa) nx id = some ⟨(), n, rows⟩ := by rw [W2y _ (Ne.symm hne)]; exact ho
 have h2 := Y1g h1 rows'
 rw [Y3g] at h2
 exact h2.symm
theorem f_cl {n m len : Nat} {rows rows' rows2 : List (List (L Unit))} {r : List (L Unit)} (id id2 e j : Nat) (hne : Nat.beq id id2 = false) (ho : lko oa nx id = some ⟨(), n, rows⟩) (ho2 : lko oa nx id2 = some ⟨(), m, rows2⟩) (hn : rows2.all (fun r => r.all Z7e) = true) (hr : rows[e]? = some r) (hj : r[j]? = some (.ref () id2 0 len)) (hl : len = rows2.length)
  (hrows : rows.set e (r.set j (.os () m rows2)) = rows') : GhB B (St N asg oa nx) (St N asg ((id, some ⟨(), n, rows'⟩) :: (id2, none) :: oa) nx) := by
 subst hrows
 have hne' : id ≠ id2 := fun h => by subst h; simp at hne
 have h := GhB.foldC (B := B) (s := St N asg oa nx) (Q0 ho) hr hj (Q0 ho2) hne' hl hn
 have e2 : (⟨(St N asg oa nx).sl, K0 ((St N asg oa nx).ob.filter (fun p => !(p.1 == id2))) id (rows.set e (r.set j (.os () m rows2))), (St N asg oa nx).nx⟩ : S Unit) = St N asg ((id, some ⟨(), n, rows.set e (r.set j (.os () m rows2))⟩) :: (id2, none) :: oa) nx := by
  simp only [St]
  rw [cl_ob _ ho hne']
 rw [← e2]
 exact h
theorem W6f {us : List (U Unit)} {n m len : Nat} {rows rows' rows2 : List (List (L Unit))} {r : List (L Unit)} (id id2 e j : Nat) (hne : Nat.beq id id2 = false) (ho : lko oa nx id = some ⟨(), n, rows⟩) (ho2 : lko oa nx id2 = some ⟨(), m, rows2⟩) (hn : rows2.all (fun r => r.all Z7e) = true) (hr : rows[e]? = some r) (hj : r[j]? = some (.ref () id2 0 len)) (hl : len = rows2.length)
  (hrows : rows.set e (r.set j (.os () m rows2)) = rows') : GhB B (Rt us oa nx) (Rt us ((id, some ⟨(), n, rows'⟩) :: (id2, none) :: oa) nx) := by
 subst hrows
 have hne' : id ≠ id2 := fun h => by subst h; simp at hne
 have h := GhB.foldC (B := B) (s := Rt us oa nx) (Q0 (N := 0) (asg := []) ho) hr hj (Q0 (N := 0) (asg := []) ho2) hne' hl hn
 have e2 : (⟨(Rt us oa nx).sl, K0 ((Rt us oa nx).ob.filter (fun p => !(p.1 == id2))) id (rows.set e (r.set j (.os () m rows2))), (Rt us oa nx).nx⟩ : S Unit) = Rt us ((id, some ⟨(), n, rows.set e (r.set j (.os () m rows2))⟩) :: (id2, none) :: oa) nx := by
  simp only [Rt]
  rw [cl_ob _ ho hne']
 rw [← e2]
 exact h
theorem Z3d {α : Type} {enc : α → List (L Unit)} [EncO enc] (xs : List α) : (xs.map enc).all (fun r => r.all Z7e) = true := by
 simp only [List.all_map, List.all_eq_true]
 intro x _
 simpa using EncO.h (enc := enc) x
theorem map_get {α : Type} [Inhabited α] {enc : α → List (L Unit)} {xs : List α} {n : Int} (h : 0 ≤ n ∧ n < (xs.length : Int)) : (xs.map enc)[n.toNat]? = some (enc (at_ xs n)) := by
 rw [List.getElem?_map, X9r h]; rfl
theorem Z4i {α : Type} {enc : α → List (L Unit)} {xs : List α} {n : Int} {r : List (L Unit)} (h : 0 ≤ n ∧ n < (xs.length : Int)) : ((xs.map enc).set n.toNat r)[n.toNat]? = some r := by
 have : n.toNat < xs.length := by omega
 simp [this]
theorem Y8e {α : Type} {enc : α → List (L Unit)} {xs : List α} {n : Int} {r r' : List (L Unit)} {x : α} (hr : r' = enc x) : ((xs.map enc).set n.toNat r).set n.toNat r' = (xs.set n.toNat x).map enc := by
 subst hr
 rw [List.set_set, List.map_set]
theorem X7z {α : Type} {enc : α → List (L Unit)} {xs : List α} {n : Int} {r r' : List (L Unit)} : ((xs.map enc).set n.toNat r).set n.toNat r' = (xs.map enc).set n.toNat r' := by
 rw [List.set_set]
theorem Y4e {α : Type} {enc : α → List (L Unit)} {xs : List α} {r : List (L Unit)} : (xs.map enc ++ [r])[xs.length]? = some r := by simp
theorem X4d {α : Type} {enc : α → List (L Unit)} {xs : List α} {r r' : List (L Unit)} : (xs.map enc ++ [r]).set xs.length r' = xs.map enc ++ [r'] := by
 rw [List.set_append_right _ _ (by simp)]
 simp
theorem X4e {α : Type} {enc : α → List (L Unit)} {xs : List α} {r r' : List (L Unit)} {x : α} (hr : r' = enc x) : (xs.map enc ++ [r]).set xs.length r' = (xs ++ [x]).map enc := by
 subst hr
 rw [X4d, List.map_append]
 rfl
end
end
section
theorem GhB.deepF {B : Bd} {s : S Unit} {id : Nat} {o : Ob Unit} (ho : look s.ob id = some o) (hn : o.rows.all (fun r => r.all Z7e) = true) : GhB B s ⟨s.sl, K0 s.ob id (o.rows.map fun r => r.map Z2x), s.nx⟩ := by
 rintro a W ⟨d, rfl, hi, hs, hdef, hk, hn0⟩
 obtain ⟨o', ho', rfl⟩ := U7 ho
 have hkey : (id, o') ∈ d.ob := find?_key ho'
 have hobs : _ ∧ ∀ r ∈ o'.rows, r.length = o'.n := hi.good.obs _ hkey
 have hnest : ∀ r ∈ o'.rows, ∀ l ∈ r, Z7e l = true := by
  simp only [erOb, Z3e, List.all_map, List.all_eq_true, Function.comp_def, Y6h] at hn
  exact hn
 have hwt : ∀ r ∈ o'.rows, ∀ l ∈ r, wfL true l := fun r hr l hl => Y6g (hnest r hr l hl) (Z6v hi.good ho' hr hl).1
 let rows1 := Z8b o'.rows
 let ob1 := K0 d.ob id rows1
 let d' : S Value := ⟨d.sl, ob1, d.nx⟩
 have hlen1 : rows1.length = o'.rows.length := Y2y _
 have hmem1 : ∀ r ∈ rows1, ∃ r0 ∈ o'.rows, r = r0.map Z2x := fun r hr => by
  have : r ∈ Z8b o'.rows := hr
  rw [Z9d] at this
  obtain ⟨r0, h1, h2⟩ := List.mem_map.1 this
  exact ⟨r0, h1, h2.symm⟩
 have htop : ∀ l ∈ tops d', l ∈ tops d ∨ ∃ r ∈ o'.rows, ∃ l0 ∈ r, l = Z2x l0 := fun l hl => by
  rcases mem_tops.1 hl with h | h
  ·exact .inl (mem_tops.2 (.inl h))
  ·obtain ⟨p, hp, r, hr, hl⟩ := mem_obLeaves.1 h
   rcases Z1e hp with ⟨hp, _⟩ | ⟨o2, hp, rfl⟩
   ·exact .inl (mem_tops.2 (.inr (mem_obLeaves.2 ⟨p, hp, r, hr, hl⟩)))
   ·obtain ⟨r0, h1, rfl⟩ := hmem1 r hr
    obtain ⟨l0, h2, rfl⟩ := List.mem_map.1 hl
    exact .inr ⟨r0, h1, l0, h2, rfl⟩
 have hown0 : rows1.flatten.flatMap ownL = [] := by
  rw [List.flatMap_eq_nil_iff]
  intro l hl
  obtain ⟨r, hr, hl⟩ := List.mem_flatten.1 hl
  obtain ⟨r0, _, rfl⟩ := hmem1 r hr
  obtain ⟨l0, _, rfl⟩ := List.mem_map.1 hl
  exact Z0m (X2i l0)
 have hperm : (ownS d).Perm (o'.rows.flatten.flatMap ownL ++ ownS d') := by
  classical
  obtain ⟨l1, l2, hob, h1, h2⟩ := Z2p ho' hi.good.ids
  have hu : ob1 = l1 ++ (id, ⟨o'.h, o'.n, rows1⟩) :: l2 := by show K0 d.ob id rows1 = _; rw [hob]; exact Z7q h1 h2 rows1
  refine List.perm_iff_count.2 fun q => ?_
  have c2 := List.perm_iff_count.1 (V3 d) q
  have c3 := List.perm_iff_count.1 (V3 d') q
  have e1 : d'.ob = l1 ++ (id, ⟨o'.h, o'.n, rows1⟩) :: l2 := hu
  have e2 : d'.sl = d.sl := rfl
  have e3 : Y7 o'.h o'.n rows1 = Y7 o'.h o'.n o'.rows := by unfold Y7; rw [show valR rows1 = valR o'.rows from Y3j _]
  rw [e1, e2] at c3
  rw [hob] at c2
  simp only [List.flatMap_append, List.flatMap_cons, List.count_append, Q8, e3, hown0, List.append_nil] at c2 c3 ⊢
  omega
 have hnd := (hperm.map (·.1)).nodup_iff.1 hi.good.nodup
 rw [List.map_append, List.nodup_append] at hnd
 have hown' : ∀ q ∈ ownS d', q ∈ ownS d := fun q hq => hperm.mem_iff.2 (List.mem_append_right _ hq)
 have himm : ∀ p ∈ immS d', p ∈ immS d ∨ ∃ q ∈ o'.rows.flatten.flatMap ownL, X1c p q := fun p hp => by
  obtain ⟨l, hl, hp⟩ := List.mem_flatMap.1 hp
  rcases htop l hl with h | ⟨r, hr, l0, hl0, rfl⟩
  ·exact .inl (List.mem_flatMap.2 ⟨l, h, hp⟩)
  ·rcases X0s l0 (hwt r hr l0 hl0) p hp with h | ⟨q, hq, h⟩
   ·exact .inl (List.mem_flatMap.2 ⟨l0, mem_tops.2 (.inr (mem_obLeaves.2 ⟨_, hkey, r, hr, hl0⟩)), h⟩)
   ·exact .inr ⟨q, List.mem_flatMap.2 ⟨l0, List.mem_flatten.2 ⟨r, hr, hl0⟩, hq⟩, h⟩
 refine ⟨d', ?_, ?_, ⟨hs.1, hs.2⟩, hdef, fun i hi2 => hk i ?_, hn0⟩
 ·simp only [erS, mapS, d', S.mk.injEq, true_and, and_true]
  show (K0 d.ob id rows1).map (fun p => (p.1, erOb p.2)) = _
  rw [Y5p]
  congr 1
  have := Y8s o'.rows
  rw [Z1m, Z1m] at this
  show (Z8b o'.rows).map (fun r => r.map erL) = _
  rw [this, Z9d]
  simp [erOb, Z3e]
 ·constructor
  ·refine ⟨fun l hl => ?_, fun p hp => ?_, ?_, fun p hp => hi.good.own p (hown' p hp), hnd.2.1, fun p hp hne => ?_⟩
   ·rcases htop l hl with h | ⟨r, hr, l0, hl0, rfl⟩
    ·have := hi.good.wf l h
     exact ⟨this.1, Y9n ho' hlen1 this.2⟩
    ·have := Z6k (X4a l0 (hwt r hr l0 hl0))
     exact ⟨this.1, this.2.1 _⟩
   ·rcases Z1e hp with ⟨hp, _⟩ | ⟨o2, hp2, rfl⟩
    ·exact hi.good.obs p hp
    ·have : o2 = o' := by
      have h1 := J2 hi.good.ids hp2
      rw [ho'] at h1; cases h1; rfl
     subst this
     refine ⟨?_, fun r hr => ?_⟩
     ·rcases hobs.1 with ⟨h1, h2⟩ | ⟨b, x, c, h1, h2, h3⟩
      ·exact .inl ⟨h1, by simp only at h2; simp [rows1, h2, Z8b]⟩
      ·exact .inr ⟨b, x, c, h1, by simp only [hlen1]; exact h2, by simp only [hlen1]; exact h3⟩
     ·obtain ⟨r0, h1, rfl⟩ := hmem1 r hr
      rw [List.length_map]
      exact hobs.2 r0 h1
   ·show (ob1.map (·.1)).Nodup
    rw [Z3t]
    exact hi.good.ids
   ·rcases himm p hp with h | ⟨q, hq, h1, h2⟩
    ·obtain ⟨k1, k2⟩ := hi.good.imm p h hne
     exact ⟨k1, fun q hq => k2 q (hown' q hq)⟩
    ·have hq2 : q ∈ ownS d := hperm.mem_iff.2 (List.mem_append_left _ hq)
     refine ⟨fun j u hj => ?_, fun q' hq' e => ?_⟩
     ·obtain ⟨arr, ty, k1, _, _, k4⟩ := hi.good.own _ hq2
      rw [h2] at hj
      have := k4 _ _ hj
      simp only [World.cell?, h1, k1]
      simpa using this
     ·rw [h1] at e
      exact hnd.2.2 q.1 (List.mem_map.2 ⟨q, hq, rfl⟩) q'.1 (List.mem_map.2 ⟨q', hq', rfl⟩) e.symm
  ·exact hi.fr
  ·exact fun p hp => hi.mine p (hown' p hp)
  ·intro p hp hne
   rcases himm p hp with h | ⟨q, hq, h1, h2⟩
   ·exact hi.seen p h hne
   ·rw [h1]
    rcases hi.mine q (hperm.mem_iff.2 (List.mem_append_left _ hq)) with h | h
    ·exact .inr (.inl h)
    ·exact .inr (.inr h)
  ·intro p hp hlt
   rcases Z1e hp with ⟨hp, _⟩ | ⟨o2, hp2, rfl⟩
   ·exact hi.hdr p hp hlt
   ·exact hi.hdr (id, o2) hp2 hlt
 ·rcases hi2 with ⟨l, hl, h⟩ | h
  ·rcases htop l hl with h2 | ⟨r, hr, l0, hl0, rfl⟩
   ·exact .inl ⟨l, h2, h⟩
   ·rw [X5x] at h
    exact .inl ⟨l0, mem_tops.2 (.inr (mem_obLeaves.2 ⟨_, hkey, r, hr, hl0⟩)), h⟩
  ·have : i ∈ ob1.map (·.1) := h
   rw [Z3t] at this
   exact .inr this
class EncD {α : Type} (e : α → List (L Unit)) (e' : outParam (α → List (L Unit))) : Prop where
 h : ∀ x, (e x).map Z2x = e' x
theorem Y0g {α : Type} {e e' : α → List (L Unit)} [EncD e e'] (xs : List α) : Z8b (xs.map e) = xs.map e' := by
 rw [Z9d, List.map_map]
 exact List.map_congr_left fun x _ => EncD.h x
section
variable {B : Bd} {N nx : Nat} {asg : Asg} {oa : OAsg}
theorem b_rd {α : Type} {e e' : α → List (L Unit)} [EncO e] [EncD e e'] {k id m : Nat} {xs : List α} (ho : lko oa nx id = some ⟨(), m, xs.map e⟩) : BorL (k + 1) N asg oa nx (.ref () id 0 xs.length) (.bs () m (xs.map e')) := by
 refine ⟨[id], ?_⟩
 have e1 : ((xs.map e).drop 0).take xs.length = xs.map e := by rw [List.drop_zero, List.take_of_length_le (by simp)]
 simp only [borL, Q0 ho, Option.bind_some, e1, Y7j, if_true, Y0g (e := e) (e' := e') xs]
theorem W3w {us : List (U Unit)} {α : Type} {e e' : α → List (L Unit)} [EncO e] [EncD e e'] {n : Nat} {xs : List α} (id : Nat) (ho : lko oa nx id = some ⟨(), n, xs.map e⟩) : GhB B (Rt us oa nx) (Rt us ((id, some ⟨(), n, xs.map e'⟩) :: oa) nx) := by
 have h := GhB.deepF (B := B) (s := Rt us oa nx) (Q0 (N := 0) (asg := []) ho) (Z3d xs)
 have e2 : (⟨(Rt us oa nx).sl, K0 (Rt us oa nx).ob id ((xs.map e).map fun r => r.map Z2x), (Rt us oa nx).nx⟩ : S Unit) = Rt us ((id, some ⟨(), n, xs.map e'⟩) :: oa) nx := by
  have e3 := Y0g (e := e) (e' := e') xs
  rw [Z9d] at e3
  simp only [Rt, e3]
  rw [← Y1g ho]
 rw [← e2]
 exact h
end
end
section
section
variable {P : Program} {Y : Sys P} [PlainY Y] {N nx t : Nat} {asg : Asg} {oa : OAsg} {K : S Unit → Prop} {ty : TypeId} {pos : String} {aft : Array Edge}
theorem X9u {rows : List (List (L Unit))} {n id len : Nat} (ho : lko oa nx id = some ⟨(), n, rows⟩) (hl : len = rows.length) : argR (lko oa nx) n (some (.ref () id 0 len)) = some (rows, [id]) := by
 subst hl
 simp only [argR, ho, Option.bind_some, if_true, List.drop_zero]
 rw [List.take_of_length_le (by simp)]
theorem x_apg {rows1 rows2 rows : List (List (L Unit))} {tt t2 : TypeId} {x y : Operand} {m b id len len' : Nat} {z : List Z} {rd : List Nat} {l : L Unit} (he : elF P tt = some (m, b, z)) (ht2 : lnF P t2 = some .slice)
  (h1 : ev N asg x = some (.u (.one (.ref () id 0 len)))) (ho : lko oa nx id = some ⟨(), m, rows1⟩) (hl : len = rows1.length) (h2 : ev N asg y = some (.u (.one l))) (hq : argR (lko oa nx) m (some l) = some (rows2, rd)) (hno : nosR rows2 = true)
  (hb : (rows1.length + rows2.length) * b ≤ 140737488355328 ∧ rows1.length + rows2.length ≤ LIM) (hr : rows1 ++ rows2 = rows) (hl' : rows1.length + rows2.length = len')
  (hK : K (St N ((t, .u (.one (.ref () nx 0 len'))) :: asg) ((nx, some ⟨(), m, rows⟩) :: (id, none) :: oa) (nx + 1))) :
  aopK Y 0 ⟨some t, .call ⟨.builtin .append, #[x, y], #[tt, t2]⟩, ty, pos, aft, none⟩ (St N asg oa nx) K := by
 obtain ⟨i, ie, a1, a2, a3, a4, a5, a6⟩ := W4a he
 obtain ⟨i2, c1, c2⟩ := Y1k ht2
 subst a4 a5 hl hr hl'
 refine Y7i (e := { v := one1 (.ref () nx 0 (rows1.length + rows2.length)), rd := id :: rd, news := [⟨(), ie.size, rows1 ++ rows2⟩], del := [id] }) (by
  have e1 := X0z (N := N) (asg := asg) hq
  have e2 := X0z (N := N) (asg := asg) (X9u ho rfl)
  simp only [opF, Z2e h1, Z2e h2]
  simp [apF, a1, a2, a3, a6, c1, c2, e1, e2, hno, hb]; rfl) (fun _ => ?_)
 show K (appE (St N asg oa nx) (some t) nx _)
 rw [St_del]
 exact hK
end
section
variable {P : Program} {N nx : Nat} {asg : Asg} {oa : OAsg} {K : S Unit → Prop}
def delO : List Nat → OAsg → OAsg
 | [], oa => oa
 | x :: xs, oa => (x, none) :: delO xs oa
theorem X5k : ∀ (xs : List Nat) (oa : OAsg) (nx : Nat), obOf (delO xs oa) nx = (obOf oa nx).filter (fun p => !xs.contains p.1)
 | [], oa, nx => (List.filter_eq_self.2 fun _ _ => rfl).symm
 | x :: xs, oa, nx => by
  simp only [delO]
  rw [Y3g, X5k xs oa nx, List.filter_filter]
  congr 1
  funext p
  simp only [List.contains_cons, Bool.not_or]
theorem X8m {h nx : Nat} : ∀ {xs : List Nat} {oa : OAsg}, h ∉ xs → lko (delO xs oa) nx h = lko oa nx h
 | [], oa, _ => rfl
 | x :: xs, oa, hn => by
  simp only [List.mem_cons, not_or] at hn
  simp only [delO]
  rw [W2y _ (Ne.symm hn.1), X8m hn.2]
theorem x_co {dst : Option Nat} {ty : TypeId} {pos : String} {aft : Array Edge} {x : Operand} {args : Array Operand} {ats : Array TypeId} {f : FuncId} {caps cs : List (L Unit)} {us : List (U Unit)} {r v : V Unit} {nobs : List (Nat × Ob Unit)} {oa' : OAsg} {nx' : Nat} {obs obs' : List (Ob Unit)}
  (hs cons : List Nat) (hf : ev N asg x = some (.u (.one (.fn () f caps)))) (hnd : (hs ++ cons).Nodup) (hh : All2 (fun h ob => lko oa nx h = some (Y2 (gG hs nx) ob)) hs obs) (hkn : obs.all (fun ob => Z0p hs.length ob.rows) = true)
  (ha : ArgsO (St N asg oa nx) (gG hs nx) hs args.toList us cons) (hcaps : caps = cs.map (renL (gG hs nx))) (hck : cs.all (okK hs.length) = true) (hent : Ent P f) (hsim : Sim P f (us ++ cs.map .one) obs r obs')
  (hn : (obs'.take hs.length).map (·.n) = obs.map (·.n)) (hroot : Z4a (fun _ => ()) (nx + (obs'.length - hs.length)) (renV (gG hs nx) r) = (v, nobs))
  (hoa : oaG (gG hs nx) nx hs obs' nobs (delO cons oa) = oa') (hnx : nx + (obs'.length - hs.length + nobs.length) = nx') (hK : K (St N (dstA dst v asg) oa' nx')) : aopK (sysA P) 0 ⟨dst, .call ⟨.value x, args, ats⟩, ty, pos, aft, none⟩ (St N asg oa nx) K := by
 subst hoa hnx
 obtain ⟨hnd1, hnd2, hdis⟩ := List.nodup_append.1 hnd
 have hh' : All2 (fun h ob => look (St N asg oa nx).ob h = some (Y2 (gG hs nx) ob)) hs obs := Y0i (fun _ _ h => Q0 h) hh
 have hh2 : All2 (fun h ob => lko (delO cons oa) nx h = some (Y2 (gG hs nx) ob)) hs obs := by
  have : ∀ {hs' : List Nat} {obs2 : List (Ob Unit)}, (∀ h ∈ hs', h ∉ cons) → All2 (fun h ob => lko oa nx h = some (Y2 (gG hs nx) ob)) hs' obs2 → All2 (fun h ob => lko (delO cons oa) nx h = some (Y2 (gG hs nx) ob)) hs' obs2 := by
   intro hs' obs2 hn' h
   induction h with
   | nil => exact .nil
   | cons h1 _ ih => exact .cons (by rw [X8m (hn' _ (by simp))]; exact h1) (ih fun h hm => hn' h (by simp [hm]))
  exact this (fun h hm hc => hdis h hm h hc rfl) hh
 refine ⟨_, fun h => absurd rfl h, X4r ⟨⟨.value x, args, ats⟩, f, caps, cs, us, hs, cons, obs, obs', r, rfl, ?_, hnd, hh', List.all_eq_true.1 hkn, ha, hcaps, hck, hent, hsim, rfl⟩, fun _ => ?_⟩
 ·simp only [calE, Z2e hf]
 ·have e := W6v (rd := []) (N := N) (asg := asg) (dst := dst) hnd1 hh2 hn hroot
  rw [← e] at hK
  have e2 : ∀ (e : Eff), e.del = [] → appE (St N asg oa nx) dst nx { e with del := cons } = appE (St N asg (delO cons oa) nx) dst nx e := fun e he => by
   unfold appE app
   simp only [he, St]
   rw [X5k]
   have : ∀ l : List (Nat × Ob Unit), l.filter (fun p => !([] : List Nat).contains p.1) = l := fun l => List.filter_eq_self.2 fun _ _ => rfl
   rw [this]
  let E : Eff := { v := (Z4a (fun _ => ()) (nx + (obs'.length - hs.length)) (renV (gG hs nx) r)).1, rd := [], news := (obs'.drop hs.length).map (Y2 (gG hs nx)) ++ (Z4a (fun _ => ()) (nx + (obs'.length - hs.length)) (renV (gG hs nx) r)).2.map (·.2), upd := hs.zip ((obs'.take hs.length).map fun ob => (Y2 (gG hs nx) ob).rows) }
  show K (appE (St N asg oa nx) dst nx { E with del := cons })
  rw [e2 E rfl]
  exact hK
variable {g : Nat → Nat} {hs : List Nat}
theorem q_n : ArgsO (St N asg oa nx) g hs [] [] [] := .nil
theorem q_1 {x : Operand} {xs : List Operand} {l0 l : L Unit} {us : List (U Unit)} {cs : List Nat} (hv : ev N asg x = some (.u (.one l0))) (hr : l0 = renL g l) (hk : okK hs.length l = true) (ht : ArgsO (St N asg oa nx) g hs xs us cs) : ArgsO (St N asg oa nx) g hs (x :: xs) (.one l :: us) cs :=
 .given (by rw [Y8z hv, hr]; rfl) (by simp only [Z1, List.all_cons, hk, List.all_nil, Bool.and_self]) ht
theorem q_a {x : Operand} {xs : List Operand} {ls0 ls : List (L Unit)} {us : List (U Unit)} {cs : List Nat} (hv : ev N asg x = some (.u (.agg ls0))) (hr : ls0 = ls.map (renL g)) (hk : ls.all (okK hs.length) = true) (ht : ArgsO (St N asg oa nx) g hs xs us cs) : ArgsO (St N asg oa nx) g hs (x :: xs) (.agg ls :: us) cs :=
 .given (by rw [Y8z hv, hr]; rfl) hk ht
theorem q_o {α : Type} {enc : α → List (L Unit)} [EncO enc] {x : Operand} {xs : List Operand} {X n len : Nat} {ys : List α} {us : List (U Unit)} {cs : List Nat} (hv : ev N asg x = some (.u (.one (.ref () X 0 len)))) (ho : lko oa nx X = some ⟨(), n, ys.map enc⟩) (hl : len = ys.length) (ht : ArgsO (St N asg oa nx) g hs xs us cs) :
  ArgsO (St N asg oa nx) g hs (x :: xs) (.one (.os () n (ys.map enc)) :: us) (X :: cs) :=
 .owned (Z2e hv) (Q0 ho) (by simpa using hl) (Z3d ys) ht
end
section
variable {B : Bd} {N nx : Nat} {asg : Asg} {oa : OAsg}
theorem f_nlcR {us : List (U Unit)} {n : Nat} {rows rows' : List (List (L Unit))} {r : List (L Unit)} (id e j m : Nat) (ho : lko oa nx id = some ⟨(), n, rows⟩) (hr : rows[e]? = some r) (hj : r[j]? = some .nl) (hrows : rows.set e (r.set j (.ref () nx 0 0)) = rows') :
  GhB B (Rt us oa nx) (Rt us ((id, some ⟨(), n, rows'⟩) :: (nx, some ⟨(), m, []⟩) :: oa) (nx + 1)) := by
 subst hrows
 have h := GhB.nlc (B := B) (s := Rt us oa nx) m (Q0 (N := 0) (asg := []) ho) hr hj
 have e2 : (⟨(Rt us oa nx).sl, K0 ((Rt us oa nx).ob ++ [((Rt us oa nx).nx, ⟨(), m, []⟩)]) id (rows.set e (r.set j (.ref () (Rt us oa nx).nx 0 0))), (Rt us oa nx).nx + 1⟩ : S Unit) = Rt us ((id, some ⟨(), n, rows.set e (r.set j (.ref () nx 0 0))⟩) :: (nx, some ⟨(), m, []⟩) :: oa) (nx + 1) := by
  simp only [Rt]
  rw [op_ob _ ho]
 rw [← e2]
 exact h
end
end
section
theorem GhB.cellB {B : Bd} {s : S Unit} {id e j : Nat} {o : Ob Unit} {r : List (L Unit)} {l : L Unit} (ho : look s.ob id = some o) (hr : o.rows[e]? = some r) (hj : r[j]? = some l) (hn : Z7e l = true) : GhB B s ⟨s.sl, K0 s.ob id (o.rows.set e (r.set j (Z2x l))), s.nx⟩ := by
 rintro a W ⟨d, rfl, hi, hs, hdef, hk, hn0⟩
 obtain ⟨o', ho', rfl⟩ := U7 ho
 have hkey : (id, o') ∈ d.ob := find?_key ho'
 have hobs : _ ∧ ∀ r ∈ o'.rows, r.length = o'.n := hi.good.obs _ hkey
 obtain ⟨r', hr', rfl⟩ := Y1c hr
 rw [List.getElem?_map, Option.map_eq_some_iff] at hj
 obtain ⟨l', hj', rfl⟩ := hj
 rw [Y6h] at hn
 have hrm := List.mem_of_getElem? hr'
 have hlm := List.mem_of_getElem? hj'
 have hwt : wfL true l' := Y6g hn (Z6v hi.good ho' hrm hlm).1
 let rows1 := o'.rows.set e (r'.set j (Z2x l'))
 let ob1 := K0 d.ob id rows1
 let d' : S Value := ⟨d.sl, ob1, d.nx⟩
 have hlen1 : rows1.length = o'.rows.length := by simp [rows1]
 have hrow1 : ∀ r ∈ rows1, r ∈ o'.rows ∨ r = r'.set j (Z2x l') := fun r hr => List.mem_or_eq_of_mem_set hr
 have htop : ∀ l ∈ tops d', l ∈ tops d ∨ l = Z2x l' := fun l hl => by
  rcases mem_tops.1 hl with h | h
  ·exact .inl (mem_tops.2 (.inl h))
  ·obtain ⟨p, hp, r, hr, hl⟩ := mem_obLeaves.1 h
   rcases Z1e hp with ⟨hp, _⟩ | ⟨o2, hp, rfl⟩
   ·exact .inl (mem_tops.2 (.inr (mem_obLeaves.2 ⟨p, hp, r, hr, hl⟩)))
   ·rcases hrow1 r hr with h | rfl
    ·exact .inl (mem_tops.2 (.inr (mem_obLeaves.2 ⟨_, hkey, r, h, hl⟩)))
    ·rcases List.mem_or_eq_of_mem_set hl with h | rfl
     ·exact .inl (mem_tops.2 (.inr (mem_obLeaves.2 ⟨_, hkey, r', hrm, h⟩)))
     ·exact .inr rfl
 have hperm : (ownS d).Perm (ownL l' ++ ownS d') := by
  classical
  obtain ⟨l1, l2, hob, h1, h2⟩ := Z2p ho' hi.good.ids
  have hu : ob1 = l1 ++ (id, ⟨o'.h, o'.n, rows1⟩) :: l2 := by show K0 d.ob id rows1 = _; rw [hob]; exact Z7q h1 h2 rows1
  have hback : rows1.set e ((r'.set j (Z2x l')).set j l') = o'.rows := by
   simp only [rows1, List.set_set, Y8f hj', Y8f hr']
  have hc := Y5s (rows := rows1) (e := e) (j := j) (r := r'.set j (Z2x l')) (l := l') (l0 := Z2x l') (E := ownL l') (by
   have : e < o'.rows.length := (List.getElem?_eq_some_iff.1 hr').1
   simp [rows1, this]) (by
   have : j < r'.length := (List.getElem?_eq_some_iff.1 hj').1
   simp [this]) (by simp [Z0m (X2i l')])
  rw [hback] at hc
  refine List.perm_iff_count.2 fun q => ?_
  have c1 := List.perm_iff_count.1 hc q
  have c2 := List.perm_iff_count.1 (V3 d) q
  have c3 := List.perm_iff_count.1 (V3 d') q
  have e1 : d'.ob = l1 ++ (id, ⟨o'.h, o'.n, rows1⟩) :: l2 := hu
  have e2 : d'.sl = d.sl := rfl
  have e3 : Y7 o'.h o'.n rows1 = Y7 o'.h o'.n o'.rows := by unfold Y7; rw [show valR rows1 = valR o'.rows from Y8t hr' hj' (X5w l')]
  rw [e1, e2] at c3
  rw [hob] at c2
  simp only [List.flatMap_append, List.flatMap_cons, List.count_append, Q8, e3] at c1 c2 c3 ⊢
  omega
 have hnd := (hperm.map (·.1)).nodup_iff.1 hi.good.nodup
 rw [List.map_append, List.nodup_append] at hnd
 have hown' : ∀ q ∈ ownS d', q ∈ ownS d := fun q hq => hperm.mem_iff.2 (List.mem_append_right _ hq)
 have himm : ∀ p ∈ immS d', p ∈ immS d ∨ ∃ q ∈ ownL l', X1c p q := fun p hp => by
  obtain ⟨l, hl, hp⟩ := List.mem_flatMap.1 hp
  rcases htop l hl with h | rfl
  ·exact .inl (List.mem_flatMap.2 ⟨l, h, hp⟩)
  ·rcases X0s l' hwt p hp with h | ⟨q, hq, h⟩
   ·exact .inl (List.mem_flatMap.2 ⟨l', mem_tops.2 (.inr (mem_obLeaves.2 ⟨_, hkey, r', hrm, hlm⟩)), h⟩)
   ·exact .inr ⟨q, hq, h⟩
 refine ⟨d', ?_, ?_, ⟨hs.1, hs.2⟩, hdef, fun i hi2 => hk i ?_, hn0⟩
 ·simp only [erS, mapS, d', S.mk.injEq, true_and, and_true]
  show (K0 d.ob id rows1).map (fun p => (p.1, erOb p.2)) = _
  rw [Y5p]
  congr 1
  simp [rows1, List.map_set, X9j, erOb, Z3e]
 ·constructor
  ·refine ⟨fun l hl => ?_, fun p hp => ?_, ?_, fun p hp => hi.good.own p (hown' p hp), hnd.2.1, fun p hp hne => ?_⟩
   ·rcases htop l hl with h | rfl
    ·have := hi.good.wf l h
     exact ⟨this.1, Y9n ho' hlen1 this.2⟩
    ·have := Z6k (X4a l' hwt)
     exact ⟨this.1, this.2.1 _⟩
   ·rcases Z1e hp with ⟨hp, _⟩ | ⟨o2, hp2, rfl⟩
    ·exact hi.good.obs p hp
    ·have : o2 = o' := by
      have h1 := J2 hi.good.ids hp2
      rw [ho'] at h1; cases h1; rfl
     subst this
     refine ⟨?_, fun r hr => ?_⟩
     ·rcases hobs.1 with ⟨h1, h2⟩ | ⟨b, x, c, h1, h2, h3⟩
      ·exact .inl ⟨h1, by simp only at h2; simp [rows1, h2]⟩
      ·exact .inr ⟨b, x, c, h1, by simp only [hlen1]; exact h2, by simp only [hlen1]; exact h3⟩
     ·rcases hrow1 r hr with h | rfl
      ·exact hobs.2 r h
      ·rw [List.length_set]; exact hobs.2 r' hrm
   ·show (ob1.map (·.1)).Nodup
    rw [Z3t]
    exact hi.good.ids
   ·rcases himm p hp with h | ⟨q, hq, h1, h2⟩
    ·obtain ⟨k1, k2⟩ := hi.good.imm p h hne
     exact ⟨k1, fun q hq => k2 q (hown' q hq)⟩
    ·have hq2 : q ∈ ownS d := hperm.mem_iff.2 (List.mem_append_left _ hq)
     refine ⟨fun j u hj => ?_, fun q' hq' e => ?_⟩
     ·obtain ⟨arr, ty, k1, _, _, k4⟩ := hi.good.own _ hq2
      rw [h2] at hj
      have := k4 _ _ hj
      simp only [World.cell?, h1, k1]
      simpa using this
     ·rw [h1] at e
      exact hnd.2.2 q.1 (List.mem_map.2 ⟨q, hq, rfl⟩) q'.1 (List.mem_map.2 ⟨q', hq', rfl⟩) e.symm
  ·exact hi.fr
  ·exact fun p hp => hi.mine p (hown' p hp)
  ·intro p hp hne
   rcases himm p hp with h | ⟨q, hq, h1, h2⟩
   ·exact hi.seen p h hne
   ·rw [h1]
    rcases hi.mine q (hperm.mem_iff.2 (List.mem_append_left _ hq)) with h | h
    ·exact .inr (.inl h)
    ·exact .inr (.inr h)
  ·intro p hp hlt
   rcases Z1e hp with ⟨hp, _⟩ | ⟨o2, hp2, rfl⟩
   ·exact hi.hdr p hp hlt
   ·exact hi.hdr (id, o2) hp2 hlt
 ·rcases hi2 with ⟨l, hl, h⟩ | h
  ·rcases htop l hl with h2 | rfl
   ·exact .inl ⟨l, h2, h⟩
   ·rw [X5x] at h
    exact .inl ⟨l', mem_tops.2 (.inr (mem_obLeaves.2 ⟨_, hkey, r', hrm, hlm⟩)), h⟩
  ·have : i ∈ ob1.map (·.1) := h
   rw [Z3t] at this
   exact .inr this
section
variable {B : Bd} {N nx : Nat} {asg : Asg} {oa : OAsg}
theorem f_cb {α : Type} {e e' : α → List (L Unit)} [EncO e] [EncD e e'] {n m : Nat} {rows rows' : List (List (L Unit))} {r : List (L Unit)} {xs : List α} (id i j : Nat) (ho : lko oa nx id = some ⟨(), n, rows⟩) (hr : rows[i]? = some r) (hj : r[j]? = some (.os () m (xs.map e))) (hrows : rows.set i (r.set j (.bs () m (xs.map e'))) = rows') :
  GhB B (St N asg oa nx) (St N asg ((id, some ⟨(), n, rows'⟩) :: oa) nx) := by
 subst hrows
 have h := GhB.cellB (B := B) (s := St N asg oa nx) (Q0 ho) hr hj rfl
 have e2 : (⟨(St N asg oa nx).sl, K0 (St N asg oa nx).ob id (rows.set i (r.set j (Z2x (.os () m (xs.map e))))), (St N asg oa nx).nx⟩ : S Unit) = St N asg ((id, some ⟨(), n, rows.set i (r.set j (.bs () m (xs.map e')))⟩) :: oa) nx := by
  simp only [St, Z2x, Y0g (e := e) (e' := e') xs]
  rw [← Y1g ho]
 rw [← e2]
 exact h
instance : EncD iL iL := ⟨fun _ => rfl⟩
instance (k : IntKind) : EncD (iK k) (iK k) := ⟨fun _ => rfl⟩
instance : EncD bL bL := ⟨fun _ => rfl⟩
instance : EncD sL sL := ⟨fun _ => rfl⟩
end
end
section
section
variable {P : Program} {Y : Sys P}
theorem W0y [PlainY Y] (hY : LocY Y) {ops : List Oper} {i : Nat} {o : Oper} {v : V Unit} {rd : List Nat} {K : S Unit → Prop} (hi : ops[i]? = some o) (D : Nat → Prop) (hD0 : ∀ k, D k → ∀ ok, ops[k]? = some ok → ∃ e ∈ ok.after, Region.binds .any e = true ∧ (e.on = i ∨ D e.on)) : ∀ (fuel : Nat) (L : Array Bool) (s : S Unit),
  (∀ k, D k → L.getD k true = false) → (∀ j oj, ops[j]? = some oj → ¬ D j → j ≠ i → L.getD j true = false → (∀ e ∈ oj.after, Region.binds .any e = true → e.on ≠ i) → o.apart ops.toArray oj = true ∧ (rd = [] ∨ ∀ s nid e, Y.E oj s nid e → e.upd = [] ∧ e.del = [])) →
  i ∈ Region.ready .any ops.toArray L → PY (P := P) ops o s v rd → aAny Y ops fuel (L.setIfInBounds i true) (U1 s o.dst v) K → aAny Y ops (fuel + 1) L s K := by
 have self : ∀ (fuel : Nat) (L : Array Bool) (s : S Unit), PY (P := P) ops o s v rd → aAny Y ops fuel (L.setIfInBounds i true) (U1 s o.dst v) K → d1 Y ops o s (fun s' => aAny Y ops fuel (L.setIfInBounds i true) s' K) := by
  intro fuel L s hy H
  unfold d1
  rcases hy with ⟨hg, _, hyp, he⟩ | ⟨hg, hv, _⟩
  ·rw [hg]
   refine ⟨_, PlainY.h he, fun _ => ?_⟩
   have : appE s o.dst s.nx ⟨v, rd, [], [], [], hyp⟩ = U1 s o.dst v := by
    unfold appE
    rw [Y1u]
    simp
   rw [this]
   exact H
  ·rw [hg]
   subst hv
   exact H
 intro fuel
 induction fuel with
 | zero =>
  intro L s hDL _ hr hy H
  refine ⟨fun h => (by rw [h] at hr; cases hr), fun j hj oj hoj => ?_⟩
  by_cases hji : j = i
  ·subst hji
   rw [hi] at hoj
   cases hoj
   exact self 0 L s hy H
  ·have := ready_mono hj hji
   rw [H.1] at this
   cases this
 | succ fuel ih =>
  intro L s hDL hfree hr hy H
  refine ⟨fun h => (by rw [h] at hr; cases hr), fun j hj oj hoj => ?_⟩
  by_cases hji : j = i
  ·subst hji
   rw [hi] at hoj
   cases hoj
   exact self _ L s hy H
  ·have h1 := H.2 j (ready_mono hj hji) oj hoj
   obtain ⟨hjun, oj', hoj', hall⟩ := mem_ready.1 hj
   rw [List.getElem?_toArray, hoj] at hoj'
   cases hoj'
   have hnot : ∀ e ∈ oj.after, Region.binds .any e = true → e.on ≠ i := fun e he hb heq => by
    have h1 := hall e he hb
    have h0 := (mem_ready.1 hr).1
    rw [heq] at h1
    rcases Nat.lt_or_ge i L.size with h' | h'
    ·simp [h'] at h0 h1; rw [h0] at h1; cases h1
    ·simp [Array.getElem?_eq_none h'] at h1
   have hnD : ¬ D j := fun hd => by
    obtain ⟨e, he, hb, h2⟩ := hD0 j hd oj hoj
    rcases h2 with h2 | h2
    ·exact hnot e he hb h2
    ·have h3 := hDL _ h2
     have h4 := hall e he hb
     rcases Nat.lt_or_ge e.on L.size with h' | h'
     ·simp [h'] at h3 h4; rw [h3] at h4; cases h4
     ·simp [Array.getElem?_eq_none h'] at h4
   have hDL' : ∀ k, D k → (L.setIfInBounds j true).getD k true = false := fun k hk => by
    have hjk : j ≠ k := fun h => hnD (h ▸ hk)
    rw [getD_set_ne true hjk]
    exact hDL k hk
   obtain ⟨hap, hq⟩ := hfree j oj hoj hnD hji hjun hnot
   obtain ⟨a1, a2, a3⟩ := Oper.apart_spec hap
   have hfree' : ∀ k ok, ops[k]? = some ok → ¬ D k → k ≠ i → (L.setIfInBounds j true).getD k true = false → (∀ e ∈ ok.after, Region.binds .any e = true → e.on ≠ i) → o.apart ops.toArray ok = true ∧ (rd = [] ∨ ∀ s nid e, Y.E ok s nid e → e.upd = [] ∧ e.del = []) :=
    fun k ok hk hkD hki hun hno => by
     refine hfree k ok hk hkD hki ?_ hno
     by_cases hjk : j = k
     ·subst hjk; exact hjun
     ·rw [getD_set_ne true hjk] at hun; exact hun
   unfold d1 at h1 ⊢
   rw [Z5d a1] at h1
   have stay : ∀ s', (∀ x ∈ o.op.operands, evA s' x = evA s x) → Z4s ops o s' = Z4s ops o s → (∀ id ∈ rd, look s'.ob id = look s.ob id) → PY (P := P) ops o s' v rd := by
    intro s' e1 e2 e3
    rcases hy with ⟨hg, hpr, hyp, he⟩ | ⟨hg, hv, hrd0⟩
    ·refine .inl ⟨e2.trans hg, fun id hid => by rw [e3 id hid]; exact hpr id hid, hyp, ?_⟩
     rw [X3f e1]
     exact X6p he e3
    ·exact .inr ⟨e2.trans hg, hv, hrd0⟩
   have hne : ∀ id ∈ rd, look s.ob id ≠ none := fun id hid => by
    rcases hy with ⟨_, hpr, _⟩ | ⟨_, _, h0⟩
    ·exact hpr id hid
    ·rw [h0] at hid; cases hid
   split at h1
   ·rename_i hg
    obtain ⟨e, he, hK⟩ := h1
    have hnx : (U1 s o.dst v).nx = s.nx := Y3c _ _ _
    rw [hnx] at he hK
    have he' : Y.E oj s s.nx e := hY.op he (fun x hx => (Y1s fun d hd hxd => Z9b (a1 d hd) x hx hxd).symm) (Z4y _ _ _).symm
    refine ⟨e, he', fun hh => ?_⟩
    replace hK := hK hh
    rw [X4h s v _ e (fun d hd => a2 d hd)] at hK
    rw [Array.setIfInBounds_comm _ _ (Ne.symm hji)] at hK
    have e1 : ∀ s0 : S Unit, appE s0 oj.dst s0.nx e = U1 { appE s0 none s0.nx e with sl := s0.sl } oj.dst e.v := fun s0 => by unfold appE app; rfl
    have e2 : ∀ x ∈ o.op.operands, evA (appE s oj.dst s.nx e) x = evA s x := fun x hx => by
     rw [e1, Y1s fun d hd hxd => Z9b (a3 d hd) x hx hxd]
    have e3 : Z4s ops o (appE s oj.dst s.nx e) = Z4s ops o s := by
     rw [e1, Z5d a3]
     rfl
    refine ih (L.setIfInBounds j true) _ hDL' hfree' (ready_mono hr (Ne.symm hji)) (stay _ e2 e3 fun id hid => ?_) hK
    rcases hq with h0 | hq
    ·rw [h0] at hid; cases hid
    ·obtain ⟨hu, hd⟩ := hq _ _ _ he'
     exact X2y hu hd (hne id hid)
   ·rename_i hg
    rw [Y3d _ _ _ (fun d hd => a2 d hd), Array.setIfInBounds_comm _ _ (Ne.symm hji)] at h1
    refine ih (L.setIfInBounds j true) _ hDL' hfree' (ready_mono hr (Ne.symm hji)) (stay _ (fun x hx => Y1s fun d hd hxd => Z9b (a3 d hd) x hx hxd) (Z5d a3) fun id _ => by rw [Z4y]) h1
   ·cases h1
end
def W5c (q : Op → Bool) (pr : Nat) (D : List Nat) (ops : Array Oper) (L : Array Bool) (i : Nat) : Bool :=
 (Region.ready .any ops L).contains i && (D.all fun k => !(L.getD k true) && match ops[k]? with
  | some ok => ok.after.any (fun e => Region.binds .any e && (e.on == i || D.contains e.on))
  | none => false) && match ops[i]? with
 | some o => (List.range ops.size).all fun j => j == i || L.getD j true || D.contains j || match ops[j]? with
  | some oj => oj.after.any (fun e => Region.binds .any e && e.on == i) || (o.apart ops oj && (Nat.beq pr 1 || q oj.op))
  | none => true
 | none => false
section
variable {P : Program} {Y : Sys P} [PlainY Y] [QuietY Y]
theorem X9y {ops : List Oper} {i pr fuel : Nat} {o : Oper} {v : V Unit} {rd : List Nat} {L : Array Bool} {s : S Unit} {K : S Unit → Prop} (D : List Nat) (hi : ops[i]? = some o) (hb : W5c (QuietY.q Y) pr D ops.toArray L i = true) (hrd : pr = 1 → rd = [])
  (hy : PY (P := P) ops o s v rd) (H : aAny Y ops fuel (L.setIfInBounds i true) (U1 s o.dst v) K) : aAny Y ops (fuel + 1) L s K := by
 have hi' : (ops.toArray)[i]? = some o := by rw [List.getElem?_toArray]; exact hi
 simp only [W5c, Bool.and_eq_true, hi'] at hb
 obtain ⟨⟨h1, h2⟩, h3⟩ := hb
 rw [List.all_eq_true] at h2 h3
 have hD : ∀ k ∈ D, L.getD k true = false ∧ ∃ ok, (ops.toArray)[k]? = some ok ∧ ∃ e ∈ ok.after, Region.binds .any e = true ∧ (e.on = i ∨ e.on ∈ D) := fun k hk => by
  have := h2 k hk
  simp only [Bool.and_eq_true, Bool.not_eq_true'] at this
  refine ⟨this.1, ?_⟩
  cases ho : (ops.toArray)[k]? with
  | none => rw [ho] at this; exact absurd this.2 (by simp)
  | some ok =>
   rw [ho] at this
   obtain ⟨e, he, h⟩ := Array.any_eq_true'.1 this.2
   simp only [Bool.and_eq_true, Bool.or_eq_true, beq_iff_eq, List.contains_eq_mem, decide_eq_true_eq] at h
   exact ⟨ok, rfl, e, he, h.1, h.2⟩
 refine W0y QuietY.loc hi (fun k => k ∈ D) (fun k hk ok hok => ?_) fuel L s (fun k hk => (hD k hk).1) (fun j oj hj hjD hji hun hno => ?_) (by simpa using h1) hy H
 ·obtain ⟨_, ok', h, e, he, h4⟩ := hD k hk
  rw [List.getElem?_toArray, hok] at h
  cases h
  exact ⟨e, he, h4⟩
 ·have hj' : (ops.toArray)[j]? = some oj := by rw [List.getElem?_toArray]; exact hj
  have := h3 j (by rw [List.mem_range]; exact (Array.getElem?_eq_some_iff.1 hj').1)
  simp only [hj', Bool.or_eq_true, beq_iff_eq, hji, hun, false_or, Bool.false_eq_true, List.contains_eq_mem, decide_eq_true_eq, hjD, Bool.and_eq_true] at this
  rcases this with this | ⟨h4, h5⟩
  ·obtain ⟨e', he', hb⟩ := Array.any_eq_true'.1 this
   simp only [Bool.and_eq_true, beq_iff_eq] at hb
   exact absurd hb.2 (hno e' he' hb.1)
  ·refine ⟨h4, ?_⟩
   rcases h5 with h5 | h5
   ·exact .inl (hrd (Nat.eq_of_beq_eq_true h5))
   ·exact .inr fun s nid e he => QuietY.ok (Y := Y) h5 he
variable {N nx t fuel : Nat} {asg : Asg} {oa : OAsg} {K : S Unit → Prop} {ops : List Oper} {L : Array Bool} {dst : Option Nat} {op : Op} {ty : TypeId} {pos : String} {aft : Array Edge} {j : Nat} {want : Bool}
theorem t_D (i pr : Nat) (D : List Nat) (hi : ops[i]? = some ⟨dst, op, ty, pos, aft, none⟩) (hb : W5c (QuietY.q Y) (pr + 1) D ops.toArray L i = true)
  (h : aopK Y (pr + 1) ⟨dst, op, ty, pos, aft, none⟩ (St N asg oa nx) (fun s' => aAny Y ops fuel (L.setIfInBounds i true) s' K)) : aAny Y ops (fuel + 1) L (St N asg oa nx) K := by
 obtain ⟨v, rd, hyp, h1, h2, h3⟩ := Y5t (by omega) h
 exact X9y D hi hb h2.no (.inl ⟨rfl, h2.is, hyp, h1⟩) h3
end
end
section
theorem K6 {α : Type} {enc : α → List (L Unit)} [EncO enc] (n : Nat) (xs : List α) : Z0p n (xs.map enc) = true := by
 have := Z3d (enc := enc) xs
 simp only [List.all_eq_true] at this
 simp only [Z0p, List.all_eq_true]
 intro r hr l hl i hi
 rw [X3i (this r hr l hl)] at hi
 cases hi
instance {α : Type} (n : Nat) (enc : α → List (L Unit)) [EncB enc] : EncB (lL false n enc) := ⟨fun _ => rfl⟩
instance {α : Type} (n : Nat) (enc : α → List (L Unit)) : EncD (lL false n enc) (lL false n enc) := ⟨fun _ => rfl⟩
theorem Y8g (g : Nat → Nat) {l : L Unit} (h : Z7e l = true) : renL g l = l := by cases l <;> simp_all [Z7e, Z0k, renL]
theorem Z3b {α : Type} {enc : α → List (L Unit)} [EncO enc] (g : Nat → Nat) (n : Nat) (xs : List α) : Y2 g (⟨(), n, xs.map enc⟩ : Ob Unit) = ⟨(), n, xs.map enc⟩ := by
 have := Z3d (enc := enc) xs
 simp only [List.all_eq_true] at this
 simp only [Y2, Ob.mk.injEq, true_and]
 conv => rhs; rw [← List.map_id (xs.map enc)]
 refine List.map_congr_left fun r hr => ?_
 conv => rhs; rw [id, ← List.map_id r]
 exact List.map_congr_left fun l hl => Y8g g (this r hr l hl)
theorem hrow {oa : OAsg} {nx h n : Nat} {g : Nat → Nat} {α : Type} {enc : α → List (L Unit)} [EncO enc] {xs : List α} (h1 : lko oa nx h = some ⟨(), n, xs.map enc⟩) : lko oa nx h = some (Y2 g ⟨(), n, xs.map enc⟩) := by
 rw [Z3b]; exact h1
end
section
theorem BO : (∀ {α : Type} (a : α), (a = a) = True) ∧ (∀ {α : Type} [h : Decidable True] (a b : α), (@ite α True h a b) = a) ∧ ((false = true) = False) ∧ (∀ {α : Type} [h : Decidable False] (a b : α), (@ite α False h a b) = b) ∧
  (∀ b : Bool, (true || b) = true) ∧ (∀ b : Bool, (false || b) = b) ∧ (∀ b : Bool, (true && b) = b) ∧ (∀ b : Bool, (false && b) = false) ∧ ((!true) = false) ∧ ((!false) = true) :=
 ⟨fun a => by simp, fun a b => by simp, by simp, fun a b => by simp, fun b => by simp, fun b => by simp, fun b => by simp, fun b => by simp, rfl, rfl⟩
theorem KO : (∀ {α : Type} (p : α → Bool) (a : α) (l : List α), (a :: l).all p = (p a && l.all p)) ∧ (∀ {α : Type} (p : α → Bool), ([] : List α).all p = true) ∧ (∀ b : Bool, (b && true) = b) ∧ (∀ b : Bool, (true && b) = b) :=
 ⟨fun _ _ _ => rfl, fun _ => rfl, fun b => by simp, fun b => by simp⟩
theorem HO : (∀ {α : Type} (n : Nat) (a : α) (l : List α), (a :: l).drop (n + 1) = l.drop n) ∧ (∀ {α : Type} (l : List α), l.drop 0 = l) ∧ (∀ {α : Type} (n : Nat), ([] : List α).drop n = []) ∧
  (∀ {α : Type} (n : Nat) (a : α) (l : List α), (a :: l).take (n + 1) = a :: l.take n) ∧ (∀ {α : Type} (l : List α), l.take 0 = []) ∧ (∀ {α : Type} (n : Nat), ([] : List α).take n = []) ∧
  (∀ {α : Type} (a : α) (l : List α), (a :: l).length = l.length + 1) ∧ (∀ {α : Type}, ([] : List α).length = 0) ∧ (∀ {α β : Type} (f : α → β) (a : α) (l : List α), (a :: l).map f = f a :: l.map f) ∧ (∀ {α β : Type} (f : α → β), ([] : List α).map f = []) ∧
  (∀ {α : Type} (n : Nat), ([] : List α).zipIdx n = []) ∧ (∀ {α β : Type} (a : α) (l : List α) (b : β) (k : List β), (a :: l).zip (b :: k) = (a, b) :: l.zip k) ∧ (∀ {α β : Type} (l : List α), l.zip ([] : List β) = []) :=
 ⟨fun _ _ _ => rfl, fun _ => rfl, fun n => by simp, fun _ _ _ => rfl, fun _ => rfl, fun n => by simp, fun _ _ => rfl, rfl, fun _ _ _ => rfl, fun _ => rfl, fun _ => rfl, fun _ _ _ _ => rfl, fun l => by simp⟩
end
section
section
variable {P : Program} {Y : Sys P} {N nx fuel : Nat} {asg : Asg} {oa : OAsg} {K : S Unit → Prop} {ops : List Oper} {L : Array Bool}
def manyB (ops : Array Oper) (L : Array Bool) (is : List Nat) : Bool := (Region.ready .any ops L) == is
def Way (Y : Sys P) (ops : List Oper) (fuel : Nat) (L : Array Bool) (s : S Unit) (K : S Unit → Prop) (i : Nat) : Prop := ∀ o, ops[i]? = some o → d1 Y ops o s (fun s' => aAny Y ops fuel (L.setIfInBounds i true) s' K)
theorem wy {i : Nat} {dst : Option Nat} {op : Op} {ty : TypeId} {pos : String} {aft : Array Edge} (hi : ops[i]? = some ⟨dst, op, ty, pos, aft, none⟩) (h : aopK Y 0 ⟨dst, op, ty, pos, aft, none⟩ (St N asg oa nx) (fun s' => aAny Y ops fuel (L.setIfInBounds i true) s' K)) : Way Y ops fuel L (St N asg oa nx) K i := by
 intro o ho
 rw [hi] at ho
 cases ho
 obtain ⟨e, _, h1, h2⟩ := h
 exact ⟨e, h1, fun hh => h2 fun _ => hh⟩
inductive Ways (Y : Sys P) (ops : List Oper) (fuel : Nat) (L : Array Bool) (s : S Unit) (K : S Unit → Prop) : List Nat → Prop
 | nil : Ways Y ops fuel L s K []
 | cons {i : Nat} {is : List Nat} : Way Y ops fuel L s K i → Ways Y ops fuel L s K is → Ways Y ops fuel L s K (i :: is)
theorem Ways.mem {s : S Unit} {is : List Nat} (h : Ways Y ops fuel L s K is) : ∀ i ∈ is, Way Y ops fuel L s K i := by
 induction h with
 | nil => intro i hi; cases hi
 | cons h1 _ ih =>
  intro i hi
  rcases List.mem_cons.1 hi with rfl | hi
  ·exact h1
  ·exact ih i hi
theorem t_n (i : Nat) (is : List Nat) (hb : manyB ops.toArray L (i :: is) = true) (h : Ways Y ops fuel L (St N asg oa nx) K (i :: is)) : aAny Y ops (fuel + 1) L (St N asg oa nx) K := by
 have hr : Region.ready .any ops.toArray L = i :: is := by simpa [manyB] using hb
 refine ⟨fun h0 => (by rw [h0] at hr; cases hr), fun k hk o ho => ?_⟩
 rw [hr] at hk
 exact h.mem k hk o ho
end
end
section
section
variable {P : Program} {Y : Sys P}
theorem W0x [PlainY Y] (hY : LocY Y) {ops : List Oper} {i : Nat} {o : Oper} {v : V Unit} {rd : List Nat} {K : S Unit → Prop} (hi : ops[i]? = some o) (D : Nat → Prop) (hD0 : ∀ k, D k → ∀ ok, ops[k]? = some ok → ∃ e ∈ ok.after, Region.binds .any e = true ∧ (e.on = i ∨ D e.on)) : ∀ (fuel : Nat) (L : Array Bool) (s : S Unit),
  (∀ k, D k → L.getD k true = false) → (∀ j oj, ops[j]? = some oj → ¬ D j → j ≠ i → L.getD j true = false → (∀ e ∈ oj.after, Region.binds .any e = true → e.on ≠ i) → o.apart ops.toArray oj = true ∧ ∀ id ∈ rd, ∀ s nid e, Y.E oj s nid e → look s.ob id ≠ none → look (appE s oj.dst nid e).ob id = look s.ob id) →
  i ∈ Region.ready .any ops.toArray L → PY (P := P) ops o s v rd → aAny Y ops fuel (L.setIfInBounds i true) (U1 s o.dst v) K → aAny Y ops (fuel + 1) L s K := by
 have self : ∀ (fuel : Nat) (L : Array Bool) (s : S Unit), PY (P := P) ops o s v rd → aAny Y ops fuel (L.setIfInBounds i true) (U1 s o.dst v) K → d1 Y ops o s (fun s' => aAny Y ops fuel (L.setIfInBounds i true) s' K) := by
  intro fuel L s hy H
  unfold d1
  rcases hy with ⟨hg, _, hyp, he⟩ | ⟨hg, hv, _⟩
  ·rw [hg]
   refine ⟨_, PlainY.h he, fun _ => ?_⟩
   have : appE s o.dst s.nx ⟨v, rd, [], [], [], hyp⟩ = U1 s o.dst v := by
    unfold appE
    rw [Y1u]
    simp
   rw [this]
   exact H
  ·rw [hg]
   subst hv
   exact H
 intro fuel
 induction fuel with
 | zero =>
  intro L s hDL _ hr hy H
  refine ⟨fun h => (by rw [h] at hr; cases hr), fun j hj oj hoj => ?_⟩
  by_cases hji : j = i
  ·subst hji
   rw [hi] at hoj
   cases hoj
   exact self 0 L s hy H
  ·have := ready_mono hj hji
   rw [H.1] at this
   cases this
 | succ fuel ih =>
  intro L s hDL hfree hr hy H
  refine ⟨fun h => (by rw [h] at hr; cases hr), fun j hj oj hoj => ?_⟩
  by_cases hji : j = i
  ·subst hji
   rw [hi] at hoj
   cases hoj
   exact self _ L s hy H
  ·have h1 := H.2 j (ready_mono hj hji) oj hoj
   obtain ⟨hjun, oj', hoj', hall⟩ := mem_ready.1 hj
   rw [List.getElem?_toArray, hoj] at hoj'
   cases hoj'
   have hnot : ∀ e ∈ oj.after, Region.binds .any e = true → e.on ≠ i := fun e he hb heq => by
    have h1 := hall e he hb
    have h0 := (mem_ready.1 hr).1
    rw [heq] at h1
    rcases Nat.lt_or_ge i L.size with h' | h'
    ·simp [h'] at h0 h1; rw [h0] at h1; cases h1
    ·simp [Array.getElem?_eq_none h'] at h1
   have hnD : ¬ D j := fun hd => by
    obtain ⟨e, he, hb, h2⟩ := hD0 j hd oj hoj
    rcases h2 with h2 | h2
    ·exact hnot e he hb h2
    ·have h3 := hDL _ h2
     have h4 := hall e he hb
     rcases Nat.lt_or_ge e.on L.size with h' | h'
     ·simp [h'] at h3 h4; rw [h3] at h4; cases h4
     ·simp [Array.getElem?_eq_none h'] at h4
   have hDL' : ∀ k, D k → (L.setIfInBounds j true).getD k true = false := fun k hk => by
    have hjk : j ≠ k := fun h => hnD (h ▸ hk)
    rw [getD_set_ne true hjk]
    exact hDL k hk
   obtain ⟨hap, hq⟩ := hfree j oj hoj hnD hji hjun hnot
   obtain ⟨a1, a2, a3⟩ := Oper.apart_spec hap
   have hfree' : ∀ k ok, ops[k]? = some ok → ¬ D k → k ≠ i → (L.setIfInBounds j true).getD k true = false → (∀ e ∈ ok.after, Region.binds .any e = true → e.on ≠ i) → o.apart ops.toArray ok = true ∧ (∀ id ∈ rd, ∀ s nid e, Y.E ok s nid e → look s.ob id ≠ none → look (appE s ok.dst nid e).ob id = look s.ob id) :=
    fun k ok hk hkD hki hun hno => by
     refine hfree k ok hk hkD hki ?_ hno
     by_cases hjk : j = k
     ·subst hjk; exact hjun
     ·rw [getD_set_ne true hjk] at hun; exact hun
   unfold d1 at h1 ⊢
   rw [Z5d a1] at h1
   have stay : ∀ s', (∀ x ∈ o.op.operands, evA s' x = evA s x) → Z4s ops o s' = Z4s ops o s → (∀ id ∈ rd, look s'.ob id = look s.ob id) → PY (P := P) ops o s' v rd := by
    intro s' e1 e2 e3
    rcases hy with ⟨hg, hpr, hyp, he⟩ | ⟨hg, hv, hrd0⟩
    ·refine .inl ⟨e2.trans hg, fun id hid => by rw [e3 id hid]; exact hpr id hid, hyp, ?_⟩
     rw [X3f e1]
     exact X6p he e3
    ·exact .inr ⟨e2.trans hg, hv, hrd0⟩
   have hne : ∀ id ∈ rd, look s.ob id ≠ none := fun id hid => by
    rcases hy with ⟨_, hpr, _⟩ | ⟨_, _, h0⟩
    ·exact hpr id hid
    ·rw [h0] at hid; cases hid
   split at h1
   ·rename_i hg
    obtain ⟨e, he, hK⟩ := h1
    have hnx : (U1 s o.dst v).nx = s.nx := Y3c _ _ _
    rw [hnx] at he hK
    have he' : Y.E oj s s.nx e := hY.op he (fun x hx => (Y1s fun d hd hxd => Z9b (a1 d hd) x hx hxd).symm) (Z4y _ _ _).symm
    refine ⟨e, he', fun hh => ?_⟩
    replace hK := hK hh
    rw [X4h s v _ e (fun d hd => a2 d hd)] at hK
    rw [Array.setIfInBounds_comm _ _ (Ne.symm hji)] at hK
    have e1 : ∀ s0 : S Unit, appE s0 oj.dst s0.nx e = U1 { appE s0 none s0.nx e with sl := s0.sl } oj.dst e.v := fun s0 => by unfold appE app; rfl
    have e2 : ∀ x ∈ o.op.operands, evA (appE s oj.dst s.nx e) x = evA s x := fun x hx => by
     rw [e1, Y1s fun d hd hxd => Z9b (a3 d hd) x hx hxd]
    have e3 : Z4s ops o (appE s oj.dst s.nx e) = Z4s ops o s := by
     rw [e1, Z5d a3]
     rfl
    refine ih (L.setIfInBounds j true) _ hDL' hfree' (ready_mono hr (Ne.symm hji)) (stay _ e2 e3 fun id hid => ?_) hK
    exact hq id hid _ _ _ he' (hne id hid)
   ·rename_i hg
    rw [Y3d _ _ _ (fun d hd => a2 d hd), Array.setIfInBounds_comm _ _ (Ne.symm hji)] at h1
    refine ih (L.setIfInBounds j true) _ hDL' hfree' (ready_mono hr (Ne.symm hji)) (stay _ (fun x hx => Y1s fun d hd hxd => Z9b (a3 d hd) x hx hxd) (Z5d a3) fun id _ => by rw [Z4y]) h1
   ·cases h1
end
def inX (X : List Nat) : Option Nat → Bool
 | some d => X.contains d
 | none => true
def sysH (P : Program) (H X : List Nat) : Sys P := { E := fun o s nid e => (sysC P).E o s nid e ∨ (CallG P o s nid e ∧ (inX X o.dst || e.upd.all fun p => H.contains p.1) = true), ok := fun h => h.elim (sysC P).ok fun h => Y2j h.1 }
section
variable {P : Program} {H X : List Nat}
theorem sysH_G {o : Oper} {s : S Unit} {nid : Nat} {e : Eff} (h : (sysH P H X).E o s nid e) : (sysG P).E o s nid e := h.imp id (·.1)
theorem locH : LocY (sysH P H X) := ⟨fun {o s s' nid e} h hρ hob => by
 rcases h with h | ⟨h, h2⟩
 ·exact .inl (locC.op h hρ hob)
 ·rcases (locG (P := P)).op (.inr h) hρ hob with h3 | h3
  ·exact .inl h3
  ·exact .inr ⟨h3, h2⟩⟩
instance : PlainY (sysH P H X) := ⟨fun h => .inl (.inl h)⟩
instance : QuietY (sysH P H X) := ⟨X5e, fun hq h => X5d hq (sysH_G h), locH, fun h => h⟩
theorem X5n {upd : List (Nat × List (List (L Unit)))} {id : Nat} (h : ∀ p ∈ upd, p.1 ≠ id) : ∀ ob : List (Nat × Ob Unit), look (ob.map (updP upd)) id = look ob id
 | [] => rfl
 | p :: ob => by
  have ih := X5n h ob
  unfold look at ih ⊢
  simp only [List.map_cons, List.find?_cons]
  have hk : (updP upd p).1 = p.1 := by unfold updP; split <;> rfl
  rw [hk]
  by_cases hp : p.1 = id
  ·have : updP upd p = p := by
    unfold updP
    rw [Y1j (fun hm => by
     obtain ⟨q, hq, hq2⟩ := List.mem_map.1 hm
     exact h q hq (hq2.trans hp))]
   simp [hp, this]
  ·have : (p.1 == id) = false := by simpa using hp
   rw [this]
   exact ih
theorem far_ob {o : Oper} {s : S Unit} {nid : Nat} {e : Eff} (hx : inX X o.dst = false) (hq : Y7e o.op = true) (h : (sysH P H X).E o s nid e) {id : Nat} (hid : id ∉ H) (hne : look s.ob id ≠ none) : look (appE s o.dst nid e).ob id = look s.ob id := by
 rcases h with h | ⟨⟨c, f, caps, cs, us, hs, obs, obs', r, lent, _, _, _, _, _, _, _, _, _, _, _, rfl⟩, h2⟩
 ·obtain ⟨hu, hd⟩ := QuietY.ok (Y := sysC P) (o := o) (by exact hq) h
  exact X2y hu hd hne
 ·unfold appE app
  rw [Z4y]
  simp only
  have hf : s.ob.filter (fun p => !([] : List Nat).contains p.1) = s.ob := List.filter_eq_self.2 fun _ _ => rfl
  rw [hf]
  have h3 : ∀ p ∈ hs.zip ((obs'.take hs.length).map fun ob => (Y2 (gG hs nid) ob).rows), p.1 ≠ id := fun p hp he => by
   rw [hx, Bool.false_or, List.all_eq_true] at h2
   have := h2 p hp
   rw [he] at this
   exact hid (by simpa using this)
  have h4 := X5n h3 s.ob
  rw [← h4] at hne
  rw [X5p hne, h4]
end
def W5v : Op → Option Operand
 | .nilCheck x => some x
 | .load _ x => some x
 | .fieldAddr _ x _ => some x
 | .indexAddr _ x _ => some x
 | _ => none
theorem opF_rd {P : Program} {op : Op} {ρ : Env} {lk : Lk} {nid : Nat} {e : Eff} {x : Operand} (hx : W5v op = some x) (h : opF P op ρ lk nid = some e) : ∀ id ∈ e.rd, ∃ l, lO (ρ x) = some l ∧ id ∈ idsL l := by
 intro id hid
 cases op <;> simp only [W5v, reduceCtorEq, Option.some.injEq] at hx
 case nilCheck y =>
  subst hx
  simp only [opF] at h
  split at h
  ·rename_i v i e' j hl
   obtain ⟨_, _, h⟩ := bind_some h
   cases h
   simp only [List.mem_singleton] at hid
   exact ⟨_, hl, by simp [idsL, hid]⟩
  ·cases h; cases hid
  ·cases h
 case load t y =>
  subst hx
  simp only [opF, ldF] at h
  obtain ⟨_, _, h⟩ := bind_some h
  split at h
  ·rename_i v i e' j hl
   obtain ⟨_, _, h⟩ := bind_some h
   obtain ⟨_, _, h⟩ := bind_some h
   obtain ⟨_, _, h⟩ := bind_some h
   split at h
   ·cases h
    simp only [List.mem_singleton] at hid
    exact ⟨_, hl, by simp [idsL, hid]⟩
   ·cases h
  ·obtain ⟨_, _, h⟩ := bind_some h
   split at h
   ·cases h; cases hid
   ·cases h
  ·cases h
 case fieldAddr t y f =>
  subst hx
  simp only [opF, faF] at h
  obtain ⟨_, _, h⟩ := bind_some h
  split at h
  ·obtain ⟨_, _, h⟩ := bind_some h
   obtain ⟨_, _, h⟩ := bind_some h
   split at h
   ·cases h
   ·split at h
    ·rename_i v i e' j hl
     obtain ⟨_, _, h⟩ := bind_some h
     cases h
     simp only [List.mem_singleton] at hid
     exact ⟨_, hl, by simp [idsL, hid]⟩
    ·cases h; cases hid
    ·cases h
  ·cases h
 case indexAddr t y z =>
  subst hx
  simp only [opF, ixF] at h
  obtain ⟨_, _, h⟩ := bind_some h
  split at h
  ·obtain ⟨_, _, h⟩ := bind_some h
   split at h
   ·split at h
    ·split at h
     ·split at h
      ·obtain ⟨_, _, h⟩ := bind_some h
       cases h; cases hid
      ·cases h
     ·cases h
    ·rename_i v i off len hl
     obtain ⟨_, _, h⟩ := bind_some h
     split at h
     ·split at h
      ·cases h
       simp only [List.mem_singleton] at hid
       exact ⟨_, hl, by simp [idsL, hid]⟩
      ·cases h
     ·cases h
    ·cases h
   ·cases h
  ·cases h
def takeE (X D : List Nat) (ops : Array Oper) (L : Array Bool) (i : Nat) : Bool :=
 (Region.ready .any ops L).contains i && (D.all fun k => !(L.getD k true) && match ops[k]? with
  | some ok => ok.after.any (fun e => Region.binds .any e && (e.on == i || D.contains e.on))
  | none => false) && match ops[i]? with
 | some o => (List.range ops.size).all fun j => j == i || L.getD j true || D.contains j || match ops[j]? with
  | some oj => oj.after.any (fun e => Region.binds .any e && e.on == i) || (o.apart ops oj && (Y7e oj.op && !(inX X oj.dst)))
  | none => true
 | none => false
section
variable {P : Program} {H X : List Nat} {N nx t fuel : Nat} {asg : Asg} {oa : OAsg} {K : S Unit → Prop} {ops : List Oper} {L : Array Bool} {dst : Option Nat} {op : Op} {ty : TypeId} {pos : String} {aft : Array Edge}
theorem t_E {x : Operand} {l : AM.L Unit} (i : Nat) (D : List Nat) (hi : ops[i]? = some ⟨dst, op, ty, pos, aft, none⟩) (hb : takeE X D ops.toArray L i = true) (hx : W5v op = some x) (hv : ev N asg x = some (.u (.one l))) (hl : (idsL l).all (fun i => !H.contains i) = true)
  (h : aopK (sysH P H X) 2 ⟨dst, op, ty, pos, aft, none⟩ (St N asg oa nx) (fun s' => aAny (sysH P H X) ops fuel (L.setIfInBounds i true) s' K)) : aAny (sysH P H X) ops (fuel + 1) L (St N asg oa nx) K := by
 obtain ⟨v, rd, hyp, h1, h2, h3⟩ := Y5t (by omega) h
 have hrd := opF_rd hx h1
 simp only at hrd
 have hrdH : ∀ id ∈ rd, id ∉ H := fun id hid hm => by
  obtain ⟨l', e1, e2⟩ := hrd id hid
  rw [Z2e hv] at e1
  cases e1
  rw [List.all_eq_true] at hl
  have := hl id e2
  simp [hm] at this
 have hi' : (ops.toArray)[i]? = some ⟨dst, op, ty, pos, aft, none⟩ := by rw [List.getElem?_toArray]; exact hi
 simp only [takeE, Bool.and_eq_true, hi'] at hb
 obtain ⟨⟨b1, b2⟩, b3⟩ := hb
 rw [List.all_eq_true] at b2 b3
 have hD : ∀ k ∈ D, L.getD k true = false ∧ ∃ ok, (ops.toArray)[k]? = some ok ∧ ∃ e ∈ ok.after, Region.binds .any e = true ∧ (e.on = i ∨ e.on ∈ D) := fun k hk => by
  have := b2 k hk
  simp only [Bool.and_eq_true, Bool.not_eq_true'] at this
  refine ⟨this.1, ?_⟩
  cases ho : (ops.toArray)[k]? with
  | none => rw [ho] at this; exact absurd this.2 (by simp)
  | some ok =>
   rw [ho] at this
   obtain ⟨e, he, h⟩ := Array.any_eq_true'.1 this.2
   simp only [Bool.and_eq_true, Bool.or_eq_true, beq_iff_eq, List.contains_eq_mem, decide_eq_true_eq] at h
   exact ⟨ok, rfl, e, he, h.1, h.2⟩
 refine W0x locH hi (fun k => k ∈ D) (fun k hk ok hok => ?_) fuel L (St N asg oa nx) (fun k hk => (hD k hk).1) (fun j oj hj hjD hji hun hno => ?_) (by simpa using b1) (.inl ⟨rfl, h2.is, hyp, h1⟩) h3
 ·obtain ⟨_, ok', h, e, he, h4⟩ := hD k hk
  rw [List.getElem?_toArray, hok] at h
  cases h
  exact ⟨e, he, h4⟩
 ·have hj' : (ops.toArray)[j]? = some oj := by rw [List.getElem?_toArray]; exact hj
  have := b3 j (by rw [List.mem_range]; exact (Array.getElem?_eq_some_iff.1 hj').1)
  simp only [hj', Bool.or_eq_true, beq_iff_eq, hji, hun, false_or, Bool.false_eq_true, List.contains_eq_mem, decide_eq_true_eq, hjD, Bool.and_eq_true] at this
  rcases this with this | ⟨h4, h5, h6⟩
  ·obtain ⟨e', he', hb⟩ := Array.any_eq_true'.1 this
   simp only [Bool.and_eq_true, beq_iff_eq] at hb
   exact absurd hb.2 (hno e' he' hb.1)
  ·exact ⟨h4, fun id hid s nid e he hne => far_ob (by simpa using h6) h5 he (hrdH id hid) hne⟩
theorem x_cgH {dst : Option Nat} {ty : TypeId} {pos : String} {aft : Array Edge} {x : Operand} {args : Array Operand} {ats : Array TypeId} {f : FuncId} {caps cs : List (AM.L Unit)} {us : List (U Unit)} {r v : V Unit} {nobs : List (Nat × Ob Unit)} {oa' : OAsg} {nx' : Nat} {obs obs' : List (Ob Unit)}
  (hs : List Nat) (lent : Bool) (hf : ev N asg x = some (.u (.one (.fn () f caps)))) (hnd : hs.Nodup) (hh : All2 (fun h ob => lko oa nx h = some (Y2 (gG hs nx) ob)) hs obs) (hkn : obs.all (fun ob => Z0p hs.length ob.rows) = true)
  (ha : ArgsG (St N asg oa nx) (gG hs nx) hs lent args.toList us) (hcaps : caps = cs.map (renL (gG hs nx))) (hck : cs.all (okK hs.length) = true) (hent : Ent P f) (hsim : Sim P f (us ++ cs.map .one) obs r obs')
  (himf : lent = false ∨ (Z2h r = true ∧ obs'.all (fun ob => Z7m ob.rows) = true)) (hn : (obs'.take hs.length).map (·.n) = obs.map (·.n)) (hroot : Z4a (fun _ => ()) (nx + (obs'.length - hs.length)) (renV (gG hs nx) r) = (v, nobs))
  (hoa : oaG (gG hs nx) nx hs obs' nobs oa = oa') (hnx : nx + (obs'.length - hs.length + nobs.length) = nx') (hK : K (St N (dstA dst v asg) oa' nx')) (hH : (inX X dst || hs.all (fun h => H.contains h)) = true) : aopK (sysH P H X) 0 ⟨dst, .call ⟨.value x, args, ats⟩, ty, pos, aft, none⟩ (St N asg oa nx) K := by
 subst hoa hnx
 have hh' : All2 (fun h ob => look (St N asg oa nx).ob h = some (Y2 (gG hs nx) ob)) hs obs := Y0i (fun _ _ h => Q0 h) hh
 refine ⟨_, fun h => absurd rfl h, Or.inr ⟨⟨⟨.value x, args, ats⟩, f, caps, cs, us, hs, obs, obs', r, lent, rfl, ?_, hnd, hh', List.all_eq_true.1 hkn, ha, hcaps, hck, hent, hsim, himf.imp id fun h => ⟨h.1, List.all_eq_true.1 h.2⟩, rfl⟩, ?_⟩, fun _ => ?_⟩
 ·simp only [calE, Z2e hf]
 ·simp only [Bool.or_eq_true, List.all_eq_true] at hH ⊢
  refine hH.imp id fun hH p hp => ?_
  exact hH p.1 (List.of_mem_zip hp).1
 ·have e := W6v (rd := []) (N := N) (asg := asg) (dst := dst) hnd hh hn hroot
  rw [← e] at hK
  exact hK
theorem Z6h {dst : Option Nat} {ty : TypeId} {pos : String} {aft : Array Edge} {x : Operand} {args : Array Operand} {ats : Array TypeId} {f : FuncId} {us : List (U Unit)} {r v : V Unit} {nobs : List (Nat × Ob Unit)} {oa' : OAsg} {nx' : Nat} {obs obs' : List (Ob Unit)} (hsim : Sim P f us obs r obs')
  (hs : List Nat) (hf : ev N asg x = some (.u (.one (.fn () f [])))) (hnd : hs.Nodup) (hh : All2 (fun h ob => lko oa nx h = some (Y2 (gG hs nx) ob)) hs obs) (hkn : obs.all (fun ob => Z0p hs.length ob.rows) = true)
  (ha : ArgsG (St N asg oa nx) (gG hs nx) hs false args.toList us) (hent : Ent P f) (hn : (obs'.take hs.length).map (·.n) = obs.map (·.n)) (hroot : Z4a (fun _ => ()) (nx + (obs'.length - hs.length)) (renV (gG hs nx) r) = (v, nobs))
  (hoa : oaG (gG hs nx) nx hs obs' nobs oa = oa') (hnx : nx + (obs'.length - hs.length + nobs.length) = nx') (hK : K (St N (dstA dst v asg) oa' nx')) (hH : (inX X dst || hs.all (fun h => H.contains h)) = true) : aopK (sysH P H X) 0 ⟨dst, .call ⟨.value x, args, ats⟩, ty, pos, aft, none⟩ (St N asg oa nx) K :=
 x_cgH (caps := []) (cs := []) hs false hf hnd hh hkn ha rfl rfl hent (by simpa using hsim) (.inl rfl) hn hroot hoa hnx hK hH
end
end
section
open Go Go.MapKept
section
variable {P : Program}
variable {B : Bd} {Q : Exit → S Unit → Prop} {N nx : Nat} {asg : Asg} {oa : OAsg}
end
def stL {δ : Type} : L δ → Bool
 | .ip _ _ => true
 | l => Z0k l
def CapOk (cs : List (L Unit)) : Prop := cs.all stL = true
theorem stL_ids {δ : Type} {l : L δ} (h : stL l = true) : idsL l = [] := by cases l <;> simp_all [stL, Z0k, idsL]
theorem stL_ren {δ : Type} {g : Nat → Nat} {l : L δ} (h : stL l = true) : renL g l = l := by cases l <;> simp_all [stL, Z0k, renL]
theorem CapOk.ids {cs : List (L Unit)} (h : CapOk cs) : idsC cs = [] := by
 rw [Y2w, List.flatMap_eq_nil_iff]
 exact fun l hl => stL_ids (List.all_eq_true.1 h l hl)
theorem CapOk.ren {cs : List (L Unit)} (h : CapOk cs) (g : Nat → Nat) : renC g cs = cs := by
 rw [Y9m]
 conv => rhs; rw [← List.map_id cs]
 exact List.map_congr_left fun l hl => stL_ren (List.all_eq_true.1 h l hl)
theorem CapOk.bor {N nx : Nat} {asg : Asg} {oa : OAsg} {k : Nat} {cs : List (L Unit)} (h : CapOk cs) : BorC (k + 1) N asg oa nx cs cs := by
 unfold CapOk at h
 induction cs with
 | nil => exact c_n
 | cons l cs ih =>
  simp only [List.all_cons, Bool.and_eq_true] at h
  refine c_c ?_ (ih h.2)
  cases l with
  | ip v c => exact b_ip
  | _ => exact b_s (by simpa [stL] using h.1)
theorem Y0p {cs : List (L Unit)} (h : CapOk cs) (g : Nat → Nat) (f : FuncId) : renV g (.u (.one (.fn () f cs))) = .u (.one (.fn () f cs)) := by simp [renV, renU, renL, h.ren]
theorem Z6c {cs : List (L Unit)} (h : CapOk cs) (n : Nat) (f : FuncId) : X5s n (.u (.one (.fn () f cs))) = true := by simp [X5s, Z3, Z1, idsL, h.ids]
end
section
class FacT (P : Program) (t : TypeId) (i : outParam TI) : Prop where
 h : tiOf P t = some i
class FacE (P : Program) (t : TypeId) (n : outParam Nat) : Prop where
 h : elS P t = some n
class FacA (P : Program) (t : TypeId) (q : outParam (Nat × Nat × List Z)) : Prop where
 h : elF P t = some q
class FacN (P : Program) (t : TypeId) (k : outParam TK) : Prop where
 h : lnF P t = some k
class FacF (P : Program) (t : TypeId) (f : Nat) (q : outParam (Nat × TI)) : Prop where
 h : fldF P t f = some q
class EntC (P : Program) (f : FuncId) : Prop where
 h : Ent P f
inductive SetR {α : Type} : List α → Nat → α → List α → Prop
 | z {x y : α} {l : List α} : SetR (x :: l) 0 y (y :: l)
 | s {x y : α} {l l' : List α} {i : Nat} (h : SetR l i y l') : SetR (x :: l) (i + 1) y (x :: l')
theorem SetR.eq {α : Type} {l l' : List α} {i : Nat} {y : α} (h : SetR l i y l') : l.set i y = l' := by
 induction h with
 | z => rfl
 | s _ ih => rw [List.set_cons_succ, ih]
inductive PutR {α : Type} : List α → Nat → List α → List α → Prop
 | nil {l : List α} {i : Nat} : PutR l i [] l
 | cons {l l1 l2 : List α} {i : Nat} {y : α} {ys : List α} (h : SetR l i y l1) (ht : PutR l1 (i + 1) ys l2) : PutR l i (y :: ys) l2
theorem SetR.len {α : Type} {l l' : List α} {i : Nat} {y : α} (h : SetR l i y l') : i < l.length := by
 induction h with
 | z => simp
 | s _ ih => simpa using ih
theorem PutR.eq {α : Type} {l l' ys : List α} {i : Nat} (h : PutR l i ys l') : putC l i ys = l' := by
 induction h with
 | nil => simp [putC]
 | @cons l l1 l2 i y ys h ht ih =>
  have h1 := h.eq
  have h2 := h.len
  rw [← ih, ← h1]
  apply List.ext_getElem?
  intro j
  simp only [putC, List.append_assoc, List.cons_append, List.getElem?_append, List.length_take, List.length_set, List.getElem?_take, List.getElem?_set, List.getElem?_drop, List.length_cons, List.getElem?_cons]
  grind
inductive ZR : List Z → List (L Unit) → Prop
 | nil : ZR [] []
 | int {k : IntKind} {n : Int} {z : List Z} {l : List (L Unit)} (h : ZR z l) : ZR (.int k n :: z) (.int k n :: l)
 | bool {b : Bool} {z : List Z} {l : List (L Unit)} (h : ZR z l) : ZR (.bool b :: z) (.bool b :: l)
 | str {s : ByteArray} {z : List Z} {l : List (L Unit)} (h : ZR z l) : ZR (.str s :: z) (.str s :: l)
 | nl {z : List Z} {l : List (L Unit)} (h : ZR z l) : ZR (.nl :: z) (.nl :: l)
 | nilp {z : List Z} {l : List (L Unit)} (h : ZR z l) : ZR (.nilp :: z) (.nilp :: l)
theorem ZR.eq {z : List Z} {l : List (L Unit)} (h : ZR z l) : z.map zL = l := by
 induction h <;> simp_all [zL]
section
variable {P : Program} {Y : Sys P} [PlainY Y] {pr N nx t : Nat} {asg : Asg} {oa : OAsg} {ty : TypeId} {pos : String} {aft : Array Edge} {K : S Unit → Prop}
theorem k_st {tt : TypeId} {x y : Operand} {id j n : Nat} {i : TI} {r r' : List (L Unit)} {u : U Unit} (ht : tiOf P tt = some i) (h1 : ev N asg x = some (.u (.one (.ptr () id 0 j)))) (h2 : ev N asg y = some (.u u))
  (ho : lko oa nx id = some ⟨(), n, [r]⟩) (hn : Z5i u = true) (hl : Nat.beq (Z1 u).length i.size = true) (hj : Nat.ble (j + i.size) r.length = true) (hs : PutR r j (Z1 u) r')
  (hK : K (St N asg ((id, some ⟨(), n, [r']⟩) :: oa) nx)) : aopK Y 0 ⟨none, .store tt x y, ty, pos, aft, none⟩ (St N asg oa nx) K :=
 x_st ht h1 h2 ho rfl hn hl hj (by rw [hs.eq]; rfl) hK
theorem k_al {tt : TypeId} {i : TI} {r : List (L Unit)} (ht : tiOf P tt = some i) (hr : ZR i.zero r)
  (hK : K (St N ((t, .u (.one (.ptr () nx 0 0))) :: asg) ((nx, some ⟨(), i.zero.length, [r]⟩) :: oa) (nx + 1))) : aopK Y 0 ⟨some t, .alloc tt, ty, pos, aft, none⟩ (St N asg oa nx) K := x_al ht hr.eq rfl hK
inductive FillR (N : Nat) (asg : Asg) (ps : List (Nat × Nat)) : List (Nat × Operand) → List (L Unit) → List (L Unit) → Prop
 | nil {c : List (L Unit)} : FillR N asg ps [] c c
 | cons {i o m : Nat} {x : Operand} {xs : List (Nat × Operand)} {u : U Unit} {c c1 c2 : List (L Unit)} (hv : ev N asg x = some (.u u)) (hn : Z5i u = true) (hp : ps[i]? = some (o, m)) (hl : Nat.beq (Z1 u).length m = true) (hb : Nat.ble (o + m) c.length = true) (h : PutR c o (Z1 u) c1)
   (ht : FillR N asg ps xs c1 c2) : FillR N asg ps ((i, x) :: xs) c c2
theorem FillR.eq {ps : List (Nat × Nat)} {xs : List (Nat × Operand)} {c c' : List (L Unit)} (h : FillR N asg ps xs c c') : ∃ us, Z5s (ev N asg) xs = some us ∧ Y6x (ps[·]?) us c = some c' := by
 induction h with
 | nil => exact ⟨[], rfl, rfl⟩
 | @cons i o m x xs u c c1 c2 hv hn hp hl hb h _ ih =>
  obtain ⟨us, h1, h2⟩ := ih
  refine ⟨(i, u) :: us, ?_, ?_⟩
  ·simp only [Z5s, hv, uO, Option.bind_some, hn, if_true, h1, Option.map_some]
  ·simp only [Y6x, hp, Option.bind_some]
   rw [if_pos ⟨Nat.eq_of_beq_eq_true hl, Nat.le_of_ble_eq_true hb⟩, h.eq, h2]
theorem k_bu {tt : TypeId} {ps : Array (Nat × Operand)} {i : TI} {z cells : List (L Unit)} (ht : tiOf P tt = some i) (hk : i.kd = .struct) (hz : ZR i.zero z) (hf : FillR N asg i.places ps.toList z cells)
  (hK : K (St N ((t, .u (.agg cells)) :: asg) oa nx)) : aopK Y pr ⟨some t, .build tt ps, ty, pos, aft, none⟩ (St N asg oa nx) K := by
 obtain ⟨us, h1, h2⟩ := hf.eq
 rw [← hz.eq] at h2
 exact x_bu ht hk h1 h2 hK
end
inductive RenC (hs : List Nat) : List (L Unit) → List (L Unit) → Prop
 | nil : RenC hs [] []
 | ptr {id j a b : Nat} {ls ls' : List (L Unit)} (h : hs[id]? = some j) (ht : RenC hs ls ls') : RenC hs (.ptr () id a b :: ls) (.ptr () j a b :: ls')
 | ref {id j a b : Nat} {ls ls' : List (L Unit)} (h : hs[id]? = some j) (ht : RenC hs ls ls') : RenC hs (.ref () id a b :: ls) (.ref () j a b :: ls')
 | same {l : L Unit} {ls ls' : List (L Unit)} (h : Z7e l = true) (ht : RenC hs ls ls') : RenC hs (l :: ls) (l :: ls')
theorem RenC.eq {hs : List Nat} {nx : Nat} {ls ls' : List (L Unit)} (h : RenC hs ls ls') : ls.map (renL (gG hs nx)) = ls' := by
 induction h with
 | nil => rfl
 | ptr h _ ih => simp only [List.map_cons, ih, renL, W3p h]
 | ref h _ ih => simp only [List.map_cons, ih, renL, W3p h]
 | same h _ ih => simp only [List.map_cons, ih, Y8g _ h]
inductive NewG (hs : List Nat) (nx : Nat) : Nat → List (Ob Unit) → OAsg → OAsg → Nat → Prop
 | nil {n : Nat} {oa : OAsg} : NewG hs nx n [] oa oa n
 | same {n n' : Nat} {o : Ob Unit} {os : List (Ob Unit)} {oa oa' : OAsg} (h : Y2 (gG hs nx) o = o) (ht : NewG hs nx (n + 1) os ((n, some o) :: oa) oa' n') : NewG hs nx n (o :: os) oa oa' n'
inductive UpG (hs0 : List Nat) (nx : Nat) : List Nat → List (Ob Unit) → OAsg → OAsg → Nat → Prop
 | nil {os : List (Ob Unit)} {oa oa' : OAsg} {n' : Nat} (h : NewG hs0 nx nx os oa oa' n') : UpG hs0 nx [] os oa oa' n'
 | same {k n' : Nat} {o : Ob Unit} {hs : List Nat} {os : List (Ob Unit)} {oa oa' : OAsg} (h : Y2 (gG hs0 nx) o = o) (ht : UpG hs0 nx hs os ((k, some o) :: oa) oa' n') : UpG hs0 nx (k :: hs) (o :: os) oa oa' n'
 | ren {k n n' : Nat} {r r' : List (L Unit)} {hs : List Nat} {os : List (Ob Unit)} {oa oa' : OAsg} (h : RenC hs0 r r') (ht : UpG hs0 nx hs os ((k, some ⟨(), n, [r']⟩) :: oa) oa' n') : UpG hs0 nx (k :: hs) (⟨(), n, [r]⟩ :: os) oa oa' n'
theorem NewG.eq {hs : List Nat} {nx n n' : Nat} {os : List (Ob Unit)} {oa oa' : OAsg} (h : NewG hs nx n os oa oa' n') : Z6p (((os.map (Y2 (gG hs nx))).zipIdx n).map fun q => (q.2, q.1)) oa = oa' ∧ n + os.length = n' := by
 induction h with
 | nil => exact ⟨rfl, rfl⟩
 | same h _ ih => exact ⟨by simp only [List.map_cons, List.zipIdx_cons, Z6p, h]; exact ih.1, by simp only [List.length_cons]; omega⟩
theorem UpG.eq {hs0 : List Nat} {nx : Nat} {hs : List Nat} {os : List (Ob Unit)} {oa oa' : OAsg} {n' : Nat} (h : UpG hs0 nx hs os oa oa' n') :
  Z6p ((((os.drop hs.length).map (Y2 (gG hs0 nx))).zipIdx nx).map fun q => (q.2, q.1)) (updO (hs.zip ((os.take hs.length).map (Y2 (gG hs0 nx)))) oa) = oa' ∧ nx + (os.length - hs.length) = n' := by
 induction h with
 | nil h => exact ⟨by simpa [updO] using h.eq.1, by simpa using h.eq.2⟩
 | same h _ ih => exact ⟨by simpa only [List.length_cons, List.drop_succ_cons, List.take_succ_cons, List.map_cons, List.zip_cons_cons, updO, h] using ih.1, by simpa only [List.length_cons, Nat.add_sub_add_right] using ih.2⟩
 | @ren k n n' r r' hs os oa oa' h _ ih =>
  have e : Y2 (gG hs0 nx) ⟨(), n, [r]⟩ = ⟨(), n, [r']⟩ := by simp only [Y2, List.map_cons, List.map_nil, h.eq]
  exact ⟨by simpa only [List.length_cons, List.drop_succ_cons, List.take_succ_cons, List.map_cons, List.zip_cons_cons, updO, e] using ih.1, by simpa only [List.length_cons, Nat.add_sub_add_right] using ih.2⟩
inductive RtC (g : Nat → Nat) : Nat → List (L Unit) → List (L Unit) → Nat → OAsg → OAsg → Prop
 | nil {n : Nat} {oa : OAsg} : RtC g n [] [] n oa oa
 | os {α : Type} {enc : α → List (L Unit)} {n n' m : Nat} {xs : List α} {ls ls' : List (L Unit)} {oa oa' : OAsg} (ht : RtC g (n + 1) ls ls' n' ((n, some ⟨(), m, List.map enc xs⟩) :: oa) oa') : RtC g n (.os () m (List.map enc xs) :: ls) (.ref () n 0 xs.length :: ls') n' oa oa'
 | ptr {id j a b n n' : Nat} {ls ls' : List (L Unit)} {oa oa' : OAsg} (h : g id = j) (ht : RtC g n ls ls' n' oa oa') : RtC g n (.ptr () id a b :: ls) (.ptr () j a b :: ls') n' oa oa'
 | same {l : L Unit} {n n' : Nat} {ls ls' : List (L Unit)} {oa oa' : OAsg} (h : Z0k l = true) (ht : RtC g n ls ls' n' oa oa') : RtC g n (l :: ls) (l :: ls') n' oa oa'
theorem RtC.eq {g : Nat → Nat} {n n' : Nat} {ls ls' : List (L Unit)} {oa oa' : OAsg} (h : RtC g n ls ls' n' oa oa') : ∃ nobs, W1 (fun _ => ()) n (ls.map (renL g)) = (ls', nobs) ∧ Z6p nobs oa = oa' ∧ n + nobs.length = n' := by
 induction h with
 | nil => exact ⟨[], rfl, rfl, rfl⟩
 | @os α enc n n' m xs ls ls' oa oa' _ ih =>
  obtain ⟨nobs, h1, h2, h3⟩ := ih
  refine ⟨(n, ⟨(), m, List.map enc xs⟩) :: nobs, ?_, h2, by simp only [List.length_cons]; omega⟩
  simp only [List.map_cons, renL, W1, h1, List.length_map]
 | ptr h _ ih =>
  obtain ⟨nobs, h1, h2⟩ := ih
  exact ⟨nobs, by simp only [List.map_cons, renL, W1, h1, h], h2⟩
 | @same l _ _ _ _ _ _ h _ ih =>
  obtain ⟨nobs, h1, h2⟩ := ih
  have e : renL g l = l := Y8g g (Y6c h)
  refine ⟨nobs, ?_, h2⟩
  rw [List.map_cons, e]
  cases l <;> simp_all [W1, Z0k]
inductive RtUs (g : Nat → Nat) : Nat → List (U Unit) → List (U Unit) → Nat → OAsg → OAsg → Prop
 | nil {n : Nat} {oa : OAsg} : RtUs g n [] [] n oa oa
 | one {l l' : L Unit} {n n1 n' : Nat} {us us' : List (U Unit)} {oa oa1 oa' : OAsg} (h : RtC g n [l] [l'] n1 oa oa1) (ht : RtUs g n1 us us' n' oa1 oa') : RtUs g n (.one l :: us) (.one l' :: us') n' oa oa'
 | all {n n' : Nat} {ls : List (L Unit)} {us us' : List (U Unit)} {oa oa' : OAsg} (h : ls.all Z0k = true) (ht : RtUs g n us us' n' oa oa') : RtUs g n (.agg ls :: us) (.agg ls :: us') n' oa oa'
 | agg {n n1 n' : Nat} {ls ls' : List (L Unit)} {us us' : List (U Unit)} {oa oa1 oa' : OAsg} (h : RtC g n ls ls' n1 oa oa1) (ht : RtUs g n1 us us' n' oa1 oa') : RtUs g n (.agg ls :: us) (.agg ls' :: us') n' oa oa'
theorem Y2r : ∀ (a b : List (Nat × Ob Unit)) (oa : OAsg), Z6p (a ++ b) oa = Z6p b (Z6p a oa)
 | [], _, _ => rfl
 | (i, o) :: a, b, oa => by simp only [List.cons_append, Z6p]; exact Y2r a b _
theorem X1p {g : Nat → Nat} {n : Nat} : ∀ {ls : List (L Unit)}, ls.all Z0k = true → W1 (fun _ => ()) n (ls.map (renL g)) = (ls, [])
 | [], _ => rfl
 | l :: ls, h => by
  simp only [List.all_cons, Bool.and_eq_true] at h
  have e : renL g l = l := Y8g g (Y6c h.1)
  rw [List.map_cons, e]
  have := X1p (g := g) (n := n) h.2
  cases l <;> simp_all [W1, Z0k]
theorem RtUs.eq {g : Nat → Nat} {n n' : Nat} {us us' : List (U Unit)} {oa oa' : OAsg} (h : RtUs g n us us' n' oa oa') : ∃ nobs, Z5e (fun _ => ()) n (us.map (renU g)) = (us', nobs) ∧ Z6p nobs oa = oa' ∧ n + nobs.length = n' := by
 induction h with
 | nil => exact ⟨[], rfl, rfl, rfl⟩
 | one h _ ih =>
  obtain ⟨n1, h1, rfl, rfl⟩ := h.eq
  obtain ⟨n2, g1, rfl, rfl⟩ := ih
  simp only [List.map_cons, List.map_nil] at h1
  exact ⟨n1 ++ n2, by simp only [List.map_cons, renU, Z5e, Y0m, h1, g1], Y2r _ _ _, by simp only [List.length_append]; omega⟩
 | all h _ ih =>
  obtain ⟨n2, g1, rfl, rfl⟩ := ih
  exact ⟨n2, by simp only [List.map_cons, renU, Z5e, Y0m, X1p h, List.length_nil, Nat.add_zero, g1, List.nil_append], rfl, rfl⟩
 | agg h _ ih =>
  obtain ⟨n1, h1, rfl, rfl⟩ := h.eq
  obtain ⟨n2, g1, rfl, rfl⟩ := ih
  exact ⟨n1 ++ n2, by simp only [List.map_cons, renU, Z5e, Y0m, h1, g1], Y2r _ _ _, by simp only [List.length_append]; omega⟩
inductive RtV (g : Nat → Nat) : Nat → V Unit → V Unit → Nat → OAsg → OAsg → Prop
 | u {u u' : U Unit} {n n' : Nat} {oa oa' : OAsg} (h : RtUs g n [u] [u'] n' oa oa') : RtV g n (.u u) (.u u') n' oa oa'
 | tup {us us' : List (U Unit)} {n n' : Nat} {oa oa' : OAsg} (h : RtUs g n us us' n' oa oa') : RtV g n (.tup us) (.tup us') n' oa oa'
theorem RtV.eq {g : Nat → Nat} {n n' : Nat} {v v' : V Unit} {oa oa' : OAsg} (h : RtV g n v v' n' oa oa') : ∃ nobs, Z4a (fun _ => ()) n (renV g v) = (v', nobs) ∧ Z6p nobs oa = oa' ∧ n + nobs.length = n' := by
 cases h with
 | u h =>
  obtain ⟨nobs, h1, h2, h3⟩ := h.eq
  simp only [List.map_cons, List.map_nil, Z5e, Prod.mk.injEq, List.cons.injEq, and_true, List.append_nil] at h1
  exact ⟨nobs, by simp only [renV, Z4a, h1.1, h1.2], h2, h3⟩
 | tup h =>
  obtain ⟨nobs, h1, h2, h3⟩ := h.eq
  exact ⟨nobs, by simp only [renV, Z4a, h1], h2, h3⟩
theorem ko_c {n : Nat} {o : Ob Unit} {os : List (Ob Unit)} (h : Z0p n o.rows = true) (ht : os.all (fun ob => Z0p n ob.rows) = true) : (o :: os).all (fun ob => Z0p n ob.rows) = true := by simp only [List.all_cons, h, ht, Bool.and_self]
end
section
theorem im_z : ([] : List (L Unit)).all Z4d = true := rfl
theorem im_c {l : L Unit} {ls : List (L Unit)} (h : Z4d l = true) (ht : ls.all Z4d = true) : (l :: ls).all Z4d = true := by rw [List.all_cons, h, ht]; rfl
theorem im_u {u : U Unit} (h : (Z1 u).all Z4d = true) : Z2h (.u u) = true := h
theorem im_n : Z2h (.tup []) = true := rfl
theorem im_t {u : U Unit} {us : List (U Unit)} (h : (Z1 u).all Z4d = true) (ht : Z2h (.tup us) = true) : Z2h (.tup (u :: us)) = true := by
 simp only [Z2h, Z3, List.flatMap_cons, List.all_append, h, Bool.true_and] at ht ⊢; exact ht
section
variable {P : Program} {N nx : Nat} {asg : Asg} {oa oa1 oa2 : OAsg} {K : S Unit → Prop} {dst : Option Nat} {ty : TypeId} {pos : String} {aft : Array Edge} {x : Operand} {args : Array Operand} {ats : Array TypeId} {f : FuncId} {us : List (U Unit)} {r v : V Unit} {n1 n2 : Nat} {obs obs' : List (Ob Unit)}
theorem up_eq {hs : List Nat} (hup : UpG hs nx hs obs' oa oa1 n1) (hrt : RtV (gG hs nx) n1 r v n2 oa1 oa2) : ∃ nobs, Z4a (fun _ => ()) (nx + (obs'.length - hs.length)) (renV (gG hs nx) r) = (v, nobs) ∧ oaG (gG hs nx) nx hs obs' nobs oa = oa2 ∧ nx + (obs'.length - hs.length + nobs.length) = n2 := by
 obtain ⟨h1, h2⟩ := hup.eq
 subst h2
 obtain ⟨nobs, h3, h4, h5⟩ := hrt.eq
 exact ⟨nobs, h3, by rw [oaG, h1, h4], by omega⟩
theorem cG (hs : List Nat) (hsim : Sim P f us obs r obs') (hK : K (St N (dstA dst v asg) oa2 n2))
  (hf : ev N asg x = some (.u (.one (.fn () f []))) := by rfl) (hnd : hs.Nodup := by decide) (hh : All2 (fun h ob => lko oa nx h = some (Y2 (gG hs nx) ob)) hs obs := by repeat first | exact h_n | refine h_c (by first | rfl | exact hrow rfl) ?_) (hkn : obs.all (fun ob => Z0p hs.length ob.rows) = true := by repeat first | exact rfl | refine ko_c (by first | exact K6 _ _ | rfl) ?_)
  (ha : ArgsG (St N asg oa nx) (gG hs nx) hs false args.toList us := by repeat first | exact g_n | refine g_1 rfl rfl rfl ?_ | refine g_a rfl rfl rfl ?_ | refine g_an rfl (by repeat first | exact .nil | refine .cons (.same rfl) ?_ | refine .cons .nl ?_) rfl ?_) [hent : EntC P f] (hn : (obs'.take hs.length).map (·.n) = obs.map (·.n) := by rfl)
  (hup : UpG hs nx hs obs' oa oa1 n1 := by repeat first | exact UpG.nil NewG.nil | (apply UpG.same; (first | exact Z3b _ _ _ | exact rfl)) | (apply UpG.ren; (repeat first | exact RenC.nil | (apply RenC.same; exact rfl) | (apply RenC.ptr; exact rfl) | (apply RenC.ref; exact rfl))) | apply UpG.nil | exact NewG.nil | (apply NewG.same; (first | exact Z3b _ _ _ | exact rfl)))
  (hrt : RtV (gG hs nx) n1 r v n2 oa1 oa2 := by (first | apply RtV.u | apply RtV.tup); (repeat first | exact RtUs.nil | (apply RtUs.all; exact rfl) | (apply RtUs.one; (repeat first | exact RtC.nil | (apply RtC.same; exact rfl) | apply RtC.os | (apply RtC.ptr; exact rfl))) | (apply RtUs.agg; (repeat first | exact RtC.nil | (apply RtC.same; exact rfl) | apply RtC.os | (apply RtC.ptr; exact rfl))))) : aopK (sysA P) 0 ⟨dst, .call ⟨.value x, args, ats⟩, ty, pos, aft, none⟩ (St N asg oa nx) K := by
 obtain ⟨nobs, h1, h2, h3⟩ := up_eq hup hrt
 exact x_cg (caps := []) (cs := []) hs false hf hnd hh hkn ha rfl rfl hent.h (by simpa using hsim) (.inl rfl) hn h1 h2 h3 hK
theorem cgG (hs : List Nat) (hsim : Sim P f us obs r obs') (hK : K (St N (dstA dst v asg) oa2 n2))
  (hf : ev N asg x = some (.u (.one (.fn () f []))) := by rfl) (hnd : hs.Nodup := by decide) (hh : All2 (fun h ob => lko oa nx h = some (Y2 (gG hs nx) ob)) hs obs := by repeat first | exact h_n | refine h_c (by first | rfl | exact hrow rfl) ?_) (hkn : obs.all (fun ob => Z0p hs.length ob.rows) = true := by repeat first | exact rfl | refine ko_c (by first | exact K6 _ _ | rfl) ?_)
  (ha : ArgsG (St N asg oa nx) (gG hs nx) hs false args.toList us := by repeat first | exact g_n | refine g_1 rfl rfl rfl ?_ | refine g_a rfl rfl rfl ?_ | refine g_an rfl (by repeat first | exact .nil | refine .cons (.same rfl) ?_ | refine .cons .nl ?_) rfl ?_) [hent : EntC P f] (hn : (obs'.take hs.length).map (·.n) = obs.map (·.n) := by rfl)
  (hup : UpG hs nx hs obs' oa oa1 n1 := by repeat first | exact UpG.nil NewG.nil | (apply UpG.same; (first | exact Z3b _ _ _ | exact rfl)) | (apply UpG.ren; (repeat first | exact RenC.nil | (apply RenC.same; exact rfl) | (apply RenC.ptr; exact rfl) | (apply RenC.ref; exact rfl))) | apply UpG.nil | exact NewG.nil | (apply NewG.same; (first | exact Z3b _ _ _ | exact rfl)))
  (hrt : RtV (gG hs nx) n1 r v n2 oa1 oa2 := by (first | apply RtV.u | apply RtV.tup); (repeat first | exact RtUs.nil | (apply RtUs.all; exact rfl) | (apply RtUs.one; (repeat first | exact RtC.nil | (apply RtC.same; exact rfl) | apply RtC.os | (apply RtC.ptr; exact rfl))) | (apply RtUs.agg; (repeat first | exact RtC.nil | (apply RtC.same; exact rfl) | apply RtC.os | (apply RtC.ptr; exact rfl))))) : aopK (sysG P) 0 ⟨dst, .call ⟨.value x, args, ats⟩, ty, pos, aft, none⟩ (St N asg oa nx) K := by
 obtain ⟨nobs, h1, h2, h3⟩ := up_eq hup hrt
 exact x_cgG (caps := []) (cs := []) hs false hf hnd hh hkn ha rfl rfl hent.h (by simpa using hsim) (.inl rfl) hn h1 h2 h3 hK
theorem cO (hs cons : List Nat) (hsim : Sim P f us obs r obs') (hK : K (St N (dstA dst v asg) oa2 n2))
  (hf : ev N asg x = some (.u (.one (.fn () f []))) := by rfl) (hnd : (hs ++ cons).Nodup := by decide) (hh : All2 (fun h ob => lko oa nx h = some (Y2 (gG hs nx) ob)) hs obs := by repeat first | exact h_n | refine h_c (by first | rfl | exact hrow rfl) ?_) (hkn : obs.all (fun ob => Z0p hs.length ob.rows) = true := by repeat first | exact rfl | refine ko_c (by first | exact K6 _ _ | rfl) ?_)
  (ha : ArgsO (St N asg oa nx) (gG hs nx) hs args.toList us cons := by repeat first | exact q_n | refine q_1 rfl rfl rfl ?_ | refine q_a rfl rfl rfl ?_ | refine q_o rfl rfl (by first | rfl | simp) ?_) [hent : EntC P f] (hn : (obs'.take hs.length).map (·.n) = obs.map (·.n) := by rfl)
  (hup : UpG hs nx hs obs' (delO cons oa) oa1 n1 := by repeat first | exact UpG.nil NewG.nil | (apply UpG.same; (first | exact Z3b _ _ _ | exact rfl)) | (apply UpG.ren; (repeat first | exact RenC.nil | (apply RenC.same; exact rfl) | (apply RenC.ptr; exact rfl) | (apply RenC.ref; exact rfl))) | apply UpG.nil | exact NewG.nil | (apply NewG.same; (first | exact Z3b _ _ _ | exact rfl)))
  (hrt : RtV (gG hs nx) n1 r v n2 oa1 oa2 := by (first | apply RtV.u | apply RtV.tup); (repeat first | exact RtUs.nil | (apply RtUs.all; exact rfl) | (apply RtUs.one; (repeat first | exact RtC.nil | (apply RtC.same; exact rfl) | apply RtC.os | (apply RtC.ptr; exact rfl))) | (apply RtUs.agg; (repeat first | exact RtC.nil | (apply RtC.same; exact rfl) | apply RtC.os | (apply RtC.ptr; exact rfl))))) : aopK (sysA P) 0 ⟨dst, .call ⟨.value x, args, ats⟩, ty, pos, aft, none⟩ (St N asg oa nx) K := by
 obtain ⟨nobs, h1, h2, h3⟩ := up_eq hup hrt
 exact x_co (caps := []) (cs := []) hs cons hf hnd hh hkn ha rfl rfl hent.h (by simpa using hsim) hn h1 h2 h3 hK
theorem cB {t : Nat} (hsim : Sim P f us [] r []) (hK : K (St N ((t, v) :: asg) oa2 n2)) (hf : ev N asg x = some (.u (.one (.fn () f []))) := by rfl) (ha : BorA N asg oa nx args.toList us := by repeat first | exact a_n | refine a_1 rfl (by first | exact b_s rfl | exact b_r rfl | exact b_rd rfl | exact b_ip | exact b_p rfl (by first | exact Z8w rfl | (repeat first | exact c_n | refine c_c (by first | exact b_s rfl | exact b_r rfl | exact b_rd rfl) ?_)) rfl) ?_ | refine a_a rfl (by first | exact Z8w rfl | (repeat first | exact c_n | refine c_c (by first | exact b_s rfl | exact b_r rfl | exact b_rd rfl | exact b_ip | exact b_p rfl (by first | exact Z8w rfl | (repeat first | exact c_n | refine c_c (by first | exact b_s rfl | exact b_r rfl | exact b_rd rfl) ?_)) rfl) ?_)) ?_)
  [hent : EntC P f] (himf : Z2h r = true := by first | rfl | (repeat first | exact im_n | refine im_t (by repeat first | exact im_z | refine im_c (by first | rfl | exact Y3i _) ?_) ?_ | refine im_u (by repeat first | exact im_z | refine im_c (by first | rfl | exact Y3i _) ?_)))
  (hrt : RtV (fun i => i) nx r v n2 oa oa2 := by (first | apply RtV.u | apply RtV.tup); (repeat first | exact RtUs.nil | (apply RtUs.all; exact rfl) | (apply RtUs.one; (repeat first | exact RtC.nil | (apply RtC.same; exact rfl) | apply RtC.os | (apply RtC.ptr; exact rfl))) | (apply RtUs.agg; (repeat first | exact RtC.nil | (apply RtC.same; exact rfl) | apply RtC.os | (apply RtC.ptr; exact rfl))))) : aopK (sysC P) 0 ⟨some t, .call ⟨.value x, args, ats⟩, ty, pos, aft, none⟩ (St N asg oa nx) K := by
 obtain ⟨nobs, h1, h2, h3⟩ := hrt.eq
 rw [W1z] at h1
 exact Z0b (caps := []) (cs := []) hf ha c_n hent.h (by simpa using hsim) himf h1 h2 h3 hK
end
section
variable {P : Program} {B : Bd} {N nx : Nat} {asg asg' : Asg} {oa oa' oa2 : OAsg}
theorem vW (l : List Nat) (hA : SubA l asg asg' := by repeat first | exact SubA.nil | refine SubA.cons rfl rfl ?_ | refine SubA.cons (by simp only [List.length_set]; rfl) rfl ?_) (hO : SubO l oa nx oa' := by repeat first | exact SubO.nil | refine SubO.map rfl ?_ | refine SubO.lit rfl rfl ?_ | refine SubO.setr rfl rfl rfl ?_ | refine SubO.setr (hc := rfl) (hk := rfl) (h := by simp only [List.length_set]; rfl) ?_ | refine SubO.lit (by simp only [List.length_set]; rfl) rfl ?_) (hn : l.Nodup := by decide) (hB : ∀ i, i < B.n0 → l[i]? = some i := by first | exact hB_0 hB0 | exact hB_n _ hB0 rfl) :
  GhB B (St N asg oa nx) (St N asg' oa' l.length) := w_ l hA hO hn hB
theorem rG {rs : List ResultVar} {us us' : List (U Unit)} {us2 : List (U Unit)} {r : V Unit} {e : Exit} {n2 k0 : Nat} {obs obs' : List (Ob Unit)} (ids : List Nat) (hg : Z9a P (St N asg oa nx).sl (look (St N asg oa nx).ob) rs = some us → GhB B (Rt us oa nx) (Rt us2 oa2 n2)) (hrr : resR us' = r)
  (hr : Z9a P (St N asg oa nx).sl (look (St N asg oa nx).ob) rs = some us) (he : (match e with | .normal => true | .ret => true | _ => false) = true)
  (hu : us2 = us'.map (renU (gG ids 0))) (hh : All2 (fun h ob => lko oa2 n2 h = some (Y2 (gG ids 0) ob)) ids obs') (hnd : ids.Nodup) (hkr : obs'.all (fun o => Z0p ids.length o.rows) = true)
  (hB : B.n0 = k0) (hpre : ids.take k0 = List.range k0) (hk0 : Nat.ble k0 ids.length = true) (hk : us'.all (fun u => (Z1 u).all fun l => (idsL l).all fun i => Nat.blt i ids.length) = true)
  (hs : (obs'.take obs.length).map Z8g = obs.map Z8g) (hl : Nat.ble obs.length obs'.length = true) : RetQ P B rs obs r obs' e (St N asg oa nx) := by
 have hlen := Z3g hh
 rw [hlen] at hk hkr
 exact retG he hr ((hg hr).trans (by have := f_end (B := B) ids hu hh hnd (by rw [hlen]; exact hk) (by rw [hlen]; exact hkr) hB hpre hk0; exact this)) hrr hs hl hk hkr
theorem rG1 {rs : List ResultVar} {us : List (U Unit)} {u : U Unit} {e : Exit} {k0 : Nat} {obs obs' : List (Ob Unit)} (ids : List Nat) (hr : Z9a P (St N asg oa nx).sl (look (St N asg oa nx).ob) rs = some us := by repeat first | exact Y9s | (apply Y9r; exact rfl; exact rfl; exact rfl) | (apply Y7d; exact rfl; exact FacT.h; exact rfl; exact rfl; exact rfl; (first | exact J0 rfl rfl | exact rfl); exact rfl)) (he : (match e with | .normal => true | .ret => true | _ => false) = true := by rfl)
  (hu : us = [u].map (renU (gG ids 0)) := by rfl) (hh : All2 (fun h ob => lko oa nx h = some (Y2 (gG ids 0) ob)) ids obs' := by repeat first | exact h_n | refine h_c (by first | rfl | exact hrow rfl) ?_) (hnd : ids.Nodup := by decide) (hkr : obs'.all (fun o => Z0p ids.length o.rows) = true := by repeat first | exact rfl | refine ko_c (by first | exact K6 _ _ | rfl) ?_)
  (hB : B.n0 = k0 := by exact hB0) (hpre : ids.take k0 = List.range k0 := by rfl) (hk0 : Nat.ble k0 ids.length = true := by rfl) (hk : [u].all (fun u => (Z1 u).all fun l => (idsL l).all fun i => Nat.blt i ids.length) = true := by rfl)
  (hs : (obs'.take obs.length).map Z8g = obs.map Z8g := by rfl) (hl : Nat.ble obs.length obs'.length = true := by rfl) : RetQ P B rs obs (.u u) obs' e (St N asg oa nx) :=
 rG (us' := [u]) ids (fun _ => GhB.refl _ _) rfl hr he hu hh hnd hkr hB hpre hk0 hk hs hl
theorem rG1h {rs : List ResultVar} {us us2 : List (U Unit)} {u : U Unit} {e : Exit} {n2 k0 : Nat} {obs obs' : List (Ob Unit)} (ids : List Nat) (hr : Z9a P (St N asg oa nx).sl (look (St N asg oa nx).ob) rs = some us := by repeat first | exact Y9s | (apply Y9r; exact rfl; exact rfl; exact rfl) | (apply Y7d; exact rfl; exact FacT.h; exact rfl; exact rfl; exact rfl; (first | exact J0 rfl rfl | exact rfl); exact rfl)) (he : (match e with | .normal => true | .ret => true | _ => false) = true := by rfl)
  (hg : GhB B (Rt us oa nx) (Rt us2 oa2 n2)) (hu : us2 = [u].map (renU (gG ids 0)) := by rfl) (hh : All2 (fun h ob => lko oa2 n2 h = some (Y2 (gG ids 0) ob)) ids obs' := by repeat first | exact h_n | refine h_c (by first | rfl | exact hrow rfl) ?_) (hnd : ids.Nodup := by decide) (hkr : obs'.all (fun o => Z0p ids.length o.rows) = true := by repeat first | exact rfl | refine ko_c (by first | exact K6 _ _ | rfl) ?_)
  (hB : B.n0 = k0 := by exact hB0) (hpre : ids.take k0 = List.range k0 := by rfl) (hk0 : Nat.ble k0 ids.length = true := by rfl) (hk : [u].all (fun u => (Z1 u).all fun l => (idsL l).all fun i => Nat.blt i ids.length) = true := by rfl)
  (hs : (obs'.take obs.length).map Z8g = obs.map Z8g := by rfl) (hl : Nat.ble obs.length obs'.length = true := by rfl) : RetQ P B rs obs (.u u) obs' e (St N asg oa nx) :=
 rG (us' := [u]) ids (fun _ => hg) rfl hr he hu hh hnd hkr hB hpre hk0 hk hs hl
theorem rGt {rs : List ResultVar} {us us' : List (U Unit)} {e : Exit} {k0 : Nat} {obs obs' : List (Ob Unit)} (ids : List Nat) (hr : Z9a P (St N asg oa nx).sl (look (St N asg oa nx).ob) rs = some us := by repeat first | exact Y9s | (apply Y9r; exact rfl; exact rfl; exact rfl) | (apply Y7d; exact rfl; exact FacT.h; exact rfl; exact rfl; exact rfl; (first | exact J0 rfl rfl | exact rfl); exact rfl)) (he : (match e with | .normal => true | .ret => true | _ => false) = true := by rfl)
  (hu : us = us'.map (renU (gG ids 0)) := by rfl) (hh : All2 (fun h ob => lko oa nx h = some (Y2 (gG ids 0) ob)) ids obs' := by repeat first | exact h_n | refine h_c (by first | rfl | exact hrow rfl) ?_) (hnd : ids.Nodup := by decide) (hkr : obs'.all (fun o => Z0p ids.length o.rows) = true := by repeat first | exact rfl | refine ko_c (by first | exact K6 _ _ | rfl) ?_)
  (hB : B.n0 = k0 := by exact hB0) (hpre : ids.take k0 = List.range k0 := by rfl) (hk0 : Nat.ble k0 ids.length = true := by rfl) (hk : us'.all (fun u => (Z1 u).all fun l => (idsL l).all fun i => Nat.blt i ids.length) = true := by rfl)
  (hs : (obs'.take obs.length).map Z8g = obs.map Z8g := by rfl) (hl : Nat.ble obs.length obs'.length = true := by rfl) (hrr : resR us' = .tup us' := by rfl) : RetQ P B rs obs (.tup us') obs' e (St N asg oa nx) :=
 rG (us' := us') ids (fun _ => GhB.refl _ _) hrr hr he hu hh hnd hkr hB hpre hk0 hk hs hl
theorem rGth {rs : List ResultVar} {us us' us2 : List (U Unit)} {e : Exit} {n2 k0 : Nat} {obs obs' : List (Ob Unit)} (ids : List Nat) (hr : Z9a P (St N asg oa nx).sl (look (St N asg oa nx).ob) rs = some us := by repeat first | exact Y9s | (apply Y9r; exact rfl; exact rfl; exact rfl) | (apply Y7d; exact rfl; exact FacT.h; exact rfl; exact rfl; exact rfl; (first | exact J0 rfl rfl | exact rfl); exact rfl)) (he : (match e with | .normal => true | .ret => true | _ => false) = true := by rfl)
  (hg : GhB B (Rt us oa nx) (Rt us2 oa2 n2)) (hu : us2 = us'.map (renU (gG ids 0)) := by rfl) (hh : All2 (fun h ob => lko oa2 n2 h = some (Y2 (gG ids 0) ob)) ids obs' := by repeat first | exact h_n | refine h_c (by first | rfl | exact hrow rfl) ?_) (hnd : ids.Nodup := by decide) (hkr : obs'.all (fun o => Z0p ids.length o.rows) = true := by repeat first | exact rfl | refine ko_c (by first | exact K6 _ _ | rfl) ?_)
  (hB : B.n0 = k0 := by exact hB0) (hpre : ids.take k0 = List.range k0 := by rfl) (hk0 : Nat.ble k0 ids.length = true := by rfl) (hk : us'.all (fun u => (Z1 u).all fun l => (idsL l).all fun i => Nat.blt i ids.length) = true := by rfl)
  (hs : (obs'.take obs.length).map Z8g = obs.map Z8g := by rfl) (hl : Nat.ble obs.length obs'.length = true := by rfl) (hrr : resR us' = .tup us' := by rfl) : RetQ P B rs obs (.tup us') obs' e (St N asg oa nx) :=
 rG (us' := us') ids (fun _ => hg) hrr hr he hu hh hnd hkr hB hpre hk0 hk hs hl
theorem rZ1 {rs : List ResultVar} {us : List (U Unit)} {u : U Unit} {e : Exit} (hr : Z9a P (St N asg oa nx).sl (look (St N asg oa nx).ob) rs = some us := by repeat first | exact Y9s | (apply Y9r; exact rfl; exact rfl; exact rfl) | (apply Y7d; exact rfl; exact FacT.h; exact rfl; exact rfl; exact rfl; (first | exact J0 rfl rfl | exact rfl); exact rfl)) (he : (match e with | .normal => true | .ret => true | _ => false) = true := by rfl) (hu : us = [u] := by rfl)
  (hk : [u].all (fun u => (Z1 u).all fun l => (idsL l).isEmpty) = true := by rfl) : RetQ P B rs [] (.u u) [] e (St N asg oa nx) := by
 subst hu; exact ret0 (us' := [u]) he hr X0p rfl hk
theorem rZ1h {rs : List ResultVar} {us us2 : List (U Unit)} {u : U Unit} {e : Exit} {n2 : Nat} (hr : Z9a P (St N asg oa nx).sl (look (St N asg oa nx).ob) rs = some us := by repeat first | exact Y9s | (apply Y9r; exact rfl; exact rfl; exact rfl) | (apply Y7d; exact rfl; exact FacT.h; exact rfl; exact rfl; exact rfl; (first | exact J0 rfl rfl | exact rfl); exact rfl)) (he : (match e with | .normal => true | .ret => true | _ => false) = true := by rfl) (hg : GhB B (Rt us oa nx) (Rt us2 oa2 n2)) (hu : us2 = [u] := by rfl)
  (hk : [u].all (fun u => (Z1 u).all fun l => (idsL l).isEmpty) = true := by rfl) : RetQ P B rs [] (.u u) [] e (St N asg oa nx) := by
 subst hu; exact ret0 (us' := [u]) he hr (hg.trans X0p) rfl hk
theorem rZt {rs : List ResultVar} {us us' : List (U Unit)} {e : Exit} (hr : Z9a P (St N asg oa nx).sl (look (St N asg oa nx).ob) rs = some us := by repeat first | exact Y9s | (apply Y9r; exact rfl; exact rfl; exact rfl) | (apply Y7d; exact rfl; exact FacT.h; exact rfl; exact rfl; exact rfl; (first | exact J0 rfl rfl | exact rfl); exact rfl)) (he : (match e with | .normal => true | .ret => true | _ => false) = true := by rfl) (hu : us = us' := by rfl)
  (hk : us'.all (fun u => (Z1 u).all fun l => (idsL l).isEmpty) = true := by rfl) (hrr : resR us' = .tup us' := by rfl) : RetQ P B rs [] (.tup us') [] e (St N asg oa nx) := by
 subst hu; exact ret0 he hr X0p hrr hk
theorem rZth {rs : List ResultVar} {us us' us2 : List (U Unit)} {e : Exit} {n2 : Nat} (hr : Z9a P (St N asg oa nx).sl (look (St N asg oa nx).ob) rs = some us := by repeat first | exact Y9s | (apply Y9r; exact rfl; exact rfl; exact rfl) | (apply Y7d; exact rfl; exact FacT.h; exact rfl; exact rfl; exact rfl; (first | exact J0 rfl rfl | exact rfl); exact rfl)) (he : (match e with | .normal => true | .ret => true | _ => false) = true := by rfl) (hg : GhB B (Rt us oa nx) (Rt us2 oa2 n2)) (hu : us2 = us' := by rfl)
  (hk : us'.all (fun u => (Z1 u).all fun l => (idsL l).isEmpty) = true := by rfl) (hrr : resR us' = .tup us' := by rfl) : RetQ P B rs [] (.tup us') [] e (St N asg oa nx) := by
 subst hu; exact ret0 he hr (hg.trans X0p) hrr hk
end
section
variable {B : Bd} {N nx : Nat} {asg : Asg} {oa : OAsg} {us : List (U Unit)} {n m len : Nat} {r r' : List (L Unit)} {rows2 : List (List (L Unit))}
theorem Y3z {r r' : List (L Unit)} {j : Nat} {l : L Unit} (h : SetR r j l r') : [r].set 0 (r.set j l) = [r'] := by rw [h.eq]; rfl
theorem q_op {α : Type} {enc : α → List (L Unit)} {xs : List α} (id j : Nat) (ho : lko oa nx id = some ⟨(), n, [r]⟩ := by rfl) (hj : r[j]? = some (.os () m (List.map enc xs)) := by rfl) (hs : SetR r j (.ref () nx 0 xs.length) r' := by repeat first | exact SetR.z | apply SetR.s) :
  GhB B (St N asg oa nx) (St N asg ((id, some ⟨(), n, [r']⟩) :: (nx, some ⟨(), m, List.map enc xs⟩) :: oa) (nx + 1)) := f_op id 0 j ho rfl hj (List.length_map _).symm (Y3z hs)
theorem q_cl {α : Type} {enc : α → List (L Unit)} [EncO enc] {xs : List α} (id id2 j : Nat) (ho : lko oa nx id = some ⟨(), n, [r]⟩ := by rfl) (ho2 : lko oa nx id2 = some ⟨(), m, List.map enc xs⟩ := by rfl) (hj : r[j]? = some (.ref () id2 0 len) := by rfl) (hl : len = (List.map enc xs).length := by first | rfl | simp) (hs : SetR r j (.os () m (List.map enc xs)) r' := by repeat first | exact SetR.z | apply SetR.s)
  (hne : Nat.beq id id2 = false := by rfl) : GhB B (St N asg oa nx) (St N asg ((id, some ⟨(), n, [r']⟩) :: (id2, none) :: oa) nx) := f_cl id id2 0 j hne ho ho2 (Z3d xs) rfl hj hl (Y3z hs)
theorem W2f (id j m : Nat) (ho : lko oa nx id = some ⟨(), n, [r]⟩ := by rfl) (hj : r[j]? = some .nl := by rfl) (hs : SetR r j (.ref () nx 0 0) r' := by repeat first | exact SetR.z | apply SetR.s) :
  GhB B (St N asg oa nx) (St N asg ((id, some ⟨(), n, [r']⟩) :: (nx, some ⟨(), m, []⟩) :: oa) (nx + 1)) := f_nlc id 0 j m ho rfl hj (Y3z hs)
theorem q_cb {α : Type} {e e' : α → List (L Unit)} [EncO e] [EncD e e'] {xs : List α} (id j : Nat) (ho : lko oa nx id = some ⟨(), n, [r]⟩ := by rfl) (hj : r[j]? = some (.os () m (xs.map e)) := by rfl) (hs : SetR r j (.bs () m (xs.map e')) r' := by repeat first | exact SetR.z | apply SetR.s) :
  GhB B (St N asg oa nx) (St N asg ((id, some ⟨(), n, [r']⟩) :: oa) nx) := f_cb id 0 j ho rfl hj (Y3z hs)
theorem q_nlcR (id j m : Nat) (ho : lko oa nx id = some ⟨(), n, [r]⟩ := by rfl) (hj : r[j]? = some .nl := by rfl) (hs : SetR r j (.ref () nx 0 0) r' := by repeat first | exact SetR.z | apply SetR.s) :
  GhB B (Rt us oa nx) (Rt us ((id, some ⟨(), n, [r']⟩) :: (nx, some ⟨(), m, []⟩) :: oa) (nx + 1)) := f_nlcR id 0 j m ho rfl hj (Y3z hs)
theorem q_cz (id id2 j : Nat) (ho : lko oa nx id = some ⟨(), n, [r]⟩ := by rfl) (ho2 : lko oa nx id2 = some ⟨(), m, []⟩ := by rfl) (hj : r[j]? = some (.ref () id2 0 0) := by rfl) (hs : SetR r j (.os () m []) r' := by repeat first | exact SetR.z | apply SetR.s)
  (hne : Nat.beq id id2 = false := by rfl) : GhB B (St N asg oa nx) (St N asg ((id, some ⟨(), n, [r']⟩) :: (id2, none) :: oa) nx) := f_cl id id2 0 j hne ho ho2 rfl rfl hj rfl (Y3z hs)
theorem q_czR (id id2 j : Nat) (ho : lko oa nx id = some ⟨(), n, [r]⟩ := by rfl) (ho2 : lko oa nx id2 = some ⟨(), m, []⟩ := by rfl) (hj : r[j]? = some (.ref () id2 0 0) := by rfl) (hs : SetR r j (.os () m []) r' := by repeat first | exact SetR.z | apply SetR.s)
  (hne : Nat.beq id id2 = false := by rfl) : GhB B (Rt us oa nx) (Rt us ((id, some ⟨(), n, [r']⟩) :: (id2, none) :: oa) nx) := W6f id id2 0 j hne ho ho2 rfl rfl hj rfl (Y3z hs)
theorem X5f {α β : Type} [Inhabited α] {enc : α → List (L Unit)} {e2 : β → List (L Unit)} {xs : List α} {ys : List β} {ix : Int} (id j : Nat) (hx : 0 ≤ ix ∧ ix < (xs.length : Int)) (ho : lko oa nx id = some ⟨(), n, List.map enc xs⟩ := by rfl) (hj : (enc (at_ xs ix))[j]? = some (.os () m (List.map e2 ys)) := by rfl)
  (hs : SetR (enc (at_ xs ix)) j (.ref () nx 0 ys.length) r' := by repeat first | exact SetR.z | apply SetR.s) : GhB B (St N asg oa nx) (St N asg ((id, some ⟨(), n, (List.map enc xs).set ix.toNat r'⟩) :: (nx, some ⟨(), m, List.map e2 ys⟩) :: oa) (nx + 1)) := f_op id ix.toNat j ho (map_get hx) hj (List.length_map _).symm (by rw [hs.eq])
theorem q_opS {α β : Type} {enc : α → List (L Unit)} {e2 : β → List (L Unit)} {xs : List α} {ys : List β} {ix : Int} (id j : Nat) (hx : 0 ≤ ix ∧ ix < (xs.length : Int)) (ho : lko oa nx id = some ⟨(), n, (List.map enc xs).set ix.toNat r⟩ := by rfl) (hj : r[j]? = some (.os () m (List.map e2 ys)) := by rfl)
  (hs : SetR r j (.ref () nx 0 ys.length) r' := by repeat first | exact SetR.z | apply SetR.s) : GhB B (St N asg oa nx) (St N asg ((id, some ⟨(), n, (List.map enc xs).set ix.toNat r'⟩) :: (nx, some ⟨(), m, List.map e2 ys⟩) :: oa) (nx + 1)) := f_op id ix.toNat j ho (Z4i hx) hj (List.length_map _).symm (by rw [hs.eq, X7z])
theorem W2g {α β : Type} {enc : α → List (L Unit)} {e2 : β → List (L Unit)} [EncO e2] {xs : List α} {ys : List β} {ix : Int} (v : α) (id id2 j : Nat) (hx : 0 ≤ ix ∧ ix < (xs.length : Int)) (ho : lko oa nx id = some ⟨(), n, (List.map enc xs).set ix.toNat r⟩ := by rfl) (ho2 : lko oa nx id2 = some ⟨(), m, List.map e2 ys⟩ := by rfl) (hj : r[j]? = some (.ref () id2 0 len) := by rfl)
  (hl : len = (List.map e2 ys).length := by first | rfl | simp) (hs : r.set j (.os () m (List.map e2 ys)) = enc v := by rfl) (hne : Nat.beq id id2 = false := by rfl) : GhB B (St N asg oa nx) (St N asg ((id, some ⟨(), n, List.map enc (xs.set ix.toNat v)⟩) :: (id2, none) :: oa) nx) :=
 f_cl id id2 ix.toNat j hne ho ho2 (Z3d ys) (Z4i hx) hj hl (Y8e hs)
theorem q_nb {c c' : List (L Unit)} (t j m : Nat) (hN : Nat.blt t N = true := by rfl) (ht : lkp asg t = some (.u (.agg c)) := by rfl) (hj : c[j]? = some .nl := by rfl) (hs : SetR c j (.bs () m []) c' := by repeat first | exact SetR.z | apply SetR.s) : GhB B (St N asg oa nx) (St N ((t, .u (.agg c')) :: asg) oa nx) :=
 f_nb t j m hN ht hj (by simp only [Z1j, hs.eq])
end
abbrev vI (n : Int) : V Unit := .u (.one (.int .i64 n))
abbrev vB (b : Bool) : V Unit := .u (.one (.bool b))
abbrev vP (i : Nat) : V Unit := .u (.one (.ptr () i 0 0))
abbrev vR (i n : Nat) : V Unit := .u (.one (.ref () i 0 n))
abbrev oM {α : Type} (n : Nat) (enc : α → List (L Unit)) (xs : List α) : Option (Ob Unit) := some ⟨(), n, List.map enc xs⟩
abbrev oL (n : Nat) (r : List (L Unit)) : Option (Ob Unit) := some ⟨(), n, [r]⟩
theorem gH {P : Program} {B : Bd} {c : Code} {Q : Exit → S Unit → Prop} {s s' : S Unit} (hg : GhB B s s') (h : Wp (P := P) B c Q s') : Wp (P := P) B c Q s := Wp.ghb s' hg h
theorem lP {P : Program} {B : Bd} {c : Code} {Q : Exit → S Unit → Prop} {s : S Unit} {σ ρ : Type} {body : σ → Option (σ ⊕ ρ)} {st0 : σ} {r : ρ} (hl : Y6 body st0 = some r) (S' : σ → S Unit) (R : ρ → Exit × S Unit) (h0 : GhB B s (S' st0))
  (round : ∀ st x, body st = some x → Wp (P := P) B c (fun e s' => match x with | .inl st' => e = .normal ∧ GhB B s' (S' st') | .inr r' => e = (R r').1 ∧ GhB B s' (R r').2) (S' st))
  (hQ : Q (R r).1 (R r).2) (hx : ∀ y, (R y).1 ≠ .normal := by intro y; simp) : Wp (P := P) B (.loop c) Q s := J7 hl S' R h0 round hx hQ
theorem fN {P : Program} {f : FuncId} {F : Func} {c : Code} {args : List (U Unit)} {obs obs' : List (Ob Unit)} {r : V Unit} (N k0 : Nat) (hf : P.funcs[f]? = some F) (rs : List ResultVar)
  (hw : ∀ B, B.n0 = k0 → Wp (P := P) B c (RetQ P B rs obs r obs') (St N (X4g 0 args) (oaOf 0 obs) k0)) (hb : F.body = some c := by rfl) (hN : F.ntmps = N := by rfl) (hk0 : obs.length = k0 := by rfl) (hn : Nat.ble args.length N = true := by rfl)
  (hrs : F.results.toList = rs := by rfl) (hk : args.all (fun u => (Z1 u).all fun l => (idsL l).all fun i => Nat.blt i obs.length) = true := by rfl) (hk2 : obs.all (fun o => Z0p obs.length o.rows) = true := by first | rfl | (repeat first | exact rfl | refine ko_c (by first | exact K6 _ _ | rfl) ?_)) : Sim P f args obs r obs' :=
 Y2b hf hb hN hk0 hn hrs hk hk2 hw
end
section
theorem GhB.foldP {B : Bd} {s : S Unit} {id id2 e j off len : Nat} {o o2 : Ob Unit} {r : List (L Unit)} (ho : look s.ob id = some o) (hr : o.rows[e]? = some r) (hj : r[j]? = some (.ref () id2 off len)) (ho2 : look s.ob id2 = some o2) (hne : id ≠ id2) 
  (hn : o2.rows.all (fun r => r.all Z0k) = true) : GhB B s ⟨s.sl, K0 (s.ob.filter (fun p => !(p.1 == id2))) id (o.rows.set e (r.set j (.os () o2.n ((o2.rows.drop off).take len)))), s.nx⟩ := by
 rintro a W ⟨d, rfl, hi, hs, hdef, hk, hn0⟩
 obtain ⟨o', ho', rfl⟩ := U7 ho
 obtain ⟨p2, ho2', rfl⟩ := U7 ho2
 obtain ⟨r', hr', rfl⟩ := Y1c hr
 rw [List.getElem?_map, Option.map_eq_some_iff] at hj
 obtain ⟨l', hj', hl'⟩ := hj
 obtain ⟨v', rfl⟩ := Y5m hl'
 have hrm := List.mem_of_getElem? hr'
 have hlm := List.mem_of_getElem? hj'
 have hkey : (id, o') ∈ d.ob := find?_key ho'
 have hkey2 : (id2, p2) ∈ d.ob := find?_key ho2'
 have hmem : L.ref v' id2 off len ∈ tops d := mem_tops.2 (.inr (mem_obLeaves.2 ⟨_, hkey, r', hrm, hlm⟩))
 obtain ⟨hle, hform⟩ := (hi.good.wf _ hmem).2 p2 ho2'
 have hobs2 : _ ∧ ∀ r ∈ p2.rows, r.length = p2.n := hi.good.obs _ hkey2
 have hobs : _ ∧ ∀ r ∈ o'.rows, r.length = o'.n := hi.good.obs _ hkey
 have hplain : ∀ r ∈ p2.rows, ∀ l ∈ r, Z0k l = true := by
  simp only [erOb, Z3e, List.all_map, List.all_eq_true, Function.comp_def, X3b] at hn
  exact hn
 let rows3 := (p2.rows.drop off).take len
 have hsub3 : ∀ r ∈ rows3, r ∈ p2.rows := fun r hr => List.mem_of_mem_drop (List.mem_of_mem_take hr)
 have hlr : rows3.length = len := by simp only [rows3, List.length_take, List.length_drop]; omega
 have hown0 : p2.rows.flatten.flatMap ownL = [] := by
  rw [List.flatMap_eq_nil_iff]
  intro l hl
  obtain ⟨r, hr, hl⟩ := List.mem_flatten.1 hl
  exact Z0m (Y0u (hplain r hr l hl))
 have hown3 : rows3.flatten.flatMap ownL = [] := by
  rw [List.flatMap_eq_nil_iff]
  intro l hl
  obtain ⟨r, hr, hl⟩ := List.mem_flatten.1 hl
  exact Z0m (Y0u (hplain r (hsub3 r hr) l hl))
 have hos : X3p v' rows3 ∧ ∀ p ∈ Y7 v' p2.n rows3, OwnFact W p ∧ ∃ q ∈ Y7 p2.h p2.n p2.rows, q.1 = p.1 := by
  rcases hform with ⟨h0, hv⟩ | ⟨b, x, c0, h0, hv⟩
  ·have hr0 : p2.rows = [] := by
    rcases hobs2.1 with ⟨_, h1⟩ | ⟨_, _, _, h1, _⟩
    ·exact h1
    ·simp only at h1; rw [h0] at h1; cases h1
   exact ⟨.inl ⟨hv, by simp [rows3, hr0]⟩, fun p hp => by rw [hv] at hp; simp [Y7] at hp⟩
  ·have hc : p2.rows.length ≤ c0 ∧ p2.rows.length ≤ LIM := by
    rcases hobs2.1 with ⟨h7, _⟩ | ⟨b2, x2, c2, h7, h8, h9⟩
    ·simp only at h7; rw [h0] at h7; cases h7
    ·simp only at h7 h8 h9; rw [h0] at h7; cases h7; exact ⟨h8, h9⟩
   have hm0 : (b, x, c0 * p2.n, valR p2.rows) ∈ Y7 p2.h p2.n p2.rows := by simp [Y7, h0]
   have hm : (b, x, c0 * p2.n, valR p2.rows) ∈ ownS d := by
    simp only [ownS, List.mem_append]
    left
    exact List.mem_flatMap.2 ⟨(id2, p2), hkey2, hm0⟩
   obtain ⟨arr, ty, k1, k2, k3, k4⟩ := hi.good.own _ hm
   simp only at k2 k3 k4
   rcases hv with hv | ⟨y, hv, hl0, h9, h10⟩
   ·refine ⟨.inr ⟨b, x + off * p2.n, c0 - off, by rw [hv, hlr], by omega, by omega⟩, fun p hp => ?_⟩
    rw [hv] at hp
    simp only [Y7, List.mem_singleton] at hp
    subst hp
    refine ⟨⟨arr, ty, k1, ?_, ?_, fun j u hj => ?_⟩, _, hm0, rfl⟩
    ·simp only
     have : off * p2.n + (c0 - off) * p2.n = c0 * p2.n := by rw [← Nat.add_mul]; congr 1; omega
     omega
    ·simp only
     rw [Z2f fun r hr => hobs2.2 r (hsub3 r hr)]
     exact Nat.mul_le_mul_right _ (by omega)
    ·have h2 := Z6d hobs2.2 off len j hj
     have := k4 _ _ h2
     simpa [Nat.add_assoc] using this
   ·have hr1 : rows3 = [] := List.eq_nil_of_length_eq_zero (by omega)
    refine ⟨.inr ⟨b, y, 0, by rw [hv, hr1]; rfl, by simp [hr1], by simp [hr1, LIM]⟩, fun p hp => ?_⟩
    rw [hv] at hp
    simp only [Y7, List.mem_singleton] at hp
    subst hp
    refine ⟨⟨arr, ty, k1, ?_, ?_, fun j u hj => ?_⟩, _, hm0, rfl⟩
    ·simp only [Nat.zero_mul]; omega
    ·simp [hr1, valR]
    ·simp [hr1, valR] at hj
 let nos : L Value := .os v' p2.n rows3
 have hwfo : wfL false nos := ⟨hos.1, fun r hr => hobs2.2 r (hsub3 r hr), (Z5h _ _).2 fun r hr l hlr => X3a (hplain r (hsub3 r hr) l hlr) (Z6v hi.good ho2' (hsub3 r hr) hlr).1⟩
 let rows1 := o'.rows.set e (r'.set j nos)
 let ob2 := d.ob.filter (fun p => !(p.1 == id2))
 let ob1 := K0 ob2 id rows1
 let d' : S Value := ⟨d.sl, ob1, d.nx⟩
 have hsub : ob2.Sublist d.ob := List.filter_sublist
 have hkeyf : (id, o') ∈ ob2 := List.mem_filter.2 ⟨hkey, by simpa using hne⟩
 have hids2 : (ob2.map (·.1)).Nodup := hi.good.ids.sublist (hsub.map _)
 have hids : (d'.ob.map (·.1)).Nodup := by
  show (ob1.map (·.1)).Nodup
  rw [Z3t]; exact hids2
 have hlen1 : rows1.length = o'.rows.length := by simp [rows1]
 have hrefOk : ∀ l, Has d l → W7 ob1 l := fun l hh => by
  refine Z7u (fun i hi1 o2 ho2 => ?_) hh.2.1
  rw [Y8p] at ho2
  have hf : ∀ o3, look ob2 i = some o3 → look d.ob i = some o3 := fun o3 h3 => J2 hi.good.ids (hsub.subset (find?_key h3))
  split at ho2
  ·rename_i he
   subst he
   rw [Option.map_eq_some_iff] at ho2
   obtain ⟨o3, h3, rfl⟩ := ho2
   have := hf o3 h3
   rw [ho'] at this
   cases this
   exact ⟨o', ho', rfl, rfl, hlen1.symm⟩
  ·exact ⟨o2, hf o2 ho2, rfl, rfl, rfl⟩
 have hrow1 : ∀ r ∈ rows1, r ∈ o'.rows ∨ r = r'.set j nos := fun r hr => List.mem_or_eq_of_mem_set hr
 have htop : ∀ l ∈ tops d', l ∈ tops d ∨ l = nos := fun l hl => by
  rcases mem_tops.1 hl with h | h
  ·exact .inl (mem_tops.2 (.inl h))
  ·obtain ⟨p, hp, r, hr, hl⟩ := mem_obLeaves.1 h
   rcases Z1e hp with ⟨hp, _⟩ | ⟨o2, hp, rfl⟩
   ·exact .inl (mem_tops.2 (.inr (mem_obLeaves.2 ⟨p, hsub.subset hp, r, hr, hl⟩)))
   ·rcases hrow1 r hr with h | rfl
    ·exact .inl (mem_tops.2 (.inr (mem_obLeaves.2 ⟨_, hkey, r, h, hl⟩)))
    ·rcases List.mem_or_eq_of_mem_set hl with h | rfl
     ·exact .inl (mem_tops.2 (.inr (mem_obLeaves.2 ⟨_, hkey, r', hrm, h⟩)))
     ·exact .inr rfl
 have hval : valR rows1 = valR o'.rows := Y8t hr' hj' rfl
 obtain ⟨R, hR, hR'⟩ : ∃ R, (ownS d).Perm (Y7 p2.h p2.n p2.rows ++ R) ∧ (ownS d').Perm (Y7 v' p2.n rows3 ++ R) := by
  classical
  obtain ⟨k1, k2, hob0, g1, g2⟩ := Z2p ho2' hi.good.ids
  have hf : ob2 = k1 ++ k2 := by
   show d.ob.filter _ = _
   rw [hob0]; exact Y2x g1 g2
  obtain ⟨l1, l2, hob, h1, h2⟩ := Z2p (J2 hids2 hkeyf) hids2
  have hu : ob1 = l1 ++ (id, ⟨o'.h, o'.n, rows1⟩) :: l2 := by
   show K0 ob2 id rows1 = _
   rw [hob]; exact Z7q h1 h2 rows1
  have hc := Y5s (rows := o'.rows) (e := e) (j := j) (r := r') (l := nos) (E := ownL nos) hr' hj' (by simp [ownL])
  refine ⟨(l1 ++ (id, o') :: l2).flatMap Q8 ++ (d.sl.flatMap Z3).flatMap ownL, List.perm_iff_count.2 fun q => ?_, List.perm_iff_count.2 fun q => ?_⟩
  ·have c2 := List.perm_iff_count.1 (V3 d) q
   have c4 : List.count q ((k1 ++ k2).flatMap Q8) = List.count q ((l1 ++ (id, o') :: l2).flatMap Q8) := by rw [← hf, hob]
   rw [hob0] at c2
   simp only [List.flatMap_append, List.flatMap_cons, List.count_append, Q8, hown0, List.append_nil] at c2 c4 ⊢
   omega
  ·have c1 := List.perm_iff_count.1 hc q
   have c3 := List.perm_iff_count.1 (V3 d') q
   have e1 : d'.ob = l1 ++ (id, ⟨o'.h, o'.n, rows1⟩) :: l2 := hu
   have e2 : d'.sl = d.sl := rfl
   have e3 : Y7 o'.h o'.n rows1 = Y7 o'.h o'.n o'.rows := by unfold Y7; rw [hval]
   have e4 : ownL nos = Y7 v' p2.n rows3 := by simp only [nos, ownL, Z0t, hown3, List.append_nil]
   rw [e4] at c1
   rw [e1, e2] at c3
   simp only [List.flatMap_append, List.flatMap_cons, List.count_append, Q8, e3] at c1 c3 ⊢
   simp only [rows1] at c3
   omega
 have hnd := (hR.map (·.1)).nodup_iff.1 hi.good.nodup
 rw [List.map_append, List.nodup_append] at hnd
 refine ⟨d', ?_, ?_, ⟨hs.1, hs.2⟩, hdef, fun i hi2 => hk i ?_, hn0⟩
 ·simp only [erS, mapS, d', S.mk.injEq, true_and, and_true]
  show (K0 ob2 id rows1).map (fun p => (p.1, erOb p.2)) = _
  rw [Y5p]
  simp [rows1, nos, rows3, ob2, Z3e, List.map_set, List.map_take, List.map_drop, mapL, Z1m, List.filter_map, Function.comp_def]
 ·refine hi.step (Nat.le_refl _) (Same.refl _) (fun _ _ _ => rfl) (fun l hl => ?_) (fun p hp => ?_) hids (fun p hp => ?_) ?_ (fun p hp => ?_) (fun p hp hlt => ?_)
  ·rcases htop l hl with h | rfl
   ·have hh := Z8a hi.good h
    exact ⟨hh.1, hrefOk l hh⟩
   ·exact ⟨hwfo, by simp [nos, W7]⟩
  ·rcases Z1e hp with ⟨hp, _⟩ | ⟨o2, hp2, rfl⟩
   ·exact hi.good.obs p (hsub.subset hp)
   ·have : o2 = o' := by
     have h1 := J2 hi.good.ids (hsub.subset hp2)
     rw [ho'] at h1; cases h1; rfl
    subst this
    refine ⟨?_, fun r hr => ?_⟩
    ·rcases hobs.1 with ⟨h1, h2⟩ | ⟨b, x, c, h1, h2, h3⟩
     ·exact .inl ⟨h1, by simp only at h2; simp [rows1, h2]⟩
     ·exact .inr ⟨b, x, c, h1, by simp only [hlen1]; exact h2, by simp only [hlen1]; exact h3⟩
    ·rcases hrow1 r hr with h | rfl
     ·exact hobs.2 r h
     ·rw [List.length_set]; exact hobs.2 r' hrm
  ·rcases List.mem_append.1 (hR'.mem_iff.1 hp) with hp | hp
   ·obtain ⟨k1, q, k2, k3⟩ := hos.2 p hp
    exact ⟨k1, .inl ⟨q, hR.mem_iff.2 (List.mem_append_left _ k2), k3⟩⟩
   ·have := hR.mem_iff.2 (List.mem_append_right _ hp)
    exact ⟨hi.good.own p this, .inl ⟨p, this, rfl⟩⟩
  ·rw [(hR'.map (·.1)).nodup_iff, List.map_append, List.nodup_append]
   refine ⟨?_, hnd.2.1, fun i hi1 j hj e => ?_⟩
   ·unfold Y7; split <;> simp
   ·obtain ⟨p, hp, rfl⟩ := List.mem_map.1 hi1
    obtain ⟨_, q, k2, k3⟩ := hos.2 p hp
    exact hnd.2.2 q.1 (List.mem_map.2 ⟨q, k2, rfl⟩) j hj (k3.trans e)
  ·obtain ⟨l, hl, hp⟩ := List.mem_flatMap.1 hp
   rcases htop l hl with h | rfl
   ·exact .of_mem (List.mem_flatMap.2 ⟨l, h, hp⟩)
   ·simp only [nos, immL, Z4r] at hp
    obtain ⟨l2, hl2, hp⟩ := List.mem_flatMap.1 hp
    obtain ⟨r, hr, hl2⟩ := List.mem_flatten.1 hl2
    exact (Z6v hi.good ho2' (hsub3 r hr) hl2).2.2.1 p hp
  ·rcases Z1e hp with ⟨hp, _⟩ | ⟨o2, hp2, rfl⟩
   ·exact hi.hdr p (hsub.subset hp) hlt
   ·exact hi.hdr (id, o2) (hsub.subset hp2) hlt
 ·rcases hi2 with ⟨l, hl, h⟩ | h
  ·rcases htop l hl with h2 | rfl
   ·exact .inl ⟨l, h2, h⟩
   ·simp [nos, idsL] at h
  ·refine .inr ((hsub.map _).subset ?_)
   have : i ∈ ob1.map (·.1) := h
   rwa [Z3t] at this
section
variable {B : Bd} {N nx : Nat} {asg : Asg} {oa : OAsg}
theorem f_clP {α : Type} {enc : α → List (L Unit)} [EncB enc] {xs ys : List α} {n m off len : Nat} {rows rows' : List (List (L Unit))} {r : List (L Unit)} (id id2 e j : Nat) (hne : Nat.beq id id2 = false) (ho : lko oa nx id = some ⟨(), n, rows⟩) (ho2 : lko oa nx id2 = some ⟨(), m, xs.map enc⟩)
  (hr : rows[e]? = some r) (hj : r[j]? = some (.ref () id2 off len)) (hys : (xs.drop off).take len = ys) (hrows : rows.set e (r.set j (.os () m (ys.map enc))) = rows') : GhB B (St N asg oa nx) (St N asg ((id, some ⟨(), n, rows'⟩) :: (id2, none) :: oa) nx) := by
 subst hrows hys
 have hne' : id ≠ id2 := fun h => by subst h; simp at hne
 have h := GhB.foldP (B := B) (s := St N asg oa nx) (Q0 ho) hr hj (Q0 ho2) hne' (Z9e xs)
 have e2 : (⟨(St N asg oa nx).sl, K0 ((St N asg oa nx).ob.filter (fun p => !(p.1 == id2))) id (rows.set e (r.set j (.os () m (((xs.map enc).drop off).take len)))), (St N asg oa nx).nx⟩ : S Unit) = St N asg ((id, some ⟨(), n, rows.set e (r.set j (.os () m (((xs.drop off).take len).map enc)))⟩) :: (id2, none) :: oa) nx := by
  simp only [St, List.map_take, List.map_drop]
  rw [cl_ob _ ho hne']
 rw [← e2]
 exact h
end
end
section
section
variable {P : Program} {Y : Sys P} [PlainY Y] {pr N nx t : Nat} {asg : Asg} {oa : OAsg} {ty : TypeId} {pos : String} {aft : Array Edge} {K : S Unit → Prop}
theorem k_cmp {op : BinOp} {tt t2 : TypeId} {x y : Operand} {i : TI} {k k' : IntKind} {a b : Int} {z : L Unit} (ht : tiOf P tt = some i) (h1 : ev N asg x = some (.u (.one (.int k a)))) (h2 : ev N asg y = some (.u (.one (.int k' b))))
  (ho : (match op with | .add => false | .sub => false | .quo => false | .rem => false | .shl => false | .shr => false | _ => true) = true) (hb : binF op i (.int k a) (.int k' b) = some z)
  (hK : K (St N ((t, .u (.one z)) :: asg) oa nx)) : aopK Y pr ⟨some t, .binOp op tt x y t2, ty, pos, aft, none⟩ (St N asg oa nx) K := Z6i ht h1 h2 hb hK
theorem k_cmpb {op : BinOp} {tt t2 : TypeId} {x y : Operand} {i : TI} {a b : Bool} {z : L Unit} (ht : tiOf P tt = some i) (h1 : ev N asg x = some (.u (.one (.bool a)))) (h2 : ev N asg y = some (.u (.one (.bool b))))
  (hb : binF op i (.bool a) (.bool b) = some z)
  (hK : K (St N ((t, .u (.one z)) :: asg) oa nx)) : aopK Y pr ⟨some t, .binOp op tt x y t2, ty, pos, aft, none⟩ (St N asg oa nx) K := Z6i ht h1 h2 hb hK
theorem pk1 {i : TI} {r : List (L Unit)} {j : Nat} {l : L Unit} (h : i.agg = false) (hl : r[j]? = some l) : pk i r j = some (.one l) := by simp [pk, h, hl]
theorem k_ldp {tt : TypeId} {x : Operand} {id e j : Nat} {i : TI} {o : Ob Unit} {r : List (L Unit)} {l : L Unit} (hp : Nat.beq pr 1 = false) (ht : tiOf P tt = some i) (ha : i.agg = false) (h1 : ev N asg x = some (.u (.one (.ptr () id e j)))) (ho : lko oa nx id = some o)
  (hr : o.rows[e]? = some r) (hu : r[j]? = some l) (hn : noOs l = true) (hK : K (St N ((t, .u (.one l)) :: asg) oa nx)) : aopK Y pr ⟨some t, .load tt x, ty, pos, aft, none⟩ (St N asg oa nx) K :=
 Y2e hp ht h1 ho hr (pk1 ha hu) (by simpa [Z5i, Z1] using hn) hK
theorem k_ldi {tt : TypeId} {x : Operand} {i : TI} {cs : List (L Unit)} {l : L Unit} (ht : tiOf P tt = some i) (ha : i.agg = false) (h1 : ev N asg x = some (.u (.one (.ip () cs))))
  (hu : cs[0]? = some l) (hn : noOs l = true) (hK : K (St N ((t, .u (.one l)) :: asg) oa nx)) : aopK Y pr ⟨some t, .load tt x, ty, pos, aft, none⟩ (St N asg oa nx) K :=
 K7 ht h1 (pk1 ha hu) (by simpa [Z5i, Z1] using hn) hK
theorem k_ldn {α : Type} [Inhabited α] {tt : TypeId} {x : Operand} {id j m : Nat} {n : Int} {i : TI} {xs : List α} {enc : α → List (L Unit)} {l : L Unit} (hp : Nat.beq pr 1 = false) (ht : tiOf P tt = some i) (ha : i.agg = false) (h1 : ev N asg x = some (.u (.one (.ptr () id n.toNat j))))
  (ho : lko oa nx id = some ⟨(), m, xs.map enc⟩) (he : 0 ≤ n ∧ n < (xs.length : Int)) (hu : (enc (at_ xs n))[j]? = some l) (hn : noOs l = true) (hK : K (St N ((t, .u (.one l)) :: asg) oa nx)) : aopK Y pr ⟨some t, .load tt x, ty, pos, aft, none⟩ (St N asg oa nx) K :=
 Z5g hp ht h1 ho he (pk1 ha hu) (by simpa [Z5i, Z1] using hn) hK
theorem k_cvi {ts td : TypeId} {x : Operand} {i j : TI} {k k' : IntKind} {n : Int} (ht : tiOf P ts = some i) (ht2 : tiOf P td = some j) (hk : j.kd = .int k) (h1 : ev N asg x = some (.u (.one (.int k' n)))) (hne : (match k, k' with | .i64, .i64 => false | _, _ => true) = true)
  (hK : K (St N ((t, .u (.one (.int k (k.wrap n)))) :: asg) oa nx)) : aopK Y pr ⟨some t, .convert ts td x, ty, pos, aft, none⟩ (St N asg oa nx) K := W4w ht ht2 hk h1 hK
theorem Y2g {op : BinOp} {tt t2 : TypeId} {x y : Operand} {i : TI} {l m z : L Unit} (ht : tiOf P tt = some i) (h1 : ev N asg x = some (.u (.one l))) (h2 : ev N asg y = some (.u (.one m))) (hb : binF op i l m = some z)
  (hK : K (St N ((t, .u (.one z)) :: asg) oa nx)) : aopK Y pr ⟨some t, .binOp op tt x y t2, ty, pos, aft, none⟩ (St N asg oa nx) K := Z6i ht h1 h2 hb hK
theorem k_lnb {tt : TypeId} {x : Operand} {m : Nat} {α : Type} {enc : α → List (L Unit)} {xs : List α} (ht : lnF P tt = some .slice) (h1 : ev N asg x = some (.u (.one (.bs () m (xs.map enc)))))
  (hK : xs.length ≤ 140737488355328 → K (St N ((t, .u (.one (.int .i64 (xs.length : Int)))) :: asg) oa nx)) : aopK Y 0 ⟨some t, .call ⟨.builtin .len, #[x], #[tt]⟩, ty, pos, aft, none⟩ (St N asg oa nx) K := Y5w ht h1 fun h => hK (h rfl)
theorem k_lnr {tt : TypeId} {x : Operand} {id off len : Nat} {o : Ob Unit} (ht : lnF P tt = some .slice) (h1 : ev N asg x = some (.u (.one (.ref () id off len)))) (ho : lko oa nx id = some o)
  (hK : len ≤ 140737488355328 → K (St N ((t, .u (.one (.int .i64 (len : Int)))) :: asg) oa nx)) : aopK Y 0 ⟨some t, .call ⟨.builtin .len, #[x], #[tt]⟩, ty, pos, aft, none⟩ (St N asg oa nx) K := X9x rfl ht h1 ho fun h => hK (h rfl)
end
section
variable {P : Program} {Y : Sys P} [PlainY Y] {pr N nx t : Nat} {asg : Asg} {oa : OAsg} {ty : TypeId} {pos : String} {aft : Array Edge} {K : S Unit → Prop}
theorem kS {tt : TypeId} {x y : Operand} {id j n : Nat} {i : TI} {r r' : List (L Unit)} {u : U Unit} (hK : K (St N asg ((id, some ⟨(), n, [r']⟩) :: oa) nx)) [ht : FacT P tt i] (h1 : ev N asg x = some (.u (.one (.ptr () id 0 j))) := by rfl) (h2 : ev N asg y = some (.u u) := by rfl)
  (ho : lko oa nx id = some ⟨(), n, [r]⟩ := by rfl) (hn : Z5i u = true := by rfl) (hl : Nat.beq (Z1 u).length i.size = true := by rfl) (hj : Nat.ble (j + i.size) r.length = true := by rfl) (hs : PutR r j (Z1 u) r' := by repeat first | exact PutR.nil | (apply PutR.cons; (repeat first | exact SetR.z | apply SetR.s))) :
  aopK Y 0 ⟨none, .store tt x y, ty, pos, aft, none⟩ (St N asg oa nx) K := k_st ht.h h1 h2 ho hn hl hj hs hK
theorem kA {α : Type} {enc : α → List (L Unit)} [EncB enc] {xs ys : List α} {tt t2 : TypeId} {x y : Operand} {m b id : Nat} {z : List Z} {rd : List Nat} {l : L Unit} (hb : (xs.length + ys.length) * b ≤ 140737488355328 ∧ xs.length + ys.length ≤ LIM)
  (hK : K (St N ((t, .u (.one (.ref () nx 0 (xs ++ ys).length))) :: asg) ((nx, some ⟨(), m, (xs ++ ys).map enc⟩) :: (id, none) :: oa) (nx + 1))) [he : FacA P tt (m, b, z)] [ht2 : FacN P t2 .slice] 
  (h1 : ev N asg x = some (.u (.one (.ref () id 0 xs.length))) := by rfl) (ho : lko oa nx id = some ⟨(), m, xs.map enc⟩ := by rfl) (h2 : ev N asg y = some (.u (.one l)) := by rfl) (hq : argR (lko oa nx) m (some l) = some (ys.map enc, rd) := by first | exact X9t rfl | exact X9v _) :
  aopK Y 0 ⟨some t, .call ⟨.builtin .append, #[x, y], #[tt, t2]⟩, ty, pos, aft, none⟩ (St N asg oa nx) K := W4x he.h ht2.h (X2h _) h1 ho h2 hq hb hK
theorem kM {α : Type} (enc : α → List (L Unit)) (xs : List α) {tt : TypeId} {len : Nat} {ps : Array (Nat × Operand)} {m b : Nat} {z : List Z} {us : List (Nat × U Unit)} (hK : K (St N ((t, .u (.one (.ref () nx 0 xs.length))) :: asg) ((nx, some ⟨(), m, xs.map enc⟩) :: oa) (nx + 1))) [he : FacA P tt (m, b, z)]
  (hl : Nat.ble (len * m) 16777216 = true := by rfl) (hp : Z5s (ev N asg) ps.toList = some us := by rfl) (hf : Y4d m us (List.replicate len (z.map zL)) = some (xs.map enc) := by rfl) (hn : len = xs.length := by rfl) : aopK Y 0 ⟨some t, .buildSlice tt len ps, ty, pos, aft, none⟩ (St N asg oa nx) K :=
 Y4g xs he.h hl hp hf hn hK
theorem kB (cells : List (L Unit)) {tt : TypeId} {ps : Array (Nat × Operand)} {i : TI} {us : List (Nat × U Unit)} (hK : K (St N ((t, .u (.agg cells)) :: asg) oa nx)) [ht : FacT P tt i] (hk : i.kd = .struct := by rfl) (hp : Z5s (ev N asg) ps.toList = some us := by rfl) (hf : Y6x (i.places[·]?) us (i.zero.map zL) = some cells := by rfl) :
  aopK Y pr ⟨some t, .build tt ps, ty, pos, aft, none⟩ (St N asg oa nx) K := x_bu ht.h hk hp hf hK
theorem kL {tt : TypeId} {x : Operand} {id e j : Nat} {i : TI} {o : Ob Unit} {r : List (L Unit)} (u : U Unit) (hK : K (St N ((t, .u u) :: asg) oa nx)) (hp : Nat.beq pr 1 = false := by rfl) [ht : FacT P tt i] (h1 : ev N asg x = some (.u (.one (.ptr () id e j))) := by rfl) (ho : lko oa nx id = some o := by rfl)
  (hr : o.rows[e]? = some r := by rfl) (hu : pk i r j = some u := by rfl) (hn : Z5i u = true := by rfl) : aopK Y pr ⟨some t, .load tt x, ty, pos, aft, none⟩ (St N asg oa nx) K := Y2e hp ht.h h1 ho hr hu hn hK
theorem kW {tt : TypeId} {x : Operand} {id e : Nat} {i : TI} {o : Ob Unit} {r : List (L Unit)} (hK : K (St N ((t, .u (.agg r)) :: asg) oa nx)) (hp : Nat.beq pr 1 = false := by rfl) [ht : FacT P tt i] (h1 : ev N asg x = some (.u (.one (.ptr () id e 0))) := by rfl) (ho : lko oa nx id = some o := by rfl)
  (hr : o.rows[e]? = some r := by rfl) (ha : i.agg = true := by rfl) (hl : r.length = i.size := by rfl) (hn : Z5i (.agg r) = true := by rfl) : aopK Y pr ⟨some t, .load tt x, ty, pos, aft, none⟩ (St N asg oa nx) K := Y2e hp ht.h h1 ho hr (J0 ha hl) hn hK
theorem kD {tt : TypeId} {x : Operand} {id e j : Nat} {i : TI} {o : Ob Unit} {r : List (L Unit)} {l : L Unit} (hK : K (St N ((t, .u (.one l)) :: asg) oa nx)) (hp : Nat.beq pr 1 = false := by rfl) [ht : FacT P tt i] (ha : i.agg = false := by rfl) (h1 : ev N asg x = some (.u (.one (.ptr () id e j))) := by rfl) (ho : lko oa nx id = some o := by rfl)
  (hr : o.rows[e]? = some r := by rfl) (hu : r[j]? = some l := by rfl) (hn : noOs l = true := by rfl) : aopK Y pr ⟨some t, .load tt x, ty, pos, aft, none⟩ (St N asg oa nx) K := k_ldp hp ht.h ha h1 ho hr hu hn hK
theorem kF {ts : TypeId} {x : Operand} {f id e j off : Nat} {k : TI} {o : Ob Unit} (hK : K (St N ((t, .u (.one (.ptr () id e (j + off)))) :: asg) oa nx)) (hp : Nat.beq pr 1 = false := by rfl) [hf : FacF P ts f (off, k)] (h1 : ev N asg x = some (.u (.one (.ptr () id e j))) := by rfl) (ho : lko oa nx id = some o := by rfl) :
  aopK Y pr ⟨some t, .fieldAddr ts x f, ty, pos, aft, none⟩ (St N asg oa nx) K := Z9y hp hf.h h1 ho hK
theorem kV {x : Operand} {v : V Unit} (hK : K (St N ((t, v) :: asg) oa nx)) (hv : ev N asg x = some v := by rfl) (hn : Y2s v = true := by rfl) : aopK Y pr ⟨some t, .move x, ty, pos, aft, none⟩ (St N asg oa nx) K := x_mv hv hn hK
theorem kN {x : Operand} {id e j : Nat} {o : Ob Unit} (hK : K (St N ((t, .u (.one (.ptr () id e j))) :: asg) oa nx)) (hp : Nat.beq pr 1 = false := by rfl) (h1 : ev N asg x = some (.u (.one (.ptr () id e j))) := by rfl) (ho : lko oa nx id = some o := by rfl) : aopK Y pr ⟨some t, .nilCheck x, ty, pos, aft, none⟩ (St N asg oa nx) K := X1d hp h1 ho hK
end
section
set_option linter.unusedSectionVars false
variable {P : Program} {Y : Sys P} [PlainY Y] [QuietY Y] {ops : List Oper} {L : Array Bool} {j t fuel : Nat} {want : Bool} {N nx : Nat} {asg : Asg} {oa : OAsg} {K : S Unit → Prop} {dst : Option Nat} {op : Op} {ty : TypeId} {pos : String} {aft : Array Edge}
theorem tK (i pr : Nat) (hi : ops[i]? = some ⟨dst, op, ty, pos, aft, none⟩) (h : aopK Y (pr + 1) ⟨dst, op, ty, pos, aft, none⟩ (St N asg oa nx) (fun s' => aAny Y ops fuel (L.setIfInBounds i true) s' K)) (hb : X2n (QuietY.q Y) (pr + 1) ops.toArray L i = true := by decide +kernel) : aAny Y ops (fuel + 1) L (St N asg oa nx) K := t_ i pr hi hb h
theorem tD (i pr : Nat) (D : List Nat) (hi : ops[i]? = some ⟨dst, op, ty, pos, aft, none⟩) (h : aopK Y (pr + 1) ⟨dst, op, ty, pos, aft, none⟩ (St N asg oa nx) (fun s' => aAny Y ops fuel (L.setIfInBounds i true) s' K)) (hb : W5c (QuietY.q Y) (pr + 1) D ops.toArray L i = true := by decide +kernel) : aAny Y ops (fuel + 1) L (St N asg oa nx) K := t_D i pr D hi hb h
theorem oK (i : Nat) (hi : ops[i]? = some ⟨dst, op, ty, pos, aft, none⟩) (h : aopK Y 0 ⟨dst, op, ty, pos, aft, none⟩ (St N asg oa nx) (fun s' => aAny Y ops fuel (L.setIfInBounds i true) s' K)) (hb : W0h ops.toArray L i = true := by decide +kernel) : aAny Y ops (fuel + 1) L (St N asg oa nx) K := o_ i hi hb h
theorem tG (i pr : Nat) (hi : ops[i]? = some ⟨dst, op, ty, pos, aft, some (j, want)⟩) (h : aopK Y (pr + 1) ⟨dst, op, ty, pos, aft, none⟩ (St N asg oa nx) (fun s' => aAny Y ops fuel (L.setIfInBounds i true) s' K)) (hb : X2n (QuietY.q Y) (pr + 1) ops.toArray L i = true := by decide +kernel) (ht : Z9c ops j = some t := by rfl) (hN : Nat.blt t N = true := by rfl) (hv : lkp asg t = some (.u (.one (.bool want))) := by rfl) : aAny Y ops (fuel + 1) L (St N asg oa nx) K := t_g i pr hi hb ht hN hv h
theorem oG (i : Nat) (hi : ops[i]? = some ⟨dst, op, ty, pos, aft, some (j, want)⟩) (h : aopK Y 0 ⟨dst, op, ty, pos, aft, none⟩ (St N asg oa nx) (fun s' => aAny Y ops fuel (L.setIfInBounds i true) s' K)) (hb : W0h ops.toArray L i = true := by decide +kernel) (ht : Z9c ops j = some t := by rfl) (hN : Nat.blt t N = true := by rfl) (hv : lkp asg t = some (.u (.one (.bool want))) := by rfl) : aAny Y ops (fuel + 1) L (St N asg oa nx) K := o_g i hi hb ht hN hv h
theorem tF {d : Nat} (i : Nat) (hi : ops[i]? = some ⟨some d, op, ty, pos, aft, some (j, want)⟩) (h : aAny Y ops fuel (L.setIfInBounds i true) (St N ((d, .ud) :: asg) oa nx) K) (hb : X2n (QuietY.q Y) 1 ops.toArray L i = true := by decide +kernel) (ht : Z9c ops j = some t := by rfl) (hN : Nat.blt t N = true := by rfl) (hv : lkp asg t = some (.u (.one (.bool (!want)))) := by rfl) : aAny Y ops (fuel + 1) L (St N asg oa nx) K := t_f i hi hb ht hN hv h
theorem aN {s : S Unit} (h : K s) (hb : (Region.ready .any ops.toArray L).isEmpty = true := by decide +kernel) : aAny Y ops 0 L s K := a_nil hb h
theorem tE {H X : List Nat} {x : Operand} {l : AM.L Unit} (i : Nat) (D : List Nat) (hi : ops[i]? = some ⟨dst, op, ty, pos, aft, none⟩) (h : aopK (sysH P H X) 2 ⟨dst, op, ty, pos, aft, none⟩ (St N asg oa nx) (fun s' => aAny (sysH P H X) ops fuel (L.setIfInBounds i true) s' K)) (hb : takeE X D ops.toArray L i = true := by decide +kernel) (hx : W5v op = some x := by rfl) (hv : ev N asg x = some (.u (.one l)) := by rfl) (hl : (idsL l).all (fun i => !H.contains i) = true := by rfl) : aAny (sysH P H X) ops (fuel + 1) L (St N asg oa nx) K := t_E i D hi hb hx hv hl h
end
section
variable {P : Program} {B : Bd} {Q : Exit → S Unit → Prop} {ops rest : List Oper} {op : Op} {ty : TypeId} {pos : String} {aft : Array Edge} {j t N nx : Nat} {want b : Bool} {asg : Asg} {oa : OAsg}
theorem nO {dst : Option Nat} {s : S Unit} (h : aopK (sysA P) 0 ⟨dst, op, ty, pos, aft, none⟩ s (fun s' => WpO P B ops Q rest s')) : WpO P B ops Q (⟨dst, op, ty, pos, aft, none⟩ :: rest) s := X6s (Y := sysA P) 1 (n_ h)
theorem gO_t {dst : Option Nat} (ht : Z9c ops j = some t) (hN : Nat.blt t N = true) (hv : lkp asg t = some (.u (.one (.bool want)))) (h : aopK (sysA P) 0 ⟨dst, op, ty, pos, aft, none⟩ (St N asg oa nx) (fun s' => WpO P B ops Q rest s')) :
  WpO P B ops Q (⟨dst, op, ty, pos, aft, some (j, want)⟩ :: rest) (St N asg oa nx) := X6s (Y := sysA P) 1 (g_t ht hN hv (n_ h))
theorem gO_f {d : Nat} (ht : Z9c ops j = some t) (hN : Nat.blt t N = true) (hv : lkp asg t = some (.u (.one (.bool (!want))))) (h : WpO P B ops Q rest (St N ((d, .ud) :: asg) oa nx)) :
  WpO P B ops Q (⟨some d, op, ty, pos, aft, some (j, want)⟩ :: rest) (St N asg oa nx) := X6s (Y := sysA P) 1 (g_f ht hN hv h)
theorem gO_fn (ht : Z9c ops j = some t) (hN : Nat.blt t N = true) (hv : lkp asg t = some (.u (.one (.bool (!want))))) (h : WpO P B ops Q rest (St N asg oa nx)) :
  WpO P B ops Q (⟨none, op, ty, pos, aft, some (j, want)⟩ :: rest) (St N asg oa nx) := X6s (Y := sysA P) 1 (g_fn ht hN hv h)
theorem gO_u {d : Nat} (ht : Z9c ops j = some t) (hN : Nat.blt t N = true) (hv : lkp asg t = some .ud) (h : WpO P B ops Q rest (St N ((d, .ud) :: asg) oa nx)) :
  WpO P B ops Q (⟨some d, op, ty, pos, aft, some (j, want)⟩ :: rest) (St N asg oa nx) := X6s (Y := sysA P) 1 (g_u ht hN hv h)
theorem gO_un (ht : Z9c ops j = some t) (hN : Nat.blt t N = true) (hv : lkp asg t = some .ud) (h : WpO P B ops Q rest (St N asg oa nx)) :
  WpO P B ops Q (⟨none, op, ty, pos, aft, some (j, want)⟩ :: rest) (St N asg oa nx) := X6s (Y := sysA P) 1 (g_un ht hN hv h)
theorem sp_any {F : S Unit → Prop} (hN : Nat.blt t N = true) (hv : lkp asg t = some (.u (.one (.bool b)))) (h1 : b = true → F (St N ((t, .u (.one (.bool true))) :: asg) oa nx)) (h2 : b = false → F (St N ((t, .u (.one (.bool false))) :: asg) oa nx)) : F (St N asg oa nx) := by
 have key : St N ((t, .u (.one (.bool b))) :: asg) oa nx = St N asg oa nx := by
  rw [← X7y]
  exact Z2g (Z7p hN hv)
 rw [← key]
 cases b
 ·exact h2 rfl
 ·exact h1 rfl
theorem gO_s {dst : Option Nat} (ht : Z9c ops j = some t) (hN : Nat.blt t N = true) (hv : lkp asg t = some (.u (.one (.bool b))))
  (h1 : b = want → WpO P B ops Q (⟨dst, op, ty, pos, aft, some (j, want)⟩ :: rest) (St N ((t, .u (.one (.bool want))) :: asg) oa nx))
  (h2 : b = (!want) → WpO P B ops Q (⟨dst, op, ty, pos, aft, some (j, want)⟩ :: rest) (St N ((t, .u (.one (.bool (!want)))) :: asg) oa nx)) :
  WpO P B ops Q (⟨dst, op, ty, pos, aft, some (j, want)⟩ :: rest) (St N asg oa nx) :=
 sp_any (F := WpO P B ops Q (⟨dst, op, ty, pos, aft, some (j, want)⟩ :: rest)) hN hv (fun hb => by subst hb; cases want; exact h2 rfl; exact h1 rfl) (fun hb => by subst hb; cases want; exact h1 rfl; exact h2 rfl)
variable {α : Type} {m1 m2 z : α}
theorem if1 (hm : (if b = true then m1 else m2) = z) (hb : b = true) : m1 = z := by rw [if_pos hb] at hm; exact hm
theorem if0 (hm : (if b = true then m1 else m2) = z) (hb : b = false) : m2 = z := by rw [hb, if_neg (by decide)] at hm; exact hm
theorem bS {x y : Code} (hm : (if b = true then m1 else m2) = z)
  (h1 : b = true → m1 = z → Wp (P := P) B x Q (St N ((t, .u (.one (.bool true))) :: asg) oa nx)) (h2 : b = false → m2 = z → Wp (P := P) B y Q (St N ((t, .u (.one (.bool false))) :: asg) oa nx))
  (hN : Nat.blt t N = true := by rfl) (hv : lkp asg t = some (.u (.one (.bool b))) := by rfl) : Wp (P := P) B (.cond (.tmp t) x y) Q (St N asg oa nx) :=
 c_s hN hv (fun hb => h1 hb (if1 hm hb)) (fun hb => h2 hb (if0 hm hb))
theorem bG1 {dst : Option Nat} (hm : (if b = true then m1 else m2) = z)
  (h1 : b = true → m1 = z → WpO P B ops Q (⟨dst, op, ty, pos, aft, some (j, true)⟩ :: rest) (St N ((t, .u (.one (.bool true))) :: asg) oa nx))
  (h2 : b = false → m2 = z → WpO P B ops Q (⟨dst, op, ty, pos, aft, some (j, true)⟩ :: rest) (St N ((t, .u (.one (.bool false))) :: asg) oa nx))
  (ht : Z9c ops j = some t := by rfl) (hN : Nat.blt t N = true := by rfl) (hv : lkp asg t = some (.u (.one (.bool b))) := by rfl) : WpO P B ops Q (⟨dst, op, ty, pos, aft, some (j, true)⟩ :: rest) (St N asg oa nx) :=
 gO_s ht hN hv (fun hb => h1 hb (if1 hm hb)) (fun hb => h2 hb (if0 hm hb))
theorem bG0 {dst : Option Nat} (hm : (if b = true then m1 else m2) = z)
  (h2 : b = false → m2 = z → WpO P B ops Q (⟨dst, op, ty, pos, aft, some (j, false)⟩ :: rest) (St N ((t, .u (.one (.bool false))) :: asg) oa nx))
  (h1 : b = true → m1 = z → WpO P B ops Q (⟨dst, op, ty, pos, aft, some (j, false)⟩ :: rest) (St N ((t, .u (.one (.bool true))) :: asg) oa nx))
  (ht : Z9c ops j = some t := by rfl) (hN : Nat.blt t N = true := by rfl) (hv : lkp asg t = some (.u (.one (.bool b))) := by rfl) : WpO P B ops Q (⟨dst, op, ty, pos, aft, some (j, false)⟩ :: rest) (St N asg oa nx) :=
 gO_s ht hN hv (fun hb => h2 hb (if0 hm hb)) (fun hb => h1 hb (if1 hm hb))
theorem bT {Y : Sys P} {n : Nat} {L : Array Bool} {K : S Unit → Prop} (t : Nat) (hm : (if b = true then m1 else m2) = z)
  (h1 : b = true → m1 = z → aAny Y ops n L (St N ((t, .u (.one (.bool true))) :: asg) oa nx) K) (h2 : b = false → m2 = z → aAny Y ops n L (St N ((t, .u (.one (.bool false))) :: asg) oa nx) K)
  (hN : Nat.blt t N = true := by rfl) (hv : lkp asg t = some (.u (.one (.bool b))) := by rfl) : aAny Y ops n L (St N asg oa nx) K :=
 sp_any (F := fun s => aAny Y ops n L s K) hN hv (fun hb => h1 hb (if1 hm hb)) (fun hb => h2 hb (if0 hm hb))
end
structure Bx (H : Prop) : Prop where
 h : H
theorem yG {G H : Prop} (h : H) (f : Bx H → G := by
 intro hh
 have hx : True := trivial
 repeat (first
  | ((first | refine nO ?_ | refine gO_t rfl rfl rfl ?_ | refine n_ ?_); (first
    | refine x_mv rfl rfl ?_
    | refine Z9y rfl FacF.h rfl rfl ?_
    | refine k_ldp rfl FacT.h rfl rfl rfl rfl rfl rfl ?_
    | refine X1d rfl rfl rfl ?_
    | refine x_as rfl rfl ?_
    | refine k_cmp FacT.h rfl rfl rfl rfl ?_
    | refine x_pk rfl rfl rfl ?_
    | (refine k_lnb FacN.h rfl fun hL => ?_; replace hx := And.intro hx hL)
    | (refine k_lnr FacN.h rfl rfl fun hL => ?_; replace hx := And.intro hx hL)
    | refine x_nci rfl ?_
    | refine Y5x FacF.h rfl ?_
    | refine k_ldi FacT.h rfl rfl rfl rfl ?_
    | refine k_ldn rfl FacT.h rfl rfl rfl (by first | exact hx.2 | exact hx.1.2 | exact hx.1.1.2 | exact hx.1.1.1.2 | assumption) rfl rfl ?_
    | ((have hy := Z9 hm); (replace hm := hy.2); (first
      | refine Y3s FacT.h rfl rfl hy.1 ?_
      | refine Z8m FacE.h rfl rfl hy.1 ?_
      | refine K8 rfl FacE.h rfl rfl rfl hy.1 ?_
      | refine X7r FacT.h rfl rfl hy.1 ?_
      | refine x_sx FacN.h rfl rfl hy.1 ?_
      | refine W4x FacA.h FacN.h (X2h _) rfl rfl rfl (X9t rfl) hy.1 ?_
      | refine W4x FacA.h FacN.h (X2h _) rfl rfl rfl (X9v _) hy.1 ?_
      | refine x_apn FacA.h FacN.h (X2h _) rfl rfl (X9t rfl) hy.1 ?_
      | refine x_apn FacA.h FacN.h (X2h _) rfl rfl (X9v _) hy.1 ?_
      | refine W4v FacT.h rfl rfl hy.1 ?_
      | refine x_quo FacT.h rfl rfl hy.1 ?_
      | refine x_shl FacT.h rfl rfl hy.1 ?_
      | refine x_shr FacT.h rfl rfl hy.1 ?_); (replace hx := And.intro hx hy.1); clear hy)
    | ((fail_if_success have := fW); refine Y3s FacT.h rfl rfl (by unfold inI; omega) ?_)
    | ((fail_if_success have := fW); refine X7r FacT.h rfl rfl (by unfold inI; omega) ?_)
    | ((fail_if_success have := fW); refine x_cvn FacT.h FacT.h rfl rfl (by omega) ?_)
    | refine k_st FacT.h rfl rfl rfl rfl rfl rfl (by repeat first | exact PutR.nil | (apply PutR.cons; (repeat first | exact SetR.z | apply SetR.s))) ?_
    | refine k_bu FacT.h rfl (by repeat first | exact ZR.nil | apply ZR.int | apply ZR.nl | apply ZR.bool | apply ZR.str | apply ZR.nilp) (by repeat first | exact FillR.nil | (apply FillR.cons; exact rfl; exact rfl; exact rfl; exact rfl; exact rfl; (repeat first | exact PutR.nil | (apply PutR.cons; (repeat first | exact SetR.z | apply SetR.s))))) ?_
    | refine k_al FacT.h (by repeat first | exact ZR.nil | apply ZR.int | apply ZR.nl | apply ZR.bool | apply ZR.str | apply ZR.nilp) ?_
    | refine x_ex rfl rfl rfl ?_
    | refine x_un rfl rfl ?_
    | refine k_cvi FacT.h FacT.h rfl rfl rfl ?_
    | refine W4v FacT.h rfl rfl (by decide) ?_
    | refine x_quo FacT.h rfl rfl (by decide) ?_
    | refine x_shl FacT.h rfl rfl (by decide) ?_
    | refine x_shr FacT.h rfl rfl (by decide) ?_
    | refine x_lns FacN.h rfl ?_
    | refine k_cmpb FacT.h rfl rfl rfl ?_
    | refine x_bx rfl rfl rfl rfl ?_))
  | refine gO_f rfl rfl rfl ?_
  | refine gO_fn rfl rfl rfl ?_
  | refine gO_u rfl rfl rfl ?_
  | refine gO_un rfl rfl rfl ?_
  | ((fail_if_success have := fR); (first
    | refine Wp.seq ?_
    | refine X7 ?_
    | refine W5 ?_
    | refine K5 ?_
    | refine Wp.block ?_
    | refine Z2d ?_
    | refine V2 ?_
    | refine z_ ?_
    | refine c_t rfl rfl ?_
    | refine c_f rfl rfl ?_)))
 refine (?_ : _ → _ → _) hx hm
 exact hh.h) : G := f ⟨h⟩
theorem yR {G H : Prop} (h : H) (f : Bx H → True → G := by
 intro hh fR
 refine yG ?_
 exact hh.h) : G := f ⟨h⟩ trivial
end
section
theorem Z4j : Tryz.prog.follows .mixedOrders = true := by kernel_rfl
structure GPhi where
 w : Int
 ins : List Int
def zPhi : GPhi := { w := 0, ins := [] }
instance : Inhabited GPhi := ⟨zPhi⟩
def ePhi (o : Bool) (x : GPhi) : List (L Unit) := [.int .i64 x.w, sl o 1 (List.map iL x.ins)]
instance : EncB (ePhi false) := ⟨fun _ => rfl⟩
instance (o : Bool) : EncO (ePhi o) := ⟨fun _ => by cases o <;> rfl⟩
instance : EncD (ePhi true) (ePhi false) := ⟨fun _ => by simp [ePhi, sl, Z2x, Y0g, sl]⟩
instance : EncF (ePhi true) := ⟨fun _ => by simp only [ePhi, sl, Y0e, Z4d, Y3i, Bool.and_self]⟩
structure GInst where
 op_ : Int
 w : Int
 a : Int
 b : Int
 c : Int
 imm : Int
 args : List Int
def zInst : GInst := { op_ := 0, w := 0, a := 0, b := 0, c := 0, imm := 0, args := [] }
instance : Inhabited GInst := ⟨zInst⟩
def Q1 (o : Bool) (x : GInst) : List (L Unit) := [.int .i64 x.op_, .int .i64 x.w, .int .i64 x.a, .int .i64 x.b, .int .i64 x.c, .int .i64 x.imm, sl false 1 (List.map iL x.args)]
instance : EncB (Q1 false) := ⟨fun _ => rfl⟩
instance (o : Bool) : EncO (Q1 o) := ⟨fun _ => by cases o <;> rfl⟩
instance : EncD (Q1 false) (Q1 false) := ⟨fun _ => rfl⟩
structure GTerm where
 kind : Int
 a : Int
 x : Int
 y : Int
def zTerm : GTerm := { kind := 0, a := 0, x := 0, y := 0 }
instance : Inhabited GTerm := ⟨zTerm⟩
def Y3r (x : GTerm) : List (L Unit) := [.int .i64 x.kind, .int .i64 x.a, .int .i64 x.x, .int .i64 x.y]
instance : EncB Y3r := ⟨fun _ => rfl⟩
instance : EncF Y3r := ⟨fun _ => rfl⟩
instance : EncD Y3r Y3r := ⟨fun _ => rfl⟩
structure GBlock where
 phis : List GPhi
 insts : List GInst
 term : GTerm
def zBlock : GBlock := { phis := [], insts := [], term := zTerm }
instance : Inhabited GBlock := ⟨zBlock⟩
def W2 (o : Bool) (x : GBlock) : List (L Unit) := [sl o 2 (List.map (ePhi o) x.phis), sl o 7 (List.map (Q1 false) x.insts), .int .i64 x.term.kind, .int .i64 x.term.a, .int .i64 x.term.x, .int .i64 x.term.y]
instance : EncB (W2 false) := ⟨fun _ => rfl⟩
instance (o : Bool) : EncO (W2 o) := ⟨fun _ => by cases o <;> rfl⟩
instance : EncD (W2 true) (W2 false) := ⟨fun _ => by simp [W2, sl, Z2x, Y0g, Y3r]⟩
structure GFunc where
 params : List Int
 ret : Int
 blocks : List GBlock
def zFunc : GFunc := { params := [], ret := 0, blocks := [] }
instance : Inhabited GFunc := ⟨zFunc⟩
def Y1 (o : Bool) (x : GFunc) : List (L Unit) := [sl false 1 (List.map iL x.params), .int .i64 x.ret, sl o 6 (List.map (W2 o) x.blocks)]
instance : EncB (Y1 false) := ⟨fun _ => rfl⟩
instance (o : Bool) : EncO (Y1 o) := ⟨fun _ => by cases o <;> rfl⟩
instance : EncD (Y1 true) (Y1 false) := ⟨fun _ => by simp [Y1, sl, Z2x, Y0g, sl]⟩
structure GModule where
 funcs : List GFunc
def zModule : GModule := { funcs := [] }
instance : Inhabited GModule := ⟨zModule⟩
def Z0f (o : Bool) (x : GModule) : List (L Unit) := [sl o 3 (List.map (Y1 o) x.funcs)]
instance : EncB (Z0f false) := ⟨fun _ => rfl⟩
instance (o : Bool) : EncO (Z0f o) := ⟨fun _ => by cases o <;> rfl⟩
instance : EncD (Z0f true) (Z0f false) := ⟨fun _ => by simp [Z0f, sl, Z2x, Y0g, sl]⟩
structure Gl1Rd where
 b : List Int
 p : Int
def zl1Rd : Gl1Rd := { b := [], p := 0 }
instance : Inhabited Gl1Rd := ⟨zl1Rd⟩
def J3 (o : Bool) (x : Gl1Rd) : List (L Unit) := [sl o 1 (List.map (iK .u8) x.b), .int .i64 x.p]
instance : EncB (J3 false) := ⟨fun _ => rfl⟩
instance (o : Bool) : EncO (J3 o) := ⟨fun _ => by cases o <;> rfl⟩
instance : EncD (J3 true) (J3 false) := ⟨fun _ => by simp [J3, sl, Z2x, Y0g, sl]⟩
instance : EncF (J3 true) := ⟨fun _ => by simp only [J3, sl, Y0e, Z4d, Y3i, Bool.and_self]⟩
structure Gl2G where
 f : GFunc
 b : GBlock
 next : Int
 ids : List Int
 ws : List Int
def zl2G : Gl2G := { f := zFunc, b := zBlock, next := 0, ids := [], ws := [] }
instance : Inhabited Gl2G := ⟨zl2G⟩
abbrev hl2G (e0_ : L Unit) (e1_ : L Unit) (e2_ : L Unit) (x : Gl2G) : List (L Unit) := [e0_, .os () 1 (List.map iL x.f.params), .int .i64 x.f.ret, .os () 6 (List.map (W2 true) x.f.blocks), .os () 2 (List.map (ePhi true) x.b.phis), .os () 7 (List.map (Q1 false) x.b.insts), .int .i64 x.b.term.kind, .int .i64 x.b.term.a, .int .i64 x.b.term.x, .int .i64 x.b.term.y, .int .i64 x.next, .bs () 1 (List.map iL x.ids), .bs () 1 (List.map iL x.ws), e1_, e2_]
instance T2i : FacT Tryz.prog 2 { kd := .int .i64, agg := false, size := 1, bytes := 8, zero := [.int .i64 0], fields := [], elem := 0, places := [] } := ⟨by kernel_rfl⟩
abbrev T2 := T2i.h
instance T3i : FacT Tryz.prog 3 { kd := .int .i64, agg := false, size := 1, bytes := 8, zero := [.int .i64 0], fields := [], elem := 0, places := [] } := ⟨by kernel_rfl⟩
abbrev T3 := T3i.h
instance T4i : FacT Tryz.prog 4 { kd := .bool, agg := false, size := 1, bytes := 1, zero := [.bool false], fields := [], elem := 0, places := [] } := ⟨by kernel_rfl⟩
abbrev T4 := T4i.h
instance T5i : FacT Tryz.prog 5 { kd := .int .u8, agg := false, size := 1, bytes := 1, zero := [.int .u8 0], fields := [], elem := 0, places := [] } := ⟨by kernel_rfl⟩
abbrev T5 := T5i.h
instance T22i : FacT Tryz.prog 22 { kd := .slice, agg := false, size := 1, bytes := 24, zero := [.nl], fields := [], elem := 5, places := [] } := ⟨by kernel_rfl⟩
instance T24i : FacT Tryz.prog 24 { kd := .slice, agg := false, size := 1, bytes := 24, zero := [.nl], fields := [], elem := 32, places := [] } := ⟨by kernel_rfl⟩
abbrev T24 := T24i.h
instance T26i : FacT Tryz.prog 26 { kd := .struct, agg := true, size := 1, bytes := 24, zero := [.nl], fields := [(0, 24)], elem := 0, places := [(0, 1)] } := ⟨by kernel_rfl⟩
abbrev T26 := T26i.h
instance T29i : FacT Tryz.prog 29 { kd := .slice, agg := false, size := 1, bytes := 24, zero := [.nl], fields := [], elem := 2, places := [] } := ⟨by kernel_rfl⟩
abbrev T29 := T29i.h
instance T30i : FacT Tryz.prog 30 { kd := .slice, agg := false, size := 1, bytes := 24, zero := [.nl], fields := [], elem := 41, places := [] } := ⟨by kernel_rfl⟩
abbrev T30 := T30i.h
instance T32i : FacT Tryz.prog 32 { kd := .struct, agg := true, size := 3, bytes := 56, zero := [.nl, .int .i64 0, .nl], fields := [(0, 29), (1, 2), (2, 30)], elem := 0, places := [(0, 1), (1, 1), (2, 1)] } := ⟨by kernel_rfl⟩
abbrev T32 := T32i.h
instance T36i : FacT Tryz.prog 36 { kd := .slice, agg := false, size := 1, bytes := 24, zero := [.nl], fields := [], elem := 65, places := [] } := ⟨by kernel_rfl⟩
abbrev T36 := T36i.h
instance T37i : FacT Tryz.prog 37 { kd := .slice, agg := false, size := 1, bytes := 24, zero := [.nl], fields := [], elem := 46, places := [] } := ⟨by kernel_rfl⟩
abbrev T37 := T37i.h
instance T39i : FacT Tryz.prog 39 { kd := .struct, agg := true, size := 4, bytes := 32, zero := [.int .i64 0, .int .i64 0, .int .i64 0, .int .i64 0], fields := [(0, 2), (1, 2), (2, 2), (3, 2)], elem := 0, places := [(0, 1), (1, 1), (2, 1), (3, 1)] } := ⟨by kernel_rfl⟩
abbrev T39 := T39i.h
instance T41i : FacT Tryz.prog 41 { kd := .struct, agg := true, size := 6, bytes := 80, zero := [.nl, .nl, .int .i64 0, .int .i64 0, .int .i64 0, .int .i64 0], fields := [(0, 36), (1, 37), (2, 39)], elem := 0, places := [(0, 1), (1, 1), (2, 4)] } := ⟨by kernel_rfl⟩
abbrev T41 := T41i.h
instance T46i : FacT Tryz.prog 46 { kd := .struct, agg := true, size := 7, bytes := 72, zero := [.int .i64 0, .int .i64 0, .int .i64 0, .int .i64 0, .int .i64 0, .int .i64 0, .nl], fields := [(0, 2), (1, 2), (2, 2), (3, 2), (4, 2), (5, 2), (6, 29)], elem := 0, places := [(0, 1), (1, 1), (2, 1), (3, 1), (4, 1), (5, 1), (6, 1)] } := ⟨by kernel_rfl⟩
abbrev T46 := T46i.h
instance T48i : FacT Tryz.prog 48 { kd := .ptr, agg := false, size := 1, bytes := 8, zero := [.nilp], fields := [], elem := 0, places := [] } := ⟨by kernel_rfl⟩
instance T61i : FacT Tryz.prog 61 { kd := .struct, agg := true, size := 2, bytes := 32, zero := [.nl, .int .i64 0], fields := [(0, 22), (1, 3)], elem := 0, places := [(0, 1), (1, 1)] } := ⟨by kernel_rfl⟩
instance T65i : FacT Tryz.prog 65 { kd := .struct, agg := true, size := 2, bytes := 32, zero := [.int .i64 0, .nl], fields := [(0, 2), (1, 29)], elem := 0, places := [(0, 1), (1, 1)] } := ⟨by kernel_rfl⟩
abbrev T65 := T65i.h
instance T66i : FacT Tryz.prog 66 { kd := .slice, agg := false, size := 1, bytes := 24, zero := [.nl], fields := [], elem := 29, places := [] } := ⟨by kernel_rfl⟩
instance T83i : FacT Tryz.prog 83 { kd := .struct, agg := true, size := 15, bytes := 248, zero := [.nilp, .nl, .int .i64 0, .nl, .nl, .nl, .int .i64 0, .int .i64 0, .int .i64 0, .int .i64 0, .int .i64 0, .nl, .nl, .nl, .nl], fields := [(0, 48), (1, 32), (4, 41), (10, 2), (11, 29), (12, 29), (13, 29), (14, 66)], elem := 0, places := [(0, 1), (1, 3), (4, 6), (10, 1), (11, 1), (12, 1), (13, 1), (14, 1)] } := ⟨by kernel_rfl⟩
abbrev T83 := T83i.h
instance T99i : FacT Tryz.prog 99 { kd := .int .u64, agg := false, size := 1, bytes := 8, zero := [.int .u64 0], fields := [], elem := 0, places := [] } := ⟨by kernel_rfl⟩
instance T101i : FacT Tryz.prog 101 { kd := .int .u64, agg := false, size := 1, bytes := 8, zero := [.int .u64 0], fields := [], elem := 0, places := [] } := ⟨by kernel_rfl⟩
abbrev T101 := T101i.h
instance E22i : FacE Tryz.prog 22 1 := ⟨by kernel_rfl⟩
abbrev E22 := E22i.h
instance E24i : FacE Tryz.prog 24 3 := ⟨by kernel_rfl⟩
abbrev E24 := E24i.h
instance E29i : FacE Tryz.prog 29 1 := ⟨by kernel_rfl⟩
abbrev E29 := E29i.h
instance E30i : FacE Tryz.prog 30 6 := ⟨by kernel_rfl⟩
abbrev E30 := E30i.h
instance E36i : FacE Tryz.prog 36 2 := ⟨by kernel_rfl⟩
abbrev E36 := E36i.h
instance E37i : FacE Tryz.prog 37 7 := ⟨by kernel_rfl⟩
abbrev E37 := E37i.h
instance E56i : FacE Tryz.prog 56 1 := ⟨by kernel_rfl⟩
abbrev E56 := E56i.h
instance E66i : FacE Tryz.prog 66 1 := ⟨by kernel_rfl⟩
instance A24i : FacA Tryz.prog 24 (3, 56, [.nl, .int .i64 0, .nl]) := ⟨by kernel_rfl⟩
abbrev A24 := A24i.h
instance A29i : FacA Tryz.prog 29 (1, 8, [.int .i64 0]) := ⟨by kernel_rfl⟩
abbrev A29 := A29i.h
instance A30i : FacA Tryz.prog 30 (6, 80, [.nl, .nl, .int .i64 0, .int .i64 0, .int .i64 0, .int .i64 0]) := ⟨by kernel_rfl⟩
abbrev A30 := A30i.h
instance A36i : FacA Tryz.prog 36 (2, 32, [.int .i64 0, .nl]) := ⟨by kernel_rfl⟩
abbrev A36 := A36i.h
instance A37i : FacA Tryz.prog 37 (7, 72, [.int .i64 0, .int .i64 0, .int .i64 0, .int .i64 0, .int .i64 0, .int .i64 0, .nl]) := ⟨by kernel_rfl⟩
instance A56i : FacA Tryz.prog 56 (1, 1, [.bool false]) := ⟨by kernel_rfl⟩
abbrev A56 := A56i.h
instance A66i : FacA Tryz.prog 66 (1, 24, [.nl]) := ⟨by kernel_rfl⟩
instance N22i : FacN Tryz.prog 22 .slice := ⟨by kernel_rfl⟩
abbrev N22 := N22i.h
instance N24i : FacN Tryz.prog 24 .slice := ⟨by kernel_rfl⟩
abbrev N24 := N24i.h
instance N29i : FacN Tryz.prog 29 .slice := ⟨by kernel_rfl⟩
abbrev N29 := N29i.h
instance N30i : FacN Tryz.prog 30 .slice := ⟨by kernel_rfl⟩
abbrev N30 := N30i.h
instance N36i : FacN Tryz.prog 36 .slice := ⟨by kernel_rfl⟩
abbrev N36 := N36i.h
instance N37i : FacN Tryz.prog 37 .slice := ⟨by kernel_rfl⟩
abbrev N37 := N37i.h
instance N56i : FacN Tryz.prog 56 .slice := ⟨by kernel_rfl⟩
instance N66i : FacN Tryz.prog 66 .slice := ⟨by kernel_rfl⟩
instance F26_0i : FacF Tryz.prog 26 0 (0, { kd := .slice, agg := false, size := 1, bytes := 24, zero := [.nl], fields := [], elem := 32, places := [] }) := ⟨by kernel_rfl⟩
abbrev F26_0 := F26_0i.h
instance F32_0i : FacF Tryz.prog 32 0 (0, { kd := .slice, agg := false, size := 1, bytes := 24, zero := [.nl], fields := [], elem := 2, places := [] }) := ⟨by kernel_rfl⟩
abbrev F32_0 := F32_0i.h
instance F32_1i : FacF Tryz.prog 32 1 (1, { kd := .int .i64, agg := false, size := 1, bytes := 8, zero := [.int .i64 0], fields := [], elem := 0, places := [] }) := ⟨by kernel_rfl⟩
instance F32_2i : FacF Tryz.prog 32 2 (2, { kd := .slice, agg := false, size := 1, bytes := 24, zero := [.nl], fields := [], elem := 41, places := [] }) := ⟨by kernel_rfl⟩
abbrev W4t := F32_2i.h
instance F39_0i : FacF Tryz.prog 39 0 (0, { kd := .int .i64, agg := false, size := 1, bytes := 8, zero := [.int .i64 0], fields := [], elem := 0, places := [] }) := ⟨by kernel_rfl⟩
instance F39_1i : FacF Tryz.prog 39 1 (1, { kd := .int .i64, agg := false, size := 1, bytes := 8, zero := [.int .i64 0], fields := [], elem := 0, places := [] }) := ⟨by kernel_rfl⟩
instance F39_2i : FacF Tryz.prog 39 2 (2, { kd := .int .i64, agg := false, size := 1, bytes := 8, zero := [.int .i64 0], fields := [], elem := 0, places := [] }) := ⟨by kernel_rfl⟩
instance F39_3i : FacF Tryz.prog 39 3 (3, { kd := .int .i64, agg := false, size := 1, bytes := 8, zero := [.int .i64 0], fields := [], elem := 0, places := [] }) := ⟨by kernel_rfl⟩
instance F41_0i : FacF Tryz.prog 41 0 (0, { kd := .slice, agg := false, size := 1, bytes := 24, zero := [.nl], fields := [], elem := 65, places := [] }) := ⟨by kernel_rfl⟩
abbrev X7q := F41_0i.h
instance F41_1i : FacF Tryz.prog 41 1 (1, { kd := .slice, agg := false, size := 1, bytes := 24, zero := [.nl], fields := [], elem := 46, places := [] }) := ⟨by kernel_rfl⟩
abbrev W6y := F41_1i.h
instance F41_2i : FacF Tryz.prog 41 2 (2, { kd := .struct, agg := true, size := 4, bytes := 32, zero := [.int .i64 0, .int .i64 0, .int .i64 0, .int .i64 0], fields := [(0, 2), (1, 2), (2, 2), (3, 2)], elem := 0, places := [(0, 1), (1, 1), (2, 1), (3, 1)] }) := ⟨by kernel_rfl⟩
instance F46_0i : FacF Tryz.prog 46 0 (0, { kd := .int .i64, agg := false, size := 1, bytes := 8, zero := [.int .i64 0], fields := [], elem := 0, places := [] }) := ⟨by kernel_rfl⟩
instance F46_1i : FacF Tryz.prog 46 1 (1, { kd := .int .i64, agg := false, size := 1, bytes := 8, zero := [.int .i64 0], fields := [], elem := 0, places := [] }) := ⟨by kernel_rfl⟩
instance F46_2i : FacF Tryz.prog 46 2 (2, { kd := .int .i64, agg := false, size := 1, bytes := 8, zero := [.int .i64 0], fields := [], elem := 0, places := [] }) := ⟨by kernel_rfl⟩
instance F46_3i : FacF Tryz.prog 46 3 (3, { kd := .int .i64, agg := false, size := 1, bytes := 8, zero := [.int .i64 0], fields := [], elem := 0, places := [] }) := ⟨by kernel_rfl⟩
instance F46_4i : FacF Tryz.prog 46 4 (4, { kd := .int .i64, agg := false, size := 1, bytes := 8, zero := [.int .i64 0], fields := [], elem := 0, places := [] }) := ⟨by kernel_rfl⟩
instance F46_5i : FacF Tryz.prog 46 5 (5, { kd := .int .i64, agg := false, size := 1, bytes := 8, zero := [.int .i64 0], fields := [], elem := 0, places := [] }) := ⟨by kernel_rfl⟩
instance F46_6i : FacF Tryz.prog 46 6 (6, { kd := .slice, agg := false, size := 1, bytes := 24, zero := [.nl], fields := [], elem := 2, places := [] }) := ⟨by kernel_rfl⟩
instance F61_0i : FacF Tryz.prog 61 0 (0, { kd := .slice, agg := false, size := 1, bytes := 24, zero := [.nl], fields := [], elem := 5, places := [] }) := ⟨by kernel_rfl⟩
instance F61_1i : FacF Tryz.prog 61 1 (1, { kd := .int .i64, agg := false, size := 1, bytes := 8, zero := [.int .i64 0], fields := [], elem := 0, places := [] }) := ⟨by kernel_rfl⟩
instance F65_0i : FacF Tryz.prog 65 0 (0, { kd := .int .i64, agg := false, size := 1, bytes := 8, zero := [.int .i64 0], fields := [], elem := 0, places := [] }) := ⟨by kernel_rfl⟩
abbrev F65_0 := F65_0i.h
instance F65_1i : FacF Tryz.prog 65 1 (1, { kd := .slice, agg := false, size := 1, bytes := 24, zero := [.nl], fields := [], elem := 2, places := [] }) := ⟨by kernel_rfl⟩
abbrev W6x := F65_1i.h
instance F83_0i : FacF Tryz.prog 83 0 (0, { kd := .ptr, agg := false, size := 1, bytes := 8, zero := [.nilp], fields := [], elem := 0, places := [] }) := ⟨by kernel_rfl⟩
instance F83_1i : FacF Tryz.prog 83 1 (1, { kd := .struct, agg := true, size := 3, bytes := 56, zero := [.nl, .int .i64 0, .nl], fields := [(0, 29), (1, 2), (2, 30)], elem := 0, places := [(0, 1), (1, 1), (2, 1)] }) := ⟨by kernel_rfl⟩
abbrev W0z := F83_1i.h
instance F83_2i : FacF Tryz.prog 83 2 (4, { kd := .struct, agg := true, size := 6, bytes := 80, zero := [.nl, .nl, .int .i64 0, .int .i64 0, .int .i64 0, .int .i64 0], fields := [(0, 36), (1, 37), (2, 39)], elem := 0, places := [(0, 1), (1, 1), (2, 4)] }) := ⟨by kernel_rfl⟩
abbrev F83_2 := F83_2i.h
instance F83_3i : FacF Tryz.prog 83 3 (10, { kd := .int .i64, agg := false, size := 1, bytes := 8, zero := [.int .i64 0], fields := [], elem := 0, places := [] }) := ⟨by kernel_rfl⟩
instance F83_4i : FacF Tryz.prog 83 4 (11, { kd := .slice, agg := false, size := 1, bytes := 24, zero := [.nl], fields := [], elem := 2, places := [] }) := ⟨by kernel_rfl⟩
instance F83_5i : FacF Tryz.prog 83 5 (12, { kd := .slice, agg := false, size := 1, bytes := 24, zero := [.nl], fields := [], elem := 2, places := [] }) := ⟨by kernel_rfl⟩
instance F83_6i : FacF Tryz.prog 83 6 (13, { kd := .slice, agg := false, size := 1, bytes := 24, zero := [.nl], fields := [], elem := 2, places := [] }) := ⟨by kernel_rfl⟩
abbrev F83_6 := F83_6i.h
instance F83_7i : FacF Tryz.prog 83 7 (14, { kd := .slice, agg := false, size := 1, bytes := 24, zero := [.nl], fields := [], elem := 29, places := [] }) := ⟨by kernel_rfl⟩
instance : EntC Tryz.prog 4 := ⟨Tryz.f4, Tryz.func4, by decide +kernel, rfl⟩
instance : EntC Tryz.prog 5 := ⟨Tryz.f5, Tryz.func5, by decide +kernel, rfl⟩
instance : EntC Tryz.prog 6 := ⟨Tryz.f6, Tryz.func6, by decide +kernel, rfl⟩
instance : EntC Tryz.prog 7 := ⟨Tryz.f7, Tryz.func7, by decide +kernel, rfl⟩
instance : EntC Tryz.prog 8 := ⟨Tryz.f8, Tryz.func8, by decide +kernel, rfl⟩
instance : EntC Tryz.prog 9 := ⟨Tryz.f9, Tryz.func9, by decide +kernel, rfl⟩
instance : EntC Tryz.prog 10 := ⟨Tryz.f10, Tryz.func10, by decide +kernel, rfl⟩
instance : EntC Tryz.prog 11 := ⟨Tryz.f11, Tryz.func11, by decide +kernel, rfl⟩
instance : EntC Tryz.prog 12 := ⟨Tryz.f12, Tryz.func12, by decide +kernel, rfl⟩
instance : EntC Tryz.prog 13 := ⟨Tryz.f13, Tryz.func13, by decide +kernel, rfl⟩
instance : EntC Tryz.prog 14 := ⟨Tryz.f14, Tryz.func14, by decide +kernel, rfl⟩
instance : EntC Tryz.prog 15 := ⟨Tryz.f15, Tryz.func15, by decide +kernel, rfl⟩
instance : EntC Tryz.prog 16 := ⟨Tryz.f16, Tryz.func16, by decide +kernel, rfl⟩
instance : EntC Tryz.prog 17 := ⟨Tryz.f17, Tryz.func17, by decide +kernel, rfl⟩
instance : EntC Tryz.prog 18 := ⟨Tryz.f18, Tryz.func18, by decide +kernel, rfl⟩
instance : EntC Tryz.prog 19 := ⟨Tryz.f19, Tryz.func19, by decide +kernel, rfl⟩
instance : EntC Tryz.prog 20 := ⟨Tryz.f20, Tryz.func20, by decide +kernel, rfl⟩
instance : EntC Tryz.prog 21 := ⟨Tryz.f21, Tryz.func21, by decide +kernel, rfl⟩
instance : EntC Tryz.prog 22 := ⟨Tryz.f22, Tryz.func22, by decide +kernel, rfl⟩
instance : EntC Tryz.prog 23 := ⟨Tryz.f23, Tryz.func23, by decide +kernel, rfl⟩
instance : EntC Tryz.prog 24 := ⟨Tryz.f24, Tryz.func24, by decide +kernel, rfl⟩
instance : EntC Tryz.prog 25 := ⟨Tryz.f25, Tryz.func25, by decide +kernel, rfl⟩
instance : EntC Tryz.prog 26 := ⟨Tryz.f26, Tryz.func26, by decide +kernel, rfl⟩
instance : EntC Tryz.prog 27 := ⟨Tryz.f27, Tryz.func27, by decide +kernel, rfl⟩
instance : EntC Tryz.prog 28 := ⟨Tryz.f28, Tryz.func28, by decide +kernel, rfl⟩
instance : EntC Tryz.prog 29 := ⟨Tryz.f29, Tryz.func29, by decide +kernel, rfl⟩
instance : EntC Tryz.prog 30 := ⟨Tryz.f30, Tryz.func30, by decide +kernel, rfl⟩
instance : EntC Tryz.prog 31 := ⟨Tryz.f31, Tryz.func31, by decide +kernel, rfl⟩
instance : EntC Tryz.prog 32 := ⟨Tryz.f32, Tryz.func32, by decide +kernel, rfl⟩
instance : EntC Tryz.prog 33 := ⟨Tryz.f33, Tryz.func33, by decide +kernel, rfl⟩
instance : EntC Tryz.prog 34 := ⟨Tryz.f34, Tryz.func34, by decide +kernel, rfl⟩
instance : EntC Tryz.prog 35 := ⟨Tryz.f35, Tryz.func35, by decide +kernel, rfl⟩
instance : EntC Tryz.prog 36 := ⟨Tryz.f36, Tryz.func36, by decide +kernel, rfl⟩
instance : EntC Tryz.prog 37 := ⟨Tryz.f37, Tryz.func37, by decide +kernel, rfl⟩
instance : EntC Tryz.prog 38 := ⟨Tryz.f38, Tryz.func38, by decide +kernel, rfl⟩
instance : EntC Tryz.prog 39 := ⟨Tryz.f39, Tryz.func39, by decide +kernel, rfl⟩
instance : EntC Tryz.prog 40 := ⟨Tryz.f40, Tryz.func40, by decide +kernel, rfl⟩
instance : EntC Tryz.prog 41 := ⟨Tryz.f41, Tryz.func41, by decide +kernel, rfl⟩
instance : EntC Tryz.prog 42 := ⟨Tryz.f42, Tryz.func42, by decide +kernel, rfl⟩
instance : EntC Tryz.prog 43 := ⟨Tryz.f43, Tryz.func43, by decide +kernel, rfl⟩
instance : EntC Tryz.prog 44 := ⟨Tryz.f44, Tryz.func44, by decide +kernel, rfl⟩
instance : EntC Tryz.prog 45 := ⟨Tryz.f45, Tryz.func45, by decide +kernel, rfl⟩
instance : EntC Tryz.prog 46 := ⟨Tryz.f46, Tryz.func46, by decide +kernel, rfl⟩
instance : EntC Tryz.prog 47 := ⟨Tryz.f47, Tryz.func47, by decide +kernel, rfl⟩
instance : EntC Tryz.prog 48 := ⟨Tryz.f48, Tryz.func48, by decide +kernel, rfl⟩
instance : EntC Tryz.prog 49 := ⟨Tryz.f49, Tryz.func49, by decide +kernel, rfl⟩
instance : EntC Tryz.prog 50 := ⟨Tryz.f50, Tryz.func50, by decide +kernel, rfl⟩
instance : EntC Tryz.prog 51 := ⟨Tryz.f51, Tryz.func51, by decide +kernel, rfl⟩
instance : EntC Tryz.prog 52 := ⟨Tryz.f52, Tryz.func52, by decide +kernel, rfl⟩
instance : EntC Tryz.prog 53 := ⟨Tryz.f53, Tryz.func53, by decide +kernel, rfl⟩
instance : EntC Tryz.prog 54 := ⟨Tryz.f54, Tryz.func54, by decide +kernel, rfl⟩
instance : EntC Tryz.prog 55 := ⟨Tryz.f55, Tryz.func55, by decide +kernel, rfl⟩
instance : EntC Tryz.prog 56 := ⟨Tryz.f56, Tryz.func56, by decide +kernel, rfl⟩
instance : EntC Tryz.prog 57 := ⟨Tryz.f57, Tryz.func57, by decide +kernel, rfl⟩
instance : EntC Tryz.prog 58 := ⟨Tryz.f58, Tryz.func58, by decide +kernel, rfl⟩
instance : EntC Tryz.prog 59 := ⟨Tryz.f59, Tryz.func59, by decide +kernel, rfl⟩
instance : EntC Tryz.prog 60 := ⟨Tryz.f60, Tryz.func60, by decide +kernel, rfl⟩
instance : EntC Tryz.prog 61 := ⟨Tryz.f61, Tryz.func61, by decide +kernel, rfl⟩
instance : EntC Tryz.prog 62 := ⟨Tryz.f62, Tryz.func62, by decide +kernel, rfl⟩
instance : EntC Tryz.prog 63 := ⟨Tryz.f63, Tryz.func63, by decide +kernel, rfl⟩
instance : EntC Tryz.prog 64 := ⟨Tryz.f64, Tryz.func64, by decide +kernel, rfl⟩
instance : EntC Tryz.prog 65 := ⟨Tryz.f65, Tryz.func65, by decide +kernel, rfl⟩
instance : EntC Tryz.prog 66 := ⟨Tryz.f66, Tryz.func66, by decide +kernel, rfl⟩
instance : EntC Tryz.prog 67 := ⟨Tryz.f67, Tryz.func67, by decide +kernel, rfl⟩
instance : EntC Tryz.prog 68 := ⟨Tryz.f68, Tryz.func68, by decide +kernel, rfl⟩
instance : EntC Tryz.prog 69 := ⟨Tryz.f69, Tryz.func69, by decide +kernel, rfl⟩
instance : EntC Tryz.prog 70 := ⟨Tryz.f70, Tryz.func70, by decide +kernel, rfl⟩
instance : EntC Tryz.prog 71 := ⟨Tryz.f71, Tryz.func71, by decide +kernel, rfl⟩
instance : EntC Tryz.prog 72 := ⟨Tryz.f72, Tryz.func72, by decide +kernel, rfl⟩
instance : EntC Tryz.prog 73 := ⟨Tryz.f73, Tryz.func73, by decide +kernel, rfl⟩
instance : EntC Tryz.prog 74 := ⟨Tryz.f74, Tryz.func74, by decide +kernel, rfl⟩
instance : EntC Tryz.prog 75 := ⟨Tryz.f75, Tryz.func75, by decide +kernel, rfl⟩
instance : EntC Tryz.prog 76 := ⟨Tryz.f76, Tryz.func76, by decide +kernel, rfl⟩
instance : EntC Tryz.prog 77 := ⟨Tryz.f77, Tryz.func77, by decide +kernel, rfl⟩
instance : EntC Tryz.prog 78 := ⟨Tryz.f78, Tryz.func78, by decide +kernel, rfl⟩
instance : EntC Tryz.prog 79 := ⟨Tryz.f79, Tryz.func79, by decide +kernel, rfl⟩
instance : EntC Tryz.prog 80 := ⟨Tryz.f80, Tryz.func80, by decide +kernel, rfl⟩
instance : EntC Tryz.prog 81 := ⟨Tryz.f81, Tryz.func81, by decide +kernel, rfl⟩
instance : EntC Tryz.prog 82 := ⟨Tryz.f82, Tryz.func82, by decide +kernel, rfl⟩
instance : EntC Tryz.prog 83 := ⟨Tryz.f83, Tryz.func83, by decide +kernel, rfl⟩
instance : EntC Tryz.prog 84 := ⟨Tryz.f84, Tryz.func84, by decide +kernel, rfl⟩
instance : EntC Tryz.prog 85 := ⟨Tryz.f85, Tryz.func85, by decide +kernel, rfl⟩
instance : EntC Tryz.prog 86 := ⟨Tryz.f86, Tryz.func86, by decide +kernel, rfl⟩
instance : EntC Tryz.prog 87 := ⟨Tryz.f87, Tryz.func87, by decide +kernel, rfl⟩
instance : EntC Tryz.prog 88 := ⟨Tryz.f88, Tryz.func88, by decide +kernel, rfl⟩
instance : EntC Tryz.prog 89 := ⟨Tryz.f89, Tryz.func89, by decide +kernel, rfl⟩
instance : EntC Tryz.prog 90 := ⟨Tryz.f90, Tryz.func90, by decide +kernel, rfl⟩
instance : EntC Tryz.prog 91 := ⟨Tryz.f91, Tryz.func91, by decide +kernel, rfl⟩
instance : EntC Tryz.prog 92 := ⟨Tryz.f92, Tryz.func92, by decide +kernel, rfl⟩
instance : EntC Tryz.prog 93 := ⟨Tryz.f93, Tryz.func93, by decide +kernel, rfl⟩
instance : EntC Tryz.prog 94 := ⟨Tryz.f94, Tryz.func94, by decide +kernel, rfl⟩
instance : EntC Tryz.prog 95 := ⟨Tryz.f95, Tryz.func95, by decide +kernel, rfl⟩
instance : EntC Tryz.prog 96 := ⟨Tryz.f96, Tryz.func96, by decide +kernel, rfl⟩
instance : EntC Tryz.prog 97 := ⟨Tryz.f97, Tryz.func97, by decide +kernel, rfl⟩
instance : EntC Tryz.prog 98 := ⟨Tryz.f98, Tryz.func98, by decide +kernel, rfl⟩
instance : EntC Tryz.prog 99 := ⟨Tryz.f99, Tryz.func99, by decide +kernel, rfl⟩
instance : EntC Tryz.prog 100 := ⟨Tryz.f100, Tryz.func100, by decide +kernel, rfl⟩
instance : EntC Tryz.prog 101 := ⟨Tryz.f101, Tryz.func101, by decide +kernel, rfl⟩
instance : EntC Tryz.prog 102 := ⟨Tryz.f102, Tryz.func102, by decide +kernel, rfl⟩
instance : EntC Tryz.prog 103 := ⟨Tryz.f103, Tryz.func103, by decide +kernel, rfl⟩
instance : EntC Tryz.prog 104 := ⟨Tryz.f104, Tryz.func104, by decide +kernel, rfl⟩
instance : EntC Tryz.prog 105 := ⟨Tryz.f105, Tryz.func105, by decide +kernel, rfl⟩
instance : EntC Tryz.prog 106 := ⟨Tryz.f106, Tryz.func106, by decide +kernel, rfl⟩
instance : EntC Tryz.prog 107 := ⟨Tryz.f107, Tryz.func107, by decide +kernel, rfl⟩
instance : EntC Tryz.prog 108 := ⟨Tryz.f108, Tryz.func108, by decide +kernel, rfl⟩
instance : EntC Tryz.prog 109 := ⟨Tryz.f109, Tryz.func109, by decide +kernel, rfl⟩
instance : EntC Tryz.prog 110 := ⟨Tryz.f110, Tryz.func110, by decide +kernel, rfl⟩
instance : EntC Tryz.prog 111 := ⟨Tryz.f111, Tryz.func111, by decide +kernel, rfl⟩
instance : EntC Tryz.prog 112 := ⟨Tryz.f112, Tryz.func112, by decide +kernel, rfl⟩
instance : EntC Tryz.prog 113 := ⟨Tryz.f113, Tryz.func113, by decide +kernel, rfl⟩
instance : EntC Tryz.prog 114 := ⟨Tryz.f114, Tryz.func114, by decide +kernel, rfl⟩
instance : EntC Tryz.prog 115 := ⟨Tryz.f115, Tryz.func115, by decide +kernel, rfl⟩
instance : EntC Tryz.prog 116 := ⟨Tryz.f116, Tryz.func116, by decide +kernel, rfl⟩
instance : EntC Tryz.prog 117 := ⟨Tryz.f117, Tryz.func117, by decide +kernel, rfl⟩
instance : EntC Tryz.prog 118 := ⟨Tryz.f118, Tryz.func118, by decide +kernel, rfl⟩
instance : EntC Tryz.prog 119 := ⟨Tryz.f119, Tryz.func119, by decide +kernel, rfl⟩
instance : EntC Tryz.prog 120 := ⟨Tryz.f120, Tryz.func120, by decide +kernel, rfl⟩
instance : EntC Tryz.prog 121 := ⟨Tryz.f121, Tryz.func121, by decide +kernel, rfl⟩
instance : EntC Tryz.prog 122 := ⟨Tryz.f122, Tryz.func122, by decide +kernel, rfl⟩
instance : EntC Tryz.prog 123 := ⟨Tryz.f123, Tryz.func123, by decide +kernel, rfl⟩
instance : EntC Tryz.prog 124 := ⟨Tryz.f124, Tryz.func124, by decide +kernel, rfl⟩
end
end Go.Proofs.YtaocimmckbhhbaaGreat.AM
