import Derived.Test.YtghdhjgoicnbcaaGreatMf2
import Derived.Lib.SliceRun
import Derived.MapKept
set_option linter.unusedVariables false
set_option linter.unusedSimpArgs false
namespace Go.Proofs.YtghdhjgoicnbcaaGreat.AM
open Go

def updO : List (Nat × Ob Unit) → OAsg → OAsg
  | [], oa => oa
  | (i, o) :: l, oa => updO l ((i, some o) :: oa)
theorem updP_cons {ob : List (Nat × Ob Unit)} {h : Nat} {rows : List (List (L Unit))} {l : List (Nat × List (List (L Unit)))} (hn : h ∉ l.map (·.1)) : ob.map (updP ((h, rows) :: l)) = (updOb ob h rows).map (updP l) := by
  simp only [updOb, List.map_map]
  refine List.map_congr_left fun p _ => ?_
  simp only [Function.comp]
  by_cases hp : p.1 = h
  · subst hp
    rw [if_pos rfl]
    unfold updP
    simp only [List.lookup_cons, beq_self_eq_true, lookup_none hn]
  · rw [if_neg hp]
    unfold updP
    simp only [List.lookup_cons]
    have : (p.1 == h) = false := by simpa using hp
    rw [this]
theorem lko_ne {oa : OAsg} {nx i j : Nat} (o : Option (Ob Unit)) (h : i ≠ j) : lko ((i, o) :: oa) nx j = lko oa nx j := by
  simp only [lko, obAt_ne oa o h]
theorem obOf_updO {nx : Nat} : ∀ {l : List (Nat × Ob Unit)} {oa : OAsg}, (l.map (·.1)).Nodup → (∀ p ∈ l, ∃ o, lko oa nx p.1 = some o ∧ o.n = p.2.n) → obOf (updO l oa) nx = (obOf oa nx).map (updP (l.map fun p => (p.1, p.2.rows)))
  | [], oa, _, _ => by simp [updO, updP_nil]
  | (h, o) :: l, oa, hn, hl => by
    simp only [List.map_cons, List.nodup_cons] at hn
    obtain ⟨o0, h1, h2⟩ := hl (h, o) (by simp)
    simp only at h1 h2
    have e : (⟨(), o.n, o.rows⟩ : Ob Unit) = ⟨o0.h, o0.n, o.rows⟩ := by rw [h2]
    have ho : o = ⟨o0.h, o0.n, o.rows⟩ := by rw [← e]
    have h3 := obOf_upd h1 o.rows
    rw [← ho] at h3
    simp only [updO, List.map_cons]
    rw [obOf_updO hn.2 (fun p hp => by
      obtain ⟨o1, a1, a2⟩ := hl p (by simp [hp])
      refine ⟨o1, ?_, a2⟩
      rw [lko_ne _ (fun e => hn.1 (by rw [e]; exact List.mem_map.2 ⟨p, hp, rfl⟩))]
      exact a1), h3]
    rw [updP_cons (by rw [List.map_map]; exact hn.1)]
def dstA (dst : Option Nat) (v : V Unit) (asg : Asg) : Asg := match dst with
  | some t => (t, v) :: asg
  | none => asg
def oaG (g : Nat → Nat) (nx : Nat) (hs : List Nat) (obs' : List (Ob Unit)) (nobs : List (Nat × Ob Unit)) (oa : OAsg) : OAsg :=
  pushO nobs (pushO ((((obs'.drop hs.length).map (renOb g)).zipIdx nx).map fun q => (q.2, q.1)) (updO (hs.zip ((obs'.take hs.length).map (renOb g))) oa))
section
variable {P : Program} {N nx : Nat} {asg : Asg} {oa : OAsg} {K : S Unit → Prop}
theorem St_cg {dst : Option Nat} {r v : V Unit} {nobs : List (Nat × Ob Unit)} {hs : List Nat} {obs obs' : List (Ob Unit)} {g : Nat → Nat} {rd : List Nat} (hnd : hs.Nodup) (hh : All2 (fun h ob => lko oa nx h = some (renOb g ob)) hs obs)
    (hn : (obs'.take hs.length).map (·.n) = obs.map (·.n)) (hroot : rootV (fun _ => ()) (nx + (obs'.length - hs.length)) (renV g r) = (v, nobs)) :
    appE (St N asg oa nx) dst nx { v := (rootV (fun _ => ()) (nx + (obs'.length - hs.length)) (renV g r)).1, rd := rd, news := (obs'.drop hs.length).map (renOb g) ++ (rootV (fun _ => ()) (nx + (obs'.length - hs.length)) (renV g r)).2.map (·.2), upd := hs.zip ((obs'.take hs.length).map fun ob => (renOb g ob).rows) } = St N (dstA dst v asg) (oaG g nx hs obs' nobs oa) (nx + (obs'.length - hs.length + nobs.length)) := by
  have hlen := all2_len hh
  have hlk : (obs'.take hs.length).length = hs.length := by
    have := congrArg List.length hn
    simp only [List.length_map] at this
    omega
  have hk : nobs.map (·.1) = List.range' (nx + (obs'.length - hs.length)) nobs.length := by
    have := rootLs_keys (fun _ : Unit => ()) (nx + (obs'.length - hs.length)) (leavesV (renV g r))
    have h2 := (rootV_leaves (fun _ : Unit => ()) (nx + (obs'.length - hs.length)) (renV g r)).2
    rw [← h2, hroot] at this
    exact this
  have hre := rekey _ nobs hk
  have k1 : (hs.zip ((obs'.take hs.length).map (renOb g))).map (fun p => (p.1, p.2.rows)) = hs.zip ((obs'.take hs.length).map fun ob => (renOb g ob).rows) := by
    rw [List.zip_map_right, List.zip_map_right, List.map_map]
    rfl
  have k2 : obOf (updO (hs.zip ((obs'.take hs.length).map (renOb g))) oa) nx = (obOf oa nx).map (updP (hs.zip ((obs'.take hs.length).map fun ob => (renOb g ob).rows))) := by
    rw [obOf_updO ?_ ?_, k1]
    · rw [List.map_fst_zip (by simp only [List.length_map]; omega)]
      exact hnd
    · intro p hp
      obtain ⟨i, hi⟩ := List.getElem?_of_mem hp
      rw [List.getElem?_zip_eq_some, List.getElem?_map, Option.map_eq_some_iff] at hi
      obtain ⟨h1, ob', h2, h3⟩ := hi
      have hlt := (List.getElem?_eq_some_iff.1 h1).1
      have h4 : obs[i]? = some (obs[i]'(by omega)) := List.getElem?_eq_getElem (by omega)
      refine ⟨_, all2_get hh i _ _ h1 h4, ?_⟩
      have h5 := congrArg (fun l => l[i]?) hn
      simp only [List.getElem?_map, h2, h4, Option.map_some, Option.some.injEq] at h5
      rw [← h3]
      exact h5.symm
  have k3 : ((((obs'.drop hs.length).map (renOb g)).zipIdx nx).map (fun q => (q.2, q.1))).map (·.1) = List.range' nx ((((obs'.drop hs.length).map (renOb g)).zipIdx nx).map (fun q => (q.2, q.1))).length := by
    rw [zipIdx_keys]
    simp
  have kl : ((((obs'.drop hs.length).map (renOb g)).zipIdx nx).map (fun q => (q.2, q.1))).length = obs'.length - hs.length := by simp
  have k4 := obOf_push _ (updO (hs.zip ((obs'.take hs.length).map (renOb g))) oa) nx k3
  rw [kl] at k4
  have k5 := obOf_push nobs (pushO ((((obs'.drop hs.length).map (renOb g)).zipIdx nx).map fun q => (q.2, q.1)) (updO (hs.zip ((obs'.take hs.length).map (renOb g))) oa)) (nx + (obs'.length - hs.length)) hk
  rw [k4, k2] at k5
  have k6 : nx + (obs'.length - hs.length + nobs.length) = nx + (obs'.length - hs.length) + nobs.length := by omega
  have e1 : ∀ (oa' : OAsg) (nx' : Nat), St N (dstA dst v asg) oa' nx' = setSl ⟨slotsOf N asg, obOf oa' nx', nx'⟩ dst v := fun oa' nx' => by
    cases dst with
    | none => rfl
    | some t => simp only [dstA, St, setSl, slots_set]
  rw [e1]
  unfold appE app
  rw [hroot]
  simp only
  congr 1
  have k7 : (obOf oa nx).filter (fun p => !([] : List Nat).contains p.1) = obOf oa nx := List.filter_eq_self.2 (fun _ _ => rfl)
  have k8 : ((((obs'.drop hs.length).map (renOb g)) ++ nobs.map (·.2)).zipIdx nx).map (fun q => (q.2, q.1)) = (((obs'.drop hs.length).map (renOb g)).zipIdx nx).map (fun q => (q.2, q.1)) ++ nobs := by
    rw [List.zipIdx_append, List.map_append]
    congr 1
    simp only [List.length_map, List.length_drop]
    exact hre
  simp only [St, S.mk.injEq, true_and]
  refine ⟨?_, by simp⟩
  rw [k7, k8, k6]
  unfold oaG
  rw [k5, List.append_assoc]
/-- A call that hands objects over. -/
theorem x_cg {dst : Option Nat} {ty : TypeId} {pos : String} {aft : Array Edge} {x : Operand} {args : Array Operand} {ats : Array TypeId} {f : FuncId} {caps cs : List (L Unit)} {us : List (U Unit)} {r v : V Unit} {nobs : List (Nat × Ob Unit)} {oa' : OAsg} {nx' : Nat} {obs obs' : List (Ob Unit)}
    (hs : List Nat) (lent : Bool) (hf : ev N asg x = some (.u (.one (.fn () f caps)))) (hnd : hs.Nodup) (hh : All2 (fun h ob => lko oa nx h = some (renOb (gG hs nx) ob)) hs obs) (hkn : obs.all (fun ob => knowsR hs.length ob.rows) = true)
    (ha : ArgsG (St N asg oa nx) (gG hs nx) hs lent args.toList us) (hcaps : caps = cs.map (renL (gG hs nx))) (hck : cs.all (okK hs.length) = true) (hent : Ent P f) (hsim : Sim P f (us ++ cs.map .one) obs r obs')
    (himf : lent = false ∨ (immFreeV r = true ∧ obs'.all (fun ob => immFreeR ob.rows) = true)) (hn : (obs'.take hs.length).map (·.n) = obs.map (·.n)) (hroot : rootV (fun _ => ()) (nx + (obs'.length - hs.length)) (renV (gG hs nx) r) = (v, nobs))
    (hoa : oaG (gG hs nx) nx hs obs' nobs oa = oa') (hnx : nx + (obs'.length - hs.length + nobs.length) = nx') (hK : K (St N (dstA dst v asg) oa' nx')) : aopK (sysA P) 0 ⟨dst, .call ⟨.value x, args, ats⟩, ty, pos, aft, none⟩ (St N asg oa nx) K := by
  subst hoa hnx
  have hh' : All2 (fun h ob => look (St N asg oa nx).ob h = some (renOb (gG hs nx) ob)) hs obs := all2_imp (fun _ _ h => lko_ok h) hh
  refine ⟨_, fun h => absurd rfl h, stepOk_callG ⟨⟨.value x, args, ats⟩, f, caps, cs, us, hs, obs, obs', r, lent, rfl, ?_, hnd, hh', List.all_eq_true.1 hkn, ha, hcaps, hck, hent, hsim, himf.imp id fun h => ⟨h.1, List.all_eq_true.1 h.2⟩, rfl⟩, fun _ => ?_⟩
  · simp only [calE, lO_ev hf]
  · have e := St_cg (rd := []) (N := N) (asg := asg) (dst := dst) hnd hh hn hroot
    rw [← e] at hK
    exact hK
variable {g : Nat → Nat} {hs : List Nat} {lent : Bool}
theorem h_n : All2 (fun h ob => lko oa nx h = some (renOb g ob)) [] [] := .nil
theorem h_c {h : Nat} {ob : Ob Unit} {hs : List Nat} {obs : List (Ob Unit)} (h1 : lko oa nx h = some (renOb g ob)) (h2 : All2 (fun h ob => lko oa nx h = some (renOb g ob)) hs obs) : All2 (fun h ob => lko oa nx h = some (renOb g ob)) (h :: hs) (ob :: obs) := .cons h1 h2
theorem g_an {x : Operand} {xs : List Operand} {ls0 ls : List (L Unit)} {us : List (U Unit)} (hv : ev N asg x = some (.u (.agg ls0))) (hr : All2 (NlL g) ls0 ls) (hk : ls.all (okK hs.length) = true) (ht : ArgsG (St N asg oa nx) g hs lent xs us) : ArgsG (St N asg oa nx) g hs lent (x :: xs) (.agg ls :: us) :=
  .givn (uO_ev hv) hr hk ht
theorem g_n : ArgsG (St N asg oa nx) g hs lent [] [] := .nil
theorem g_1 {x : Operand} {xs : List Operand} {l0 l : L Unit} {us : List (U Unit)} (hv : ev N asg x = some (.u (.one l0))) (hr : l0 = renL g l) (hk : okK hs.length l = true) (ht : ArgsG (St N asg oa nx) g hs lent xs us) : ArgsG (St N asg oa nx) g hs lent (x :: xs) (.one l :: us) :=
  .given (by rw [uO_ev hv, hr]; rfl) (by simp only [leavesU, List.all_cons, hk, List.all_nil, Bool.and_self]) ht
theorem g_a {x : Operand} {xs : List Operand} {ls0 ls : List (L Unit)} {us : List (U Unit)} (hv : ev N asg x = some (.u (.agg ls0))) (hr : ls0 = ls.map (renL g)) (hk : ls.all (okK hs.length) = true) (ht : ArgsG (St N asg oa nx) g hs lent xs us) : ArgsG (St N asg oa nx) g hs lent (x :: xs) (.agg ls :: us) :=
  .given (by rw [uO_ev hv, hr]; rfl) hk ht
end
end Go.Proofs.YtghdhjgoicnbcaaGreat.AM

namespace Go.Proofs.YtghdhjgoicnbcaaGreat.AM
open Go
section
variable {P : Program} {B : Bd} {N nx : Nat} {asg : Asg} {oa : OAsg}
theorem f_end {us us' : List (U Unit)} {obs' : List (Ob Unit)} {k0 : Nat} (ids : List Nat) (hu : us = us'.map (renU (gG ids 0))) (hh : All2 (fun h ob => lko oa nx h = some (renOb (gG ids 0) ob)) ids obs') (hnd : ids.Nodup)
    (hk : us'.all (fun u => (leavesU u).all fun l => (idsL l).all fun i => Nat.blt i ids.length) = true) (hkr : obs'.all (fun o => knowsR ids.length o.rows) = true) (hB : B.n0 = k0) (hpre : ids.take k0 = List.range k0) (hk0 : Nat.ble k0 ids.length = true) :
    GhB B (Rt us oa nx) ⟨us'.map .u, keyed obs', ids.length⟩ := by
  have hlen := all2_len hh
  have hk0' := Nat.le_of_ble_eq_true hk0
  have hgi : ∀ i (h : i < ids.length), gG ids 0 i = ids[i] := fun i h => gG_lt (List.getElem?_eq_getElem h)
  refine GhB.view (gG ids 0) (by simp [Rt, hu]) (fun t v' hv => ?_) (fun p hp => ?_) (by rw [keyed_keys]; exact List.nodup_range) (fun i j hi hj e => ?_) (fun i hi => ?_) (by rw [hB]; exact hk0') (fun i hi => ?_)
  · right
    simp only [List.getElem?_map, Option.map_eq_some_iff] at hv
    obtain ⟨u', h1, rfl⟩ := hv
    simp only [Rt, hu, List.getElem?_map, h1, Option.map_some]
    rfl
  · have h1 := (zipIdx_mem (n := 0) hp).2
    simp only [Nat.sub_zero] at h1
    have hlt := (List.getElem?_eq_some_iff.1 h1).1
    rw [hgi p.1 (by omega)]
    exact lko_ok (N := 0) (asg := []) (all2_get hh p.1 _ _ (List.getElem?_eq_getElem (by omega)) h1)
  · simp only at hi hj
    rw [hgi i hi, hgi j hj] at e
    exact (List.getElem_inj hnd).1 e
  · show i < ids.length
    rcases hi with ⟨l, hl, hi⟩ | hi
    · rcases mem_tops.1 hl with ⟨v, hv, hl⟩ | hl
      · obtain ⟨u, hu2, rfl⟩ := List.mem_map.1 hv
        simp only [List.all_eq_true] at hk
        exact blt_lt (hk u hu2 l hl i hi)
      · obtain ⟨p, hp, r, hr, hl⟩ := mem_obLeaves.1 hl
        have h1 := (zipIdx_mem (n := 0) hp).2
        simp only [List.all_eq_true, knowsR] at hkr
        exact blt_lt (hkr _ (List.mem_of_getElem? h1) r hr l hl i hi)
    · have : i ∈ (keyed obs').map (·.1) := hi
      rw [keyed_keys, List.mem_range] at this
      omega
  · rw [hB] at hi
    rw [hgi i (by omega)]
    have h1 : (ids.take k0)[i]? = (List.range k0)[i]? := by rw [hpre]
    rw [List.getElem?_take, if_pos hi, List.getElem?_eq_getElem (by omega), List.getElem?_range hi] at h1
    exact Option.some.inj h1
/-- A function ends. -/
theorem retG {rs : List ResultVar} {us us' : List (U Unit)} {r : V Unit} {e : Exit} {nx' : Nat} {obs obs' : List (Ob Unit)} (he : (match e with | .normal => true | .ret => true | _ => false) = true) (hr : resUs P (St N asg oa nx).sl (look (St N asg oa nx).ob) rs = some us)
    (hg : GhB B (Rt us oa nx) ⟨us'.map .u, keyed obs', nx'⟩) (hrr : resR us' = r) (hs : (obs'.take obs.length).map shape = obs.map shape) (hl : Nat.ble obs.length obs'.length = true)
    (hk : us'.all (fun u => (leavesU u).all fun l => (idsL l).all fun i => Nat.blt i obs'.length) = true) (hkr : obs'.all (fun o => knowsR obs'.length o.rows) = true) : RetQ P B rs obs r obs' e (St N asg oa nx) :=
  ⟨by cases e <;> simp_all, us, hr, us', nx', hg, hrr, hs, Nat.le_of_ble_eq_true hl, hk, hkr⟩
end
end Go.Proofs.YtghdhjgoicnbcaaGreat.AM

namespace Go.Proofs.YtghdhjgoicnbcaaGreat.AM
open Go
section
variable {P : Program} {Y : Sys P}
theorem awpOps_pre {ops : Array Oper} {post : List Oper} {B : Bd} {Q : Exit → Act → World → Prop} {K : S Unit → Prop} (hK : ∀ s a W, K s → Rel B s a W → wpList P ops Q post a W) :
    ∀ (rest : List Oper) (s : S Unit) (a : Act) (W : World), awpOps Y ops.toList rest s K → Rel B s a W → wpList P ops Q (rest ++ post) a W
  | [], s, a, W, h, hr => hK s a W h hr
  | o :: rest, s, a, W, h, hr => by
    have run : ∀ s a W, aop Y o s (fun e => awpOps Y ops.toList rest (appE s o.dst s.nx e) K) → Rel B s a W → o.wp P a W (wpList P ops Q (rest ++ post)) Q := by
      intro s a W h hr
      obtain ⟨e, he, h⟩ := h
      obtain ⟨h1, h2⟩ := hr.step (Y.ok he)
      exact wp_any_post (Oper.wp_mono (fun a' W' hr' => awpOps_pre hK rest _ a' W' (h h1) hr') h2)
    have run2 : ∀ s a W, aop Y ⟨o.dst, o.op, o.type, o.pos, o.after, none⟩ s (fun e => awpOps Y ops.toList rest (appE s o.dst s.nx e) K) → Rel B s a W → o.wp P a W (wpList P ops Q (rest ++ post)) Q := by
      intro s a W h hr
      obtain ⟨e, he, h⟩ := h
      obtain ⟨h1, h2⟩ := hr.step (Y.ok he)
      have h3 : o.wp P a W (fun a' W' => Rel B (appE s o.dst s.nx e) a' W') (fun _ _ _ => False) := h2
      exact wp_any_post (Oper.wp_mono (fun a' W' hr' => awpOps_pre hK rest _ a' W' (h h1) hr') h3)
    simp only [awpOps] at h
    simp only [List.cons_append, wpList]
    split at h
    · rename_i hg
      rw [wanted_none hg, if_pos rfl]
      exact .inl (run s a W h hr)
    · rename_i j want hg
      split at h
      · cases h
      · rename_i t hj
        rw [Array.getElem?_toList] at hj
        split at h
        · rename_i b hb
          obtain ⟨d, rfl, hi, hs, hdef, hk⟩ := hr
          have hw := wanted_bool hg hj (slot_bool hs hb)
          rw [hw]
          by_cases hbw : b = want
          · subst hbw
            simp only [beq_self_eq_true, if_true]
            have h1 := h.1 rfl
            rw [stB_self hb] at h1
            exact .inl (run2 _ a W h1 ⟨d, rfl, hi, hs, hdef, hk⟩)
          · have hbn : b = !want := by cases b <;> cases want <;> simp_all
            have : (b == want) = false := by simpa using hbw
            rw [this, if_neg (by simp)]
            subst hbn
            have h2 := h.2 rfl
            rw [stB_self hb] at h2
            exact awpOps_pre hK rest _ _ _ h2 (Rel.skip ⟨d, rfl, hi, hs, hdef, hk⟩ o.dst)
        · rename_i hb
          obtain ⟨d, rfl, hi, hs, hdef, hk⟩ := hr
          have hw := wanted_ud hg hj (slot_ud hs hb)
          rw [hw, if_neg (by simp)]
          exact awpOps_pre hK rest _ _ _ h (Rel.skip ⟨d, rfl, hi, hs, hdef, hk⟩ o.dst)
        · cases h

/-- What is left of a region, told of worlds. -/
def WpO (P : Program) (B : Bd) (ops : List Oper) (Q : Exit → S Unit → Prop) (rest : List Oper) (s : S Unit) : Prop :=
  ∀ a W, Rel B s a W → wpList P ops.toArray (fun e a' W' => ∃ s', Rel B s' a' W' ∧ Q e s') rest a W
variable {B : Bd} {Q : Exit → S Unit → Prop} {ops rest : List Oper} {s s' : S Unit}
theorem c_regS {id : Nat} (h : WpO P B ops Q ops s) : Wp (P := P) B (.region id ops.toArray false) Q s := by
  intro a W hr
  have := h a W hr
  refine wp_region ?_
  have e := wpOps_eq_wpList (P := P) (ops := ops.toArray) (Q := fun e a' W' => ∃ s', Rel B s' a' W' ∧ Q e s') ops 0 (by simp)
  rw [← List.range_eq_range'] at e
  have h2 : (List.range ops.toArray.size) = List.range ops.length := by simp
  rw [h2, e]
  exact this
theorem o_run (k : Nat) (h : awpOps Y ops (rest.take k) s (fun s' => WpO P B ops Q (rest.drop k) s')) : WpO P B ops Q rest s := by
  intro a W hr
  have := awpOps_pre (Y := Y) (ops := ops.toArray) (post := rest.drop k) (B := B) (Q := fun e a' W' => ∃ s', Rel B s' a' W' ∧ Q e s') (K := fun s' => WpO P B ops Q (rest.drop k) s') (fun s a W h hr => h a W hr) (rest.take k) s a W (by simpa using h) hr
  rwa [List.take_append_drop] at this
theorem o_end (h : Q .normal s) : WpO P B ops Q [] s := fun _ _ hr => ⟨_, hr, h⟩
theorem WpO.ghb (hg : GhB B s s') (h : WpO P B ops Q rest s') : WpO P B ops Q rest s := fun a W hr => h a W (hg a W hr)
end
end Go.Proofs.YtghdhjgoicnbcaaGreat.AM

namespace Go.Proofs.YtghdhjgoicnbcaaGreat.AM
open Go

section
variable {δ : Type}
def frzL (id n : Nat) (rows : List (List (L δ))) : L δ → L δ
  | .ref v i off len => match Nat.beq i id && Nat.beq off 0 && Nat.beq len rows.length with
    | true => .bs v n rows
    | false => .ref v i off len
  | l => l
def frzU (id n : Nat) (rows : List (List (L δ))) : U δ → U δ
  | .one l => .one (frzL id n rows l)
  | .agg ls => .agg (ls.map (frzL id n rows))
def frzV (id n : Nat) (rows : List (List (L δ))) : V δ → V δ
  | .u x => .u (frzU id n rows x)
  | .tup xs => .tup (xs.map (frzU id n rows))
  | .un => .un
  | .ud => .ud
theorem leavesU_frz (id n : Nat) (rows : List (List (L δ))) (u : U δ) : leavesU (frzU id n rows u) = (leavesU u).map (frzL id n rows) := by cases u <;> simp [leavesU, frzU]
theorem leavesV_frz (id n : Nat) (rows : List (List (L δ))) (v : V δ) : leavesV (frzV id n rows v) = (leavesV v).map (frzL id n rows) := by
  cases v with
  | u x => exact leavesU_frz id n rows x
  | tup xs => simp [leavesV, frzV, List.map_flatMap, List.flatMap_map, leavesU_frz]
  | un => rfl
  | ud => rfl
end
theorem frzL_er (id n : Nat) (rows : List (List (L Value))) (l : L Value) : erL (frzL id n rows l) = frzL id n (rowsE rows) (erL l) := by
  cases l with
  | ref v i off len =>
    simp only [frzL, mapL, rowsE, List.length_map]
    split <;> rename_i h <;> simp only [h, mapL, mapR_eq]
  | _ => simp [frzL, mapL]
theorem frzU_er (id n : Nat) (rows : List (List (L Value))) (u : U Value) : erU (frzU id n rows u) = frzU id n (rowsE rows) (erU u) := by
  cases u <;> simp [frzU, mapU, frzL_er, Function.comp_def]
theorem frzV_er (id n : Nat) (rows : List (List (L Value))) (v : V Value) : erV (frzV id n rows v) = frzV id n (rowsE rows) (erV v) := by
  cases v <;> simp [frzV, mapV, frzU_er, Function.comp_def]
theorem frzL_val (id n : Nat) (rows : List (List (L Value))) (l : L Value) : val (frzL id n rows l) = val l := by
  cases l with
  | ref v i off len => simp only [frzL]; split <;> rfl
  | _ => rfl
theorem frzL_own (id n : Nat) (rows : List (List (L Value))) (hr : ∀ r ∈ rows, ∀ l ∈ r, plainL l = true) (l : L Value) : ownL (frzL id n rows l) = ownL l := by
  cases l with
  | ref v i off len => simp only [frzL]; split <;> simp [ownL]
  | _ => rfl
theorem frzL_cases (id n : Nat) (rows : List (List (L Value))) (l : L Value) : frzL id n rows l = l ∨ ∃ v, l = .ref v id 0 rows.length ∧ frzL id n rows l = .bs v n rows := by
  cases l with
  | ref v i off len =>
    simp only [frzL]
    split
    · rename_i h
      simp only [Bool.and_eq_true] at h
      obtain ⟨⟨h1, h2⟩, h3⟩ := h
      have e1 := Nat.eq_of_beq_eq_true h1
      have e2 := Nat.eq_of_beq_eq_true h2
      have e3 := Nat.eq_of_beq_eq_true h3
      subst e1 e2 e3
      exact .inr ⟨v, rfl, rfl⟩
    · exact .inl rfl
  | _ => exact .inl rfl
theorem UR_frz {id n : Nat} {rows : List (List (L Value))} {u : U Value} {x : Value} (h : UR u x) : UR (frzU id n rows u) x := by
  cases u with
  | one l => simp only [UR, frzU, frzL_val] at h ⊢; exact h
  | agg ls =>
    have : (ls.map (frzL id n rows)).map val = ls.map val := by rw [List.map_map]; exact List.map_congr_left fun l _ => frzL_val id n rows l
    simp only [UR, frzU, this] at h ⊢
    exact h
theorem VR_frz {id n : Nat} {rows : List (List (L Value))} {v : V Value} {x : Value} (h : VR v x) : VR (frzV id n rows v) x := by
  cases v with
  | u y => exact UR_frz h
  | tup xs =>
    obtain ⟨vs, h1, h2, h3⟩ := h
    refine ⟨vs, h1, by simpa using h2, fun i y z hy hz => ?_⟩
    rw [List.getElem?_map, Option.map_eq_some_iff] at hy
    obtain ⟨y0, hy0, rfl⟩ := hy
    exact UR_frz (h3 i y0 z hy0 hz)
  | un => trivial
  | ud => exact h
theorem GhB.freeze {B : Bd} {s : S Unit} {id : Nat} {o : Ob Unit} (ho : look s.ob id = some o) (hp : o.rows.all (fun r => r.all plainL) = true) :
    GhB B s ⟨s.sl.map (frzV id o.n o.rows), s.ob.filter (fun p => !(p.1 == id)), s.nx⟩ := by
  rintro a W ⟨d, rfl, hi, hs, hdef, hk, hn0⟩
  obtain ⟨o', ho', rfl⟩ := look_lift ho
  have hobs : _ ∧ ∀ r ∈ o'.rows, r.length = o'.n := hi.good.obs _ (find?_key ho')
  have hplain : ∀ r ∈ o'.rows, ∀ l ∈ r, plainL l = true := by
    simp only [erOb, mapOb, List.all_map, List.all_eq_true, Function.comp_def, plain_er] at hp
    exact hp
  have hsub : (d.ob.filter (fun p => !(p.1 == id))).Sublist d.ob := List.filter_sublist
  let d' : S Value := ⟨d.sl.map (frzV id o'.n o'.rows), d.ob.filter (fun p => !(p.1 == id)), d.nx⟩
  have htop : ∀ l ∈ tops d', l ∈ tops d ∨ ∃ v, .ref v id 0 o'.rows.length ∈ tops d ∧ l = .bs v o'.n o'.rows := fun l hl => by
    rcases mem_tops.1 hl with ⟨w, hw, hl2⟩ | hl2
    · obtain ⟨w0, hw0, rfl⟩ := List.mem_map.1 hw
      rw [leavesV_frz] at hl2
      obtain ⟨l0, hl0, rfl⟩ := List.mem_map.1 hl2
      have hm : l0 ∈ tops d := mem_tops.2 (.inl ⟨w0, hw0, hl0⟩)
      rcases frzL_cases id o'.n o'.rows l0 with h | ⟨v, h1, h2⟩
      · rw [h]; exact .inl hm
      · exact .inr ⟨v, by rw [← h1]; exact hm, h2⟩
    · obtain ⟨p, hp, r, hr, hlr⟩ := mem_obLeaves.1 hl2
      exact .inl (mem_tops.2 (.inr (mem_obLeaves.2 ⟨p, hsub.subset hp, r, hr, hlr⟩)))
  have hrow0 : o'.rows.flatten.flatMap ownL = [] := by
    rw [List.flatMap_eq_nil_iff]
    intro l hl
    obtain ⟨r, hr, hl⟩ := List.mem_flatten.1 hl
    exact ownL_noOs (plain_noOs (hplain r hr l hl))
  have hperm : (ownS d).Perm (hdrOwn o'.h o'.n o'.rows ++ ownS d') := by
    classical
    obtain ⟨l1, l2, hob, h1, h2⟩ := look_split ho' hi.good.ids
    have hf : d'.ob = l1 ++ l2 := by
      show d.ob.filter _ = _
      rw [hob]
      exact filter_ne h1 h2
    refine List.perm_iff_count.2 fun q => ?_
    have c1 := List.perm_iff_count.1 (own_split d) q
    have c2 := List.perm_iff_count.1 (own_split d') q
    have c3 : (d'.sl.flatMap leavesV).flatMap ownL = (d.sl.flatMap leavesV).flatMap ownL := by
      simp only [d', List.flatMap_map, List.flatMap_assoc]
      refine ownOb_ren.flatMap_congr' fun v _ => ?_
      rw [leavesV_frz, List.flatMap_map]
      exact ownOb_ren.flatMap_congr' fun l _ => frzL_own id o'.n o'.rows hplain l
    rw [hf, c3] at c2
    rw [hob] at c1
    simp only [List.flatMap_append, List.flatMap_cons, List.count_append, ownOb, hrow0, List.append_nil] at c1 c2 ⊢
    omega
  have hnd := (hperm.map (·.1)).nodup_iff.1 hi.good.nodup
  rw [List.map_append, List.nodup_append] at hnd
  have hown' : ∀ q ∈ ownS d', q ∈ ownS d := fun q hq => hperm.mem_iff.2 (List.mem_append_right _ hq)
  have hbs : ∀ v, .ref v id 0 o'.rows.length ∈ tops d → isSl v o'.rows ∧ ∀ p ∈ hdrImm v (valR o'.rows), p.2 ≠ [] → ImmFact W p ∧ (∀ q ∈ ownS d', q.1 ≠ p.1.block) ∧ ∃ q ∈ ownS d, q.1 = p.1.block := fun v hv => by
    obtain ⟨_, hform⟩ := (hi.good.wf _ hv).2 o' ho'
    rcases hform with ⟨h0, hv0⟩ | ⟨b, x, c0, h0, hv0⟩
    · have hr0 : o'.rows = [] := by
        rcases hobs.1 with ⟨_, h1⟩ | ⟨_, _, _, h1, _⟩
        · exact h1
        · simp only at h1; rw [h0] at h1; cases h1
      rw [hr0]
      exact ⟨⟨none, 0, by simpa using hv0, by simp, by simp [LIM], fun h => absurd rfl h⟩, fun p hp => by rw [hv0] at hp; simp [hdrImm] at hp⟩
    · rcases hv0 with hv0 | ⟨y, _, _, h9, _⟩
      · rcases hobs.1 with ⟨h7, _⟩ | ⟨b2, x2, c2, h7, h8, h9⟩
        · simp only at h7; rw [h0] at h7; cases h7
        · simp only at h7 h8 h9
          rw [h0] at h7
          cases h7
          simp only [Nat.zero_mul, Nat.add_zero, Nat.sub_zero] at hv0
          refine ⟨⟨_, _, hv0, h8, h9, fun _ => ⟨_, _, rfl⟩⟩, fun p hp hne => ?_⟩
          rw [hv0] at hp
          simp only [hdrImm, List.mem_singleton] at hp
          subst hp
          have hm0 : (b, x, c0 * o'.n, valR o'.rows) ∈ hdrOwn o'.h o'.n o'.rows := by simp [hdrOwn, h0]
          have hm : (b, x, c0 * o'.n, valR o'.rows) ∈ ownS d := hperm.mem_iff.2 (List.mem_append_left _ hm0)
          refine ⟨fun j u hj => ?_, fun q hq e => ?_, _, hm, rfl⟩
          · obtain ⟨arr, ty, k1, _, _, k4⟩ := hi.good.own _ hm
            have := k4 _ _ hj
            simp only [World.cell?, k1]
            simpa using this
          · exact hnd.2.2 b (List.mem_map.2 ⟨_, hm0, rfl⟩) q.1 (List.mem_map.2 ⟨q, hq, rfl⟩) e.symm
      · omega
  have hrowimm : ∀ r ∈ o'.rows, ∀ l ∈ r, ∀ p ∈ immL l, p ∈ immS d := fun r hr l hl p hp =>
    List.mem_flatMap.2 ⟨l, mem_tops.2 (.inr (mem_obLeaves.2 ⟨_, find?_key ho', r, hr, hl⟩)), hp⟩
  have himm : ∀ p ∈ immS d', p ∈ immS d ∨ ∃ v, .ref v id 0 o'.rows.length ∈ tops d ∧ p ∈ hdrImm v (valR o'.rows) := fun p hp => by
    obtain ⟨l, hl, hp⟩ := List.mem_flatMap.1 hp
    rcases htop l hl with h | ⟨v, h1, rfl⟩
    · exact .inl (List.mem_flatMap.2 ⟨l, h, hp⟩)
    · simp only [immL, List.mem_append] at hp
      rcases hp with hp | hp
      · exact .inr ⟨v, h1, hp⟩
      · rw [immR_eq] at hp
        obtain ⟨l2, hl2, hp⟩ := List.mem_flatMap.1 hp
        obtain ⟨r, hr, hl2⟩ := List.mem_flatten.1 hl2
        exact .inl (hrowimm r hr l2 hl2 p hp)
  refine ⟨d', ?_, ?_, ⟨by simpa [d'] using hs.1, fun i w hw => ?_⟩, hdef, fun i hi2 => hk i ?_, hn0⟩
  · have e1 : d'.sl.map erV = (d.sl.map erV).map (frzV id (erOb o').n (erOb o').rows) := by
      simp only [d', List.map_map]
      exact List.map_congr_left fun v _ => frzV_er id o'.n o'.rows v
    have e2 : (d.ob.filter (fun p => !(p.1 == id))).map (fun p => (p.1, erOb p.2)) = (d.ob.map (fun p => (p.1, erOb p.2))).filter (fun p => !(p.1 == id)) := by
      rw [List.filter_map]
      rfl
    simp only [erS, mapS, S.mk.injEq, and_true]
    exact ⟨e1, e2, rfl⟩
  · constructor
    · refine ⟨fun l hl => ?_, fun p hp => hi.good.obs p (hsub.subset hp), hi.good.ids.sublist (hsub.map _), fun p hp => hi.good.own p (hown' p hp), hnd.2.1, fun p hp hne => ?_⟩
      · rcases htop l hl with h | ⟨v, h1, rfl⟩
        · have := hi.good.wf l h
          exact ⟨this.1, refOk_mono (fun i _ => look_filter (f := fun j => !(j == id))) this.2⟩
        · refine ⟨⟨(hbs v h1).1, hobs.2, (wfR_iff _ _).2 fun r hr l hlr => plain_wf (hplain r hr l hlr) (has_ob hi.good ho' hr hlr).1⟩, by simp [refOk]⟩
      · rcases himm p hp with h | ⟨v, h1, h2⟩
        · obtain ⟨k1, k2⟩ := hi.good.imm p h hne
          exact ⟨k1, fun q hq => k2 q (hown' q hq)⟩
        · have := (hbs v h1).2 p h2 hne
          exact ⟨this.1, this.2.1⟩
    · exact hi.fr
    · exact fun p hp => hi.mine p (hown' p hp)
    · intro p hp hne
      rcases himm p hp with h | ⟨v, h1, h2⟩
      · exact hi.seen p h hne
      · obtain ⟨_, _, q, hq, e⟩ := (hbs v h1).2 p h2 hne
        rw [← e]
        rcases hi.mine q hq with h | h
        · exact .inr (.inl h)
        · exact .inr (.inr h)
    · exact fun p hp => hi.hdr p (hsub.subset hp)
  · simp only [d', List.getElem?_map, Option.map_eq_some_iff] at hw
    obtain ⟨w0, hw0, rfl⟩ := hw
    exact VR_frz (hs.2 i w0 hw0)
  · rcases hi2 with ⟨l, hl, h⟩ | h
    · rcases htop l hl with h2 | ⟨v, h1, rfl⟩
      · exact .inl ⟨l, h2, h⟩
      · simp [idsL] at h
    · exact .inr ((hsub.map _).subset h)
section
variable {B : Bd} {N nx : Nat} {asg : Asg} {oa : OAsg}
def refTo {δ : Type} (id : Nat) : L δ → Bool
  | .ref _ i _ _ => Nat.beq i id
  | _ => false
theorem frzL_no {id n : Nat} {rows : List (List (L Unit))} {l : L Unit} (h : refTo id l = false) : frzL id n rows l = l := by
  cases l with
  | ref v i off len =>
    simp only [refTo] at h
    simp only [frzL, h, Bool.false_and]
  | _ => rfl
theorem frzU_no {id n : Nat} {rows : List (List (L Unit))} {u : U Unit} (h : ∀ l ∈ leavesU u, refTo id l = false) : frzU id n rows u = u := by
  cases u with
  | one l => simp only [frzU, frzL_no (h l (by simp [leavesU]))]
  | agg ls =>
    simp only [frzU, U.agg.injEq]
    conv => rhs; rw [← List.map_id ls]
    exact List.map_congr_left fun l hl => frzL_no (h l hl)
theorem frzV_no {id n : Nat} {rows : List (List (L Unit))} {v : V Unit} (h : ∀ l ∈ leavesV v, refTo id l = false) : frzV id n rows v = v := by
  cases v with
  | u x => simp only [frzV, frzU_no h]
  | tup xs =>
    simp only [frzV, V.tup.injEq]
    conv => rhs; rw [← List.map_id xs]
    exact List.map_congr_left fun x hx => frzU_no fun l hl => h l (List.mem_flatMap.2 ⟨x, hx, hl⟩)
  | un => rfl
  | ud => rfl
theorem lkp_mem {α : Type} : ∀ {l : List (Nat × α)} {k : Nat} {v : α}, lkp l k = some v → (k, v) ∈ l
  | [], k, v, h => by simp [lkp] at h
  | (a, b) :: l, k, v, h => by
    by_cases hk : a = k
    · subst hk
      rw [lkp_cons_self] at h
      cases h
      simp
    · rw [lkp_cons_ne _ _ hk] at h
      exact List.mem_cons_of_mem _ (lkp_mem h)
/-- The slots that hold the object. -/
inductive Fz (asg : Asg) (id k : Nat) : List Nat → Prop
  | nil : Fz asg id k []
  | cons {t len : Nat} {ts : List Nat} : lkp asg t = some (.u (.one (.ref () id 0 len))) → len = k → Fz asg id k ts → Fz asg id k (t :: ts)
def frzA (v : V Unit) : List Nat → Asg → Asg
  | [], asg => asg
  | t :: ts, asg => (t, v) :: frzA v ts asg
theorem frzA_lkp (v : V Unit) (t : Nat) (asg : Asg) : ∀ ts : List Nat, lkp (frzA v ts asg) t = if t ∈ ts then some v else lkp asg t
  | [] => by simp [frzA]
  | t0 :: ts => by
    simp only [frzA]
    by_cases h : t0 = t
    · subst h; rw [lkp_cons_self]; simp
    · rw [lkp_cons_ne _ _ h, frzA_lkp v t asg ts]
      have : (t ∈ t0 :: ts) ↔ t ∈ ts := by simp [Ne.symm h]
      simp only [this]
theorem Fz.mem {asg : Asg} {id k : Nat} : ∀ {ts : List Nat}, Fz asg id k ts → ∀ t ∈ ts, lkp asg t = some (.u (.one (.ref () id 0 k)))
  | _, .nil, t, h => by cases h
  | _, .cons h1 h2 h3, t, h => by
    subst h2
    rcases List.mem_cons.1 h with rfl | h
    · exact h1
    · exact h3.mem t h
/-- An own object is frozen. -/
theorem f_frz {o : Ob Unit} (id : Nat) (ts : List Nat) (ho : lko oa nx id = some o) (hp : o.rows.all (fun r => r.all plainL) = true) (hts : Fz asg id o.rows.length ts) (hno : asg.all (fun p => ts.contains p.1 || (leavesV p.2).all fun l => !refTo id l) = true) :
    GhB B (St N asg oa nx) (St N (frzA (.u (.one (.bs () o.n o.rows))) ts asg) ((id, none) :: oa) nx) := by
  have h := GhB.freeze (B := B) (s := St N asg oa nx) (lko_ok ho) hp
  have e1 : (slotsOf N asg).map (frzV id o.n o.rows) = slotsOf N (frzA (.u (.one (.bs () o.n o.rows))) ts asg) := by
    unfold slotsOf
    rw [List.map_map]
    refine List.map_congr_left fun t _ => ?_
    simp only [Function.comp, slotV, frzA_lkp]
    by_cases ht : t ∈ ts
    · rw [if_pos ht, hts.mem t ht]
      simp [frzV, frzU, frzL]
    · rw [if_neg ht]
      cases hl : lkp asg t with
      | none => rfl
      | some v =>
        have h1 := List.all_eq_true.1 hno _ (lkp_mem hl)
        simp only [Bool.or_eq_true, List.contains_iff_mem, ht, false_or, List.all_eq_true, Bool.not_eq_true'] at h1
        exact frzV_no h1
  have e2 : (⟨(St N asg oa nx).sl.map (frzV id o.n o.rows), (St N asg oa nx).ob.filter (fun p => !(p.1 == id)), (St N asg oa nx).nx⟩ : S Unit) = St N (frzA (.u (.one (.bs () o.n o.rows))) ts asg) ((id, none) :: oa) nx := by
    simp only [St, e1, obOf_del]
  rw [← e2]
  exact h
end
end Go.Proofs.YtghdhjgoicnbcaaGreat.AM

namespace Go.Proofs.YtghdhjgoicnbcaaGreat.AM
open Go
theorem GhB.nl {B : Bd} {s : S Unit} {u : U Unit} (t j m : Nat) (o : Bool) (ht : s.sl[t]? = some (.u u)) (hj : (leavesU u)[j]? = some .nl) : GhB B s ⟨s.sl.set t (.u (setLf u j (match o with | true => .os () m [] | false => .bs () m []))), s.ob, s.nx⟩ := by
  rintro a W ⟨d, he, hi, hs, hdef, hk, hn0⟩
  have hsl : d.sl.map erV = s.sl := congrArg S.sl he
  have hob : (erS d).ob = s.ob := congrArg S.ob he
  have hnx : d.nx = s.nx := congrArg S.nx he
  have h1 : (d.sl.map erV)[t]? = some (.u u) := by rw [hsl, ht]
  rw [List.getElem?_map, Option.map_eq_some_iff] at h1
  obtain ⟨v, hv, hvu⟩ := h1
  obtain ⟨u', rfl, rfl⟩ : ∃ u', v = .u u' ∧ erU u' = u := by
    cases v with
    | u x => exact ⟨x, rfl, by injection hvu⟩
    | tup xs => cases hvu
    | un => cases hvu
    | ud => cases hvu
  rw [leavesU_map, List.getElem?_map, Option.map_eq_some_iff] at hj
  obtain ⟨l', hj', hl'⟩ := hj
  obtain rfl : l' = .nl := by cases l' <;> simp [mapL] at hl'; rfl
  have hjlt : j < (leavesU u').length := (List.getElem?_eq_some_iff.1 hj').1
  have htlt : t < d.sl.length := (List.getElem?_eq_some_iff.1 hv).1
  let nl' : L Value := match o with | true => .os (.slice none 0 0) m [] | false => .bs (.slice none 0 0) m []
  have hno : ownL nl' = [] := by cases o <;> simp [nl', ownL, hdrOwn, ownR]
  have him : immL nl' = [] := by cases o <;> simp [nl', immL, hdrImm, immR]
  have hids : idsL nl' = [] := by cases o <;> rfl
  have hwf : wfL false nl' := by
    cases o
    · exact ⟨⟨none, 0, rfl, Nat.le_refl _, by simp [LIM], fun h => absurd rfl h⟩, by simp, trivial⟩
    · exact ⟨.inl ⟨rfl, rfl⟩, by simp, trivial⟩
  have hval : val nl' = val (.nl : L Value) := by cases o <;> rfl
  let nv : V Value := .u (setLf u' j nl')
  have hlv : leavesV nv = (leavesU u').set j nl' := setLf_leaves hjlt
  let d' : S Value := ⟨d.sl.set t nv, d.ob, d.nx⟩
  have htop : ∀ l ∈ tops d', l ∈ tops d ∨ l = nl' := fun l hl => by
    rcases mem_tops.1 hl with ⟨w, hw, hl2⟩ | hl2
    · rcases List.mem_or_eq_of_mem_set hw with hw | rfl
      · exact .inl (mem_tops.2 (.inl ⟨w, hw, hl2⟩))
      · rw [hlv] at hl2
        rcases List.mem_or_eq_of_mem_set hl2 with hl2 | rfl
        · exact .inl (mem_tops.2 (.inl ⟨.u u', List.mem_of_getElem? hv, hl2⟩))
        · exact .inr rfl
    · exact .inl (mem_tops.2 (.inr hl2))
  have hown : (ownS d').Perm (ownS d) := by
    have h1 : ((leavesV nv).flatMap ownL).Perm ([] ++ (leavesV (.u u')).flatMap ownL) := by
      rw [hlv]
      exact perm_set (e := []) hj' (by simp [hno, ownL])
    have h2 := perm_set (f := fun v => (leavesV v).flatMap ownL) (e := []) hv h1
    simp only [ownS, tops, List.flatMap_append, List.flatMap_assoc, d'] at h2 ⊢
    simp only [List.nil_append] at h2
    exact (h2.append_right _).append_left _
  refine ⟨d', ?_, ?_, ⟨by simpa [d'] using hs.1, fun i w hw => ?_⟩, hdef, fun i hi2 => hk i ?_, hn0⟩
  · have e1 : (d'.sl.map erV) = s.sl.set t (.u (setLf (erU u') j (match o with | true => .os () m [] | false => .bs () m []))) := by
      simp only [d', List.map_set, hsl]
      congr 1
      show V.u (erU (setLf u' j nl')) = _
      rw [setLf_er]
      cases o <;> simp [nl', mapL, mapR]
    have : erS d' = ⟨d'.sl.map erV, (erS d).ob, d.nx⟩ := rfl
    rw [this, e1, hob, hnx]
  · refine hi.step (Nat.le_refl _) (Same.refl _) (fun _ _ _ => rfl) (fun l hl => ?_) hi.good.obs hi.good.ids (fun p hp => ⟨hi.good.own p (hown.mem_iff.1 hp), .inl ⟨p, hown.mem_iff.1 hp, rfl⟩⟩) ((hown.map (·.1)).nodup_iff.2 hi.good.nodup) (fun p hp => ?_) hi.hdr
    · rcases htop l hl with h | rfl
      · exact hi.good.wf l h
      · exact ⟨hwf, refOk_free hids⟩
    · obtain ⟨l, hl, hp⟩ := List.mem_flatMap.1 hp
      rcases htop l hl with h | rfl
      · exact .of_mem (List.mem_flatMap.2 ⟨l, h, hp⟩)
      · rw [him] at hp; cases hp
  · simp only [d', List.getElem?_set] at hw
    by_cases hti : t = i
    · subst hti
      rw [if_pos rfl, if_pos htlt] at hw
      cases hw
      exact setLf_UR (hs.2 t _ hv) hj' hval
    · rw [if_neg hti] at hw
      exact hs.2 i w hw
  · rcases hi2 with ⟨l, hl, h⟩ | h
    · rcases htop l hl with h2 | rfl
      · exact .inl ⟨l, h2, h⟩
      · rw [hids] at h; cases h
    · exact .inr h

section
variable {B : Bd} {N nx : Nat} {asg : Asg} {oa : OAsg}
/-- A nil slice in a slot stands as rows to read. -/
theorem f_nb {u u' : U Unit} (t j m : Nat) (hN : Nat.blt t N = true) (ht : lkp asg t = some (.u u)) (hj : (leavesU u)[j]? = some .nl) (hu : setLf u j (.bs () m []) = u') : GhB B (St N asg oa nx) (St N ((t, .u u') :: asg) oa nx) := by
  subst hu
  have h := GhB.nl (B := B) t j m false (St_get (oa := oa) (nx := nx) hN ht) hj
  have e : (⟨(St N asg oa nx).sl.set t (.u (setLf u j (.bs () m []))), (St N asg oa nx).ob, (St N asg oa nx).nx⟩ : S Unit) = St N ((t, .u (setLf u j (.bs () m []))) :: asg) oa nx := by
    simp only [St, slots_set]
  rw [← e]
  exact h
end
end Go.Proofs.YtghdhjgoicnbcaaGreat.AM

namespace Go.Proofs.YtghdhjgoicnbcaaGreat.AM
open Go
theorem set_flatMap {α β : Type} {f : α → List β} : ∀ {ls : List α} {j : Nat} {x x0 : α}, ls[j]? = some x0 → f x = f x0 → (ls.set j x).flatMap f = ls.flatMap f
  | [], j, x, x0, h, _ => by simp at h
  | y :: ls, 0, x, x0, h, he => by
    simp only [List.getElem?_cons_zero, Option.some.injEq] at h
    subst h
    simp [he]
  | y :: ls, j + 1, x, x0, h, he => by
    simp only [List.getElem?_cons_succ] at h
    simp [set_flatMap h he]
theorem set_map {α β : Type} {f : α → β} : ∀ {ls : List α} {j : Nat} {x x0 : α}, ls[j]? = some x0 → f x = f x0 → (ls.set j x).map f = ls.map f
  | [], j, x, x0, h, _ => by simp at h
  | y :: ls, 0, x, x0, h, he => by
    simp only [List.getElem?_cons_zero, Option.some.injEq] at h
    subst h
    simp [he]
  | y :: ls, j + 1, x, x0, h, he => by
    simp only [List.getElem?_cons_succ] at h
    simp only [List.set_cons_succ, List.map_cons, set_map h he]
theorem GhB.nlc {B : Bd} {s : S Unit} {id e j : Nat} {o : Ob Unit} {r : List (L Unit)} (m : Nat) (ho : look s.ob id = some o) (hr : o.rows[e]? = some r) (hj : r[j]? = some .nl) :
    GhB B s ⟨s.sl, updOb (s.ob ++ [(s.nx, ⟨(), m, []⟩)]) id (o.rows.set e (r.set j (.ref () s.nx 0 0))), s.nx + 1⟩ := by
  rintro a W ⟨d, rfl, hi, hs, hdef, hk, hn0⟩
  obtain ⟨o', ho', rfl⟩ := look_lift ho
  obtain ⟨r', hr', rfl⟩ := rows_er hr
  rw [List.getElem?_map, Option.map_eq_some_iff] at hj
  obtain ⟨l', hj', hl'⟩ := hj
  obtain rfl : l' = .nl := by cases l' <;> simp [mapL] at hl'; rfl
  have hfr : ∀ i, Knows d i → i ≠ d.nx := fun i hi1 he => by have := hk i hi1; omega
  obtain ⟨hinv, hkn⟩ := hi.new (W' := W) (fun _ => true) hfr hn0 (hd := .slice none 0 0) (n := m) (rows := []) (by simp) (by simp) (Nat.le_refl _) (Same.refl _) (fun _ _ _ => rfl) (.inl ⟨rfl, rfl⟩)
  have hfl : d.ob.filter (fun _ => true) = d.ob := List.filter_eq_self.2 fun _ _ => rfl
  simp only [hfl] at hinv hkn
  let d1 : S Value := ⟨d.sl, d.ob ++ [(d.nx, ⟨.slice none 0 0, m, []⟩)], d.nx + 1⟩
  have hinv1 : Inv B W d1 := hinv
  have hlook : look d1.ob id = some o' := look_mem hinv1.good.ids (List.mem_append_left _ (find?_key ho'))
  have hlookn : look d1.ob d.nx = some ⟨.slice none 0 0, m, []⟩ := look_mem hinv1.good.ids (List.mem_append_right _ (by simp))
  have hobs : _ ∧ ∀ r ∈ o'.rows, r.length = o'.n := hi.good.obs _ (find?_key ho')
  have hrm := List.mem_of_getElem? hr'
  obtain ⟨b, x, c, hh, hle, hlim⟩ : ∃ b x c, o'.h = .slice (some ⟨b, x, none⟩) 0 c ∧ o'.rows.length ≤ c ∧ o'.rows.length ≤ LIM := by
    rcases hobs.1 with ⟨_, h1⟩ | h1
    · simp only at h1; rw [h1] at hrm; cases hrm
    · exact h1
  have hm : (b, x, c * o'.n, valR o'.rows) ∈ ownS d1 := by
    simp only [ownS, List.mem_append]
    left
    exact List.mem_flatMap.2 ⟨(id, o'), find?_key hlook, by simp [hdrOwn, hh]⟩
  let rows' := o'.rows.set e (r'.set j (.ref (.slice none 0 0) d.nx 0 0))
  have hval : valR rows' = valR o'.rows := by
    unfold valR
    have e1 : ∀ rs : List (List (L Value)), rs.flatten.map val = rs.flatMap (fun r => r.map val) := fun rs => by rw [List.map_flatten, List.flatMap_def]
    rw [e1, e1]
    exact set_flatMap hr' (set_map hj' rfl)
  have hown : ownR rows' = ownR o'.rows := by
    rw [ownR_eq, ownR_eq]
    have e1 : ∀ rs : List (List (L Value)), rs.flatten.flatMap ownL = rs.flatMap (fun r => r.flatMap ownL) := fun rs => by rw [List.flatMap_def, List.flatMap_def, List.map_flatten, List.flatten_flatten, List.map_map]; rfl
    rw [e1, e1]
    exact set_flatMap hr' (set_flatMap hj' rfl)
  have hmem : ∀ r ∈ rows', r ∈ o'.rows ∨ r = r'.set j (.ref (.slice none 0 0) d.nx 0 0) := fun r hr => List.mem_or_eq_of_mem_set hr
  obtain ⟨hinv2, hkn2⟩ := hinv1.upd (W' := W) hlook (rows := rows') (fun r hr => by
      rcases hmem r hr with h | rfl
      · exact hobs.2 r h
      · rw [List.length_set]; exact hobs.2 r' hrm) (by simp [rows']) (fun r hr l hl => by
      rcases hmem r hr with h | rfl
      · exact has_ob hinv1.good hlook h hl
      · rcases List.mem_or_eq_of_mem_set hl with h | rfl
        · exact has_ob hinv1.good hlook hrm h
        · refine ⟨⟨rfl, _, _, _, rfl⟩, fun o2 ho2 => ?_, fun p hp => by simp [immL] at hp, fun i hi1 => ?_⟩
          · rw [hlookn] at ho2
            cases ho2
            exact ⟨by simp, .inl ⟨rfl, rfl⟩⟩
          · simp only [idsL, List.mem_singleton] at hi1
            subst hi1
            exact .inr (List.mem_map.2 ⟨_, List.mem_append_right _ (List.mem_singleton.2 rfl), rfl⟩)) (by rw [hown]; exact List.Sublist.refl _) hh rfl (Same.refl _) (fun _ _ => rfl) (by rw [hval]; exact hinv1.good.own _ hm)
  refine ⟨⟨d.sl, updOb d1.ob id rows', d.nx + 1⟩, ?_, hinv2, ⟨hs.1, hs.2⟩, hdef, fun i hi1 => ?_, ?_⟩
  · simp only [erS, mapS, S.mk.injEq, true_and, and_true]
    have e1 : rows'.map (fun r => r.map erL) = (erOb o').rows.set e ((r'.map erL).set j (.ref () d.nx 0 0)) := by
      simp [rows', erOb, mapOb, List.map_set, mapL]
    have e2 : d1.ob.map (fun p => (p.1, erOb p.2)) = d.ob.map (fun p => (p.1, erOb p.2)) ++ [(d.nx, ⟨(), m, []⟩)] := by simp [d1, mapOb]
    rw [← e1]
    unfold updOb
    rw [← e2, List.map_map, List.map_map]
    refine List.map_congr_left fun p _ => ?_
    simp only [Function.comp]
    split <;> rfl
  · have := hkn2 i hi1
    rcases hkn i this with h | h
    · have := hk i h; show i < d.nx + 1; omega
    · show i < d.nx + 1; omega
  · show B.n0 ≤ d.nx + 1; omega
section
variable {B : Bd} {N nx : Nat} {asg : Asg} {oa : OAsg}
/-- A nil slice in a cell of an own object becomes an own object without rows. -/
theorem f_nlc {n : Nat} {rows rows' : List (List (L Unit))} {r : List (L Unit)} (id e j m : Nat) (ho : lko oa nx id = some ⟨(), n, rows⟩) (hr : rows[e]? = some r) (hj : r[j]? = some .nl) (hrows : rows.set e (r.set j (.ref () nx 0 0)) = rows') :
    GhB B (St N asg oa nx) (St N asg ((id, some ⟨(), n, rows'⟩) :: (nx, some ⟨(), m, []⟩) :: oa) (nx + 1)) := by
  subst hrows
  have h := GhB.nlc (B := B) (s := St N asg oa nx) m (lko_ok ho) hr hj
  obtain ⟨hlt, hat⟩ := lko_lt ho
  have h1 : lko ((nx, some (⟨(), m, []⟩ : Ob Unit)) :: oa) (nx + 1) id = some ⟨(), n, rows⟩ := by
    unfold lko
    have : Nat.blt id (nx + 1) = true := by simp [Nat.blt]; omega
    rw [this]
    simp only
    rw [obAt_ne _ _ (by omega)]
    exact hat
  have h2 := obOf_upd h1 (rows.set e (r.set j (.ref () nx 0 0)))
  rw [obOf_new] at h2
  have e2 : (⟨(St N asg oa nx).sl, updOb ((St N asg oa nx).ob ++ [((St N asg oa nx).nx, ⟨(), m, []⟩)]) id (rows.set e (r.set j (.ref () (St N asg oa nx).nx 0 0))), (St N asg oa nx).nx + 1⟩ : S Unit) = St N asg ((id, some ⟨(), n, rows.set e (r.set j (.ref () nx 0 0))⟩) :: (nx, some ⟨(), m, []⟩) :: oa) (nx + 1) := by
    simp only [St]
    rw [h2]
  rw [← e2]
  exact h
end
end Go.Proofs.YtghdhjgoicnbcaaGreat.AM

namespace Go.Proofs.YtghdhjgoicnbcaaGreat.AM
open Go
section
variable {P : Program}
theorem ArgsG.loc {s s' : S Unit} {g : Nat → Nat} {hs : List Nat} {lent : Bool} (hob : s'.ob = s.ob) : ∀ {xs : List Operand} {us : List (U Unit)}, ArgsG s g hs lent xs us → (∀ x ∈ xs, evA s' x = evA s x) → ArgsG s' g hs lent xs us
  | _, _, .nil, _ => .nil
  | _, _, .given h1 h2 h3, he => .given (by rw [he _ (by simp)]; exact h1) h2 (h3.loc hob fun x hx => he x (by simp [hx]))
  | _, _, .givn h1 h2 h3 h4, he => .givn (by rw [he _ (by simp)]; exact h1) h2 h3 (h4.loc hob fun x hx => he x (by simp [hx]))
  | _, _, .lent h0 h1 h2 h3 h4, he => .lent h0 (by rw [he _ (by simp)]; exact h1) (by rw [hob]; exact h2) h3 (h4.loc hob fun x hx => he x (by simp [hx]))
def sysG (P : Program) : Sys P := { E := fun o s nid e => (sysC P).E o s nid e ∨ CallG P o s nid e, ok := fun h => h.elim (sysC P).ok stepOk_callG }
theorem locG : LocY (sysG P) := ⟨fun {o s s' nid e} h hρ hob => by
  rcases h with h | ⟨c, f, caps, cs, us, hs, obs, obs', r, lent, h1, h2, h3, h4, h5, h6, h7⟩
  · exact .inl (locC.op h hρ hob)
  · refine .inr ⟨c, f, caps, cs, us, hs, obs, obs', r, lent, h1, ?_, h3, by rw [hob]; exact h4, h5, ?_, h7⟩
    · rw [h1] at hρ
      unfold calE at h2 ⊢
      split at h2
      · rename_i x hx
        rw [hρ x (by simp [Op.operands, Call.operands, hx])]
        exact h2
      · cases h2
    · exact h6.loc hob fun x hx => hρ x (by rw [h1]; simp only [Op.operands, Call.operands, Array.mem_append]; exact .inr (by simpa using hx))⟩
def quietG : Op → Bool
  | .call c => quietB (.call c) && (match c.callee with
    | .value _ => false
    | _ => true)
  | op => quietB op
instance : PlainY (sysG P) := ⟨fun h => .inl (.inl h)⟩
theorem quietG_ok {o : Oper} {s : S Unit} {nid : Nat} {e : Eff} (hq : quietG o.op = true) (h : (sysG P).E o s nid e) : e.upd = [] ∧ e.del = [] := by
  rcases h with h | ⟨c, f, caps, cs, us, hs, obs, obs', r, lent, h1, h2, _⟩
  · refine QuietY.ok (Y := sysC P) (o := o) ?_ h
    show quietB o.op = true
    unfold quietG at hq
    split at hq
    · rename_i c hc
      rw [hc]
      simp only [Bool.and_eq_true] at hq
      exact hq.1
    · exact hq
  · unfold calE at h2
    split at h2
    · rename_i x hx
      rw [h1] at hq
      simp only [quietG, hx, Bool.and_false, Bool.false_eq_true] at hq
    · cases h2
instance : QuietY (sysG P) := ⟨quietG, quietG_ok, locG, fun h => h⟩
variable {K : S Unit → Prop}
theorem aopK_G {pr : Nat} {o : Oper} {s : S Unit} (h : aopK (sysC P) pr o s K) : aopK (sysG P) pr o s K := by
  obtain ⟨e, h0, h1, h2⟩ := h
  exact ⟨e, h0, .inl h1, h2⟩
end
section
variable {P : Program} {N nx : Nat} {asg : Asg} {oa : OAsg} {K : S Unit → Prop}
theorem x_cgG {dst : Option Nat} {ty : TypeId} {pos : String} {aft : Array Edge} {x : Operand} {args : Array Operand} {ats : Array TypeId} {f : FuncId} {caps cs : List (L Unit)} {us : List (U Unit)} {r v : V Unit} {nobs : List (Nat × Ob Unit)} {oa' : OAsg} {nx' : Nat} {obs obs' : List (Ob Unit)}
    (hs : List Nat) (lent : Bool) (hf : ev N asg x = some (.u (.one (.fn () f caps)))) (hnd : hs.Nodup) (hh : All2 (fun h ob => lko oa nx h = some (renOb (gG hs nx) ob)) hs obs) (hkn : obs.all (fun ob => knowsR hs.length ob.rows) = true)
    (ha : ArgsG (St N asg oa nx) (gG hs nx) hs lent args.toList us) (hcaps : caps = cs.map (renL (gG hs nx))) (hck : cs.all (okK hs.length) = true) (hent : Ent P f) (hsim : Sim P f (us ++ cs.map .one) obs r obs')
    (himf : lent = false ∨ (immFreeV r = true ∧ obs'.all (fun ob => immFreeR ob.rows) = true)) (hn : (obs'.take hs.length).map (·.n) = obs.map (·.n)) (hroot : rootV (fun _ => ()) (nx + (obs'.length - hs.length)) (renV (gG hs nx) r) = (v, nobs))
    (hoa : oaG (gG hs nx) nx hs obs' nobs oa = oa') (hnx : nx + (obs'.length - hs.length + nobs.length) = nx') (hK : K (St N (dstA dst v asg) oa' nx')) : aopK (sysG P) 0 ⟨dst, .call ⟨.value x, args, ats⟩, ty, pos, aft, none⟩ (St N asg oa nx) K := by
  subst hoa hnx
  have hh' : All2 (fun h ob => look (St N asg oa nx).ob h = some (renOb (gG hs nx) ob)) hs obs := all2_imp (fun _ _ h => lko_ok h) hh
  refine ⟨_, fun h => absurd rfl h, Or.inr ⟨⟨.value x, args, ats⟩, f, caps, cs, us, hs, obs, obs', r, lent, rfl, ?_, hnd, hh', List.all_eq_true.1 hkn, ha, hcaps, hck, hent, hsim, himf.imp id fun h => ⟨h.1, List.all_eq_true.1 h.2⟩, rfl⟩, fun _ => ?_⟩
  · simp only [calE, lO_ev hf]
  · have e := St_cg (rd := []) (N := N) (asg := asg) (dst := dst) hnd hh hn hroot
    rw [← e] at hK
    exact hK
end
section
variable {P : Program} {Y : Sys P} {N nx fuel : Nat} {asg : Asg} {oa : OAsg} {K : S Unit → Prop} {ops : List Oper} {L : Array Bool} {dst dst' : Option Nat} {op op' : Op} {ty ty' : TypeId} {pos pos' : String} {aft aft' : Array Edge}
def bothB (ops : Array Oper) (L : Array Bool) (i j : Nat) : Bool := (Region.ready .any ops L) == [i, j]
/-- Two operations are ready: both orders. -/
theorem t_2 (i j : Nat) (hi : ops[i]? = some ⟨dst, op, ty, pos, aft, none⟩) (hj : ops[j]? = some ⟨dst', op', ty', pos', aft', none⟩) (hb : bothB ops.toArray L i j = true)
    (h1 : aopK Y 0 ⟨dst, op, ty, pos, aft, none⟩ (St N asg oa nx) (fun s' => aAny Y ops fuel (L.setIfInBounds i true) s' K))
    (h2 : aopK Y 0 ⟨dst', op', ty', pos', aft', none⟩ (St N asg oa nx) (fun s' => aAny Y ops fuel (L.setIfInBounds j true) s' K)) : aAny Y ops (fuel + 1) L (St N asg oa nx) K := by
  have hr : Region.ready .any ops.toArray L = [i, j] := by simpa [bothB] using hb
  refine ⟨fun h0 => (by rw [h0] at hr; cases hr), fun k hk o ho => ?_⟩
  rw [hr] at hk
  simp only [List.mem_cons, List.not_mem_nil, or_false] at hk
  rcases hk with rfl | rfl
  · rw [hi] at ho
    cases ho
    obtain ⟨e, _, h1, h2⟩ := h1
    exact ⟨e, h1, fun hh => h2 fun _ => hh⟩
  · rw [hj] at ho
    cases ho
    obtain ⟨e, _, h1, h2⟩ := h2
    exact ⟨e, h1, fun hh => h2 fun _ => hh⟩
end
end Go.Proofs.YtghdhjgoicnbcaaGreat.AM

namespace Go.Proofs.YtghdhjgoicnbcaaGreat.AM
open Go
section
variable {P : Program} {Y : Sys P} [PlainY Y] {N nx t pr : Nat} {asg : Asg} {oa : OAsg} {K : S Unit → Prop} {ty : TypeId} {pos : String} {aft : Array Edge}
/-- A bound that is told. -/
def BdS (N : Nat) (asg : Asg) (x : Option Operand) (dflt n : Nat) : Prop := (x = none ∧ n = dflt) ∨ ∃ y k m, x = some y ∧ ev N asg y = some (.u (.one (.int k m))) ∧ 0 ≤ m ∧ n = m.toNat
theorem bd_n {d : Nat} : BdS N asg none d d := .inl ⟨rfl, rfl⟩
theorem bd_s {y : Operand} {d : Nat} {k : IntKind} {m : Int} (h : ev N asg y = some (.u (.one (.int k m)))) (h0 : 0 ≤ m) : BdS N asg (some y) d m.toNat := .inr ⟨y, k, m, rfl, h, h0, rfl⟩
theorem BdS.e {x : Option Operand} {d n : Nat} (h : BdS N asg x d n) : bdE (evA (St N asg oa nx)) x d = some n := by
  rcases h with ⟨rfl, rfl⟩ | ⟨y, k, m, rfl, h1, h2, rfl⟩
  · rfl
  · simp only [bdE, lO_ev h1, if_pos h2]
/-- A piece of own rows. -/
theorem x_slr {tt : TypeId} {x : Operand} {lo hi : Option Operand} {m l h id off len : Nat} {rows : List (List (L Unit))} (hp : Nat.beq pr 1 = false) (he : elS P tt = some m) (h1 : ev N asg x = some (.u (.one (.ref () id off len)))) (ho : lko oa nx id = some ⟨(), m, rows⟩) (hl : BdS N asg lo 0 l) (hh : BdS N asg hi len h)
    (hb : l ≤ h ∧ h ≤ len) (hK : K (St N ((t, .u (.one (.ref () id (off + l) (h - l)))) :: asg) oa nx)) : aopK Y pr ⟨some t, .slice tt x lo hi none, ty, pos, aft, none⟩ (St N asg oa nx) K := by
  obtain ⟨i, ie, a1, a2, a3, rfl⟩ := elS_spec he
  have e1 := hl.e (oa := oa) (nx := nx)
  have e2 := hh.e (oa := oa) (nx := nx)
  exact aopK_r (v := one1 (.ref () id (off + l) (h - l))) (rd := [id]) (hyp := True) (by simp only [opF, slF, a1, a2, a3, Option.bind_some, lO_ev h1, lko_ok ho, e1, e2, if_true, if_pos hb]) (rd1 hp (lko_ok ho)) (fun _ => by rw [St_pure]; exact hK)
end
end Go.Proofs.YtghdhjgoicnbcaaGreat.AM

namespace Go.Proofs.YtghdhjgoicnbcaaGreat.AM
open Go
theorem GhB.cut {B : Bd} {s : S Unit} {t id off len : Nat} {o : Ob Unit} (ht : s.sl[t]? = some (.u (.one (.ref () id off len)))) (ho : look s.ob id = some o) (hno : o.rows.all (fun r => r.all noOs) = true) :
    GhB B s ⟨s.sl.set t (.u (.one (.ref () s.nx 0 len))), s.ob.filter (fun p => !(p.1 == id)) ++ [(s.nx, ⟨(), o.n, (o.rows.drop off).take len⟩)], s.nx + 1⟩ := by
  rintro a W ⟨d, rfl, hi, hs, hdef, hk, hn0⟩
  obtain ⟨v1, hv1, hv2⟩ := erS_slot ht
  obtain ⟨v, rfl⟩ : ∃ v, v1 = .u (.one (.ref v id off len)) := by
    cases v1 with
    | u x => cases x with
      | one l =>
        simp only [mapV, mapU, V.u.injEq, U.one.injEq] at hv2
        obtain ⟨v, rfl⟩ := er_ref hv2
        exact ⟨v, rfl⟩
      | agg ls => cases hv2
    | tup xs => cases hv2
    | un => cases hv2
    | ud => cases hv2
  obtain ⟨o', ho', rfl⟩ := look_lift ho
  have hobs : _ ∧ ∀ r ∈ o'.rows, r.length = o'.n := hi.good.obs _ (find?_key ho')
  have hnos : ∀ r ∈ o'.rows, ∀ l ∈ r, noOs l = true := by
    simp only [erOb, mapOb, List.all_map, List.all_eq_true, Function.comp_def, noOs_er] at hno
    exact hno
  have hmem : L.ref v id off len ∈ tops d := mem_tops.2 (.inl ⟨_, List.mem_of_getElem? hv1, by simp [leavesV, leavesU]⟩)
  obtain ⟨hle, hform⟩ := (hi.good.wf _ hmem).2 o' ho'
  let rows' := (o'.rows.drop off).take len
  have hlr : rows'.length = len := by simp only [rows', List.length_take, List.length_drop]; omega
  have hsubr : ∀ r ∈ rows', r ∈ o'.rows := fun r hr => List.mem_of_mem_drop (List.mem_of_mem_take hr)
  have hkey : (id, o') ∈ d.ob := find?_key ho'
  -- the header
  obtain ⟨h', hh1, hh2, hh3⟩ : ∃ h', ((h' = .slice none 0 0 ∧ rows' = []) ∨ ∃ b x c, h' = .slice (some ⟨b, x, none⟩) 0 c ∧ rows'.length ≤ c ∧ rows'.length ≤ LIM) ∧
      (∀ ob : List (Nat × Ob Value), look ob d.nx = some ⟨h', o'.n, rows'⟩ → refOk ob (.ref v d.nx 0 len)) ∧
      (∀ p ∈ hdrOwn h' o'.n rows', OwnFact W p ∧ ∃ q ∈ hdrOwn o'.h o'.n o'.rows, q.1 = p.1) := by
    rcases hform with ⟨h0, hv0⟩ | ⟨b, x, c0, h0, hv0⟩
    · have hr0 : o'.rows = [] := by
        rcases hobs.1 with ⟨_, h1⟩ | ⟨_, _, _, h1, _⟩
        · exact h1
        · simp only at h1; rw [h0] at h1; cases h1
      have hr1 : rows' = [] := by simp [rows', hr0]
      refine ⟨.slice none 0 0, .inl ⟨rfl, hr1⟩, fun ob hl o2 ho2 => ?_, fun p hp => by simp [hdrOwn] at hp⟩
      rw [hl] at ho2
      cases ho2
      exact ⟨by simp [hlr], .inl ⟨rfl, hv0⟩⟩
    · have hc : o'.rows.length ≤ c0 ∧ o'.rows.length ≤ LIM := by
        rcases hobs.1 with ⟨h7, _⟩ | ⟨b2, x2, c2, h7, h8, h9⟩
        · simp only at h7; rw [h0] at h7; cases h7
        · simp only at h7 h8 h9; rw [h0] at h7; cases h7; exact ⟨h8, h9⟩
      have hm0 : (b, x, c0 * o'.n, valR o'.rows) ∈ hdrOwn o'.h o'.n o'.rows := by simp [hdrOwn, h0]
      have hm : (b, x, c0 * o'.n, valR o'.rows) ∈ ownS d := by
        simp only [ownS, List.mem_append]
        left
        exact List.mem_flatMap.2 ⟨(id, o'), hkey, hm0⟩
      obtain ⟨arr, ty, k1, k2, k3, k4⟩ := hi.good.own _ hm
      simp only at k2 k3 k4
      rcases hv0 with hv0 | ⟨y, hv0, hl0, h9, h10⟩
      · refine ⟨.slice (some ⟨b, x + off * o'.n, none⟩) 0 (c0 - off), .inr ⟨_, _, _, rfl, by omega, by omega⟩, fun ob hl o2 ho2 => ?_, fun p hp => ?_⟩
        · rw [hl] at ho2
          cases ho2
          exact ⟨by simp [hlr], .inr ⟨b, _, _, rfl, .inl (by rw [hv0]; simp)⟩⟩
        · simp only [hdrOwn, List.mem_singleton] at hp
          subst hp
          refine ⟨⟨arr, ty, k1, ?_, ?_, fun j u hj => ?_⟩, _, hm0, rfl⟩
          · simp only
            have : off * o'.n + (c0 - off) * o'.n = c0 * o'.n := by rw [← Nat.add_mul]; congr 1; omega
            omega
          · simp only
            rw [valR_len fun r hr => hobs.2 r (hsubr r hr)]
            exact Nat.mul_le_mul_right _ (by omega)
          · have h2 := drop_take_valR hobs.2 off len j hj
            have := k4 _ _ h2
            simpa [Nat.add_assoc] using this
      · have hr1 : rows' = [] := List.eq_nil_of_length_eq_zero (by omega)
        refine ⟨.slice (some ⟨b, y, none⟩) 0 0, .inr ⟨_, _, _, rfl, by omega, by omega⟩, fun ob hl o2 ho2 => ?_, fun p hp => ?_⟩
        · rw [hl] at ho2
          cases ho2
          exact ⟨by simp [hlr], .inr ⟨b, _, _, rfl, .inl (by rw [hv0, hl0]; simp)⟩⟩
        · simp only [hdrOwn, List.mem_singleton] at hp
          subst hp
          refine ⟨⟨arr, ty, k1, ?_, ?_, fun j u hj => ?_⟩, _, hm0, rfl⟩
          · simp only [Nat.zero_mul]; omega
          · simp [hr1, valR]
          · simp [hr1, valR] at hj
  let nv : V Value := .u (.one (.ref v d.nx 0 len))
  let no : Ob Value := ⟨h', o'.n, rows'⟩
  let d' : S Value := ⟨d.sl.set t nv, d.ob.filter (fun p => !(p.1 == id)) ++ [(d.nx, no)], d.nx + 1⟩
  have hsub : (d.ob.filter (fun p => !(p.1 == id))).Sublist d.ob := List.filter_sublist
  have hnk : d.nx ∉ d.ob.map (·.1) := fun hm => by have := hk d.nx (.inr hm); omega
  have hnd' : (d'.ob.map (·.1)).Nodup := by
    show ((d.ob.filter _ ++ [(d.nx, no)]).map (·.1)).Nodup
    rw [List.map_append, List.nodup_append]
    refine ⟨hi.good.ids.sublist (hsub.map _), by simp, fun i hi1 j hj e => ?_⟩
    simp only [List.map_cons, List.map_nil, List.mem_singleton] at hj
    subst e hj
    exact hnk ((hsub.map _).subset hi1)
  have hlookn : look d'.ob d.nx = some no := look_mem hnd' (List.mem_append_right _ (by simp))
  have htop : ∀ l ∈ tops d', l ∈ tops d ∨ l = .ref v d.nx 0 len := fun l hl => by
    rcases mem_tops.1 hl with ⟨w, hw, hl2⟩ | hl2
    · rcases List.mem_or_eq_of_mem_set hw with hw | rfl
      · exact .inl (mem_tops.2 (.inl ⟨w, hw, hl2⟩))
      · simp only [nv, leavesV, leavesU, List.mem_singleton] at hl2
        exact .inr hl2
    · obtain ⟨p, hp, r, hr, hlr⟩ := mem_obLeaves.1 hl2
      rcases List.mem_append.1 hp with hp | hp
      · exact .inl (mem_tops.2 (.inr (mem_obLeaves.2 ⟨p, hsub.subset hp, r, hr, hlr⟩)))
      · simp only [List.mem_singleton] at hp
        subst hp
        exact .inl (mem_tops.2 (.inr (mem_obLeaves.2 ⟨_, hkey, r, hsubr r hr, hlr⟩)))
  have hlook' : ∀ i, Knows d i → look d'.ob i = look d.ob i ∨ look d'.ob i = none := fun i hi1 => by
    have hne : i ≠ d.nx := fun e => by have := hk i hi1; omega
    have e1 : look d'.ob i = look (d.ob.filter (fun p => !(p.1 == id))) i := by
      unfold look
      simp only [d', List.find?_append]
      have : List.find? (fun p : Nat × Ob Value => p.1 == i) [(d.nx, no)] = none := by simp [Ne.symm hne]
      rw [this, Option.or_none]
    rw [e1]
    exact look_filter (f := fun j => !(j == id))
  have hown0 : o'.rows.flatten.flatMap ownL = [] := by
    rw [List.flatMap_eq_nil_iff]
    intro l hl
    obtain ⟨r, hr, hl⟩ := List.mem_flatten.1 hl
    exact ownL_noOs (hnos r hr l hl)
  have hown1 : rows'.flatten.flatMap ownL = [] := by
    rw [List.flatMap_eq_nil_iff]
    intro l hl
    obtain ⟨r, hr, hl⟩ := List.mem_flatten.1 hl
    exact ownL_noOs (hnos r (hsubr r hr) l hl)
  obtain ⟨R, hR, hR'⟩ : ∃ R, (ownS d).Perm (hdrOwn o'.h o'.n o'.rows ++ R) ∧ (ownS d').Perm (hdrOwn h' o'.n rows' ++ R) := by
    classical
    obtain ⟨l1, l2, hob, h1, h2⟩ := look_split ho' hi.good.ids
    have hf : d.ob.filter (fun p => !(p.1 == id)) = l1 ++ l2 := by rw [hob]; exact filter_ne h1 h2
    refine ⟨(l1 ++ l2).flatMap ownOb ++ (d.sl.flatMap leavesV).flatMap ownL, List.perm_iff_count.2 fun q => ?_, List.perm_iff_count.2 fun q => ?_⟩
    · have c1 := List.perm_iff_count.1 (own_split d) q
      rw [hob] at c1
      simp only [List.flatMap_append, List.flatMap_cons, List.count_append, ownOb, hown0, List.append_nil] at c1 ⊢
      omega
    · have c1 := List.perm_iff_count.1 (own_split d') q
      have c2 : (d'.sl.flatMap leavesV).flatMap ownL = (d.sl.flatMap leavesV).flatMap ownL := by
        rw [List.flatMap_assoc, List.flatMap_assoc]
        exact set_flatMap hv1 (by simp [nv, leavesV, leavesU, ownL])
      have c3 : d'.ob = (l1 ++ l2) ++ [(d.nx, no)] := by show d.ob.filter _ ++ _ = _; rw [hf]
      rw [c2, c3] at c1
      simp only [List.flatMap_append, List.flatMap_cons, List.flatMap_nil, List.append_nil, List.count_append, ownOb, no, hown1] at c1 ⊢
      omega
  have hnd := (hR.map (·.1)).nodup_iff.1 hi.good.nodup
  rw [List.map_append, List.nodup_append] at hnd
  have h1' : (hdrOwn h' o'.n rows').length ≤ 1 := by unfold hdrOwn; split <;> simp
  refine ⟨d', ?_, ?_, ⟨by simpa [d'] using hs.1, fun i w hw => ?_⟩, hdef, fun i hi2 => ?_, ?_⟩
  · have e1 : d'.sl.map erV = (d.sl.map erV).set t (.u (.one (.ref () d.nx 0 len))) := by
      simp only [d', nv, List.map_set, mapV, mapU, mapL]
    have e2 : (d.ob.filter (fun p => !(p.1 == id))).map (fun p => (p.1, erOb p.2)) = (d.ob.map (fun p => (p.1, erOb p.2))).filter (fun p => !(p.1 == id)) := by
      rw [List.filter_map]; rfl
    have e3 : erOb no = ⟨(), (erOb o').n, ((erOb o').rows.drop off).take len⟩ := by
      simp [no, rows', erOb, mapOb, List.map_take, List.map_drop]
    simp only [erS, mapS, S.mk.injEq, and_true]
    refine ⟨e1, ?_, rfl⟩
    show List.map _ (d.ob.filter _ ++ [(d.nx, no)]) = _
    rw [List.map_append, e2]
    congr 1
    simp only [List.map_cons, List.map_nil]
    rw [show mapOb (fun _ => ()) no = erOb no from rfl, e3]
  · refine hi.step (Nat.le_refl _) (Same.refl _) (fun _ _ _ => rfl) (fun l hl => ?_) (fun p hp => ?_) hnd' (fun p hp => ?_) ?_ (fun p hp => ?_) (fun p hp hlt => ?_)
    · rcases htop l hl with h | rfl
      · have hh := has_top hi.good h
        exact ⟨hh.1, refOk_mono (fun i hi1 => hlook' i (hh.2.2.2 i hi1)) hh.2.1⟩
      · exact ⟨⟨rfl, (hi.good.wf _ hmem).1.2⟩, hh2 _ hlookn⟩
    · rcases List.mem_append.1 hp with hp | hp
      · exact hi.good.obs p (hsub.subset hp)
      · simp only [List.mem_singleton] at hp
        subst hp
        exact ⟨hh1, fun r hr => hobs.2 r (hsubr r hr)⟩
    · rcases List.mem_append.1 (hR'.mem_iff.1 hp) with hp | hp
      · obtain ⟨k1, q, k2, k3⟩ := hh3 p hp
        exact ⟨k1, .inl ⟨q, hR.mem_iff.2 (List.mem_append_left _ k2), k3⟩⟩
      · have := hR.mem_iff.2 (List.mem_append_right _ hp)
        exact ⟨hi.good.own p this, .inl ⟨p, this, rfl⟩⟩
    · rw [(hR'.map (·.1)).nodup_iff, List.map_append, List.nodup_append]
      refine ⟨?_, hnd.2.1, fun i hi1 j hj e => ?_⟩
      · unfold hdrOwn; split <;> simp
      · obtain ⟨p, hp, rfl⟩ := List.mem_map.1 hi1
        obtain ⟨_, q, k2, k3⟩ := hh3 p hp
        exact hnd.2.2 q.1 (List.mem_map.2 ⟨q, k2, rfl⟩) j hj (k3.trans e)
    · obtain ⟨l, hl, hp⟩ := List.mem_flatMap.1 hp
      rcases htop l hl with h | rfl
      · exact .of_mem (List.mem_flatMap.2 ⟨l, h, hp⟩)
      · simp [immL] at hp
    · rcases List.mem_append.1 hp with hp | hp
      · exact hi.hdr p (hsub.subset hp) hlt
      · simp only [List.mem_singleton] at hp
        subst hp
        simp only at hlt
        omega
  · simp only [d', List.getElem?_set] at hw
    by_cases hti : t = i
    · subst hti
      have hlt : t < d.sl.length := (List.getElem?_eq_some_iff.1 hv1).1
      rw [if_pos rfl, if_pos hlt] at hw
      cases hw
      have := hs.2 t _ hv1
      simpa [nv, VR, UR, val] using this
    · rw [if_neg hti] at hw
      exact hs.2 i w hw
  · show i < d.nx + 1
    rcases hi2 with ⟨l, hl, h⟩ | h
    · rcases htop l hl with h2 | rfl
      · have := hk i (.inl ⟨l, h2, h⟩); omega
      · simp only [idsL, List.mem_singleton] at h; omega
    · have : i ∈ (d.ob.filter (fun p => !(p.1 == id)) ++ [(d.nx, no)]).map (·.1) := h
      rw [List.map_append, List.mem_append] at this
      rcases this with h3 | h3
      · have := hk i (.inr ((hsub.map _).subset h3)); omega
      · simp only [List.map_cons, List.map_nil, List.mem_singleton] at h3; omega
  · show B.n0 ≤ d.nx + 1; omega
section
variable {B : Bd} {N nx : Nat} {asg : Asg} {oa : OAsg}
theorem all_noOs_map {α : Type} {enc : α → List (L Unit)} [EncB enc] (xs : List α) : (xs.map enc).all (fun r => r.all noOs) = true := by
  simp only [List.all_map, List.all_eq_true]
  intro x _
  have := EncB.h (enc := enc) x
  simp only [List.all_eq_true] at this
  simp only [Function.comp, List.all_eq_true]
  exact fun l hl => plain_noOs (this l hl)
/-- A piece of own rows, the rest let go. -/
theorem f_cut {α : Type} {enc : α → List (L Unit)} [EncB enc] {id off len n len' : Nat} (t : Nat) (xs : List α) (hN : Nat.blt t N = true) (ht : lkp asg t = some (.u (.one (.ref () id off len)))) (ho : lko oa nx id = some ⟨(), n, xs.map enc⟩) (hl : len = len') :
    GhB B (St N asg oa nx) (St N ((t, .u (.one (.ref () nx 0 len'))) :: asg) ((nx, some ⟨(), n, ((xs.drop off).take len').map enc⟩) :: (id, none) :: oa) (nx + 1)) := by
  subst hl
  have h := GhB.cut (B := B) (s := St N asg oa nx) (St_get (oa := oa) (nx := nx) hN ht) (lko_ok ho) (all_noOs_map xs)
  have e : (⟨(St N asg oa nx).sl.set t (.u (.one (.ref () (St N asg oa nx).nx 0 len))), (St N asg oa nx).ob.filter (fun p => !(p.1 == id)) ++ [((St N asg oa nx).nx, ⟨(), n, ((xs.map enc).drop off).take len⟩)], (St N asg oa nx).nx + 1⟩ : S Unit) =
      St N ((t, .u (.one (.ref () nx 0 len))) :: asg) ((nx, some ⟨(), n, ((xs.drop off).take len).map enc⟩) :: (id, none) :: oa) (nx + 1) := by
    simp only [St, slots_set, obOf_delnew, List.map_take, List.map_drop]
  rw [← e]
  exact h
end
end Go.Proofs.YtghdhjgoicnbcaaGreat.AM

namespace Go.Proofs.YtghdhjgoicnbcaaGreat.AM
open Go
theorem GhB.nls {B : Bd} {s : S Unit} {u : U Unit} (t j m : Nat) (ht : s.sl[t]? = some (.u u)) (hj : (leavesU u)[j]? = some .nl) : GhB B s ⟨s.sl.set t (.u (setLf u j (.ref () s.nx 0 0))), s.ob ++ [(s.nx, ⟨(), m, []⟩)], s.nx + 1⟩ := by
  rintro a W ⟨d, rfl, hi0, hs, hdef, hk, hn0⟩
  have h1 : (d.sl.map erV)[t]? = some (.u u) := ht
  rw [List.getElem?_map, Option.map_eq_some_iff] at h1
  obtain ⟨v, hv, hvu⟩ := h1
  obtain ⟨u', rfl, rfl⟩ : ∃ u', v = .u u' ∧ erU u' = u := by
    cases v with
    | u x => exact ⟨x, rfl, by injection hvu⟩
    | tup xs => cases hvu
    | un => cases hvu
    | ud => cases hvu
  rw [leavesU_map, List.getElem?_map, Option.map_eq_some_iff] at hj
  obtain ⟨l', hj', hl'⟩ := hj
  obtain rfl : l' = .nl := by cases l' <;> simp [mapL] at hl'; rfl
  have hjlt : j < (leavesU u').length := (List.getElem?_eq_some_iff.1 hj').1
  have htlt : t < d.sl.length := (List.getElem?_eq_some_iff.1 hv).1
  have hfr : ∀ i, Knows d i → i ≠ d.nx := fun i hi1 he => by have := hk i hi1; omega
  obtain ⟨hi, hkn⟩ := hi0.new (W' := W) (fun _ => true) hfr hn0 (hd := .slice none 0 0) (n := m) (rows := []) (by simp) (by simp) (Nat.le_refl _) (Same.refl _) (fun _ _ _ => rfl) (.inl ⟨rfl, rfl⟩)
  have hfl : d.ob.filter (fun _ => true) = d.ob := List.filter_eq_self.2 fun _ _ => rfl
  simp only [hfl] at hi hkn
  let d1 : S Value := ⟨d.sl, d.ob ++ [(d.nx, ⟨.slice none 0 0, m, []⟩)], d.nx + 1⟩
  have hi : Inv B W d1 := hi
  have hlookn : look d1.ob d.nx = some ⟨.slice none 0 0, m, []⟩ := look_mem hi.good.ids (List.mem_append_right _ (by simp))
  let nl' : L Value := .ref (.slice none 0 0) d.nx 0 0
  have hno : ownL nl' = [] := rfl
  have him : immL nl' = [] := by simp [nl', immL]
  have hids : idsL nl' = [d.nx] := rfl
  have hwf : wfL false nl' := ⟨rfl, _, _, _, rfl⟩
  have hrf : refOk d1.ob nl' := fun o2 ho2 => by
    rw [hlookn] at ho2
    cases ho2
    exact ⟨by simp, .inl ⟨rfl, rfl⟩⟩
  have hval : val nl' = val (.nl : L Value) := rfl
  let nv : V Value := .u (setLf u' j nl')
  have hlv : leavesV nv = (leavesU u').set j nl' := setLf_leaves hjlt
  let d' : S Value := ⟨d.sl.set t nv, d1.ob, d.nx + 1⟩
  have htop : ∀ l ∈ tops d', l ∈ tops d1 ∨ l = nl' := fun l hl => by
    rcases mem_tops.1 hl with ⟨w, hw, hl2⟩ | hl2
    · rcases List.mem_or_eq_of_mem_set hw with hw | rfl
      · exact .inl (mem_tops.2 (.inl ⟨w, hw, hl2⟩))
      · rw [hlv] at hl2
        rcases List.mem_or_eq_of_mem_set hl2 with hl2 | rfl
        · exact .inl (mem_tops.2 (.inl ⟨.u u', List.mem_of_getElem? hv, hl2⟩))
        · exact .inr rfl
    · exact .inl (mem_tops.2 (.inr hl2))
  have hown : (ownS d').Perm (ownS d1) := by
    have h1 : ((leavesV nv).flatMap ownL).Perm ([] ++ (leavesV (.u u')).flatMap ownL) := by
      rw [hlv]
      exact perm_set (e := []) hj' (by simp [hno, ownL])
    have h2 := perm_set (f := fun v => (leavesV v).flatMap ownL) (e := []) hv h1
    simp only [ownS, tops, List.flatMap_append, List.flatMap_assoc, d', d1] at h2 ⊢
    simp only [List.nil_append] at h2
    exact (h2.append_right _).append_left _
  refine ⟨d', ?_, ?_, ⟨by simpa [d'] using hs.1, fun i w hw => ?_⟩, hdef, fun i hi2 => ?_, ?_⟩
  · have e1 : (d'.sl.map erV) = (d.sl.map erV).set t (.u (setLf (erU u') j (.ref () d.nx 0 0))) := by
      simp only [d', List.map_set]
      congr 1
      show V.u (erU (setLf u' j nl')) = _
      rw [setLf_er]
      simp [nl', mapL]
    have e2 : erS d' = ⟨d'.sl.map erV, d1.ob.map (fun p => (p.1, erOb p.2)), d'.nx⟩ := rfl
    rw [e2, e1]
    simp only [d1, List.map_append, List.map_cons, List.map_nil, mapOb]
    rfl
  · refine hi.step (Nat.le_refl _) (Same.refl _) (fun _ _ _ => rfl) (fun l hl => ?_) hi.good.obs hi.good.ids (fun p hp => ⟨hi.good.own p (hown.mem_iff.1 hp), .inl ⟨p, hown.mem_iff.1 hp, rfl⟩⟩) ((hown.map (·.1)).nodup_iff.2 hi.good.nodup) (fun p hp => ?_) hi.hdr
    · rcases htop l hl with h | rfl
      · exact hi.good.wf l h
      · exact ⟨hwf, hrf⟩
    · obtain ⟨l, hl, hp⟩ := List.mem_flatMap.1 hp
      rcases htop l hl with h | rfl
      · exact .of_mem (List.mem_flatMap.2 ⟨l, h, hp⟩)
      · rw [him] at hp; cases hp
  · simp only [d', List.getElem?_set] at hw
    by_cases hti : t = i
    · subst hti
      rw [if_pos rfl, if_pos htlt] at hw
      cases hw
      exact setLf_UR (hs.2 t _ hv) hj' hval
    · rw [if_neg hti] at hw
      exact hs.2 i w hw
  · show i < d.nx + 1
    rcases hi2 with ⟨l, hl, h⟩ | h
    · rcases htop l hl with h2 | rfl
      · rcases hkn i (.inl ⟨l, h2, h⟩) with h | h
        · have := hk i h; omega
        · omega
      · rw [hids] at h
        simp only [List.mem_singleton] at h
        omega
    · rcases hkn i (.inr h) with h | h
      · have := hk i h; omega
      · omega
  · show B.n0 ≤ d.nx + 1; omega
section
variable {B : Bd} {N nx : Nat} {asg : Asg} {oa : OAsg}
/-- A nil slice in a slot becomes an own object without rows. -/
theorem f_nls {u u' : U Unit} (t j m : Nat) (hN : Nat.blt t N = true) (ht : lkp asg t = some (.u u)) (hj : (leavesU u)[j]? = some .nl) (hu : setLf u j (.ref () nx 0 0) = u') :
    GhB B (St N asg oa nx) (St N ((t, .u u') :: asg) ((nx, some ⟨(), m, []⟩) :: oa) (nx + 1)) := by
  subst hu
  have h := GhB.nls (B := B) t j m (St_get (oa := oa) (nx := nx) hN ht) hj
  have e : (⟨(St N asg oa nx).sl.set t (.u (setLf u j (.ref () (St N asg oa nx).nx 0 0))), (St N asg oa nx).ob ++ [((St N asg oa nx).nx, ⟨(), m, []⟩)], (St N asg oa nx).nx + 1⟩ : S Unit) =
      St N ((t, .u (setLf u j (.ref () nx 0 0))) :: asg) ((nx, some ⟨(), m, []⟩) :: oa) (nx + 1) := by
    simp only [St, slots_set, obOf_new]
  rw [← e]
  exact h
/-- A piece to the end, the rest let go. -/
theorem f_cutd {α : Type} {enc : α → List (L Unit)} [EncB enc] {id off len n : Nat} (t : Nat) (xs ys : List α) (hN : Nat.blt t N = true) (ht : lkp asg t = some (.u (.one (.ref () id off len)))) (ho : lko oa nx id = some ⟨(), n, xs.map enc⟩) (hl : len = ys.length) (hy : (xs.drop off).take len = ys) :
    GhB B (St N asg oa nx) (St N ((t, .u (.one (.ref () nx 0 ys.length))) :: asg) ((nx, some ⟨(), n, ys.map enc⟩) :: (id, none) :: oa) (nx + 1)) := by
  have := f_cut (B := B) t xs hN ht ho hl
  rw [← hl, hy, hl] at this
  exact this
theorem frzU_set {us us' : List (U Unit)} {u : U Unit} {n id : Nat} {rows : List (List (L Unit))} {t j : Nat} (ht : us[t]? = some u) (hj : (leavesU u)[j]? = some (.ref () id 0 rows.length)) (hu : us.set t (setLf u j (.bs () n rows)) = us')
    (hno : us'.all (fun u => (leavesU u).all fun l => !refTo id l) = true) : us.map (frzU id n rows) = us' := by
  subst hu
  have hjlt : j < (leavesU u).length := (List.getElem?_eq_some_iff.1 hj).1
  simp only [List.all_eq_true, Bool.not_eq_true'] at hno
  apply List.ext_getElem?
  intro i
  rw [List.getElem?_map, List.getElem?_set]
  by_cases hti : t = i
  · subst hti
    have htlt : t < us.length := (List.getElem?_eq_some_iff.1 ht).1
    rw [ht, if_pos rfl, if_pos htlt]
    simp only [Option.map_some, Option.some.injEq]
    have h2 := hno (setLf u j (.bs () n rows)) (List.mem_of_getElem? (i := t) (by rw [List.getElem?_set, if_pos rfl, if_pos htlt]))
    rw [setLf_leaves hjlt] at h2
    cases u with
    | one l =>
      simp only [leavesU, List.length_singleton] at hjlt
      obtain rfl : j = 0 := by omega
      simp only [leavesU, List.getElem?_cons_zero, Option.some.injEq] at hj
      subst hj
      simp [frzU, frzL, setLf]
    | agg ls =>
      simp only [leavesU] at hj hjlt h2
      simp only [frzU, setLf, U.agg.injEq]
      apply List.ext_getElem?
      intro k
      rw [List.getElem?_map, List.getElem?_set]
      by_cases hjk : j = k
      · subst hjk
        rw [hj, if_pos rfl, if_pos hjlt]
        simp [frzL]
      · rw [if_neg hjk]
        cases hk : ls[k]? with
        | none => rfl
        | some l =>
          simp only [Option.map_some, Option.some.injEq]
          exact frzL_no (h2 l (List.mem_of_getElem? (i := k) (by rw [List.getElem?_set, if_neg hjk, hk])))
  · rw [if_neg hti]
    cases hk : us[i]? with
    | none => rfl
    | some w =>
      simp only [Option.map_some, Option.some.injEq]
      exact frzU_no fun l hl => hno w (List.mem_of_getElem? (i := i) (by rw [List.getElem?_set, if_neg hti, hk])) l hl
/-- An own slice of a result is frozen. -/
theorem f_frR {α : Type} {enc : α → List (L Unit)} [EncB enc] {us us' : List (U Unit)} {u : U Unit} {m id n : Nat} {xs : List α} (t j : Nat) (ht : us[t]? = some u) (hj : (leavesU u)[j]? = some (.ref () id 0 n)) (ho : lko oa nx id = some ⟨(), m, xs.map enc⟩) (hn : n = xs.length)
    (hu : us.set t (setLf u j (.bs () m (xs.map enc))) = us') (hno : us'.all (fun u => (leavesU u).all fun l => !refTo id l) = true) : GhB B (Rt us oa nx) (Rt us' ((id, none) :: oa) nx) := by
  subst hn
  have h := GhB.freeze (B := B) (s := Rt us oa nx) (lko_ok (N := 0) (asg := []) ho) (all_plain_map xs)
  have e : (⟨(Rt us oa nx).sl.map (frzV id m (xs.map enc)), (Rt us oa nx).ob.filter (fun p => !(p.1 == id)), (Rt us oa nx).nx⟩ : S Unit) = Rt us' ((id, none) :: oa) nx := by
    simp only [Rt, obOf_del, S.mk.injEq, and_true]
    rw [← frzU_set ht (by simpa using hj) hu hno]
    simp [frzV, Function.comp_def]
  rw [← e]
  exact h
end
end Go.Proofs.YtghdhjgoicnbcaaGreat.AM

namespace Go.Proofs.YtghdhjgoicnbcaaGreat.AM
open Go
theorem frzU_setLf {u : U Unit} {n id : Nat} {rows : List (List (L Unit))} {j : Nat} (hj : (leavesU u)[j]? = some (.ref () id 0 rows.length)) (hno : (leavesU (setLf u j (.bs () n rows))).all (fun l => !refTo id l) = true) : frzU id n rows u = setLf u j (.bs () n rows) := by
  have h := frzU_set (us := [u]) (us' := [setLf u j (.bs () n rows)]) (u := u) (n := n) (id := id) (rows := rows) (t := 0) (j := j) rfl hj rfl (by simpa using hno)
  simpa using h
section
variable {B : Bd} {N nx : Nat} {asg : Asg} {oa : OAsg}
theorem f_frj {α : Type} {enc : α → List (L Unit)} [EncB enc] {u u' : U Unit} {m id n : Nat} {xs : List α} (t j : Nat) (ht : lkp asg t = some (.u u)) (hj : (leavesU u)[j]? = some (.ref () id 0 n)) (ho : lko oa nx id = some ⟨(), m, xs.map enc⟩) (hn : n = xs.length)
    (hu : setLf u j (.bs () m (xs.map enc)) = u') (hu' : (leavesU u').all (fun l => !refTo id l) = true) (hno : asg.all (fun p => Nat.beq p.1 t || (leavesV p.2).all fun l => !refTo id l) = true) :
    GhB B (St N asg oa nx) (St N ((t, .u u') :: asg) ((id, none) :: oa) nx) := by
  subst hn
  subst hu
  have h := GhB.freeze (B := B) (s := St N asg oa nx) (lko_ok ho) (all_plain_map xs)
  have e1 : (slotsOf N asg).map (frzV id m (xs.map enc)) = slotsOf N ((t, .u (setLf u j (.bs () m (xs.map enc)))) :: asg) := by
    unfold slotsOf
    rw [List.map_map]
    refine List.map_congr_left fun i _ => ?_
    simp only [Function.comp, slotV]
    by_cases hti : t = i
    · subst hti
      rw [lkp_cons_self, ht]
      simp only [Option.getD_some, frzV]
      rw [frzU_setLf (by simpa using hj) hu']
    · rw [lkp_cons_ne _ _ hti]
      cases hl : lkp asg i with
      | none => rfl
      | some v =>
        have h1 := List.all_eq_true.1 hno _ (lkp_mem hl)
        simp only [Bool.or_eq_true, List.all_eq_true, Bool.not_eq_true'] at h1
        rcases h1 with h1 | h1
        · exact absurd (Nat.eq_of_beq_eq_true h1).symm hti
        · exact frzV_no h1
  have e2 : (⟨(St N asg oa nx).sl.map (frzV id m (xs.map enc)), (St N asg oa nx).ob.filter (fun p => !(p.1 == id)), (St N asg oa nx).nx⟩ : S Unit) = St N ((t, .u (setLf u j (.bs () m (xs.map enc)))) :: asg) ((id, none) :: oa) nx := by
    simp only [St, e1, obOf_del]
  rw [← e2]
  exact h
end
end Go.Proofs.YtghdhjgoicnbcaaGreat.AM

namespace Go.Proofs.YtghdhjgoicnbcaaGreat.AM
open Go
theorem flat_own (rows : List (List (L Value))) : rows.flatten.flatMap ownL = rows.flatMap (fun r => r.flatMap ownL) := by
  rw [List.flatMap_def, List.flatMap_def, List.map_flatten, List.flatten_flatten, List.map_map]; rfl
theorem flat_val (rows : List (List (L Value))) : rows.flatten.map val = rows.flatMap (fun r => r.map val) := by
  rw [List.map_flatten, List.flatMap_def]
/-- A cell that is set: what the rows own. -/
theorem cell_perm {rows : List (List (L Value))} {e j : Nat} {r : List (L Value)} {l l0 : L Value} {E : List OwnE} (hr : rows[e]? = some r) (hj : r[j]? = some l0) (hp : (ownL l).Perm (E ++ ownL l0)) :
    ((rows.set e (r.set j l)).flatten.flatMap ownL).Perm (E ++ rows.flatten.flatMap ownL) := by
  rw [flat_own, flat_own]
  exact perm_set (f := fun r => r.flatMap ownL) hr (perm_set hj hp)
theorem cell_val {rows : List (List (L Value))} {e j : Nat} {r : List (L Value)} {l l0 : L Value} (hr : rows[e]? = some r) (hj : r[j]? = some l0) (hv : val l = val l0) : valR (rows.set e (r.set j l)) = valR rows := by
  unfold valR
  rw [flat_val, flat_val]
  exact set_flatMap hr (set_map hj hv)
theorem hdV_own {v : Value} {m : Nat} {rows : List (List (L Value))} (h : isOwn v rows) : hdrOwn (hdV v) m rows = hdrOwn v m rows ∧ ((hdV v = .slice none 0 0 ∧ rows = []) ∨ ∃ b x c, hdV v = .slice (some ⟨b, x, none⟩) 0 c ∧ rows.length ≤ c ∧ rows.length ≤ LIM) := by
  rcases h with ⟨rfl, h⟩ | ⟨b, x, c, rfl, h1, h2⟩
  · exact ⟨rfl, .inl ⟨rfl, h⟩⟩
  · exact ⟨rfl, .inr ⟨b, x, c, rfl, h1, h2⟩⟩
theorem updOb_keys {δ : Type} (ob : List (Nat × Ob δ)) (id : Nat) (rows : List (List (L δ))) : (updOb ob id rows).map (·.1) = ob.map (·.1) := by
  unfold updOb
  rw [List.map_map]
  refine List.map_congr_left fun p _ => ?_
  simp only [Function.comp]
  split <;> rfl
theorem updOb_append {δ : Type} (a b : List (Nat × Ob δ)) (id : Nat) (rows : List (List (L δ))) : updOb (a ++ b) id rows = updOb a id rows ++ updOb b id rows := by
  unfold updOb
  rw [List.map_append]
theorem updOb_off {δ : Type} {ob : List (Nat × Ob δ)} {id : Nat} (rows : List (List (L δ))) (h : ∀ p ∈ ob, p.1 ≠ id) : updOb ob id rows = ob := by
  unfold updOb
  conv => rhs; rw [← List.map_id ob]
  refine List.map_congr_left fun p hp => ?_
  rw [if_neg (h p hp)]
  rfl
theorem mem_updOb {ob : List (Nat × Ob Value)} {id : Nat} {rows : List (List (L Value))} {p : Nat × Ob Value} (h : p ∈ updOb ob id rows) : (p ∈ ob ∧ p.1 ≠ id) ∨ ∃ o, (id, o) ∈ ob ∧ p = (id, ⟨o.h, o.n, rows⟩) := by
  obtain ⟨q, hq, rfl⟩ := List.mem_map.1 h
  by_cases hi : q.1 = id
  · rw [if_pos hi]
    exact .inr ⟨q.2, by rw [← hi]; exact hq, by rw [hi]⟩
  · rw [if_neg hi]
    exact .inl ⟨hq, hi⟩
theorem erOb_upd (ob : List (Nat × Ob Value)) (id : Nat) (rows : List (List (L Value))) : (updOb ob id rows).map (fun p => (p.1, erOb p.2)) = updOb (ob.map fun p => (p.1, erOb p.2)) id (rows.map fun r => r.map erL) := by
  unfold updOb
  rw [List.map_map, List.map_map]
  refine List.map_congr_left fun p _ => ?_
  simp only [Function.comp]
  split <;> rfl
/-- Own rows inline in a cell become an object. -/
theorem GhB.openC {B : Bd} {s : S Unit} {id e j m : Nat} {o : Ob Unit} {r : List (L Unit)} {rows2 : List (List (L Unit))} (ho : look s.ob id = some o) (hr : o.rows[e]? = some r) (hj : r[j]? = some (.os () m rows2)) :
    GhB B s ⟨s.sl, updOb (s.ob ++ [(s.nx, ⟨(), m, rows2⟩)]) id (o.rows.set e (r.set j (.ref () s.nx 0 rows2.length))), s.nx + 1⟩ := by
  rintro a W ⟨d, rfl, hi, hs, hdef, hk, hn0⟩
  obtain ⟨o', ho', rfl⟩ := look_lift ho
  obtain ⟨r', hr', rfl⟩ := rows_er hr
  rw [List.getElem?_map, Option.map_eq_some_iff] at hj
  obtain ⟨l', hj', hl'⟩ := hj
  obtain ⟨v, rows3, rfl, rfl⟩ : ∃ v rows3, l' = .os v m rows3 ∧ rows3.map (fun r => r.map erL) = rows2 := by
    cases l' <;> simp only [mapL, reduceCtorEq, L.os.injEq, true_and] at hl'
    obtain ⟨rfl, h⟩ := hl'
    exact ⟨_, _, rfl, by rw [← h, mapR_eq]⟩
  have hrm := List.mem_of_getElem? hr'
  have hlm := List.mem_of_getElem? hj'
  have hkey : (id, o') ∈ d.ob := find?_key ho'
  have hmem : L.os v m rows3 ∈ tops d := mem_tops.2 (.inr (mem_obLeaves.2 ⟨_, hkey, r', hrm, hlm⟩))
  have hwf := (hi.good.wf _ hmem).1
  simp only [wfL] at hwf
  obtain ⟨hown, hlen, hwr⟩ := hwf
  obtain ⟨hh1, hh2⟩ := hdV_own (m := m) hown
  have hobs : _ ∧ ∀ r ∈ o'.rows, r.length = o'.n := hi.good.obs _ hkey
  have hsl3 : ∃ a n c, v = .slice a n c := by
    rcases hown with ⟨rfl, _⟩ | ⟨_, _, _, rfl, _⟩ <;> exact ⟨_, _, _, rfl⟩
  let no : Ob Value := ⟨hdV v, m, rows3⟩
  let nref : L Value := .ref v d.nx 0 rows3.length
  let rows1 := o'.rows.set e (r'.set j nref)
  let ob1 := updOb (d.ob ++ [(d.nx, no)]) id rows1
  let d' : S Value := ⟨d.sl, ob1, d.nx + 1⟩
  have hnk : d.nx ∉ d.ob.map (·.1) := fun hm => by have := hk d.nx (.inr hm); omega
  have hne : id ≠ d.nx := fun he => by
    have := hk id (.inr (List.mem_map.2 ⟨_, hkey, rfl⟩)); omega
  have hob1 : ob1 = updOb d.ob id rows1 ++ [(d.nx, no)] := by
    show updOb (d.ob ++ [(d.nx, no)]) id rows1 = _
    rw [updOb_append, updOb_off (ob := [(d.nx, no)]) rows1 (fun p hp => by
      simp only [List.mem_singleton] at hp; subst hp; exact Ne.symm hne)]
  have hids : (d'.ob.map (·.1)).Nodup := by
    show (ob1.map (·.1)).Nodup
    rw [hob1, List.map_append, updOb_keys, List.nodup_append]
    refine ⟨hi.good.ids, by simp, fun i hi1 k hk1 e => ?_⟩
    simp only [List.map_cons, List.map_nil, List.mem_singleton] at hk1
    subst e hk1
    exact hnk hi1
  have hlen1 : rows1.length = o'.rows.length := by simp [rows1]
  have hlook : ∀ i, i ≠ d.nx → look ob1 i = if i = id then (look d.ob i).map (fun o => ⟨o.h, o.n, rows1⟩) else look d.ob i := fun i hi1 => by
    rw [← look_upd (rows := rows1)]
    rw [hob1]
    unfold look
    rw [List.find?_append]
    have : List.find? (fun p : Nat × Ob Value => p.1 == i) [(d.nx, no)] = none := by simp [Ne.symm hi1]
    rw [this, Option.or_none]
  have hlookn : look ob1 d.nx = some no := look_mem hids (by
    show _ ∈ ob1
    rw [hob1]; exact List.mem_append_right _ (by simp))
  have hrefOk : ∀ l, Has d l → refOk ob1 l := fun l hh => by
    refine refOk_same (fun i hi1 o2 ho2 => ?_) hh.2.1
    have hkn := hk i (hh.2.2.2 i hi1)
    rw [hlook i (by omega)] at ho2
    split at ho2
    · rename_i he
      subst he
      rw [ho'] at ho2
      cases ho2
      exact ⟨o', ho', rfl, rfl, hlen1.symm⟩
    · exact ⟨o2, ho2, rfl, rfl, rfl⟩
  have hnref : wfL false nref ∧ refOk ob1 nref := by
    refine ⟨⟨rfl, hsl3⟩, fun o2 ho2 => ?_⟩
    rw [hlookn] at ho2
    cases ho2
    refine ⟨by simp [no], ?_⟩
    rcases hown with ⟨rfl, _⟩ | ⟨b, x, c, rfl, _⟩
    · exact .inl ⟨rfl, rfl⟩
    · exact .inr ⟨b, x, c, rfl, .inl (by simp)⟩
  have hin3 : ∀ r ∈ rows3, ∀ l ∈ r, wfL true l ∧ ∀ q ∈ immL l, q ∈ immS d := fun r hr l hl => by
    refine ⟨(wfR_iff _ _).1 hwr r hr l hl, fun q hq => List.mem_flatMap.2 ⟨_, hmem, ?_⟩⟩
    simp only [immL, immR_eq]
    exact List.mem_flatMap.2 ⟨l, List.mem_flatten.2 ⟨r, hr, hl⟩, hq⟩
  have hrow1 : ∀ r ∈ rows1, r ∈ o'.rows ∨ r = r'.set j nref := fun r hr => List.mem_or_eq_of_mem_set hr
  have htop : ∀ l ∈ tops d', l ∈ tops d ∨ l = nref ∨ ∃ r ∈ rows3, l ∈ r := fun l hl => by
    rcases mem_tops.1 hl with h | h
    · exact .inl (mem_tops.2 (.inl h))
    · obtain ⟨p, hp, r, hr, hl⟩ := mem_obLeaves.1 h
      have hp : p ∈ ob1 := hp
      rw [hob1] at hp
      rcases List.mem_append.1 hp with hp | hp
      · rcases mem_updOb hp with ⟨hp, _⟩ | ⟨o2, hp, rfl⟩
        · exact .inl (mem_tops.2 (.inr (mem_obLeaves.2 ⟨p, hp, r, hr, hl⟩)))
        · rcases hrow1 r hr with h | rfl
          · exact .inl (mem_tops.2 (.inr (mem_obLeaves.2 ⟨_, hkey, r, h, hl⟩)))
          · rcases List.mem_or_eq_of_mem_set hl with h | rfl
            · exact .inl (mem_tops.2 (.inr (mem_obLeaves.2 ⟨_, hkey, r', hrm, h⟩)))
            · exact .inr (.inl rfl)
      · simp only [List.mem_singleton] at hp
        subst hp
        exact .inr (.inr ⟨r, hr, hl⟩)
  have hval : valR rows1 = valR o'.rows := cell_val hr' hj' rfl
  have hperm : (ownS d').Perm (ownS d) := by
    classical
    obtain ⟨l1, l2, hob, h1, h2⟩ := look_split ho' hi.good.ids
    have hu : updOb d.ob id rows1 = l1 ++ (id, ⟨o'.h, o'.n, rows1⟩) :: l2 := by rw [hob]; exact updOb_split h1 h2 rows1
    have hc := cell_perm (rows := rows1) (e := e) (j := j) (r := r'.set j nref) (l := .os v m rows3) (l0 := nref) (E := ownL (.os v m rows3)) (by
      have : e < o'.rows.length := (List.getElem?_eq_some_iff.1 hr').1
      simp [rows1, this]) (by
      have : j < r'.length := (List.getElem?_eq_some_iff.1 hj').1
      simp [this]) (by simp [nref, ownL])
    have hback : rows1.set e ((r'.set j nref).set j (.os v m rows3)) = o'.rows := by
      have e1 : r'.set j (.os v m rows3) = r' := by
        apply List.ext_getElem?
        intro i
        rw [List.getElem?_set]
        by_cases hji : j = i
        · subst hji
          rw [hj']
          simp [(List.getElem?_eq_some_iff.1 hj').1]
        · rw [if_neg hji]
      have e2 : o'.rows.set e r' = o'.rows := by
        apply List.ext_getElem?
        intro i
        rw [List.getElem?_set]
        by_cases hei : e = i
        · subst hei
          rw [hr']
          simp [(List.getElem?_eq_some_iff.1 hr').1]
        · rw [if_neg hei]
      simp only [rows1, List.set_set, e1, e2]
    rw [hback] at hc
    refine List.perm_iff_count.2 fun q => ?_
    have c1 := List.perm_iff_count.1 hc q
    have c2 := List.perm_iff_count.1 (own_split d) q
    have c3 := List.perm_iff_count.1 (own_split d') q
    have e1 : d'.ob = (l1 ++ (id, ⟨o'.h, o'.n, rows1⟩) :: l2) ++ [(d.nx, no)] := by show ob1 = _; rw [hob1, hu]
    have e2 : d'.sl = d.sl := rfl
    have e3 : hdrOwn o'.h o'.n rows1 = hdrOwn o'.h o'.n o'.rows := by unfold hdrOwn; rw [hval]
    rw [e1, e2] at c3
    rw [hob] at c2
    simp only [List.flatMap_append, List.flatMap_cons, List.flatMap_nil, List.append_nil, List.count_append, ownOb, no, hh1, e3, ownL, ownR_eq] at c1 c2 c3 ⊢
    omega
  refine ⟨d', ?_, ?_, ⟨hs.1, hs.2⟩, hdef, fun i hi2 => ?_, ?_⟩
  · simp only [erS, mapS, d', S.mk.injEq, true_and, and_true]
    show (updOb (d.ob ++ [(d.nx, no)]) id rows1).map (fun p => (p.1, erOb p.2)) = _
    rw [erOb_upd]
    simp [rows1, nref, no, mapOb, List.map_set, mapL]
  · refine hi.step (Nat.le_refl _) (Same.refl _) (fun _ _ _ => rfl) (fun l hl => ?_) (fun p hp => ?_) hids (fun p hp => ⟨hi.good.own p (hperm.mem_iff.1 hp), .inl ⟨p, hperm.mem_iff.1 hp, rfl⟩⟩) ((hperm.map (·.1)).nodup_iff.2 hi.good.nodup) (fun p hp => ?_) (fun p hp hlt => ?_)
    · rcases htop l hl with h | rfl | ⟨r, hr, h⟩
      · have hh := has_top hi.good h
        exact ⟨hh.1, hrefOk l hh⟩
      · exact hnref
      · have := wf_weak (hin3 r hr l h).1
        exact ⟨this.1, this.2.1 _⟩
    · have hp : p ∈ ob1 := hp
      rw [hob1] at hp
      rcases List.mem_append.1 hp with hp | hp
      · rcases mem_updOb hp with ⟨hp, _⟩ | ⟨o2, hp2, rfl⟩
        · exact hi.good.obs p hp
        · have : o2 = o' := by
            have h1 := look_mem hi.good.ids hp2
            rw [ho'] at h1; cases h1; rfl
          subst this
          refine ⟨?_, fun r hr => ?_⟩
          · rcases hobs.1 with ⟨h1, h2⟩ | ⟨b, x, c, h1, h2, h3⟩
            · exact .inl ⟨h1, by simp only at h2; simp [rows1, h2]⟩
            · exact .inr ⟨b, x, c, h1, by simp only [hlen1]; exact h2, by simp only [hlen1]; exact h3⟩
          · rcases hrow1 r hr with h | rfl
            · exact hobs.2 r h
            · rw [List.length_set]; exact hobs.2 r' hrm
      · simp only [List.mem_singleton] at hp
        subst hp
        exact ⟨hh2, hlen⟩
    · obtain ⟨l, hl, hp⟩ := List.mem_flatMap.1 hp
      rcases htop l hl with h | rfl | ⟨r, hr, h⟩
      · exact .of_mem (List.mem_flatMap.2 ⟨l, h, hp⟩)
      · simp [nref, immL] at hp
      · exact .of_mem ((hin3 r hr l h).2 p hp)
    · have hp : p ∈ ob1 := hp
      rw [hob1] at hp
      rcases List.mem_append.1 hp with hp | hp
      · rcases mem_updOb hp with ⟨hp, _⟩ | ⟨o2, hp2, rfl⟩
        · exact hi.hdr p hp hlt
        · exact hi.hdr (id, o2) hp2 hlt
      · simp only [List.mem_singleton] at hp
        subst hp
        simp only at hlt
        omega
  · show i < d.nx + 1
    rcases hi2 with ⟨l, hl, h⟩ | h
    · rcases htop l hl with h2 | rfl | ⟨r, hr, h2⟩
      · have := hk i (.inl ⟨l, h2, h⟩); omega
      · simp only [nref, idsL, List.mem_singleton] at h; omega
      · rw [(wf_weak (hin3 r hr l h2).1).2.2] at h; cases h
    · have : i ∈ ob1.map (·.1) := h
      rw [hob1, List.map_append, updOb_keys, List.mem_append] at this
      rcases this with h3 | h3
      · have := hk i (.inr h3); omega
      · simp only [List.map_cons, List.map_nil, List.mem_singleton] at h3; omega
  · show B.n0 ≤ d.nx + 1; omega
/-- A whole own object goes inline into a cell. -/
theorem GhB.foldC {B : Bd} {s : S Unit} {id id2 e j len : Nat} {o o2 : Ob Unit} {r : List (L Unit)} (ho : look s.ob id = some o) (hr : o.rows[e]? = some r) (hj : r[j]? = some (.ref () id2 0 len)) (ho2 : look s.ob id2 = some o2) (hne : id ≠ id2) (hl : len = o2.rows.length)
    (hn : o2.rows.all (fun r => r.all nestL) = true) : GhB B s ⟨s.sl, updOb (s.ob.filter (fun p => !(p.1 == id2))) id (o.rows.set e (r.set j (.os () o2.n o2.rows))), s.nx⟩ := by
  rintro a W ⟨d, rfl, hi, hs, hdef, hk, hn0⟩
  obtain ⟨o', ho', rfl⟩ := look_lift ho
  obtain ⟨p2, ho2', rfl⟩ := look_lift ho2
  obtain ⟨r', hr', rfl⟩ := rows_er hr
  rw [List.getElem?_map, Option.map_eq_some_iff] at hj
  obtain ⟨l', hj', hl'⟩ := hj
  obtain ⟨v', rfl⟩ := er_ref hl'
  have hlen' : len = p2.rows.length := by simpa [erOb, mapOb] using hl
  subst hlen'
  have hrm := List.mem_of_getElem? hr'
  have hlm := List.mem_of_getElem? hj'
  have hkey : (id, o') ∈ d.ob := find?_key ho'
  have hkey2 : (id2, p2) ∈ d.ob := find?_key ho2'
  have hmem : L.ref v' id2 0 p2.rows.length ∈ tops d := mem_tops.2 (.inr (mem_obLeaves.2 ⟨_, hkey, r', hrm, hlm⟩))
  obtain ⟨_, hform⟩ := (hi.good.wf _ hmem).2 p2 ho2'
  have hobs2 : _ ∧ ∀ r ∈ p2.rows, r.length = p2.n := hi.good.obs _ hkey2
  have hobs : _ ∧ ∀ r ∈ o'.rows, r.length = o'.n := hi.good.obs _ hkey
  have hnest : ∀ r ∈ p2.rows, ∀ l ∈ r, nestL l = true := by
    simp only [erOb, mapOb, List.all_map, List.all_eq_true, Function.comp_def, nest_er] at hn
    exact hn
  have hos : isOwn v' p2.rows ∧ hdrOwn v' p2.n p2.rows = hdrOwn p2.h p2.n p2.rows := by
    rcases hform with ⟨h0, hv⟩ | ⟨b, x, c0, h0, hv⟩
    · have hr0 : p2.rows = [] := by
        rcases hobs2.1 with ⟨_, h1⟩ | ⟨_, _, _, h1, _⟩
        · exact h1
        · simp only at h1; rw [h0] at h1; cases h1
      exact ⟨.inl ⟨hv, hr0⟩, by rw [hv, h0]⟩
    · rcases hv with hv | ⟨y, _, _, h9, _⟩
      · rcases hobs2.1 with ⟨h7, _⟩ | ⟨b2, x2, c2, h7, h8, h9⟩
        · simp only at h7; rw [h0] at h7; cases h7
        · simp only at h7 h8 h9
          rw [h0] at h7
          cases h7
          simp only [Nat.zero_mul, Nat.add_zero, Nat.sub_zero] at hv
          exact ⟨.inr ⟨b, x, c0, hv, h8, h9⟩, by rw [hv, h0]; rfl⟩
      · omega
  let nos : L Value := .os v' p2.n p2.rows
  have hwfo : wfL false nos := ⟨hos.1, hobs2.2, (wfR_iff _ _).2 fun r hr l hlr => nest_wf (hnest r hr l hlr) (has_ob hi.good ho2' hr hlr).1⟩
  let rows1 := o'.rows.set e (r'.set j nos)
  let ob2 := d.ob.filter (fun p => !(p.1 == id2))
  let ob1 := updOb ob2 id rows1
  let d' : S Value := ⟨d.sl, ob1, d.nx⟩
  have hsub : ob2.Sublist d.ob := List.filter_sublist
  have hkeyf : (id, o') ∈ ob2 := List.mem_filter.2 ⟨hkey, by simpa using hne⟩
  have hids2 : (ob2.map (·.1)).Nodup := hi.good.ids.sublist (hsub.map _)
  have hids : (d'.ob.map (·.1)).Nodup := by
    show (ob1.map (·.1)).Nodup
    rw [updOb_keys]; exact hids2
  have hlen1 : rows1.length = o'.rows.length := by simp [rows1]
  have hrefOk : ∀ l, Has d l → refOk ob1 l := fun l hh => by
    refine refOk_same (fun i hi1 o2 ho2 => ?_) hh.2.1
    rw [look_upd] at ho2
    have hf : ∀ o3, look ob2 i = some o3 → look d.ob i = some o3 := fun o3 h3 => look_mem hi.good.ids (hsub.subset (find?_key h3))
    split at ho2
    · rename_i he
      subst he
      rw [Option.map_eq_some_iff] at ho2
      obtain ⟨o3, h3, rfl⟩ := ho2
      have := hf o3 h3
      rw [ho'] at this
      cases this
      exact ⟨o', ho', rfl, rfl, hlen1.symm⟩
    · exact ⟨o2, hf o2 ho2, rfl, rfl, rfl⟩
  have hrow1 : ∀ r ∈ rows1, r ∈ o'.rows ∨ r = r'.set j nos := fun r hr => List.mem_or_eq_of_mem_set hr
  have htop : ∀ l ∈ tops d', l ∈ tops d ∨ l = nos := fun l hl => by
    rcases mem_tops.1 hl with h | h
    · exact .inl (mem_tops.2 (.inl h))
    · obtain ⟨p, hp, r, hr, hl⟩ := mem_obLeaves.1 h
      rcases mem_updOb hp with ⟨hp, _⟩ | ⟨o2, hp, rfl⟩
      · exact .inl (mem_tops.2 (.inr (mem_obLeaves.2 ⟨p, hsub.subset hp, r, hr, hl⟩)))
      · rcases hrow1 r hr with h | rfl
        · exact .inl (mem_tops.2 (.inr (mem_obLeaves.2 ⟨_, hkey, r, h, hl⟩)))
        · rcases List.mem_or_eq_of_mem_set hl with h | rfl
          · exact .inl (mem_tops.2 (.inr (mem_obLeaves.2 ⟨_, hkey, r', hrm, h⟩)))
          · exact .inr rfl
  have hval : valR rows1 = valR o'.rows := cell_val hr' hj' rfl
  have hperm : (ownS d').Perm (ownS d) := by
    classical
    obtain ⟨k1, k2, hob0, g1, g2⟩ := look_split ho2' hi.good.ids
    have hf : ob2 = k1 ++ k2 := by
      show d.ob.filter _ = _
      rw [hob0]; exact filter_ne g1 g2
    obtain ⟨l1, l2, hob, h1, h2⟩ := look_split (look_mem hids2 hkeyf) hids2
    have hu : ob1 = l1 ++ (id, ⟨o'.h, o'.n, rows1⟩) :: l2 := by
      show updOb ob2 id rows1 = _
      rw [hob]; exact updOb_split h1 h2 rows1
    have hc := cell_perm (rows := o'.rows) (e := e) (j := j) (r := r') (l := nos) (E := ownL nos) hr' hj' (by simp [ownL])
    refine List.perm_iff_count.2 fun q => ?_
    have c1 := List.perm_iff_count.1 hc q
    have c2 := List.perm_iff_count.1 (own_split d) q
    have c3 := List.perm_iff_count.1 (own_split d') q
    have c4 : List.count q ((k1 ++ k2).flatMap ownOb) = List.count q ((l1 ++ (id, o') :: l2).flatMap ownOb) := by rw [← hf, hob]
    have e1 : d'.ob = l1 ++ (id, ⟨o'.h, o'.n, rows1⟩) :: l2 := hu
    have e2 : d'.sl = d.sl := rfl
    have e3 : hdrOwn o'.h o'.n rows1 = hdrOwn o'.h o'.n o'.rows := by unfold hdrOwn; rw [hval]
    have e4 : ownL nos = hdrOwn p2.h p2.n p2.rows ++ p2.rows.flatten.flatMap ownL := by simp only [nos, ownL, hos.2, ownR_eq]
    rw [e4] at c1
    rw [e1, e2] at c3
    rw [hob0] at c2
    simp only [List.flatMap_append, List.flatMap_cons, List.count_append, ownOb, e3] at c1 c2 c3 c4 ⊢
    simp only [rows1] at c3
    omega
  refine ⟨d', ?_, ?_, ⟨hs.1, hs.2⟩, hdef, fun i hi2 => hk i ?_, hn0⟩
  · simp only [erS, mapS, d', S.mk.injEq, true_and, and_true]
    show (updOb ob2 id rows1).map (fun p => (p.1, erOb p.2)) = _
    rw [erOb_upd]
    simp [rows1, nos, ob2, mapOb, List.map_set, mapL, mapR_eq, List.filter_map, Function.comp_def]
  · refine hi.step (Nat.le_refl _) (Same.refl _) (fun _ _ _ => rfl) (fun l hl => ?_) (fun p hp => ?_) hids (fun p hp => ⟨hi.good.own p (hperm.mem_iff.1 hp), .inl ⟨p, hperm.mem_iff.1 hp, rfl⟩⟩) ((hperm.map (·.1)).nodup_iff.2 hi.good.nodup) (fun p hp => ?_) (fun p hp hlt => ?_)
    · rcases htop l hl with h | rfl
      · have hh := has_top hi.good h
        exact ⟨hh.1, hrefOk l hh⟩
      · exact ⟨hwfo, by simp [nos, refOk]⟩
    · rcases mem_updOb hp with ⟨hp, _⟩ | ⟨o2, hp2, rfl⟩
      · exact hi.good.obs p (hsub.subset hp)
      · have : o2 = o' := by
          have h1 := look_mem hi.good.ids (hsub.subset hp2)
          rw [ho'] at h1; cases h1; rfl
        subst this
        refine ⟨?_, fun r hr => ?_⟩
        · rcases hobs.1 with ⟨h1, h2⟩ | ⟨b, x, c, h1, h2, h3⟩
          · exact .inl ⟨h1, by simp only at h2; simp [rows1, h2]⟩
          · exact .inr ⟨b, x, c, h1, by simp only [hlen1]; exact h2, by simp only [hlen1]; exact h3⟩
        · rcases hrow1 r hr with h | rfl
          · exact hobs.2 r h
          · rw [List.length_set]; exact hobs.2 r' hrm
    · obtain ⟨l, hl, hp⟩ := List.mem_flatMap.1 hp
      rcases htop l hl with h | rfl
      · exact .of_mem (List.mem_flatMap.2 ⟨l, h, hp⟩)
      · simp only [nos, immL, immR_eq] at hp
        obtain ⟨l2, hl2, hp⟩ := List.mem_flatMap.1 hp
        obtain ⟨r, hr, hl2⟩ := List.mem_flatten.1 hl2
        exact (has_ob hi.good ho2' hr hl2).2.2.1 p hp
    · rcases mem_updOb hp with ⟨hp, _⟩ | ⟨o2, hp2, rfl⟩
      · exact hi.hdr p (hsub.subset hp) hlt
      · exact hi.hdr (id, o2) (hsub.subset hp2) hlt
  · rcases hi2 with ⟨l, hl, h⟩ | h
    · rcases htop l hl with h2 | rfl
      · exact .inl ⟨l, h2, h⟩
      · simp [nos, idsL] at h
    · refine .inr ((hsub.map _).subset ?_)
      have : i ∈ ob1.map (·.1) := h
      rwa [updOb_keys] at this
end Go.Proofs.YtghdhjgoicnbcaaGreat.AM

namespace Go.Proofs.YtghdhjgoicnbcaaGreat.AM
open Go
inductive ArgsO (s : S Unit) (g : Nat → Nat) (hs : List Nat) : List Operand → List (U Unit) → List Nat → Prop
  | nil : ArgsO s g hs [] [] []
  | given {x : Operand} {xs : List Operand} {u : U Unit} {us : List (U Unit)} {cs : List Nat} : uO (evA s x) = some (renU g u) → (leavesU u).all (okK hs.length) = true → ArgsO s g hs xs us cs → ArgsO s g hs (x :: xs) (u :: us) cs
  | owned {x : Operand} {xs : List Operand} {X n len : Nat} {rows : List (List (L Unit))} {us : List (U Unit)} {cs : List Nat} : lO (evA s x) = some (.ref () X 0 len) → look s.ob X = some ⟨(), n, rows⟩ → len = rows.length → rows.all (fun r => r.all nestL) = true → ArgsO s g hs xs us cs →
      ArgsO s g hs (x :: xs) (.one (.os () n rows) :: us) (X :: cs)
/-- A call that hands objects over, and gives own rows away. -/
def CallO (P : Program) (o : Oper) (s : S Unit) (nid : Nat) (e : Eff) : Prop :=
  ∃ (c : Call) (f : FuncId) (caps cs : List (L Unit)) (us : List (U Unit)) (hs cons : List Nat) (obs obs' : List (Ob Unit)) (r : V Unit), o.op = .call c ∧ calE (evA s) c.callee = some (f, caps) ∧ (hs ++ cons).Nodup ∧ All2 (fun h ob => look s.ob h = some (renOb (gG hs nid) ob)) hs obs ∧
    (∀ ob ∈ obs, knowsR hs.length ob.rows = true) ∧ ArgsO s (gG hs nid) hs c.args.toList us cons ∧ caps = cs.map (renL (gG hs nid)) ∧ cs.all (okK hs.length) = true ∧
    Ent P f ∧ Sim P f (us ++ cs.map .one) obs r obs' ∧
    e = { v := (rootV (fun _ => ()) (nid + (obs'.length - hs.length)) (renV (gG hs nid) r)).1, rd := [],
          news := (obs'.drop hs.length).map (renOb (gG hs nid)) ++ (rootV (fun _ => ()) (nid + (obs'.length - hs.length)) (renV (gG hs nid) r)).2.map (·.2),
          upd := hs.zip ((obs'.take hs.length).map fun ob => (renOb (gG hs nid) ob).rows), del := cons }
theorem zip_own : ∀ {xs : List Nat} {obs : List (Ob Value)}, xs.length = obs.length → (xs.zip obs).flatMap ownOb = obs.flatMap (fun o => ownOb (0, o))
  | [], [], _ => rfl
  | [], o :: os, h => by simp at h
  | x :: xs, [], h => by simp at h
  | x :: xs, o :: os, h => by
    simp only [List.zip_cons_cons, List.flatMap_cons, zip_own (xs := xs) (obs := os) (by simpa using h)]
    rfl
structure ArgP (W : World) (d dr : S Value) (dcob : List (Nat × Ob Value)) (k : Nat) (lent : Bool) (u : U Value) (x : Value) : Prop where
  ur : UR u x
  leaf : ∀ l ∈ leavesU u, True ∧ (∀ i ∈ idsL l, i < k) ∧ wfL false l ∧ refOk dcob l ∧ ∀ p ∈ immL l, p.2 = [] ∨ SubIn p (immS d) ∨ (lent = true ∧ ImmFact W p ∧ ∃ q ∈ ownS dr, q.1 = p.1.block)
theorem argsO_ok {W : World} {d dr : S Value} {dcob : List (Nat × Ob Value)} {a : Act} {g : Nat → Nat} {hs : List Nat} {lent : Bool} (hg : Good W d) (hs1 : SlR d a) (hdc : ∀ i ob, look dcob i = some ob → look d.ob (g i) = some (renOb g ob)) :
    ∀ {xs : List Operand} {us : List (U Unit)} {cons : List Nat}, ArgsO (erS d) g hs xs us cons → ∃ us' cobs, us'.map erU = us ∧ All2 (ArgP W d dr dcob hs.length lent) us' (xs.map a.eval) ∧ All2 (fun X o => look d.ob X = some o) cons cobs ∧
      (us'.flatMap leavesU).flatMap ownL = cobs.flatMap (fun o => ownOb (0, o)) := by
  intro xs us cons h
  induction h with
  | nil => exact ⟨[], [], rfl, .nil, .nil, rfl⟩
  | given h1 h2 _ ih =>
    rename_i x xs u us cs _
    obtain ⟨us', cobs, e1, e2, e3, e4⟩ := ih
    obtain ⟨u0, k1, k2, k3⟩ := u_ok hg hs1 h1
    obtain ⟨u2, k4, k5⟩ := erU_ren g k1
    subst k5
    have hok : ∀ l ∈ leavesU u2, noOs l = true ∧ ∀ i ∈ idsL l, i < hs.length := fun l hl => by
      have ho : okK hs.length (erL l) = true := by
        rw [List.all_eq_true] at h2
        refine h2 _ ?_
        rw [← k4]
        cases u2 with
        | one l0 => simp only [leavesU, List.mem_singleton] at hl; subst hl; simp [mapU, leavesU]
        | agg ls => simp only [mapU, leavesU] at hl ⊢; exact List.mem_map.2 ⟨l, hl, rfl⟩
      rwa [okK_iff, noOs_er, idsL_er] at ho
    refine ⟨u2 :: us', cobs, by simp [k4, e1], .cons ⟨(UR_ren' g).1 k2, fun l hl => ?_⟩ e2, e3, ?_⟩
    · rw [leavesU_ren] at k3
      have hh := k3 (renL g l) (List.mem_map.2 ⟨l, hl, rfl⟩)
      exact ⟨trivial, (hok l hl).2, (wf_ren g false l).1 hh.1, refOk_ren hdc l hh.2.1, fun p hp => .inr (.inl (hh.2.2.1 p (by rwa [imm_ren])))⟩
    · rw [List.flatMap_cons, List.flatMap_append, e4]
      have : (leavesU u2).flatMap ownL = [] := List.flatMap_eq_nil_iff.2 fun l hl => ownL_noOs (hok l hl).1
      rw [this, List.nil_append]
  | owned h1 h2 h3 h4 _ ih =>
    rename_i x xs X n len rows us cs _
    obtain ⟨us', cobs, e1, e2, e3, e4⟩ := ih
    obtain ⟨l', k1, k2, k3⟩ := leaf_ok hg hs1 h1
    obtain ⟨v', rfl⟩ := er_ref k1
    obtain ⟨p2, ho2', hp2⟩ := look_lift h2
    have hn2 : p2.n = n := congrArg Ob.n hp2
    have hrows2 : p2.rows.map (fun r => r.map erL) = rows := congrArg Ob.rows hp2
    subst hn2 hrows2
    have hlen' : len = p2.rows.length := by simpa using h3
    subst hlen'
    have hform := k3.2.1 p2 ho2'
    have hobs2 : _ ∧ ∀ r ∈ p2.rows, r.length = p2.n := hg.obs _ (find?_key ho2')
    have hnest : ∀ r ∈ p2.rows, ∀ l ∈ r, nestL l = true := by
      simp only [List.all_map, List.all_eq_true, Function.comp_def, nest_er] at h4
      exact h4
    have hos : isOwn v' p2.rows ∧ hdrOwn v' p2.n p2.rows = hdrOwn p2.h p2.n p2.rows := by
      rcases hform.2 with ⟨h0, hv⟩ | ⟨b, x, c0, h0, hv⟩
      · have hr0 : p2.rows = [] := by
          rcases hobs2.1 with ⟨_, h1⟩ | ⟨_, _, _, h1, _⟩
          · exact h1
          · simp only at h1; rw [h0] at h1; cases h1
        exact ⟨.inl ⟨hv, hr0⟩, by rw [hv, h0]⟩
      · rcases hv with hv | ⟨y, _, _, h9, _⟩
        · rcases hobs2.1 with ⟨h7, _⟩ | ⟨b2, x2, c2, h7, h8, h9⟩
          · simp only at h7; rw [h0] at h7; cases h7
          · simp only at h7 h8 h9
            rw [h0] at h7
            cases h7
            simp only [Nat.zero_mul, Nat.add_zero, Nat.sub_zero] at hv
            exact ⟨.inr ⟨b, x, c0, hv, h8, h9⟩, by rw [hv, h0]; rfl⟩
        · omega
    refine ⟨.one (.os v' p2.n p2.rows) :: us', p2 :: cobs, by simp [mapU, mapL, mapR_eq, e1], .cons ⟨?_, fun l hl => ?_⟩ e2, .cons ho2' e3, ?_⟩
    · simp only [UR]
      rw [k2]
      rfl
    · simp only [leavesU, List.mem_singleton] at hl
      subst hl
      refine ⟨trivial, fun i hi => by simp [idsL] at hi, ⟨hos.1, hobs2.2, (wfR_iff _ _).2 fun r hr l hlr => nest_wf (hnest r hr l hlr) (has_ob hg ho2' hr hlr).1⟩, by simp [refOk], fun p hp => ?_⟩
      simp only [immL, immR_eq] at hp
      obtain ⟨l2, hl2, hp⟩ := List.mem_flatMap.1 hp
      obtain ⟨r, hr, hl2⟩ := List.mem_flatten.1 hl2
      exact .inr (.inl ((has_ob hg ho2' hr hl2).2.2.1 p hp))
    · rw [List.flatMap_cons, List.flatMap_append, e4, List.flatMap_cons]
      simp only [leavesU, List.flatMap_cons, List.flatMap_nil, List.append_nil, ownL, ownOb, hos.2, ownR_eq]
set_option maxHeartbeats 4000000 in
theorem stepOk_callO {P : Program} {o : Oper} {s : S Unit} {nid : Nat} {e : Eff} (h : CallO P o s nid e) : StepOk P o s nid e := by
  obtain ⟨c, f, caps, cs, us, hs, cons, obs, obs', r, ho, hcal, hndc, hhand, hkn, hargs, hcaps, hcsk, hent, hsim, rfl⟩ := h
  obtain ⟨hnd, hndx, hdis⟩ := List.nodup_append.1 hndc
  obtain ⟨lent, hlent⟩ : ∃ lent : Bool, lent = false := ⟨_, rfl⟩
  have himf : lent = false ∨ (immFreeV r = true ∧ ∀ ob ∈ obs', immFreeR ob.rows = true) := .inl hlent
  intro B d a W hd hi hsl hf hdef
  subst hd
  refine ⟨trivial, ?_⟩
  generalize hgd : gG hs nid = g at *
  have hgi : ∀ i h, hs[i]? = some h → g i = h := fun i h h1 => by rw [← hgd]; exact gG_lt h1
  have hge : ∀ i, hs.length ≤ i → g i = nid + (i - hs.length) := fun i h1 => by rw [← hgd]; exact gG_ge h1
  -- the callee
  obtain ⟨x, hx, v, hlx⟩ : ∃ x, c.callee = .value x ∧ ∃ v, lO (evA (erS d) x) = some (.fn v f caps) := by
    unfold calE at hcal
    split at hcal
    · rename_i x hcx
      split at hcal
      · rename_i v f' caps' hl
        cases hcal
        exact ⟨x, hcx, v, hl⟩
      · cases hcal
    · cases hcal
  obtain ⟨l', h1, h2, h3⟩ := leaf_ok hi.good hsl hlx
  obtain ⟨v', caps', rfl, hc'⟩ : ∃ v' caps', l' = .fn v' f caps' ∧ caps'.map erL = caps := by
    cases l' <;> simp [mapL] at h1
    rename_i v' f' c'
    exact ⟨v', c', by rw [h1.1], by rw [← h1.2, mapC_eq]⟩
  obtain ⟨_, hv', hw'⟩ := h3.1
  have hcap : ∀ l ∈ caps', Has d l := fun l hl => by
    refine ⟨(wfC_iff _ _).1 hw' l hl, (refOkC_iff _ _).1 h3.2.1 l hl, fun p hp => h3.2.2.1 p ?_, fun i hi => h3.2.2.2 i ?_⟩
    · simp only [immL, immC_eq]
      exact List.mem_flatMap.2 ⟨l, hl, hp⟩
    · simp only [idsL, idsC_eq]
      exact List.mem_flatMap.2 ⟨l, hl, hi⟩
  obtain ⟨cs', hcs1, hcs2⟩ := erLs_ren g (hc'.trans hcaps)
  -- what is handed over
  obtain ⟨hobs, hob1, hob2⟩ := hand_lift hhand
  have hlen := all2_len hob2
  obtain ⟨rest0, hperm00, hrl0, hrk0, _, _, hdc, hown00⟩ := hand_in hi hnd hob2 hgi
  obtain ⟨us', cobs, hus1, hus2, hcob, hcown⟩ := argsO_ok (dr := d) (lent := lent) (dcob := keyed hobs) hi.good hsl hdc hargs
  have hczl : cons.length = cobs.length := all2_len hcob
  have hzk : (cons.zip cobs).map (·.1) = cons := List.map_fst_zip (by omega)
  have hzn : (cons.zip cobs).Nodup := by
    have : ((cons.zip cobs).map (·.1)).Nodup := by rw [hzk]; exact hndx
    exact (List.pairwise_map.1 this).imp fun h e => h (congrArg Prod.fst e)
  have hidsr : (rest0.map (·.1)).Nodup := by
    have := (hperm00.map (·.1)).nodup_iff.1 hi.good.ids
    rw [List.map_append, List.nodup_append] at this
    exact this.2.1
  obtain ⟨rest, hpr⟩ := perm_part (l := rest0) hzn (fun p hp => by
    obtain ⟨i, hi1⟩ := List.getElem?_of_mem hp
    rw [List.getElem?_zip_eq_some] at hi1
    have h5 := all2_get hcob i _ _ hi1.1 hi1.2
    have hm : p.1 ∈ cons := List.mem_of_getElem? hi1.1
    have h6 := hrl0 p.1 (fun hh => hdis _ hh _ hm rfl)
    rw [h5] at h6
    exact find?_key h6)
  have hperm : d.ob.Perm (pairs g hs hobs ++ (cons.zip cobs ++ rest)) := hperm00.trans (hpr.append_left _)
  have hrk : ∀ p ∈ rest, p.1 ∉ hs := fun p hp => hrk0 p (hpr.mem_iff.2 (List.mem_append_right _ hp))
  have hrc : ∀ p ∈ rest, p.1 ∉ cons := fun p hp hm => by
    have := (hpr.map (·.1)).nodup_iff.1 hidsr
    rw [List.map_append, List.nodup_append, hzk] at this
    exact this.2.2 p.1 hm p.1 (List.mem_map.2 ⟨p, hp, rfl⟩) rfl
  have hrun : (execOp a.eval o).run P W = .ok (.enter f (c.args.toList.map a.eval ++ cs'.map val).toArray) W := by
    simp only [execOp, ho, resolve, hx, h2, val, hv', Deferred.ofValue, pure_bind, invoke]
    rw [run_callFunc hent]
    congr 2
    apply Array.ext'
    have e : caps'.map val = cs'.map val := by rw [← hcs2, List.map_map]; exact List.map_congr_left fun l _ => val_ren g l
    simp [e]
  let args' : List (U Value) := us' ++ cs'.map U.one
  let dc : S Value := ⟨args'.map V.u, keyed hobs, hobs.length⟩
  have hargl : ∀ u ∈ args', ∀ l ∈ leavesU u, True ∧ (∀ i ∈ idsL l, i < hs.length) ∧ wfL false l ∧ refOk (keyed hobs) l ∧ ∀ p ∈ immL l, p.2 = [] ∨ SubIn p (immS d) ∨ (lent = true ∧ ImmFact W p ∧ ∃ q ∈ ownS (⟨d.sl, rest, d.nx⟩ : S Value), q.1 = p.1.block) := by
    intro u hu l hl
    rcases List.mem_append.1 hu with hu | hu
    · obtain ⟨i, hi1⟩ := List.mem_iff_getElem?.1 hu
      have hl2 := all2_len hus2
      have hlt : i < (c.args.toList.map a.eval).length := by rw [← hl2]; exact (List.getElem?_eq_some_iff.1 hi1).1
      obtain ⟨a1, a2, a3, a4, a5⟩ := (all2_get hus2 i u _ hi1 (List.getElem?_eq_getElem hlt)).leaf l hl
      exact ⟨a1, a2, a3, a4, fun p hp => (a5 p hp).imp id (Or.imp id fun h => by rw [hlent] at h; exact absurd h.1 (by decide))⟩
    · obtain ⟨l0, hl0, rfl⟩ := List.mem_map.1 hu
      simp only [leavesU, List.mem_singleton] at hl
      subst hl
      have hh := hcap (renL g l) (by rw [← hcs2]; exact List.mem_map.2 ⟨l, hl0, rfl⟩)
      have hk := List.all_eq_true.1 hcsk (erL l) (by rw [← hcs1]; exact List.mem_map.2 ⟨l, hl0, rfl⟩)
      rw [okK_iff, noOs_er, idsL_er] at hk
      exact ⟨trivial, hk.2, (wf_ren g false l).1 hh.1, refOk_ren hdc l hh.2.1, fun p hp => .inr (.inl (hh.2.2.1 p (by rwa [imm_ren])))⟩
  have hcown2 : ((args'.map V.u).flatMap leavesV).flatMap ownL = cobs.flatMap (fun o => ownOb (0, o)) := by
    have e1 : (args'.map V.u).flatMap leavesV = args'.flatMap leavesU := by rw [List.flatMap_map]; rfl
    rw [e1]
    simp only [args', List.flatMap_append]
    rw [hcown]
    have e2 : ((cs'.map U.one).flatMap leavesU).flatMap ownL = [] := by
      rw [List.flatMap_eq_nil_iff]
      intro l hl
      obtain ⟨u, hu, hl⟩ := List.mem_flatMap.1 hl
      obtain ⟨l0, hl0, rfl⟩ := List.mem_map.1 hu
      simp only [leavesU, List.mem_singleton] at hl
      subst hl
      have hk := List.all_eq_true.1 hcsk (erL l) (by rw [← hcs1]; exact List.mem_map.2 ⟨l, hl0, rfl⟩)
      rw [okK_iff, noOs_er] at hk
      exact ownL_noOs hk.1
    rw [e2, List.append_nil]
  have hperm0 : (ownS d).Perm (ownS dc ++ ownS (⟨d.sl, rest, d.nx⟩ : S Value)) := by
    classical
    have k0 := hown00 [] (by simp)
    refine List.perm_iff_count.2 fun q => ?_
    have c0 := List.perm_iff_count.1 k0 q
    have c1 := List.perm_iff_count.1 (own_split (⟨([] : List (U Value)).map .u, keyed hobs, hobs.length⟩ : S Value)) q
    have c2 := List.perm_iff_count.1 (own_split (⟨d.sl, rest0, d.nx⟩ : S Value)) q
    have c3 := List.perm_iff_count.1 (own_split dc) q
    have c4 := List.perm_iff_count.1 (own_split (⟨d.sl, rest, d.nx⟩ : S Value)) q
    have c5 := List.perm_iff_count.1 (hpr.flatMap_right ownOb) q
    have c6 : (cons.zip cobs).flatMap ownOb = cobs.flatMap (fun o => ownOb (0, o)) := zip_own hczl
    have c7 : ((dc.sl).flatMap leavesV).flatMap ownL = cobs.flatMap (fun o => ownOb (0, o)) := hcown2
    rw [List.count_append, c7] at c3
    rw [List.flatMap_append, c6, List.count_append] at c5
    rw [List.count_append] at c0 c1 c2 c4 ⊢
    have c8 : List.count q (((([] : List (U Value)).map V.u).flatMap leavesV).flatMap ownL) = 0 := rfl
    have c9 : dc.ob = keyed hobs := rfl
    rw [c9] at c3
    simp only at c1 c2 c4
    omega
  have hnd0 := (hperm0.map (·.1)).nodup_iff.1 hi.good.nodup
  rw [List.map_append, List.nodup_append] at hnd0
  -- the leaves of what is handed over
  have hrow : ∀ (i : Nat) ob, hobs[i]? = some ob → ∃ h, hs[i]? = some h ∧ look d.ob h = some (renOb g ob) := fun i ob hi1 => by
    have hlt := (List.getElem?_eq_some_iff.1 hi1).1
    exact ⟨_, List.getElem?_eq_getElem (by omega), all2_get hob2 i _ _ (List.getElem?_eq_getElem (by omega)) hi1⟩
  have hrowl : ∀ p ∈ keyed hobs, ∀ r ∈ p.2.rows, ∀ l ∈ r, renL g l ∈ tops d := fun p hp r hr l hl => by
    have h5 := (zipIdx_mem (n := 0) hp).2
    obtain ⟨h, _, h7⟩ := hrow _ _ h5
    exact mem_tops.2 (.inr (mem_obLeaves.2 ⟨_, find?_key h7, r.map (renL g), List.mem_map.2 ⟨r, hr, rfl⟩, List.mem_map.2 ⟨l, hl, rfl⟩⟩))
  have hids : ∀ l ∈ tops dc, ∀ i ∈ idsL l, i < obs.length := by
    intro l hl i hi1
    have hol : obs.length = hs.length := by rw [← hob1, List.length_map, hlen]
    rcases mem_tops.1 hl with ⟨u0, hu0, hl⟩ | hl
    · obtain ⟨u, hu1, rfl⟩ := List.mem_map.1 hu0
      rw [hol]
      exact (hargl u hu1 l hl).2.1 i hi1
    · obtain ⟨p, hp, r, hr, hl⟩ := mem_obLeaves.1 hl
      have h5 := (zipIdx_mem (n := 0) hp).2
      have h6 := hkn (erOb p.2) (by rw [← hob1]; exact List.mem_map.2 ⟨_, List.mem_of_getElem? h5, rfl⟩)
      simp only [knowsR, mapOb, List.all_map, List.all_eq_true, Function.comp_def] at h6
      have := h6 r hr l hl i (by rw [idsL_er]; exact hi1)
      rw [hol]
      exact blt_lt this
  have himmdc : ∀ p ∈ immS dc, p.2 = [] ∨ SubIn p (immS d) ∨ (lent = true ∧ ImmFact W p ∧ ∃ q ∈ ownS (⟨d.sl, rest, d.nx⟩ : S Value), q.1 = p.1.block) := by
    intro p hp
    obtain ⟨l, hl, hp⟩ := List.mem_flatMap.1 hp
    rcases mem_tops.1 hl with ⟨u0, hu0, hl⟩ | hl
    · obtain ⟨u, hu1, rfl⟩ := List.mem_map.1 hu0
      exact (hargl u hu1 l hl).2.2.2.2 p hp
    · obtain ⟨q, hq, r, hr, hl⟩ := mem_obLeaves.1 hl
      exact .inr (.inl (.of_mem (List.mem_flatMap.2 ⟨_, hrowl q hq r hr l hl, by rwa [imm_ren]⟩)))
  have hgood : Good W dc := {
    wf := fun l hl => by
      rcases mem_tops.1 hl with ⟨u0, hu0, hl⟩ | hl
      · obtain ⟨u, hu1, rfl⟩ := List.mem_map.1 hu0
        have := hargl u hu1 l hl
        exact ⟨this.2.2.1, this.2.2.2.1⟩
      · obtain ⟨p, hp, r, hr, hl⟩ := mem_obLeaves.1 hl
        have := hi.good.wf _ (hrowl p hp r hr l hl)
        exact ⟨(wf_ren g false l).1 this.1, refOk_ren hdc l this.2⟩
    obs := fun p hp => by
      have h5 := (zipIdx_mem (n := 0) hp).2
      obtain ⟨h, _, h7⟩ := hrow _ _ h5
      have := hi.good.obs _ (find?_key h7)
      simp only [renOb, List.map_eq_nil_iff, List.length_map] at this
      refine ⟨this.1, fun r hr => ?_⟩
      have := this.2 (r.map (renL g)) (List.mem_map.2 ⟨r, hr, rfl⟩)
      simpa using this
    ids := by
      show ((keyed hobs).map (·.1)).Nodup
      rw [keyed_keys]; exact List.nodup_range
    own := fun p hp => hi.good.own p (hperm0.mem_iff.2 (List.mem_append_left _ hp))
    nodup := hnd0.1
    imm := fun p hp hne => by
      rcases himmdc p hp with h0 | h0 | ⟨_, h0, q, hq, hqe⟩
      · exact absurd h0 hne
      · rcases h0 with h0 | ⟨q, hq, hs'⟩
        · exact absurd h0 hne
        · obtain ⟨k1, k2⟩ := hi.good.imm q hq (hs'.ne hne)
          exact ⟨hs'.fact k1, fun q2 hq2 => by rw [hs'.1]; exact k2 q2 (hperm0.mem_iff.2 (List.mem_append_left _ hq2))⟩
      · exact ⟨h0, fun q2 hq2 e => hnd0.2.2 q2.1 (List.mem_map.2 ⟨q2, hq2, rfl⟩) q.1 (List.mem_map.2 ⟨q, hq, rfl⟩) (e.trans hqe.symm)⟩ }
  have hall : All2 UR args' (c.args.toList.map a.eval ++ cs'.map val) :=
    all2_append (all2_imp (fun _ _ h => h.ur) hus2) (all2_map fun l _ => rfl)
  have hobk : (erS dc).ob = obs.zipIdx.map (fun q => (q.2, q.1)) := by
    rw [← hob1]
    simp only [dc, erS, mapS, keyed, List.zipIdx_map, List.map_map]
    rfl
  have hcalls := hsim W dc args' _ rfl (by simp [args', hus1, ← hcs1, mapU, Function.comp_def]) hall hobk hgood hids
  unfold Oper.wp
  rw [hrun]
  simp only [Oper.upon]
  refine Calls.mono hcalls fun e W' he => ?_
  obtain ⟨y, d', rv, rfl, hd'sl, hrv, hd'ob, hvr, hend⟩ := he
  have hd'ob2 : d'.ob.map (fun p => (p.1, erOb p.2)) = keyed obs' := hd'ob
  obtain ⟨hk1, hk2⟩ := keyed_of hd'ob2
  generalize hno2 : d'.ob.map (·.2) = nobs at hk1 hk2
  have hm : obs'.length = nobs.length := by rw [← hk2]; simp
  have hk0 : hobs.length = hs.length := hlen.symm
  have hdcob : dc.ob.length = hs.length := by simp [dc, keyed, hk0]
  -- headers
  have hhdr := hend.hdr
  rw [hdcob] at hhdr
  have hkm : hs.length ≤ nobs.length := by
    have := congrArg List.length hhdr
    simp only [List.length_map, List.length_take, hdcob] at this
    rw [hk1] at this
    simp [keyed] at this
    omega
  have hh2 : ∀ (i : Nat) (o o' : Ob Value), hobs[i]? = some o → nobs[i]? = some o' → o'.h = o.h ∧ o'.n = o.n ∧ o'.rows.length = o.rows.length := by
    intro i o1 o2 ho1 ho2
    have hlt := (List.getElem?_eq_some_iff.1 ho1).1
    have e := congrArg (fun l => l[i]?) hhdr
    simp only [List.getElem?_map, List.getElem?_take] at e
    rw [if_pos (by omega)] at e
    have e1 : dc.ob[i]? = some (i, o1) := by
      show (keyed hobs)[i]? = _
      simp [keyed, List.getElem?_map, List.getElem?_zipIdx, ho1]
    have e2 : d'.ob[i]? = some (i, o2) := by
      rw [hk1]
      simp [keyed, List.getElem?_map, List.getElem?_zipIdx, ho2]
    rw [e1, e2] at e
    simp only [Option.map_some, Option.some.injEq, Prod.mk.injEq, true_and] at e
    exact e
  -- the state behind the call
  have hlen2 : nobs.length = obs'.length := hm.symm
  generalize hrr : rootV hdV (nid + (nobs.length - hs.length)) (renV g rv) = rr
  obtain ⟨rv', ro⟩ := rr
  have herv := rootV_er (nid + (nobs.length - hs.length)) (renV g rv)
  rw [renV_er, hrv, hrr] at herv
  simp only at herv
  rw [hm] at hf ⊢
  rw [herv] at hf ⊢
  simp only [List.length_append, List.length_map, List.length_drop, hm] at hf ⊢
  obtain ⟨hlv, hlo⟩ := rootV_leaves hdV (nid + (nobs.length - hs.length)) (renV g rv)
  have hmm := rootLs_mem (nid + (nobs.length - hs.length)) (leavesV (renV g rv))
  have hrokeys := rootLs_keys hdV (nid + (nobs.length - hs.length)) (leavesV (renV g rv))
  have hroown := rootLs_own (nid + (nobs.length - hs.length)) (leavesV (renV g rv))
  rw [← hlv, ← hlo] at hmm
  rw [← hlo] at hrokeys
  rw [← hlv, ← hlo] at hroown
  rw [hrr] at hmm hrokeys hroown
  simp only at hmm hrokeys hroown
  have hrvk : ∀ l ∈ leavesV rv, l ∈ tops d' := fun l hl => mem_tops.2 (.inl ⟨rv, by rw [hd'sl]; simp, hl⟩)
  let nk := nobs.take hs.length
  let nn := nobs.drop hs.length
  let updV : List (Nat × List (List (L Value))) := hs.zip (nk.map fun ob => (renOb g ob).rows)
  let obU := (d.ob.filter (fun p => !cons.contains p.1)).map (updP updV)
  let newsA : List (Nat × Ob Value) := ((nn.map (renOb g)).zipIdx nid).map (fun q => (q.2, q.1))
  let ob1 := obU ++ (newsA ++ ro)
  let d1 : S Value := ⟨d.sl ++ [rv'], ob1, d.nx + (nobs.length - hs.length + ro.length)⟩
  have hnkl : nk.length = hobs.length := by simp [nk]; omega
  have hnkg : ∀ (i : Nat) o', nk[i]? = some o' → nobs[i]? = some o' ∧ i < hs.length := fun i o' h => by
    have hlt := (List.getElem?_eq_some_iff.1 h).1
    simp only [nk, List.getElem?_take] at h
    split at h
    · exact ⟨h, by omega⟩
    · cases h
  have hnng : ∀ (i : Nat) o', nn[i]? = some o' → nobs[hs.length + i]? = some o' := fun i o' h => by
    simp only [nn, List.getElem?_drop] at h
    exact h
  have hU : obU.Perm (pairs g hs nk ++ rest) := by
    have h5 := (hperm.filter (fun p => !cons.contains p.1)).map (updP updV)
    have f1 : (pairs g hs hobs).filter (fun p => !cons.contains p.1) = pairs g hs hobs := List.filter_eq_self.2 fun p hp => by
      have hm : p.1 ∈ (pairs g hs hobs).map (·.1) := List.mem_map.2 ⟨p, hp, rfl⟩
      rw [pairs_keys hlen] at hm
      simp only [Bool.not_eq_true', List.contains_eq_mem, decide_eq_false_iff_not]
      exact fun h => hdis _ hm _ h rfl
    have f2 : (cons.zip cobs).filter (fun p => !cons.contains p.1) = [] := List.filter_eq_nil_iff.2 fun p hp => by
      have hm : p.1 ∈ (cons.zip cobs).map (·.1) := List.mem_map.2 ⟨p, hp, rfl⟩
      rw [hzk] at hm
      simp [hm]
    have f3 : rest.filter (fun p => !cons.contains p.1) = rest := List.filter_eq_self.2 fun p hp => by simp [hrc p hp]
    rw [List.filter_append, List.filter_append, f1, f2, f3, List.nil_append] at h5
    rw [List.map_append, upd_pairs hnd hlen hnkl (fun i o1 o2 a1 a2 => by
      have := hh2 i o1 o2 a1 (hnkg i o2 a2).1
      exact ⟨this.1, this.2.1⟩), upd_rest (upd := updV) (rest := rest) (fun p hp => by
      have e : updV.map (·.1) = hs := List.map_fst_zip (by simp [hnkl]; omega)
      rw [e]
      exact hrk p hp)] at h5
    exact h5
  have hUk : (obU.map (·.1)).Sublist (d.ob.map (·.1)) := by
    have e : obU.map (·.1) = (d.ob.filter (fun p => !cons.contains p.1)).map (·.1) := by
      simp only [obU, List.map_map]
      exact List.map_congr_left fun p _ => updP_key updV p
    rw [e]
    exact List.filter_sublist.map _
  have hnewk : (newsA ++ ro).map (·.1) = List.range' nid (nobs.length - hs.length + ro.length) := by
    have e1 : newsA.map (·.1) = List.range' nid (nobs.length - hs.length) := by
      rw [zipIdx_keys]
      simp [nn]
    rw [List.map_append, e1, hrokeys, List.range'_append_1]
  have hnk : ∀ i, Knows d i → i ∉ (newsA ++ ro).map (·.1) := fun i hk hm2 => by
    rw [hnewk, List.mem_range'_1] at hm2
    have := hf.1 i hk
    omega
  have hnodup : (ob1.map (·.1)).Nodup := by
    show ((obU ++ (newsA ++ ro)).map (·.1)).Nodup
    rw [List.map_append, List.nodup_append]
    refine ⟨hi.good.ids.sublist hUk, by rw [hnewk]; exact List.nodup_range', fun i hi2 j hj e => ?_⟩
    subst e
    have hi2 := hUk.subset hi2
    exact hnk i (.inr hi2) hj
  -- members
  have hpk : ∀ p ∈ pairs g hs nk, ∃ (j h : Nat) (ob ob0 : Ob Value), hs[j]? = some h ∧ nobs[j]? = some ob ∧ hobs[j]? = some ob0 ∧ p = (h, renOb g ob) ∧ look d.ob h = some (renOb g ob0) := by
    intro p hp
    obtain ⟨q, hq, rfl⟩ := List.mem_map.1 hp
    obtain ⟨j, hj⟩ := List.getElem?_of_mem hq
    rw [List.getElem?_zip_eq_some] at hj
    obtain ⟨a1, a2⟩ := hnkg j _ hj.2
    have a3 : hobs[j]? = some (hobs[j]'(by omega)) := List.getElem?_eq_getElem (by omega)
    exact ⟨j, _, _, _, hj.1, a1, a3, rfl, all2_get hob2 j _ _ hj.1 a3⟩
  have hrestm : ∀ p ∈ rest, p ∈ d.ob := fun p hp => hperm.mem_iff.2 (List.mem_append_right _ (List.mem_append_right _ hp))
  have hnewm : ∀ p ∈ newsA, ∃ (j : Nat) (ob : Ob Value), nobs[j]? = some ob ∧ hs.length ≤ j ∧ p = (nid + (j - hs.length), renOb g ob) := by
    intro p hp
    obtain ⟨a1, a2⟩ := zipIdx_mem hp
    rw [List.getElem?_map, Option.map_eq_some_iff] at a2
    obtain ⟨ob, a3, a4⟩ := a2
    refine ⟨hs.length + (p.1 - nid), ob, hnng _ _ a3, by omega, ?_⟩
    rw [a4]
    refine Prod.ext ?_ rfl
    simp only
    omega
  have hd'm : ∀ (j : Nat) ob, nobs[j]? = some ob → (j, ob) ∈ d'.ob := fun j ob h => by
    rw [hk1]
    have := zipIdx_mk (n := 0) h
    simpa [keyed] using this
  have hd'l : ∀ (j : Nat) ob, nobs[j]? = some ob → ∀ r ∈ ob.rows, ∀ l ∈ r, l ∈ tops d' := fun j ob h r hr l hl =>
    mem_tops.2 (.inr (mem_obLeaves.2 ⟨_, hd'm j ob h, r, hr, hl⟩))
  have hkn' : ∀ l ∈ tops d', ∀ i ∈ idsL l, i < nobs.length := fun l hl i hi1 => by
    have := hend.known l hl i hi1
    rw [hk1] at this
    simpa [keyed] using this
  have hL1 : ∀ (j : Nat) ob, nobs[j]? = some ob → look ob1 (g j) = some (renOb g ob) := fun j ob h => by
    refine look_mem hnodup ?_
    rcases Nat.lt_or_ge j hs.length with hj | hj
    · have a1 : hs[j]? = some hs[j] := List.getElem?_eq_getElem hj
      rw [hgi j _ a1]
      refine List.mem_append_left _ (hU.mem_iff.2 (List.mem_append_left _ ?_))
      have a2 : nk[j]? = some ob := by simp [nk, List.getElem?_take, hj, h]
      exact List.mem_of_getElem? (pairs_get a1 a2)
    · rw [hge j hj]
      refine List.mem_append_right _ (List.mem_append_left _ ?_)
      exact zipIdx_mk (by
        rw [List.getElem?_map]
        have : nn[j - hs.length]? = some ob := by
          simp only [nn, List.getElem?_drop]
          rw [show hs.length + (j - hs.length) = j by omega]
          exact h
        rw [this]
        rfl)
  have hA : ∀ l ∈ tops d', wfL false (renL g l) ∧ refOk ob1 (renL g l) := fun l hl => by
    have h5 := hend.good.wf l hl
    refine ⟨(wf_ren g false l).2 h5.1, refOk_tr (fun i hi1 o' ho' => ?_) h5.2⟩
    have hlt := hkn' l hl i hi1
    have a1 : nobs[i]? = some nobs[i] := List.getElem?_eq_getElem hlt
    rw [hL1 i _ a1] at ho'
    cases ho'
    refine ⟨nobs[i], ?_, rfl, rfl, by simp [renOb]⟩
    rw [hk1]
    exact keyed_look.2 a1
  have hB : ∀ l, Has d l → refOk ob1 l := fun l hh => by
    refine refOk_same (fun i hi1 o' ho' => ?_) hh.2.1
    have hkw := hh.2.2.2 i hi1
    have hmem1 := find?_key ho'
    rcases List.mem_append.1 hmem1 with h5 | h5
    · rcases List.mem_append.1 (hU.mem_iff.1 h5) with h5 | h5
      · obtain ⟨j, h, ob, ob0, a1, a2, a3, a4, a5⟩ := hpk _ h5
        cases a4
        have := hh2 j ob0 ob a3 a2
        exact ⟨_, a5, by simp [renOb, this.1], by simp [renOb, this.2.1], by simp [renOb, this.2.2]⟩
      · exact ⟨o', look_mem hi.good.ids (hrestm _ h5), rfl, rfl, rfl⟩
    · exact absurd (List.mem_map.2 ⟨_, h5, rfl⟩) (hnk i hkw)
  have hrvl : ∀ v' m' rows, (.os v' m' rows : L Value) ∈ leavesV (renV g rv) → (.os v' m' rows : L Value) ∈ leavesV rv := fun v' m' rows h => by
    rw [leavesV_ren] at h
    obtain ⟨l0, a1, a2⟩ := List.mem_map.1 h
    cases l0 <;> simp only [renL, reduceCtorEq] at a2
    cases a2
    exact a1
  have hro : ∀ p ∈ ro, ∃ v' m' rows, (.os v' m' rows : L Value) ∈ leavesV rv ∧ p.2 = ⟨hdV v', m', rows⟩ ∧ isOwn v' rows ∧ (∀ r ∈ rows, r.length = m') ∧ wfR true rows := fun p hp => by
    obtain ⟨v', m', rows, a1, a2⟩ := hmm.2 p hp
    have a3 := hrvl _ _ _ a1
    have := (hend.good.wf _ (hrvk _ a3)).1
    exact ⟨v', m', rows, a3, a2, this.1, this.2.1, this.2.2⟩
  have hrol : ∀ p ∈ ro, ∀ r ∈ p.2.rows, ∀ l ∈ r, wfL true l ∧ ∀ q ∈ immL l, q ∈ immS d' := fun p hp r hr l hl => by
    obtain ⟨v', m', rows, a1, a2, _, _, a5⟩ := hro p hp
    rw [a2] at hr
    refine ⟨(wfR_iff _ _).1 a5 r hr l hl, fun q hq => List.mem_flatMap.2 ⟨_, hrvk _ a1, ?_⟩⟩
    simp only [immL, immR_eq]
    exact List.mem_flatMap.2 ⟨l, List.mem_flatten.2 ⟨r, hr, hl⟩, hq⟩
  have hwfo : ∀ l ∈ leavesV rv', wfL false l ∧ refOk ob1 l ∧ noOs l = true ∧ (∀ i ∈ idsL l, (∃ j, j < nobs.length ∧ i = g j) ∨ i ∈ ro.map (·.1)) ∧ ∀ q ∈ immL l, q ∈ immS d' := fun l hl => by
    rcases hmm.1 l hl with ⟨a1, a2⟩ | ⟨i, v', m', rows, rfl, a2, a3⟩
    · rw [leavesV_ren] at a1
      obtain ⟨l0, a3, rfl⟩ := List.mem_map.1 a1
      have := hA l0 (hrvk l0 a3)
      refine ⟨this.1, this.2, a2, fun i hi1 => ?_, fun q hq => ?_⟩
      · rw [idsL_ren] at hi1
        obtain ⟨j, a4, rfl⟩ := List.mem_map.1 hi1
        exact .inl ⟨j, hkn' l0 (hrvk l0 a3) j a4, rfl⟩
      · rw [imm_ren] at hq
        exact List.mem_flatMap.2 ⟨l0, hrvk l0 a3, hq⟩
    · have a4 := (hend.good.wf _ (hrvk _ (hrvl _ _ _ a2))).1
      have hown2 := a4.1
      have hv2 : ∃ a n c, v' = .slice a n c := by
        rcases hown2 with ⟨rfl, _⟩ | ⟨_, _, _, rfl, _⟩ <;> exact ⟨_, _, _, rfl⟩
      refine ⟨⟨rfl, hv2⟩, fun o2 ho2 => ?_, rfl, fun j hj => ?_, fun q hq => by simp [immL] at hq⟩
      · rw [look_mem hnodup (List.mem_append_right _ (List.mem_append_right _ a3))] at ho2
        cases ho2
        refine ⟨by simp, ?_⟩
        rcases hown2 with ⟨rfl, _⟩ | ⟨b, x, c, rfl, _⟩
        · exact .inl ⟨rfl, rfl⟩
        · exact .inr ⟨b, x, c, rfl, .inl (by simp)⟩
      · simp only [idsL, List.mem_singleton] at hj
        subst hj
        exact .inr (List.mem_map.2 ⟨_, a3, rfl⟩)
  -- what stands on top
  have htop1 : ∀ l ∈ tops d1, l ∈ tops d ∨ (∃ l0 ∈ tops d', l = renL g l0) ∨ l ∈ leavesV rv' ∨ ∃ p ∈ ro, ∃ r ∈ p.2.rows, l ∈ r := fun l hl => by
    rcases mem_tops.1 hl with ⟨u, hu, hl2⟩ | hl
    · rcases List.mem_append.1 hu with hu | hu
      · exact .inl (mem_tops.2 (.inl ⟨u, hu, hl2⟩))
      · simp only [List.mem_singleton] at hu
        subst hu
        exact .inr (.inr (.inl hl2))
    · obtain ⟨p, hp, r, hr, hl⟩ := mem_obLeaves.1 hl
      rcases List.mem_append.1 hp with hp | hp
      · rcases List.mem_append.1 (hU.mem_iff.1 hp) with hp | hp
        · obtain ⟨j, h, ob, ob0, a1, a2, a3, rfl, a5⟩ := hpk _ hp
          obtain ⟨r0, b1, rfl⟩ := List.mem_map.1 hr
          obtain ⟨l0, b2, rfl⟩ := List.mem_map.1 hl
          exact .inr (.inl ⟨l0, hd'l j ob a2 r0 b1 l0 b2, rfl⟩)
        · exact .inl (mem_tops.2 (.inr (mem_obLeaves.2 ⟨p, hrestm p hp, r, hr, hl⟩)))
      · rcases List.mem_append.1 hp with hp | hp
        · obtain ⟨j, ob, a1, a2, rfl⟩ := hnewm _ hp
          obtain ⟨r0, b1, rfl⟩ := List.mem_map.1 hr
          obtain ⟨l0, b2, rfl⟩ := List.mem_map.1 hl
          exact .inr (.inl ⟨l0, hd'l j ob a1 r0 b1 l0 b2, rfl⟩)
        · exact .inr (.inr (.inr ⟨p, hp, r, hr, hl⟩))
  have hinv1 : Inv B W' d1 := by
    refine call_core hi (rest := ownS ⟨d.sl, rest, d.nx⟩) hperm0 ?_ hend ?_ (fun p hp => ?_) (fun l hl => ?_) (fun p hp => ?_) hnodup (fun p hp hlt => ?_)
    · rcases himf with h5 | ⟨h5, h6⟩
      · left
        intro q hq hne
        rcases himmdc q hq with h7 | h7 | ⟨h7, _⟩
        · exact absurd h7 hne
        · rcases h7 with h7 | ⟨q', hq', hs'⟩
          · exact absurd h7 hne
          · exact ⟨q', hq', hs'.ne hne, hs'.1.symm⟩
        · rw [h5] at h7; cases h7
      · right
        simp only [immS, List.flatMap_eq_nil_iff]
        intro l hl
        rcases mem_tops.1 hl with ⟨u, hu, hl⟩ | hl
        · rw [hd'sl] at hu
          simp only [List.mem_singleton] at hu
          subst hu
          rw [← hrv] at h5
          simp only [immFreeV, leavesV_map, List.all_map, List.all_eq_true, Function.comp_def] at h5
          exact immFree_er (h5 l hl)
        · obtain ⟨p, hp, r, hr, hl⟩ := mem_obLeaves.1 hl
          have h7 := h6 (erOb p.2) (by rw [← hk2, ← hno2]; exact List.mem_map.2 ⟨p.2, List.mem_map.2 ⟨p, hp, rfl⟩, rfl⟩)
          have h8 : immR p.2.rows = [] := immFreeR_er (by rw [mapR_eq]; exact h7)
          rw [immR_eq, List.flatMap_eq_nil_iff] at h8
          exact h8 l (List.mem_flatten.2 ⟨r, hr, hl⟩)
    · classical
      refine List.perm_iff_count.2 fun q => ?_
      have c1 := List.perm_iff_count.1 (own_split d1) q
      have c2 := List.perm_iff_count.1 (own_split d') q
      have c3 := List.perm_iff_count.1 (own_split ⟨d.sl, rest, d.nx⟩) q
      have c4 := List.perm_iff_count.1 (hU.flatMap_right ownOb) q
      have c5 := List.perm_iff_count.1 (own_obs ro) q
      have c6 := List.perm_iff_count.1 hroown.2 q
      have c7 : newsA.flatMap ownOb = nn.flatMap (fun o => ownOb (0, o)) := by
        rw [zipIdx_own, List.flatMap_map]
        exact ownOb_ren.flatMap_congr' fun o _ => ownOb_ren g 0 0 o
      have c8 : (pairs g hs nk).flatMap ownOb = nk.flatMap (fun o => ownOb (0, o)) := pairs_own (by rw [hnkl, hk0])
      have c9 : d'.ob.flatMap ownOb = nk.flatMap (fun o => ownOb (0, o)) ++ nn.flatMap (fun o => ownOb (0, o)) := by
        rw [← List.flatMap_append, List.take_append_drop, hk1]
        exact zipIdx_own 0 nobs
      have c10 : (leavesV (renV g rv)).flatMap ownL = (leavesV rv).flatMap ownL := by
        rw [leavesV_ren, List.flatMap_map]
        exact ownOb_ren.flatMap_congr' fun l _ => own_ren g l
      rw [c10] at c6
      rw [c9] at c2
      simp only [List.flatMap_append, c8, List.count_append] at c4
      simp only [d1, ob1, List.flatMap_append, c7, List.flatMap_cons, List.flatMap_nil, List.append_nil, hroown.1, List.count_append] at c1
      simp only [hd'sl, List.flatMap_cons, List.flatMap_nil, List.append_nil, List.count_append] at c2
      simp only [List.count_append] at c3 c5 c6 ⊢
      have c11 : List.count q (ownS d1) = _ := c1
      omega
    · obtain ⟨l, hl, hp⟩ := List.mem_flatMap.1 hp
      rcases htop1 l hl with h5 | ⟨l0, h5, rfl⟩ | h5 | ⟨q, hq, r', hr', h5⟩
      · exact .inl (.of_mem (List.mem_flatMap.2 ⟨l, h5, hp⟩))
      · rw [imm_ren] at hp
        exact .inr (List.mem_flatMap.2 ⟨l0, h5, hp⟩)
      · exact .inr ((hwfo l h5).2.2.2.2 p hp)
      · exact .inr ((hrol q hq r' hr' l h5).2 p hp)
    · rcases htop1 l hl with h5 | ⟨l0, h5, rfl⟩ | h5 | ⟨q, hq, r', hr', h5⟩
      · have hh := has_top hi.good h5
        exact ⟨hh.1, hB l hh⟩
      · exact hA l0 h5
      · exact ⟨(hwfo l h5).1, (hwfo l h5).2.1⟩
      · have := wf_weak (hrol q hq r' hr' l h5).1
        exact ⟨this.1, this.2.1 _⟩
    · have hren : ∀ (j : Nat) ob, nobs[j]? = some ob → (((renOb g ob).h = .slice none 0 0 ∧ (renOb g ob).rows = []) ∨ ∃ b x c, (renOb g ob).h = .slice (some ⟨b, x, none⟩) 0 c ∧ (renOb g ob).rows.length ≤ c ∧ (renOb g ob).rows.length ≤ LIM) ∧ ∀ r ∈ (renOb g ob).rows, r.length = (renOb g ob).n := fun j ob h => by
        have := hend.good.obs _ (hd'm j ob h)
        simp only at this
        refine ⟨by simpa [renOb] using this.1, fun r hr => ?_⟩
        obtain ⟨r0, b1, rfl⟩ := List.mem_map.1 hr
        simpa [renOb] using this.2 r0 b1
      rcases List.mem_append.1 hp with hp | hp
      · rcases List.mem_append.1 (hU.mem_iff.1 hp) with hp | hp
        · obtain ⟨j, h, ob, ob0, a1, a2, a3, rfl, a5⟩ := hpk _ hp
          exact hren j ob a2
        · exact hi.good.obs p (hrestm p hp)
      · rcases List.mem_append.1 hp with hp | hp
        · obtain ⟨j, ob, a1, a2, rfl⟩ := hnewm _ hp
          exact hren j ob a1
        · obtain ⟨v', m', rows, _, a2, a3, a4, _⟩ := hro p hp
          rw [a2]
          refine ⟨?_, a4⟩
          rcases a3 with ⟨rfl, rfl⟩ | ⟨b, x, c, rfl, a5, a6⟩
          · exact .inl ⟨rfl, rfl⟩
          · exact .inr ⟨b, x, c, rfl, a5, a6⟩
    · rcases List.mem_append.1 hp with hp | hp
      · rcases List.mem_append.1 (hU.mem_iff.1 hp) with hp | hp
        · obtain ⟨j, h, ob, ob0, a1, a2, a3, rfl, a5⟩ := hpk _ hp
          have := hi.hdr _ (find?_key a5) hlt
          simp only [renOb] at this ⊢
          rw [(hh2 j ob0 ob a3 a2).1]
          exact this
        · exact hi.hdr p (hrestm p hp) hlt
      · have : p.1 ∈ (newsA ++ ro).map (·.1) := List.mem_map.2 ⟨p, hp, rfl⟩
        rw [hnewk, List.mem_range'_1] at this
        have := hf.2
        omega
  obtain ⟨hinv2, htop2⟩ := inv_slot (sl := d.sl) (ob := ob1) (nx := d.nx + (nobs.length - hs.length + ro.length)) hinv1 (fun l hl => (hwfo l hl).2.2.1) o.dst
  refine ⟨setSl ⟨d.sl, ob1, d.nx + (nobs.length - hs.length + ro.length)⟩ o.dst rv', ?_, hinv2, SlR.put (d := ⟨d.sl, ob1, d.nx + (nobs.length - hs.length + ro.length)⟩) ⟨hsl.1, hsl.2⟩ o.dst ?_, by rw [put_defers']; exact hdef, fun i hk => ?_⟩
  · have k1 : updV.map (fun q => (q.1, q.2.map fun r => r.map erL)) = hs.zip ((obs'.take hs.length).map fun ob => (renOb g ob).rows) := by
      rw [← hk2, ← List.map_take, List.map_map]
      simp only [updV, nk]
      rw [List.zip_map_right, List.zip_map_right, List.map_map]
      refine List.map_congr_left fun q _ => ?_
      simp only [Function.comp, Prod.map, id]
      refine Prod.ext rfl ?_
      show _ = (renOb g (erOb q.2)).rows
      rw [← renOb_er]
      rfl
    have k2 : (obs'.drop hs.length).map (renOb g) = (nn.map (renOb g)).map erOb := by
      rw [← hk2, ← List.map_drop, List.map_map, List.map_map]
      exact List.map_congr_left fun ob _ => (renOb_er g ob).symm
    have k3 : (((ro.map (fun p => (p.1, erOb p.2))).map (·.2)).zipIdx (nid + (nobs.length - hs.length))).map (fun q => (q.2, q.1)) = ro.map (fun p => (p.1, erOb p.2)) := by
      refine rekey _ _ ?_
      rw [List.map_map, List.length_map, ← hrokeys]
      rfl
    rw [erS_setSl]
    unfold appE app
    congr 1
    simp only [erS, mapS, S.mk.injEq, true_and]
    refine ⟨?_, ?_⟩
    · have k4 : obU.map (fun p => (p.1, erOb p.2)) = ((d.ob.map (fun p => (p.1, erOb p.2))).filter (fun p => !cons.contains p.1)).map (updP (hs.zip ((obs'.take hs.length).map fun ob => (renOb g ob).rows))) := by
        rw [← k1, List.filter_map, List.map_map, List.map_map]
        exact List.map_congr_left fun p _ => updP_er updV p
      have k6 : nn.length = nobs.length - hs.length := by simp [nn]
      rw [← k4, k2, List.zipIdx_append]
      simp only [List.length_map, ob1, List.map_append, k6]
      rw [k3]
      congr 2
      simp only [newsA, List.zipIdx_map, List.map_map]
      rfl
    · simp [hm]
  · have := rootV_VR (n := nid + (nobs.length - hs.length)) (VR_ren' g hvr)
    rw [hrr] at this
    exact this
  · have hgk : ∀ j, j < nobs.length → Knows d (g j) ∨ (nid ≤ g j ∧ g j < nid + (nobs.length - hs.length + ro.length)) := fun j hj => by
      rcases Nat.lt_or_ge j hs.length with h5 | h5
      · have a1 : hs[j]? = some hs[j] := List.getElem?_eq_getElem h5
        rw [hgi j _ a1]
        have a2 := all2_get hob2 j _ _ a1 (List.getElem?_eq_getElem (by omega))
        exact .inl (.inr (List.mem_map.2 ⟨_, find?_key a2, rfl⟩))
      · rw [hge j h5]
        exact .inr (by omega)
    rcases hk with ⟨l, hl, hi2⟩ | hi2
    · rcases htop1 l (htop2 l hl) with h5 | ⟨l0, h5, rfl⟩ | h5 | ⟨q, hq, r', hr', h5⟩
      · exact .inl (.inl ⟨l, h5, hi2⟩)
      · rw [idsL_ren] at hi2
        obtain ⟨j, a4, rfl⟩ := List.mem_map.1 hi2
        exact hgk j (hkn' l0 h5 j a4)
      · rcases (hwfo l h5).2.2.2.1 i hi2 with ⟨j, hj, rfl⟩ | h6
        · exact hgk j hj
        · have : i ∈ (newsA ++ ro).map (·.1) := by rw [List.map_append]; exact List.mem_append_right _ h6
          rw [hnewk, List.mem_range'_1] at this
          exact .inr this
      · rw [(wf_weak (hrol q hq r' hr' l h5).1).2.2] at hi2; cases hi2
    · rw [setSl_ob] at hi2
      have hi2 : i ∈ (obU ++ (newsA ++ ro)).map (·.1) := hi2
      rw [List.map_append, List.mem_append] at hi2
      rcases hi2 with hi2 | hi2
      · exact .inl (.inr (hUk.subset hi2))
      · rw [hnewk, List.mem_range'_1] at hi2
        exact .inr hi2
end Go.Proofs.YtghdhjgoicnbcaaGreat.AM

namespace Go.Proofs.YtghdhjgoicnbcaaGreat.AM
open Go
theorem set_back {α : Type} {l : List α} {i : Nat} {x : α} (h : l[i]? = some x) : l.set i x = l := by
  apply List.ext_getElem?
  intro k
  rw [List.getElem?_set]
  by_cases hk : i = k
  · subst hk
    rw [h]
    simp [(List.getElem?_eq_some_iff.1 h).1]
  · rw [if_neg hk]
/-- Own rows inline in a slot become an object. -/
theorem GhB.openS {B : Bd} {s : S Unit} {u : U Unit} {rows2 : List (List (L Unit))} (t j m : Nat) (ht : s.sl[t]? = some (.u u)) (hj : (leavesU u)[j]? = some (.os () m rows2)) :
    GhB B s ⟨s.sl.set t (.u (setLf u j (.ref () s.nx 0 rows2.length))), s.ob ++ [(s.nx, ⟨(), m, rows2⟩)], s.nx + 1⟩ := by
  rintro a W ⟨d, rfl, hi, hs, hdef, hk, hn0⟩
  have h1 : (d.sl.map erV)[t]? = some (.u u) := ht
  rw [List.getElem?_map, Option.map_eq_some_iff] at h1
  obtain ⟨w, hv, hvu⟩ := h1
  obtain ⟨u', rfl, rfl⟩ : ∃ u', w = .u u' ∧ erU u' = u := by
    cases w with
    | u x => exact ⟨x, rfl, by injection hvu⟩
    | tup xs => cases hvu
    | un => cases hvu
    | ud => cases hvu
  rw [leavesU_map, List.getElem?_map, Option.map_eq_some_iff] at hj
  obtain ⟨l', hj', hl'⟩ := hj
  obtain ⟨v, rows3, rfl, rfl⟩ : ∃ v rows3, l' = .os v m rows3 ∧ rows3.map (fun r => r.map erL) = rows2 := by
    cases l' <;> simp only [mapL, reduceCtorEq, L.os.injEq, true_and] at hl'
    obtain ⟨rfl, h⟩ := hl'
    exact ⟨_, _, rfl, by rw [← h, mapR_eq]⟩
  have hjlt : j < (leavesU u').length := (List.getElem?_eq_some_iff.1 hj').1
  have htlt : t < d.sl.length := (List.getElem?_eq_some_iff.1 hv).1
  have hmem : L.os v m rows3 ∈ tops d := mem_tops.2 (.inl ⟨.u u', List.mem_of_getElem? hv, List.mem_of_getElem? hj'⟩)
  have hwf := (hi.good.wf _ hmem).1
  simp only [wfL] at hwf
  obtain ⟨hown, hlen, hwr⟩ := hwf
  obtain ⟨hh1, hh2⟩ := hdV_own (m := m) hown
  have hsl3 : ∃ a n c, v = .slice a n c := by
    rcases hown with ⟨rfl, _⟩ | ⟨_, _, _, rfl, _⟩ <;> exact ⟨_, _, _, rfl⟩
  let no : Ob Value := ⟨hdV v, m, rows3⟩
  let nref : L Value := .ref v d.nx 0 rows3.length
  let nv : V Value := .u (setLf u' j nref)
  let ob1 := d.ob ++ [(d.nx, no)]
  let d' : S Value := ⟨d.sl.set t nv, ob1, d.nx + 1⟩
  have hlv : leavesV nv = (leavesU u').set j nref := setLf_leaves hjlt
  have hnk : d.nx ∉ d.ob.map (·.1) := fun hm => by have := hk d.nx (.inr hm); omega
  have hids : (d'.ob.map (·.1)).Nodup := by
    show (ob1.map (·.1)).Nodup
    rw [List.map_append, List.nodup_append]
    refine ⟨hi.good.ids, by simp, fun i hi1 k hk1 e => ?_⟩
    simp only [List.map_cons, List.map_nil, List.mem_singleton] at hk1
    subst e hk1
    exact hnk hi1
  have hlook : ∀ i, i ≠ d.nx → look ob1 i = look d.ob i := fun i hi1 => by
    unfold look
    rw [List.find?_append]
    have : List.find? (fun p : Nat × Ob Value => p.1 == i) [(d.nx, no)] = none := by simp [Ne.symm hi1]
    rw [this, Option.or_none]
  have hlookn : look ob1 d.nx = some no := look_mem hids (List.mem_append_right _ (by simp))
  have hrefOk : ∀ l, Has d l → refOk ob1 l := fun l hh => by
    refine refOk_same (fun i hi1 o2 ho2 => ?_) hh.2.1
    have hkn := hk i (hh.2.2.2 i hi1)
    rw [hlook i (by omega)] at ho2
    exact ⟨o2, ho2, rfl, rfl, rfl⟩
  have hnref : wfL false nref ∧ refOk ob1 nref := by
    refine ⟨⟨rfl, hsl3⟩, fun o2 ho2 => ?_⟩
    rw [hlookn] at ho2
    cases ho2
    refine ⟨by simp [no], ?_⟩
    rcases hown with ⟨rfl, _⟩ | ⟨b, x, c, rfl, _⟩
    · exact .inl ⟨rfl, rfl⟩
    · exact .inr ⟨b, x, c, rfl, .inl (by simp)⟩
  have hin3 : ∀ r ∈ rows3, ∀ l ∈ r, wfL true l ∧ ∀ q ∈ immL l, q ∈ immS d := fun r hr l hl => by
    refine ⟨(wfR_iff _ _).1 hwr r hr l hl, fun q hq => List.mem_flatMap.2 ⟨_, hmem, ?_⟩⟩
    simp only [immL, immR_eq]
    exact List.mem_flatMap.2 ⟨l, List.mem_flatten.2 ⟨r, hr, hl⟩, hq⟩
  have htop : ∀ l ∈ tops d', l ∈ tops d ∨ l = nref ∨ ∃ r ∈ rows3, l ∈ r := fun l hl => by
    rcases mem_tops.1 hl with ⟨w, hw, hl2⟩ | h
    · rcases List.mem_or_eq_of_mem_set hw with hw | rfl
      · exact .inl (mem_tops.2 (.inl ⟨w, hw, hl2⟩))
      · rw [hlv] at hl2
        rcases List.mem_or_eq_of_mem_set hl2 with hl2 | rfl
        · exact .inl (mem_tops.2 (.inl ⟨.u u', List.mem_of_getElem? hv, hl2⟩))
        · exact .inr (.inl rfl)
    · obtain ⟨p, hp, r, hr, hl⟩ := mem_obLeaves.1 h
      rcases List.mem_append.1 (show p ∈ d.ob ++ [(d.nx, no)] from hp) with hp | hp
      · exact .inl (mem_tops.2 (.inr (mem_obLeaves.2 ⟨p, hp, r, hr, hl⟩)))
      · simp only [List.mem_singleton] at hp
        subst hp
        exact .inr (.inr ⟨r, hr, hl⟩)
  have hperm : (ownS d').Perm (ownS d) := by
    classical
    have hleaf : ((leavesV (.u u')).flatMap ownL).Perm (ownL (.os v m rows3) ++ (leavesV nv).flatMap ownL) := by
      have e : leavesV (.u u') = (leavesV nv).set j (.os v m rows3) := by
        rw [hlv, List.set_set]
        exact (set_back hj').symm
      rw [e]
      exact perm_set (f := ownL) (x0 := nref) (by rw [hlv]; simp [hjlt]) (by simp [nref, ownL])
    have hsl := perm_set (f := fun v => (leavesV v).flatMap ownL) (ls := d.sl.set t nv) (j := t) (x := .u u') (x0 := nv) (e := ownL (.os v m rows3)) (by simp [htlt]) hleaf
    rw [List.set_set, set_back hv] at hsl
    refine List.perm_iff_count.2 fun q => ?_
    have c1 := List.perm_iff_count.1 hsl q
    have c2 := List.perm_iff_count.1 (own_split d) q
    have c3 := List.perm_iff_count.1 (own_split d') q
    have e1 : d'.ob = d.ob ++ [(d.nx, no)] := rfl
    have e2 : d'.sl = d.sl.set t nv := rfl
    rw [e1, e2] at c3
    simp only [List.flatMap_append, List.flatMap_assoc, List.flatMap_cons, List.flatMap_nil, List.append_nil, List.count_append, ownOb, no, hh1, ownL, ownR_eq] at c1 c2 c3 ⊢
    omega
  refine ⟨d', ?_, ?_, ⟨by simpa [d'] using hs.1, fun i w hw => ?_⟩, hdef, fun i hi2 => ?_, ?_⟩
  · have e1 : (d'.sl.map erV) = (d.sl.map erV).set t (.u (setLf (erU u') j (.ref () d.nx 0 rows3.length))) := by
      simp only [d', List.map_set]
      congr 1
      show V.u (erU (setLf u' j nref)) = _
      rw [setLf_er]
      simp [nref, mapL]
    have e2 : erS d' = ⟨d'.sl.map erV, ob1.map (fun p => (p.1, erOb p.2)), d'.nx⟩ := rfl
    rw [e2, e1]
    simp only [ob1, List.map_append, List.map_cons, List.map_nil, mapOb, List.length_map, no]
    rfl
  · refine hi.step (Nat.le_refl _) (Same.refl _) (fun _ _ _ => rfl) (fun l hl => ?_) (fun p hp => ?_) hids (fun p hp => ⟨hi.good.own p (hperm.mem_iff.1 hp), .inl ⟨p, hperm.mem_iff.1 hp, rfl⟩⟩) ((hperm.map (·.1)).nodup_iff.2 hi.good.nodup) (fun p hp => ?_) (fun p hp hlt => ?_)
    · rcases htop l hl with h | rfl | ⟨r, hr, h⟩
      · have hh := has_top hi.good h
        exact ⟨hh.1, hrefOk l hh⟩
      · exact hnref
      · have := wf_weak (hin3 r hr l h).1
        exact ⟨this.1, this.2.1 _⟩
    · rcases List.mem_append.1 (show p ∈ d.ob ++ [(d.nx, no)] from hp) with hp | hp
      · exact hi.good.obs p hp
      · simp only [List.mem_singleton] at hp
        subst hp
        exact ⟨hh2, hlen⟩
    · obtain ⟨l, hl, hp⟩ := List.mem_flatMap.1 hp
      rcases htop l hl with h | rfl | ⟨r, hr, h⟩
      · exact .of_mem (List.mem_flatMap.2 ⟨l, h, hp⟩)
      · simp [nref, immL] at hp
      · exact .of_mem ((hin3 r hr l h).2 p hp)
    · rcases List.mem_append.1 (show p ∈ d.ob ++ [(d.nx, no)] from hp) with hp | hp
      · exact hi.hdr p hp hlt
      · simp only [List.mem_singleton] at hp
        subst hp
        simp only at hlt
        omega
  · simp only [d', List.getElem?_set] at hw
    by_cases hti : t = i
    · subst hti
      rw [if_pos rfl, if_pos htlt] at hw
      cases hw
      exact setLf_UR (hs.2 t _ hv) hj' rfl
    · rw [if_neg hti] at hw
      exact hs.2 i w hw
  · show i < d.nx + 1
    rcases hi2 with ⟨l, hl, h⟩ | h
    · rcases htop l hl with h2 | rfl | ⟨r, hr, h2⟩
      · have := hk i (.inl ⟨l, h2, h⟩); omega
      · simp only [nref, idsL, List.mem_singleton] at h; omega
      · rw [(wf_weak (hin3 r hr l h2).1).2.2] at h; cases h
    · have : i ∈ (d.ob ++ [(d.nx, no)]).map (·.1) := h
      rw [List.map_append, List.mem_append] at this
      rcases this with h3 | h3
      · have := hk i (.inr h3); omega
      · simp only [List.map_cons, List.map_nil, List.mem_singleton] at h3; omega
  · show B.n0 ≤ d.nx + 1; omega
section
variable {B : Bd} {N nx : Nat} {asg : Asg} {oa : OAsg}
/-- Own rows inline in a slot become an object. -/
theorem f_ops {u u' : U Unit} {rows : List (List (L Unit))} {len : Nat} (t j m : Nat) (hN : Nat.blt t N = true) (ht : lkp asg t = some (.u u)) (hj : (leavesU u)[j]? = some (.os () m rows)) (hl : len = rows.length) (hu : setLf u j (.ref () nx 0 len) = u') :
    GhB B (St N asg oa nx) (St N ((t, .u u') :: asg) ((nx, some ⟨(), m, rows⟩) :: oa) (nx + 1)) := by
  subst hu hl
  have h := GhB.openS (B := B) t j m (St_get (oa := oa) (nx := nx) hN ht) hj
  have e : (⟨(St N asg oa nx).sl.set t (.u (setLf u j (.ref () (St N asg oa nx).nx 0 rows.length))), (St N asg oa nx).ob ++ [((St N asg oa nx).nx, ⟨(), m, rows⟩)], (St N asg oa nx).nx + 1⟩ : S Unit) =
      St N ((t, .u (setLf u j (.ref () nx 0 rows.length))) :: asg) ((nx, some ⟨(), m, rows⟩) :: oa) (nx + 1) := by
    simp only [St, slots_set, obOf_new]
  rw [← e]
  exact h
theorem op_ob {id n : Nat} {rows : List (List (L Unit))} {o2 : Ob Unit} (rows' : List (List (L Unit))) (ho : lko oa nx id = some ⟨(), n, rows⟩) : updOb (obOf oa nx ++ [(nx, o2)]) id rows' = obOf ((id, some ⟨(), n, rows'⟩) :: (nx, some o2) :: oa) (nx + 1) := by
  obtain ⟨hlt, hat⟩ := lko_lt ho
  have h1 : lko ((nx, some o2) :: oa) (nx + 1) id = some ⟨(), n, rows⟩ := by
    unfold lko
    have : Nat.blt id (nx + 1) = true := by simp [Nat.blt]; omega
    rw [this]
    simp only
    rw [obAt_ne _ _ (by omega)]
    exact hat
  have h2 := obOf_upd h1 rows'
  rw [obOf_new] at h2
  exact h2.symm
/-- Own rows inline in a cell become an object. -/
theorem f_op {n m len : Nat} {rows rows' rows2 : List (List (L Unit))} {r : List (L Unit)} (id e j : Nat) (ho : lko oa nx id = some ⟨(), n, rows⟩) (hr : rows[e]? = some r) (hj : r[j]? = some (.os () m rows2)) (hl : len = rows2.length) (hrows : rows.set e (r.set j (.ref () nx 0 len)) = rows') :
    GhB B (St N asg oa nx) (St N asg ((id, some ⟨(), n, rows'⟩) :: (nx, some ⟨(), m, rows2⟩) :: oa) (nx + 1)) := by
  subst hrows hl
  have h := GhB.openC (B := B) (s := St N asg oa nx) (lko_ok ho) hr hj
  have e2 : (⟨(St N asg oa nx).sl, updOb ((St N asg oa nx).ob ++ [((St N asg oa nx).nx, ⟨(), m, rows2⟩)]) id (rows.set e (r.set j (.ref () (St N asg oa nx).nx 0 rows2.length))), (St N asg oa nx).nx + 1⟩ : S Unit) =
      St N asg ((id, some ⟨(), n, rows.set e (r.set j (.ref () nx 0 rows2.length))⟩) :: (nx, some ⟨(), m, rows2⟩) :: oa) (nx + 1) := by
    simp only [St]
    rw [op_ob _ ho]
  rw [← e2]
  exact h
theorem cl_ob {id id2 n : Nat} {rows : List (List (L Unit))} (rows' : List (List (L Unit))) (ho : lko oa nx id = some ⟨(), n, rows⟩) (hne : id ≠ id2) : updOb ((obOf oa nx).filter (fun p => !(p.1 == id2))) id rows' = obOf ((id, some ⟨(), n, rows'⟩) :: (id2, none) :: oa) nx := by
  have h1 : lko ((id2, none) :: oa) nx id = some ⟨(), n, rows⟩ := by rw [lko_ne _ (Ne.symm hne)]; exact ho
  have h2 := obOf_upd h1 rows'
  rw [obOf_del] at h2
  exact h2.symm
/-- A whole own object goes inline into a cell. -/
theorem f_cl {n m len : Nat} {rows rows' rows2 : List (List (L Unit))} {r : List (L Unit)} (id id2 e j : Nat) (hne : Nat.beq id id2 = false) (ho : lko oa nx id = some ⟨(), n, rows⟩) (ho2 : lko oa nx id2 = some ⟨(), m, rows2⟩) (hn : rows2.all (fun r => r.all nestL) = true) (hr : rows[e]? = some r) (hj : r[j]? = some (.ref () id2 0 len)) (hl : len = rows2.length)
    (hrows : rows.set e (r.set j (.os () m rows2)) = rows') : GhB B (St N asg oa nx) (St N asg ((id, some ⟨(), n, rows'⟩) :: (id2, none) :: oa) nx) := by
  subst hrows
  have hne' : id ≠ id2 := fun h => by subst h; simp at hne
  have h := GhB.foldC (B := B) (s := St N asg oa nx) (lko_ok ho) hr hj (lko_ok ho2) hne' hl hn
  have e2 : (⟨(St N asg oa nx).sl, updOb ((St N asg oa nx).ob.filter (fun p => !(p.1 == id2))) id (rows.set e (r.set j (.os () m rows2))), (St N asg oa nx).nx⟩ : S Unit) = St N asg ((id, some ⟨(), n, rows.set e (r.set j (.os () m rows2))⟩) :: (id2, none) :: oa) nx := by
    simp only [St]
    rw [cl_ob _ ho hne']
  rw [← e2]
  exact h
/-- The same, where a function ends. -/
theorem f_clR {us : List (U Unit)} {n m len : Nat} {rows rows' rows2 : List (List (L Unit))} {r : List (L Unit)} (id id2 e j : Nat) (hne : Nat.beq id id2 = false) (ho : lko oa nx id = some ⟨(), n, rows⟩) (ho2 : lko oa nx id2 = some ⟨(), m, rows2⟩) (hn : rows2.all (fun r => r.all nestL) = true) (hr : rows[e]? = some r) (hj : r[j]? = some (.ref () id2 0 len)) (hl : len = rows2.length)
    (hrows : rows.set e (r.set j (.os () m rows2)) = rows') : GhB B (Rt us oa nx) (Rt us ((id, some ⟨(), n, rows'⟩) :: (id2, none) :: oa) nx) := by
  subst hrows
  have hne' : id ≠ id2 := fun h => by subst h; simp at hne
  have h := GhB.foldC (B := B) (s := Rt us oa nx) (lko_ok (N := 0) (asg := []) ho) hr hj (lko_ok (N := 0) (asg := []) ho2) hne' hl hn
  have e2 : (⟨(Rt us oa nx).sl, updOb ((Rt us oa nx).ob.filter (fun p => !(p.1 == id2))) id (rows.set e (r.set j (.os () m rows2))), (Rt us oa nx).nx⟩ : S Unit) = Rt us ((id, some ⟨(), n, rows.set e (r.set j (.os () m rows2))⟩) :: (id2, none) :: oa) nx := by
    simp only [Rt]
    rw [cl_ob _ ho hne']
  rw [← e2]
  exact h
theorem nest_map {α : Type} {enc : α → List (L Unit)} [EncO enc] (xs : List α) : (xs.map enc).all (fun r => r.all nestL) = true := by
  simp only [List.all_map, List.all_eq_true]
  intro x _
  simpa using EncO.h (enc := enc) x
theorem map_get {α : Type} [Inhabited α] {enc : α → List (L Unit)} {xs : List α} {n : Int} (h : 0 ≤ n ∧ n < (xs.length : Int)) : (xs.map enc)[n.toNat]? = some (enc (at_ xs n)) := by
  rw [List.getElem?_map, at_get h]; rfl
theorem set_get {α : Type} {enc : α → List (L Unit)} {xs : List α} {n : Int} {r : List (L Unit)} (h : 0 ≤ n ∧ n < (xs.length : Int)) : ((xs.map enc).set n.toNat r)[n.toNat]? = some r := by
  have : n.toNat < xs.length := by omega
  simp [this]
theorem set_map2 {α : Type} {enc : α → List (L Unit)} {xs : List α} {n : Int} {r r' : List (L Unit)} {x : α} (hr : r' = enc x) : ((xs.map enc).set n.toNat r).set n.toNat r' = (xs.set n.toNat x).map enc := by
  subst hr
  rw [List.set_set, List.map_set]
theorem cat_get {α : Type} {enc : α → List (L Unit)} {xs : List α} {r : List (L Unit)} : (xs.map enc ++ [r])[xs.length]? = some r := by simp
theorem cat_set {α : Type} {enc : α → List (L Unit)} {xs : List α} {r r' : List (L Unit)} : (xs.map enc ++ [r]).set xs.length r' = xs.map enc ++ [r'] := by
  rw [List.set_append_right _ _ (by simp)]
  simp
theorem cat_map {α : Type} {enc : α → List (L Unit)} {xs : List α} {r r' : List (L Unit)} {x : α} (hr : r' = enc x) : (xs.map enc ++ [r]).set xs.length r' = (xs ++ [x]).map enc := by
  subst hr
  rw [cat_set, List.map_append]
  rfl
end
end Go.Proofs.YtghdhjgoicnbcaaGreat.AM

namespace Go.Proofs.YtghdhjgoicnbcaaGreat.AM
open Go
section
variable {δ : Type}
mutual
def deepL : L δ → L δ
  | .os v n rows => .bs v n (deepR rows)
  | .int k n => .int k n
  | .bool b => .bool b
  | .str s => .str s
  | .nl => .nl
  | .nilp => .nilp
  | .bs v n rows => .bs v n rows
  | .ref v i off len => .ref v i off len
  | .ptr v i e j => .ptr v i e j
  | .ip v cells => .ip v cells
  | .fn v f caps => .fn v f caps
def deepC : List (L δ) → List (L δ)
  | [] => []
  | l :: ls => deepL l :: deepC ls
def deepR : List (List (L δ)) → List (List (L δ))
  | [] => []
  | r :: rs => deepC r :: deepR rs
end
theorem deepC_eq : ∀ ls : List (L δ), deepC ls = ls.map deepL
  | [] => rfl
  | l :: ls => by simp [deepC, deepC_eq ls]
theorem deepR_eq : ∀ rs : List (List (L δ)), deepR rs = rs.map (fun r => r.map deepL)
  | [] => rfl
  | r :: rs => by simp [deepR, deepC_eq, deepR_eq rs]
theorem deepR_len (rs : List (List (L δ))) : (deepR rs).length = rs.length := by rw [deepR_eq, List.length_map]
end
mutual
theorem deepL_er : ∀ l : L Value, erL (deepL l) = deepL (erL l)
  | .os v n rows => by simp only [deepL, mapL, deepR_er rows]
  | .int _ _ | .bool _ | .str _ | .nl | .nilp | .bs _ _ _ | .ref _ _ _ _ | .ptr _ _ _ _ | .ip _ _ | .fn _ _ _ => by simp [deepL, mapL]
theorem deepC_er : ∀ ls : List (L Value), mapC (fun _ => ()) (deepC ls) = deepC (mapC (fun _ => ()) ls)
  | [] => rfl
  | l :: ls => by simp only [deepC, mapC, deepC_er ls, deepL_er l]
theorem deepR_er : ∀ rs : List (List (L Value)), mapR (fun _ => ()) (deepR rs) = deepR (mapR (fun _ => ()) rs)
  | [] => rfl
  | r :: rs => by simp only [deepR, mapR, deepC_er r, deepR_er rs]
end
theorem deepL_val (l : L Value) : val (deepL l) = val l := by cases l <;> simp [deepL, val]
theorem deepR_valR (rows : List (List (L Value))) : valR (deepR rows) = valR rows := by
  unfold valR
  rw [flat_val, flat_val, deepR_eq, List.flatMap_map]
  refine ownOb_ren.flatMap_congr' fun r _ => ?_
  rw [List.map_map]
  exact List.map_congr_left fun l _ => deepL_val l
theorem deepL_noOs (l : L Value) : noOs (deepL l) = true := by cases l <;> simp [deepL, noOs]
theorem deepL_ids (l : L Value) : idsL (deepL l) = idsL l := by cases l <;> simp [deepL, idsL]
mutual
theorem deepL_wf : ∀ l : L Value, wfL true l → wfL true (deepL l)
  | .os v n rows, h => by
    simp only [wfL] at h
    obtain ⟨h1, h2, h3⟩ := h
    simp only [deepL, wfL]
    refine ⟨?_, fun r hr => ?_, deepR_wf rows h3⟩
    · rcases h1 with ⟨rfl, rfl⟩ | ⟨b, o, c, rfl, k1, k2⟩
      · exact ⟨none, 0, rfl, Nat.le_refl _, by simp [deepR, LIM], fun h => absurd rfl h⟩
      · exact ⟨_, c, by rw [deepR_len], by rw [deepR_len]; exact k1, by rw [deepR_len]; exact k2, fun _ => ⟨_, _, rfl⟩⟩
    · rw [deepR_eq] at hr
      obtain ⟨r0, hr0, rfl⟩ := List.mem_map.1 hr
      simpa using h2 r0 hr0
  | .int _ _, h | .bool _, h | .str _, h | .nl, h | .nilp, h | .bs _ _ _, h | .ref _ _ _ _, h | .ptr _ _ _ _, h | .ip _ _, h | .fn _ _ _, h => by simpa [deepL] using h
theorem deepC_wf : ∀ ls : List (L Value), wfC true ls → wfC true (deepC ls)
  | [], h => h
  | l :: ls, h => by simp only [wfC, deepC] at h ⊢; exact ⟨deepL_wf l h.1, deepC_wf ls h.2⟩
theorem deepR_wf : ∀ rs : List (List (L Value)), wfR true rs → wfR true (deepR rs)
  | [], h => h
  | r :: rs, h => by simp only [wfR, deepR] at h ⊢; exact ⟨deepC_wf r h.1, deepR_wf rs h.2⟩
end
/-- What was owned and is read now. -/
def FromOwn (p : Addr × List Value) (q : OwnE) : Prop := p.1 = ⟨q.1, q.2.1, none⟩ ∧ p.2 = q.2.2.2
mutual
theorem deepL_imm : ∀ l : L Value, wfL true l → ∀ p ∈ immL (deepL l), p ∈ immL l ∨ ∃ q ∈ ownL l, FromOwn p q
  | .os v n rows, h, p, hp => by
    simp only [wfL] at h
    obtain ⟨h1, h2, h3⟩ := h
    simp only [deepL, immL, List.mem_append, deepR_valR] at hp
    rcases hp with hp | hp
    · right
      rcases h1 with ⟨rfl, rfl⟩ | ⟨b, o, c, rfl, k1, k2⟩
      · simp [hdrImm] at hp
      · simp only [hdrImm, List.mem_singleton] at hp
        subst hp
        refine ⟨(b, o, c * n, valR rows), by simp [ownL, hdrOwn], rfl, rfl⟩
    · rcases deepR_imm rows h3 p hp with h | ⟨q, hq, h⟩
      · exact .inl h
      · exact .inr ⟨q, by simp only [ownL, List.mem_append]; exact .inr hq, h⟩
  | .int _ _, _, _, hp | .bool _, _, _, hp | .str _, _, _, hp | .nl, _, _, hp | .nilp, _, _, hp | .bs _ _ _, _, _, hp | .ref _ _ _ _, _, _, hp | .ptr _ _ _ _, _, _, hp | .ip _ _, _, _, hp | .fn _ _ _, _, _, hp => by
    left; simpa [deepL] using hp
theorem deepC_imm : ∀ ls : List (L Value), wfC true ls → ∀ p ∈ immC (deepC ls), p ∈ immC ls ∨ ∃ q ∈ ownC ls, FromOwn p q
  | [], _, p, hp => .inl hp
  | l :: ls, h, p, hp => by
    simp only [wfC] at h
    simp only [deepC, immC, ownC, List.mem_append] at hp ⊢
    rcases hp with hp | hp
    · rcases deepL_imm l h.1 p hp with h | ⟨q, hq, h⟩
      · exact .inl (.inl h)
      · exact .inr ⟨q, .inl hq, h⟩
    · rcases deepC_imm ls h.2 p hp with h | ⟨q, hq, h⟩
      · exact .inl (.inr h)
      · exact .inr ⟨q, .inr hq, h⟩
theorem deepR_imm : ∀ rs : List (List (L Value)), wfR true rs → ∀ p ∈ immR (deepR rs), p ∈ immR rs ∨ ∃ q ∈ ownR rs, FromOwn p q
  | [], _, p, hp => .inl hp
  | r :: rs, h, p, hp => by
    simp only [wfR] at h
    simp only [deepR, immR, ownR, List.mem_append] at hp ⊢
    rcases hp with hp | hp
    · rcases deepC_imm r h.1 p hp with h | ⟨q, hq, h⟩
      · exact .inl (.inl h)
      · exact .inr ⟨q, .inl hq, h⟩
    · rcases deepR_imm rs h.2 p hp with h | ⟨q, hq, h⟩
      · exact .inl (.inr h)
      · exact .inr ⟨q, .inr hq, h⟩
end
/-- What stands inside own rows is frozen. -/
theorem GhB.deepF {B : Bd} {s : S Unit} {id : Nat} {o : Ob Unit} (ho : look s.ob id = some o) (hn : o.rows.all (fun r => r.all nestL) = true) : GhB B s ⟨s.sl, updOb s.ob id (o.rows.map fun r => r.map deepL), s.nx⟩ := by
  rintro a W ⟨d, rfl, hi, hs, hdef, hk, hn0⟩
  obtain ⟨o', ho', rfl⟩ := look_lift ho
  have hkey : (id, o') ∈ d.ob := find?_key ho'
  have hobs : _ ∧ ∀ r ∈ o'.rows, r.length = o'.n := hi.good.obs _ hkey
  have hnest : ∀ r ∈ o'.rows, ∀ l ∈ r, nestL l = true := by
    simp only [erOb, mapOb, List.all_map, List.all_eq_true, Function.comp_def, nest_er] at hn
    exact hn
  have hwt : ∀ r ∈ o'.rows, ∀ l ∈ r, wfL true l := fun r hr l hl => nest_wf (hnest r hr l hl) (has_ob hi.good ho' hr hl).1
  let rows1 := deepR o'.rows
  let ob1 := updOb d.ob id rows1
  let d' : S Value := ⟨d.sl, ob1, d.nx⟩
  have hlen1 : rows1.length = o'.rows.length := deepR_len _
  have hmem1 : ∀ r ∈ rows1, ∃ r0 ∈ o'.rows, r = r0.map deepL := fun r hr => by
    have : r ∈ deepR o'.rows := hr
    rw [deepR_eq] at this
    obtain ⟨r0, h1, h2⟩ := List.mem_map.1 this
    exact ⟨r0, h1, h2.symm⟩
  have htop : ∀ l ∈ tops d', l ∈ tops d ∨ ∃ r ∈ o'.rows, ∃ l0 ∈ r, l = deepL l0 := fun l hl => by
    rcases mem_tops.1 hl with h | h
    · exact .inl (mem_tops.2 (.inl h))
    · obtain ⟨p, hp, r, hr, hl⟩ := mem_obLeaves.1 h
      rcases mem_updOb hp with ⟨hp, _⟩ | ⟨o2, hp, rfl⟩
      · exact .inl (mem_tops.2 (.inr (mem_obLeaves.2 ⟨p, hp, r, hr, hl⟩)))
      · obtain ⟨r0, h1, rfl⟩ := hmem1 r hr
        obtain ⟨l0, h2, rfl⟩ := List.mem_map.1 hl
        exact .inr ⟨r0, h1, l0, h2, rfl⟩
  have hown0 : rows1.flatten.flatMap ownL = [] := by
    rw [List.flatMap_eq_nil_iff]
    intro l hl
    obtain ⟨r, hr, hl⟩ := List.mem_flatten.1 hl
    obtain ⟨r0, _, rfl⟩ := hmem1 r hr
    obtain ⟨l0, _, rfl⟩ := List.mem_map.1 hl
    exact ownL_noOs (deepL_noOs l0)
  have hperm : (ownS d).Perm (o'.rows.flatten.flatMap ownL ++ ownS d') := by
    classical
    obtain ⟨l1, l2, hob, h1, h2⟩ := look_split ho' hi.good.ids
    have hu : ob1 = l1 ++ (id, ⟨o'.h, o'.n, rows1⟩) :: l2 := by show updOb d.ob id rows1 = _; rw [hob]; exact updOb_split h1 h2 rows1
    refine List.perm_iff_count.2 fun q => ?_
    have c2 := List.perm_iff_count.1 (own_split d) q
    have c3 := List.perm_iff_count.1 (own_split d') q
    have e1 : d'.ob = l1 ++ (id, ⟨o'.h, o'.n, rows1⟩) :: l2 := hu
    have e2 : d'.sl = d.sl := rfl
    have e3 : hdrOwn o'.h o'.n rows1 = hdrOwn o'.h o'.n o'.rows := by unfold hdrOwn; rw [show valR rows1 = valR o'.rows from deepR_valR _]
    rw [e1, e2] at c3
    rw [hob] at c2
    simp only [List.flatMap_append, List.flatMap_cons, List.count_append, ownOb, e3, hown0, List.append_nil] at c2 c3 ⊢
    omega
  have hnd := (hperm.map (·.1)).nodup_iff.1 hi.good.nodup
  rw [List.map_append, List.nodup_append] at hnd
  have hown' : ∀ q ∈ ownS d', q ∈ ownS d := fun q hq => hperm.mem_iff.2 (List.mem_append_right _ hq)
  have himm : ∀ p ∈ immS d', p ∈ immS d ∨ ∃ q ∈ o'.rows.flatten.flatMap ownL, FromOwn p q := fun p hp => by
    obtain ⟨l, hl, hp⟩ := List.mem_flatMap.1 hp
    rcases htop l hl with h | ⟨r, hr, l0, hl0, rfl⟩
    · exact .inl (List.mem_flatMap.2 ⟨l, h, hp⟩)
    · rcases deepL_imm l0 (hwt r hr l0 hl0) p hp with h | ⟨q, hq, h⟩
      · exact .inl (List.mem_flatMap.2 ⟨l0, mem_tops.2 (.inr (mem_obLeaves.2 ⟨_, hkey, r, hr, hl0⟩)), h⟩)
      · exact .inr ⟨q, List.mem_flatMap.2 ⟨l0, List.mem_flatten.2 ⟨r, hr, hl0⟩, hq⟩, h⟩
  refine ⟨d', ?_, ?_, ⟨hs.1, hs.2⟩, hdef, fun i hi2 => hk i ?_, hn0⟩
  · simp only [erS, mapS, d', S.mk.injEq, true_and, and_true]
    show (updOb d.ob id rows1).map (fun p => (p.1, erOb p.2)) = _
    rw [erOb_upd]
    congr 1
    have := deepR_er o'.rows
    rw [mapR_eq, mapR_eq] at this
    show (deepR o'.rows).map (fun r => r.map erL) = _
    rw [this, deepR_eq]
    simp [erOb, mapOb]
  · constructor
    · refine ⟨fun l hl => ?_, fun p hp => ?_, ?_, fun p hp => hi.good.own p (hown' p hp), hnd.2.1, fun p hp hne => ?_⟩
      · rcases htop l hl with h | ⟨r, hr, l0, hl0, rfl⟩
        · have := hi.good.wf l h
          exact ⟨this.1, refOk_upd ho' hlen1 this.2⟩
        · have := wf_weak (deepL_wf l0 (hwt r hr l0 hl0))
          exact ⟨this.1, this.2.1 _⟩
      · rcases mem_updOb hp with ⟨hp, _⟩ | ⟨o2, hp2, rfl⟩
        · exact hi.good.obs p hp
        · have : o2 = o' := by
            have h1 := look_mem hi.good.ids hp2
            rw [ho'] at h1; cases h1; rfl
          subst this
          refine ⟨?_, fun r hr => ?_⟩
          · rcases hobs.1 with ⟨h1, h2⟩ | ⟨b, x, c, h1, h2, h3⟩
            · exact .inl ⟨h1, by simp only at h2; simp [rows1, h2, deepR]⟩
            · exact .inr ⟨b, x, c, h1, by simp only [hlen1]; exact h2, by simp only [hlen1]; exact h3⟩
          · obtain ⟨r0, h1, rfl⟩ := hmem1 r hr
            rw [List.length_map]
            exact hobs.2 r0 h1
      · show (ob1.map (·.1)).Nodup
        rw [updOb_keys]
        exact hi.good.ids
      · rcases himm p hp with h | ⟨q, hq, h1, h2⟩
        · obtain ⟨k1, k2⟩ := hi.good.imm p h hne
          exact ⟨k1, fun q hq => k2 q (hown' q hq)⟩
        · have hq2 : q ∈ ownS d := hperm.mem_iff.2 (List.mem_append_left _ hq)
          refine ⟨fun j u hj => ?_, fun q' hq' e => ?_⟩
          · obtain ⟨arr, ty, k1, _, _, k4⟩ := hi.good.own _ hq2
            rw [h2] at hj
            have := k4 _ _ hj
            simp only [World.cell?, h1, k1]
            simpa using this
          · rw [h1] at e
            exact hnd.2.2 q.1 (List.mem_map.2 ⟨q, hq, rfl⟩) q'.1 (List.mem_map.2 ⟨q', hq', rfl⟩) e.symm
    · exact hi.fr
    · exact fun p hp => hi.mine p (hown' p hp)
    · intro p hp hne
      rcases himm p hp with h | ⟨q, hq, h1, h2⟩
      · exact hi.seen p h hne
      · rw [h1]
        rcases hi.mine q (hperm.mem_iff.2 (List.mem_append_left _ hq)) with h | h
        · exact .inr (.inl h)
        · exact .inr (.inr h)
    · intro p hp hlt
      rcases mem_updOb hp with ⟨hp, _⟩ | ⟨o2, hp2, rfl⟩
      · exact hi.hdr p hp hlt
      · exact hi.hdr (id, o2) hp2 hlt
  · rcases hi2 with ⟨l, hl, h⟩ | h
    · rcases htop l hl with h2 | ⟨r, hr, l0, hl0, rfl⟩
      · exact .inl ⟨l, h2, h⟩
      · rw [deepL_ids] at h
        exact .inl ⟨l0, mem_tops.2 (.inr (mem_obLeaves.2 ⟨_, hkey, r, hr, hl0⟩)), h⟩
    · have : i ∈ ob1.map (·.1) := h
      rw [updOb_keys] at this
      exact .inr this
/-- An encoder, frozen. -/
class EncD {α : Type} (e : α → List (L Unit)) (e' : outParam (α → List (L Unit))) : Prop where
  h : ∀ x, (e x).map deepL = e' x
theorem deep_map {α : Type} {e e' : α → List (L Unit)} [EncD e e'] (xs : List α) : deepR (xs.map e) = xs.map e' := by
  rw [deepR_eq, List.map_map]
  exact List.map_congr_left fun x _ => EncD.h x
section
variable {B : Bd} {N nx : Nat} {asg : Asg} {oa : OAsg}
theorem f_deepR {us : List (U Unit)} {α : Type} {e e' : α → List (L Unit)} [EncO e] [EncD e e'] {n : Nat} {xs : List α} (id : Nat) (ho : lko oa nx id = some ⟨(), n, xs.map e⟩) : GhB B (Rt us oa nx) (Rt us ((id, some ⟨(), n, xs.map e'⟩) :: oa) nx) := by
  have h := GhB.deepF (B := B) (s := Rt us oa nx) (lko_ok (N := 0) (asg := []) ho) (nest_map xs)
  have e2 : (⟨(Rt us oa nx).sl, updOb (Rt us oa nx).ob id ((xs.map e).map fun r => r.map deepL), (Rt us oa nx).nx⟩ : S Unit) = Rt us ((id, some ⟨(), n, xs.map e'⟩) :: oa) nx := by
    have e3 := deep_map (e := e) (e' := e') xs
    rw [deepR_eq] at e3
    simp only [Rt, e3]
    rw [← obOf_upd ho]
  rw [← e2]
  exact h
end
end Go.Proofs.YtghdhjgoicnbcaaGreat.AM

namespace Go.Proofs.YtghdhjgoicnbcaaGreat.AM
open Go
section
variable {P : Program} {Y : Sys P} [PlainY Y] {N nx t : Nat} {asg : Asg} {oa : OAsg} {K : S Unit → Prop} {ty : TypeId} {pos : String} {aft : Array Edge}
theorem argR_g {rows : List (List (L Unit))} {n id len : Nat} (ho : lko oa nx id = some ⟨(), n, rows⟩) (hl : len = rows.length) : argR (lko oa nx) n (some (.ref () id 0 len)) = some (rows, [id]) := by
  subst hl
  simp only [argR, ho, Option.bind_some, if_true, List.drop_zero]
  rw [List.take_of_length_le (by simp)]
/-- Append: the base is an own object, whatever its rows hold. -/
theorem x_apg {rows1 rows2 rows : List (List (L Unit))} {tt t2 : TypeId} {x y : Operand} {m b id len len' : Nat} {z : List Z} {rd : List Nat} {l : L Unit} (he : elF P tt = some (m, b, z)) (ht2 : lnF P t2 = some .slice)
    (h1 : ev N asg x = some (.u (.one (.ref () id 0 len)))) (ho : lko oa nx id = some ⟨(), m, rows1⟩) (hl : len = rows1.length) (h2 : ev N asg y = some (.u (.one l))) (hq : argR (lko oa nx) m (some l) = some (rows2, rd)) (hno : nosR rows2 = true)
    (hb : (rows1.length + rows2.length) * b ≤ 140737488355328 ∧ rows1.length + rows2.length ≤ LIM) (hr : rows1 ++ rows2 = rows) (hl' : rows1.length + rows2.length = len')
    (hK : K (St N ((t, .u (.one (.ref () nx 0 len'))) :: asg) ((nx, some ⟨(), m, rows⟩) :: (id, none) :: oa) (nx + 1))) :
    aopK Y 0 ⟨some t, .call ⟨.builtin .append, #[x, y], #[tt, t2]⟩, ty, pos, aft, none⟩ (St N asg oa nx) K := by
  obtain ⟨i, ie, a1, a2, a3, a4, a5, a6⟩ := elF_ap he
  obtain ⟨i2, c1, c2⟩ := lnF_spec ht2
  subst a4 a5 hl hr hl'
  refine aopK_0 (e := { v := one1 (.ref () nx 0 (rows1.length + rows2.length)), rd := id :: rd, news := [⟨(), ie.size, rows1 ++ rows2⟩], del := [id] }) (by
    have e1 := argR_ev (N := N) (asg := asg) hq
    have e2 := argR_ev (N := N) (asg := asg) (argR_g ho rfl)
    simp only [opF, lO_ev h1, lO_ev h2]
    simp [apF, a1, a2, a3, a6, c1, c2, e1, e2, hno, hb]; rfl) (fun _ => ?_)
  show K (appE (St N asg oa nx) (some t) nx _)
  rw [St_del]
  exact hK
end
section
variable {P : Program} {N nx : Nat} {asg : Asg} {oa : OAsg} {K : S Unit → Prop}
def delO : List Nat → OAsg → OAsg
  | [], oa => oa
  | x :: xs, oa => (x, none) :: delO xs oa
theorem obOf_delO : ∀ (xs : List Nat) (oa : OAsg) (nx : Nat), obOf (delO xs oa) nx = (obOf oa nx).filter (fun p => !xs.contains p.1)
  | [], oa, nx => (List.filter_eq_self.2 fun _ _ => rfl).symm
  | x :: xs, oa, nx => by
    simp only [delO]
    rw [obOf_del, obOf_delO xs oa nx, List.filter_filter]
    congr 1
    funext p
    simp only [List.contains_cons, Bool.not_or]
theorem lko_delO {h nx : Nat} : ∀ {xs : List Nat} {oa : OAsg}, h ∉ xs → lko (delO xs oa) nx h = lko oa nx h
  | [], oa, _ => rfl
  | x :: xs, oa, hn => by
    simp only [List.mem_cons, not_or] at hn
    simp only [delO]
    rw [lko_ne _ (Ne.symm hn.1), lko_delO hn.2]
/-- A call that hands objects over and gives own rows away. -/
theorem x_co {dst : Option Nat} {ty : TypeId} {pos : String} {aft : Array Edge} {x : Operand} {args : Array Operand} {ats : Array TypeId} {f : FuncId} {caps cs : List (L Unit)} {us : List (U Unit)} {r v : V Unit} {nobs : List (Nat × Ob Unit)} {oa' : OAsg} {nx' : Nat} {obs obs' : List (Ob Unit)}
    (hs cons : List Nat) (hf : ev N asg x = some (.u (.one (.fn () f caps)))) (hnd : (hs ++ cons).Nodup) (hh : All2 (fun h ob => lko oa nx h = some (renOb (gG hs nx) ob)) hs obs) (hkn : obs.all (fun ob => knowsR hs.length ob.rows) = true)
    (ha : ArgsO (St N asg oa nx) (gG hs nx) hs args.toList us cons) (hcaps : caps = cs.map (renL (gG hs nx))) (hck : cs.all (okK hs.length) = true) (hent : Ent P f) (hsim : Sim P f (us ++ cs.map .one) obs r obs')
    (hn : (obs'.take hs.length).map (·.n) = obs.map (·.n)) (hroot : rootV (fun _ => ()) (nx + (obs'.length - hs.length)) (renV (gG hs nx) r) = (v, nobs))
    (hoa : oaG (gG hs nx) nx hs obs' nobs (delO cons oa) = oa') (hnx : nx + (obs'.length - hs.length + nobs.length) = nx') (hK : K (St N (dstA dst v asg) oa' nx')) : aopK (sysA P) 0 ⟨dst, .call ⟨.value x, args, ats⟩, ty, pos, aft, none⟩ (St N asg oa nx) K := by
  subst hoa hnx
  obtain ⟨hnd1, hnd2, hdis⟩ := List.nodup_append.1 hnd
  have hh' : All2 (fun h ob => look (St N asg oa nx).ob h = some (renOb (gG hs nx) ob)) hs obs := all2_imp (fun _ _ h => lko_ok h) hh
  have hh2 : All2 (fun h ob => lko (delO cons oa) nx h = some (renOb (gG hs nx) ob)) hs obs := by
    have : ∀ {hs' : List Nat} {obs2 : List (Ob Unit)}, (∀ h ∈ hs', h ∉ cons) → All2 (fun h ob => lko oa nx h = some (renOb (gG hs nx) ob)) hs' obs2 → All2 (fun h ob => lko (delO cons oa) nx h = some (renOb (gG hs nx) ob)) hs' obs2 := by
      intro hs' obs2 hn' h
      induction h with
      | nil => exact .nil
      | cons h1 _ ih => exact .cons (by rw [lko_delO (hn' _ (by simp))]; exact h1) (ih fun h hm => hn' h (by simp [hm]))
    exact this (fun h hm hc => hdis h hm h hc rfl) hh
  refine ⟨_, fun h => absurd rfl h, stepOk_callO ⟨⟨.value x, args, ats⟩, f, caps, cs, us, hs, cons, obs, obs', r, rfl, ?_, hnd, hh', List.all_eq_true.1 hkn, ha, hcaps, hck, hent, hsim, rfl⟩, fun _ => ?_⟩
  · simp only [calE, lO_ev hf]
  · have e := St_cg (rd := []) (N := N) (asg := asg) (dst := dst) hnd1 hh2 hn hroot
    rw [← e] at hK
    have e2 : ∀ (e : Eff), e.del = [] → appE (St N asg oa nx) dst nx { e with del := cons } = appE (St N asg (delO cons oa) nx) dst nx e := fun e he => by
      unfold appE app
      simp only [he, St]
      rw [obOf_delO]
      have : ∀ l : List (Nat × Ob Unit), l.filter (fun p => !([] : List Nat).contains p.1) = l := fun l => List.filter_eq_self.2 fun _ _ => rfl
      rw [this]
    let E : Eff := { v := (rootV (fun _ => ()) (nx + (obs'.length - hs.length)) (renV (gG hs nx) r)).1, rd := [], news := (obs'.drop hs.length).map (renOb (gG hs nx)) ++ (rootV (fun _ => ()) (nx + (obs'.length - hs.length)) (renV (gG hs nx) r)).2.map (·.2), upd := hs.zip ((obs'.take hs.length).map fun ob => (renOb (gG hs nx) ob).rows) }
    show K (appE (St N asg oa nx) dst nx { E with del := cons })
    rw [e2 E rfl]
    exact hK
variable {g : Nat → Nat} {hs : List Nat}
theorem q_n : ArgsO (St N asg oa nx) g hs [] [] [] := .nil
theorem q_1 {x : Operand} {xs : List Operand} {l0 l : L Unit} {us : List (U Unit)} {cs : List Nat} (hv : ev N asg x = some (.u (.one l0))) (hr : l0 = renL g l) (hk : okK hs.length l = true) (ht : ArgsO (St N asg oa nx) g hs xs us cs) : ArgsO (St N asg oa nx) g hs (x :: xs) (.one l :: us) cs :=
  .given (by rw [uO_ev hv, hr]; rfl) (by simp only [leavesU, List.all_cons, hk, List.all_nil, Bool.and_self]) ht
theorem q_a {x : Operand} {xs : List Operand} {ls0 ls : List (L Unit)} {us : List (U Unit)} {cs : List Nat} (hv : ev N asg x = some (.u (.agg ls0))) (hr : ls0 = ls.map (renL g)) (hk : ls.all (okK hs.length) = true) (ht : ArgsO (St N asg oa nx) g hs xs us cs) : ArgsO (St N asg oa nx) g hs (x :: xs) (.agg ls :: us) cs :=
  .given (by rw [uO_ev hv, hr]; rfl) hk ht
theorem q_o {α : Type} {enc : α → List (L Unit)} [EncO enc] {x : Operand} {xs : List Operand} {X n len : Nat} {ys : List α} {us : List (U Unit)} {cs : List Nat} (hv : ev N asg x = some (.u (.one (.ref () X 0 len)))) (ho : lko oa nx X = some ⟨(), n, ys.map enc⟩) (hl : len = ys.length) (ht : ArgsO (St N asg oa nx) g hs xs us cs) :
    ArgsO (St N asg oa nx) g hs (x :: xs) (.one (.os () n (ys.map enc)) :: us) (X :: cs) :=
  .owned (lO_ev hv) (lko_ok ho) (by simpa using hl) (nest_map ys) ht
end
section
variable {B : Bd} {N nx : Nat} {asg : Asg} {oa : OAsg}
/-- The same as f_nlc, where a function ends. -/
theorem f_nlcR {us : List (U Unit)} {n : Nat} {rows rows' : List (List (L Unit))} {r : List (L Unit)} (id e j m : Nat) (ho : lko oa nx id = some ⟨(), n, rows⟩) (hr : rows[e]? = some r) (hj : r[j]? = some .nl) (hrows : rows.set e (r.set j (.ref () nx 0 0)) = rows') :
    GhB B (Rt us oa nx) (Rt us ((id, some ⟨(), n, rows'⟩) :: (nx, some ⟨(), m, []⟩) :: oa) (nx + 1)) := by
  subst hrows
  have h := GhB.nlc (B := B) (s := Rt us oa nx) m (lko_ok (N := 0) (asg := []) ho) hr hj
  have e2 : (⟨(Rt us oa nx).sl, updOb ((Rt us oa nx).ob ++ [((Rt us oa nx).nx, ⟨(), m, []⟩)]) id (rows.set e (r.set j (.ref () (Rt us oa nx).nx 0 0))), (Rt us oa nx).nx + 1⟩ : S Unit) = Rt us ((id, some ⟨(), n, rows.set e (r.set j (.ref () nx 0 0))⟩) :: (nx, some ⟨(), m, []⟩) :: oa) (nx + 1) := by
    simp only [Rt]
    rw [op_ob _ ho]
  rw [← e2]
  exact h
end
end Go.Proofs.YtghdhjgoicnbcaaGreat.AM

namespace Go.Proofs.YtghdhjgoicnbcaaGreat.AM
open Go
/-- Own rows inline in a cell are frozen. -/
theorem GhB.cellB {B : Bd} {s : S Unit} {id e j : Nat} {o : Ob Unit} {r : List (L Unit)} {l : L Unit} (ho : look s.ob id = some o) (hr : o.rows[e]? = some r) (hj : r[j]? = some l) (hn : nestL l = true) : GhB B s ⟨s.sl, updOb s.ob id (o.rows.set e (r.set j (deepL l))), s.nx⟩ := by
  rintro a W ⟨d, rfl, hi, hs, hdef, hk, hn0⟩
  obtain ⟨o', ho', rfl⟩ := look_lift ho
  have hkey : (id, o') ∈ d.ob := find?_key ho'
  have hobs : _ ∧ ∀ r ∈ o'.rows, r.length = o'.n := hi.good.obs _ hkey
  obtain ⟨r', hr', rfl⟩ := rows_er hr
  rw [List.getElem?_map, Option.map_eq_some_iff] at hj
  obtain ⟨l', hj', rfl⟩ := hj
  rw [nest_er] at hn
  have hrm := List.mem_of_getElem? hr'
  have hlm := List.mem_of_getElem? hj'
  have hwt : wfL true l' := nest_wf hn (has_ob hi.good ho' hrm hlm).1
  let rows1 := o'.rows.set e (r'.set j (deepL l'))
  let ob1 := updOb d.ob id rows1
  let d' : S Value := ⟨d.sl, ob1, d.nx⟩
  have hlen1 : rows1.length = o'.rows.length := by simp [rows1]
  have hrow1 : ∀ r ∈ rows1, r ∈ o'.rows ∨ r = r'.set j (deepL l') := fun r hr => List.mem_or_eq_of_mem_set hr
  have htop : ∀ l ∈ tops d', l ∈ tops d ∨ l = deepL l' := fun l hl => by
    rcases mem_tops.1 hl with h | h
    · exact .inl (mem_tops.2 (.inl h))
    · obtain ⟨p, hp, r, hr, hl⟩ := mem_obLeaves.1 h
      rcases mem_updOb hp with ⟨hp, _⟩ | ⟨o2, hp, rfl⟩
      · exact .inl (mem_tops.2 (.inr (mem_obLeaves.2 ⟨p, hp, r, hr, hl⟩)))
      · rcases hrow1 r hr with h | rfl
        · exact .inl (mem_tops.2 (.inr (mem_obLeaves.2 ⟨_, hkey, r, h, hl⟩)))
        · rcases List.mem_or_eq_of_mem_set hl with h | rfl
          · exact .inl (mem_tops.2 (.inr (mem_obLeaves.2 ⟨_, hkey, r', hrm, h⟩)))
          · exact .inr rfl
  have hperm : (ownS d).Perm (ownL l' ++ ownS d') := by
    classical
    obtain ⟨l1, l2, hob, h1, h2⟩ := look_split ho' hi.good.ids
    have hu : ob1 = l1 ++ (id, ⟨o'.h, o'.n, rows1⟩) :: l2 := by show updOb d.ob id rows1 = _; rw [hob]; exact updOb_split h1 h2 rows1
    have hback : rows1.set e ((r'.set j (deepL l')).set j l') = o'.rows := by
      simp only [rows1, List.set_set, set_back hj', set_back hr']
    have hc := cell_perm (rows := rows1) (e := e) (j := j) (r := r'.set j (deepL l')) (l := l') (l0 := deepL l') (E := ownL l') (by
      have : e < o'.rows.length := (List.getElem?_eq_some_iff.1 hr').1
      simp [rows1, this]) (by
      have : j < r'.length := (List.getElem?_eq_some_iff.1 hj').1
      simp [this]) (by simp [ownL_noOs (deepL_noOs l')])
    rw [hback] at hc
    refine List.perm_iff_count.2 fun q => ?_
    have c1 := List.perm_iff_count.1 hc q
    have c2 := List.perm_iff_count.1 (own_split d) q
    have c3 := List.perm_iff_count.1 (own_split d') q
    have e1 : d'.ob = l1 ++ (id, ⟨o'.h, o'.n, rows1⟩) :: l2 := hu
    have e2 : d'.sl = d.sl := rfl
    have e3 : hdrOwn o'.h o'.n rows1 = hdrOwn o'.h o'.n o'.rows := by unfold hdrOwn; rw [show valR rows1 = valR o'.rows from cell_val hr' hj' (deepL_val l')]
    rw [e1, e2] at c3
    rw [hob] at c2
    simp only [List.flatMap_append, List.flatMap_cons, List.count_append, ownOb, e3] at c1 c2 c3 ⊢
    omega
  have hnd := (hperm.map (·.1)).nodup_iff.1 hi.good.nodup
  rw [List.map_append, List.nodup_append] at hnd
  have hown' : ∀ q ∈ ownS d', q ∈ ownS d := fun q hq => hperm.mem_iff.2 (List.mem_append_right _ hq)
  have himm : ∀ p ∈ immS d', p ∈ immS d ∨ ∃ q ∈ ownL l', FromOwn p q := fun p hp => by
    obtain ⟨l, hl, hp⟩ := List.mem_flatMap.1 hp
    rcases htop l hl with h | rfl
    · exact .inl (List.mem_flatMap.2 ⟨l, h, hp⟩)
    · rcases deepL_imm l' hwt p hp with h | ⟨q, hq, h⟩
      · exact .inl (List.mem_flatMap.2 ⟨l', mem_tops.2 (.inr (mem_obLeaves.2 ⟨_, hkey, r', hrm, hlm⟩)), h⟩)
      · exact .inr ⟨q, hq, h⟩
  refine ⟨d', ?_, ?_, ⟨hs.1, hs.2⟩, hdef, fun i hi2 => hk i ?_, hn0⟩
  · simp only [erS, mapS, d', S.mk.injEq, true_and, and_true]
    show (updOb d.ob id rows1).map (fun p => (p.1, erOb p.2)) = _
    rw [erOb_upd]
    congr 1
    simp [rows1, List.map_set, deepL_er, erOb, mapOb]
  · constructor
    · refine ⟨fun l hl => ?_, fun p hp => ?_, ?_, fun p hp => hi.good.own p (hown' p hp), hnd.2.1, fun p hp hne => ?_⟩
      · rcases htop l hl with h | rfl
        · have := hi.good.wf l h
          exact ⟨this.1, refOk_upd ho' hlen1 this.2⟩
        · have := wf_weak (deepL_wf l' hwt)
          exact ⟨this.1, this.2.1 _⟩
      · rcases mem_updOb hp with ⟨hp, _⟩ | ⟨o2, hp2, rfl⟩
        · exact hi.good.obs p hp
        · have : o2 = o' := by
            have h1 := look_mem hi.good.ids hp2
            rw [ho'] at h1; cases h1; rfl
          subst this
          refine ⟨?_, fun r hr => ?_⟩
          · rcases hobs.1 with ⟨h1, h2⟩ | ⟨b, x, c, h1, h2, h3⟩
            · exact .inl ⟨h1, by simp only at h2; simp [rows1, h2]⟩
            · exact .inr ⟨b, x, c, h1, by simp only [hlen1]; exact h2, by simp only [hlen1]; exact h3⟩
          · rcases hrow1 r hr with h | rfl
            · exact hobs.2 r h
            · rw [List.length_set]; exact hobs.2 r' hrm
      · show (ob1.map (·.1)).Nodup
        rw [updOb_keys]
        exact hi.good.ids
      · rcases himm p hp with h | ⟨q, hq, h1, h2⟩
        · obtain ⟨k1, k2⟩ := hi.good.imm p h hne
          exact ⟨k1, fun q hq => k2 q (hown' q hq)⟩
        · have hq2 : q ∈ ownS d := hperm.mem_iff.2 (List.mem_append_left _ hq)
          refine ⟨fun j u hj => ?_, fun q' hq' e => ?_⟩
          · obtain ⟨arr, ty, k1, _, _, k4⟩ := hi.good.own _ hq2
            rw [h2] at hj
            have := k4 _ _ hj
            simp only [World.cell?, h1, k1]
            simpa using this
          · rw [h1] at e
            exact hnd.2.2 q.1 (List.mem_map.2 ⟨q, hq, rfl⟩) q'.1 (List.mem_map.2 ⟨q', hq', rfl⟩) e.symm
    · exact hi.fr
    · exact fun p hp => hi.mine p (hown' p hp)
    · intro p hp hne
      rcases himm p hp with h | ⟨q, hq, h1, h2⟩
      · exact hi.seen p h hne
      · rw [h1]
        rcases hi.mine q (hperm.mem_iff.2 (List.mem_append_left _ hq)) with h | h
        · exact .inr (.inl h)
        · exact .inr (.inr h)
    · intro p hp hlt
      rcases mem_updOb hp with ⟨hp, _⟩ | ⟨o2, hp2, rfl⟩
      · exact hi.hdr p hp hlt
      · exact hi.hdr (id, o2) hp2 hlt
  · rcases hi2 with ⟨l, hl, h⟩ | h
    · rcases htop l hl with h2 | rfl
      · exact .inl ⟨l, h2, h⟩
      · rw [deepL_ids] at h
        exact .inl ⟨l', mem_tops.2 (.inr (mem_obLeaves.2 ⟨_, hkey, r', hrm, hlm⟩)), h⟩
    · have : i ∈ ob1.map (·.1) := h
      rw [updOb_keys] at this
      exact .inr this
section
variable {B : Bd} {N nx : Nat} {asg : Asg} {oa : OAsg}
theorem f_cb {α : Type} {e e' : α → List (L Unit)} [EncO e] [EncD e e'] {n m : Nat} {rows rows' : List (List (L Unit))} {r : List (L Unit)} {xs : List α} (id i j : Nat) (ho : lko oa nx id = some ⟨(), n, rows⟩) (hr : rows[i]? = some r) (hj : r[j]? = some (.os () m (xs.map e))) (hrows : rows.set i (r.set j (.bs () m (xs.map e'))) = rows') :
    GhB B (St N asg oa nx) (St N asg ((id, some ⟨(), n, rows'⟩) :: oa) nx) := by
  subst hrows
  have h := GhB.cellB (B := B) (s := St N asg oa nx) (lko_ok ho) hr hj rfl
  have e2 : (⟨(St N asg oa nx).sl, updOb (St N asg oa nx).ob id (rows.set i (r.set j (deepL (.os () m (xs.map e))))), (St N asg oa nx).nx⟩ : S Unit) = St N asg ((id, some ⟨(), n, rows.set i (r.set j (.bs () m (xs.map e')))⟩) :: oa) nx := by
    simp only [St, deepL, deep_map (e := e) (e' := e') xs]
    rw [← obOf_upd ho]
  rw [← e2]
  exact h
instance : EncD iL iL := ⟨fun _ => rfl⟩
instance (k : IntKind) : EncD (iK k) (iK k) := ⟨fun _ => rfl⟩
instance : EncD bL bL := ⟨fun _ => rfl⟩
instance : EncD sL sL := ⟨fun _ => rfl⟩
end
end Go.Proofs.YtghdhjgoicnbcaaGreat.AM

namespace Go.Proofs.YtghdhjgoicnbcaaGreat.AM
open Go
section
variable {P : Program} {Y : Sys P}
theorem aAny_takeD [PlainY Y] (hY : LocY Y) {ops : List Oper} {i : Nat} {o : Oper} {v : V Unit} {rd : List Nat} {K : S Unit → Prop} (hi : ops[i]? = some o) (D : Nat → Prop) (hD0 : ∀ k, D k → ∀ ok, ops[k]? = some ok → ∃ e ∈ ok.after, Region.binds .any e = true ∧ (e.on = i ∨ D e.on)) : ∀ (fuel : Nat) (L : Array Bool) (s : S Unit),
    (∀ k, D k → L.getD k true = false) → (∀ j oj, ops[j]? = some oj → ¬ D j → j ≠ i → L.getD j true = false → (∀ e ∈ oj.after, Region.binds .any e = true → e.on ≠ i) → o.apart ops.toArray oj = true ∧ (rd = [] ∨ ∀ s nid e, Y.E oj s nid e → e.upd = [] ∧ e.del = [])) →
    i ∈ Region.ready .any ops.toArray L → PY (P := P) ops o s v rd → aAny Y ops fuel (L.setIfInBounds i true) (setSl s o.dst v) K → aAny Y ops (fuel + 1) L s K := by
  have self : ∀ (fuel : Nat) (L : Array Bool) (s : S Unit), PY (P := P) ops o s v rd → aAny Y ops fuel (L.setIfInBounds i true) (setSl s o.dst v) K → d1 Y ops o s (fun s' => aAny Y ops fuel (L.setIfInBounds i true) s' K) := by
    intro fuel L s hy H
    unfold d1
    rcases hy with ⟨hg, _, hyp, he⟩ | ⟨hg, hv, _⟩
    · rw [hg]
      refine ⟨_, PlainY.h he, fun _ => ?_⟩
      have : appE s o.dst s.nx ⟨v, rd, [], [], [], hyp⟩ = setSl s o.dst v := by
        unfold appE
        rw [app_many]
        simp
      rw [this]
      exact H
    · rw [hg]
      subst hv
      exact H
  intro fuel
  induction fuel with
  | zero =>
    intro L s hDL _ hr hy H
    refine ⟨fun h => (by rw [h] at hr; cases hr), fun j hj oj hoj => ?_⟩
    by_cases hji : j = i
    · subst hji
      rw [hi] at hoj
      cases hoj
      exact self 0 L s hy H
    · have := ready_mono hj hji
      rw [H.1] at this
      cases this
  | succ fuel ih =>
    intro L s hDL hfree hr hy H
    refine ⟨fun h => (by rw [h] at hr; cases hr), fun j hj oj hoj => ?_⟩
    by_cases hji : j = i
    · subst hji
      rw [hi] at hoj
      cases hoj
      exact self _ L s hy H
    · have h1 := H.2 j (ready_mono hj hji) oj hoj
      obtain ⟨hjun, oj', hoj', hall⟩ := mem_ready.1 hj
      rw [List.getElem?_toArray, hoj] at hoj'
      cases hoj'
      have hnot : ∀ e ∈ oj.after, Region.binds .any e = true → e.on ≠ i := fun e he hb heq => by
        have h1 := hall e he hb
        have h0 := (mem_ready.1 hr).1
        rw [heq] at h1
        rcases Nat.lt_or_ge i L.size with h' | h'
        · simp [h'] at h0 h1; rw [h0] at h1; cases h1
        · simp [Array.getElem?_eq_none h'] at h1
      have hnD : ¬ D j := fun hd => by
        obtain ⟨e, he, hb, h2⟩ := hD0 j hd oj hoj
        rcases h2 with h2 | h2
        · exact hnot e he hb h2
        · have h3 := hDL _ h2
          have h4 := hall e he hb
          rcases Nat.lt_or_ge e.on L.size with h' | h'
          · simp [h'] at h3 h4; rw [h3] at h4; cases h4
          · simp [Array.getElem?_eq_none h'] at h4
      have hDL' : ∀ k, D k → (L.setIfInBounds j true).getD k true = false := fun k hk => by
        have hjk : j ≠ k := fun h => hnD (h ▸ hk)
        rw [getD_set_ne true hjk]
        exact hDL k hk
      obtain ⟨hap, hq⟩ := hfree j oj hoj hnD hji hjun hnot
      obtain ⟨a1, a2, a3⟩ := Oper.apart_spec hap
      have hfree' : ∀ k ok, ops[k]? = some ok → ¬ D k → k ≠ i → (L.setIfInBounds j true).getD k true = false → (∀ e ∈ ok.after, Region.binds .any e = true → e.on ≠ i) → o.apart ops.toArray ok = true ∧ (rd = [] ∨ ∀ s nid e, Y.E ok s nid e → e.upd = [] ∧ e.del = []) :=
        fun k ok hk hkD hki hun hno => by
          refine hfree k ok hk hkD hki ?_ hno
          by_cases hjk : j = k
          · subst hjk; exact hjun
          · rw [getD_set_ne true hjk] at hun; exact hun
      unfold d1 at h1 ⊢
      rw [guardB_set a1] at h1
      -- what stays of the operation's own
      have stay : ∀ s', (∀ x ∈ o.op.operands, evA s' x = evA s x) → guardB ops o s' = guardB ops o s → (∀ id ∈ rd, look s'.ob id = look s.ob id) → PY (P := P) ops o s' v rd := by
        intro s' e1 e2 e3
        rcases hy with ⟨hg, hpr, hyp, he⟩ | ⟨hg, hv, hrd0⟩
        · refine .inl ⟨e2.trans hg, fun id hid => by rw [e3 id hid]; exact hpr id hid, hyp, ?_⟩
          rw [opF_ops e1]
          exact opF_loc he e3
        · exact .inr ⟨e2.trans hg, hv, hrd0⟩
      have hne : ∀ id ∈ rd, look s.ob id ≠ none := fun id hid => by
        rcases hy with ⟨_, hpr, _⟩ | ⟨_, _, h0⟩
        · exact hpr id hid
        · rw [h0] at hid; cases hid
      split at h1
      · rename_i hg
        obtain ⟨e, he, hK⟩ := h1
        have hnx : (setSl s o.dst v).nx = s.nx := setSl_nx _ _ _
        rw [hnx] at he hK
        have he' : Y.E oj s s.nx e := hY.op he (fun x hx => (evA_set fun d hd hxd => looks_op (a1 d hd) x hx hxd).symm) (setSl_ob _ _ _).symm
        refine ⟨e, he', fun hh => ?_⟩
        replace hK := hK hh
        rw [appE_set s v _ e (fun d hd => a2 d hd)] at hK
        rw [Array.setIfInBounds_comm _ _ (Ne.symm hji)] at hK
        have e1 : ∀ s0 : S Unit, appE s0 oj.dst s0.nx e = setSl { appE s0 none s0.nx e with sl := s0.sl } oj.dst e.v := fun s0 => by unfold appE app; rfl
        have e2 : ∀ x ∈ o.op.operands, evA (appE s oj.dst s.nx e) x = evA s x := fun x hx => by
          rw [e1, evA_set fun d hd hxd => looks_op (a3 d hd) x hx hxd]
        have e3 : guardB ops o (appE s oj.dst s.nx e) = guardB ops o s := by
          rw [e1, guardB_set a3]
          rfl
        refine ih (L.setIfInBounds j true) _ hDL' hfree' (ready_mono hr (Ne.symm hji)) (stay _ e2 e3 fun id hid => ?_) hK
        rcases hq with h0 | hq
        · rw [h0] at hid; cases hid
        · obtain ⟨hu, hd⟩ := hq _ _ _ he'
          exact quiet_ob hu hd (hne id hid)
      · rename_i hg
        rw [setSl_comm _ _ _ (fun d hd => a2 d hd), Array.setIfInBounds_comm _ _ (Ne.symm hji)] at h1
        refine ih (L.setIfInBounds j true) _ hDL' hfree' (ready_mono hr (Ne.symm hji)) (stay _ (fun x hx => evA_set fun d hd hxd => looks_op (a3 d hd) x hx hxd) (guardB_set a3) fun id _ => by rw [setSl_ob]) h1
      · cases h1

end
/-- May the operation be taken first? D: what has to come behind it. -/
def takeD (q : Op → Bool) (pr : Nat) (D : List Nat) (ops : Array Oper) (L : Array Bool) (i : Nat) : Bool :=
  (Region.ready .any ops L).contains i && (D.all fun k => !(L.getD k true) && match ops[k]? with
    | some ok => ok.after.any (fun e => Region.binds .any e && (e.on == i || D.contains e.on))
    | none => false) && match ops[i]? with
  | some o => (List.range ops.size).all fun j => j == i || L.getD j true || D.contains j || match ops[j]? with
    | some oj => oj.after.any (fun e => Region.binds .any e && e.on == i) || (o.apart ops oj && (Nat.beq pr 1 || q oj.op))
    | none => true
  | none => false
section
variable {P : Program} {Y : Sys P} [PlainY Y] [QuietY Y]
theorem takeD_core {ops : List Oper} {i pr fuel : Nat} {o : Oper} {v : V Unit} {rd : List Nat} {L : Array Bool} {s : S Unit} {K : S Unit → Prop} (D : List Nat) (hi : ops[i]? = some o) (hb : takeD (QuietY.q Y) pr D ops.toArray L i = true) (hrd : pr = 1 → rd = [])
    (hy : PY (P := P) ops o s v rd) (H : aAny Y ops fuel (L.setIfInBounds i true) (setSl s o.dst v) K) : aAny Y ops (fuel + 1) L s K := by
  have hi' : (ops.toArray)[i]? = some o := by rw [List.getElem?_toArray]; exact hi
  simp only [takeD, Bool.and_eq_true, hi'] at hb
  obtain ⟨⟨h1, h2⟩, h3⟩ := hb
  rw [List.all_eq_true] at h2 h3
  have hD : ∀ k ∈ D, L.getD k true = false ∧ ∃ ok, (ops.toArray)[k]? = some ok ∧ ∃ e ∈ ok.after, Region.binds .any e = true ∧ (e.on = i ∨ e.on ∈ D) := fun k hk => by
    have := h2 k hk
    simp only [Bool.and_eq_true, Bool.not_eq_true'] at this
    refine ⟨this.1, ?_⟩
    cases ho : (ops.toArray)[k]? with
    | none => rw [ho] at this; exact absurd this.2 (by simp)
    | some ok =>
      rw [ho] at this
      obtain ⟨e, he, h⟩ := Array.any_eq_true'.1 this.2
      simp only [Bool.and_eq_true, Bool.or_eq_true, beq_iff_eq, List.contains_eq_mem, decide_eq_true_eq] at h
      exact ⟨ok, rfl, e, he, h.1, h.2⟩
  refine aAny_takeD QuietY.loc hi (fun k => k ∈ D) (fun k hk ok hok => ?_) fuel L s (fun k hk => (hD k hk).1) (fun j oj hj hjD hji hun hno => ?_) (by simpa using h1) hy H
  · obtain ⟨_, ok', h, e, he, h4⟩ := hD k hk
    rw [List.getElem?_toArray, hok] at h
    cases h
    exact ⟨e, he, h4⟩
  · have hj' : (ops.toArray)[j]? = some oj := by rw [List.getElem?_toArray]; exact hj
    have := h3 j (by rw [List.mem_range]; exact (Array.getElem?_eq_some_iff.1 hj').1)
    simp only [hj', Bool.or_eq_true, beq_iff_eq, hji, hun, false_or, Bool.false_eq_true, List.contains_eq_mem, decide_eq_true_eq, hjD, Bool.and_eq_true] at this
    rcases this with this | ⟨h4, h5⟩
    · obtain ⟨e', he', hb⟩ := Array.any_eq_true'.1 this
      simp only [Bool.and_eq_true, beq_iff_eq] at hb
      exact absurd hb.2 (hno e' he' hb.1)
    · refine ⟨h4, ?_⟩
      rcases h5 with h5 | h5
      · exact .inl (hrd (Nat.eq_of_beq_eq_true h5))
      · exact .inr fun s nid e he => QuietY.ok (Y := Y) h5 he
variable {N nx t fuel : Nat} {asg : Asg} {oa : OAsg} {K : S Unit → Prop} {ops : List Oper} {L : Array Bool} {dst : Option Nat} {op : Op} {ty : TypeId} {pos : String} {aft : Array Edge} {j : Nat} {want : Bool}
/-- An operation is taken; D stands behind it. -/
theorem t_D (i pr : Nat) (D : List Nat) (hi : ops[i]? = some ⟨dst, op, ty, pos, aft, none⟩) (hb : takeD (QuietY.q Y) (pr + 1) D ops.toArray L i = true)
    (h : aopK Y (pr + 1) ⟨dst, op, ty, pos, aft, none⟩ (St N asg oa nx) (fun s' => aAny Y ops fuel (L.setIfInBounds i true) s' K)) : aAny Y ops (fuel + 1) L (St N asg oa nx) K := by
  obtain ⟨v, rd, hyp, h1, h2, h3⟩ := aopK_pure (by omega) h
  exact takeD_core D hi hb h2.no (.inl ⟨rfl, h2.is, hyp, h1⟩) h3
end
end Go.Proofs.YtghdhjgoicnbcaaGreat.AM

namespace Go.Proofs.YtghdhjgoicnbcaaGreat.AM
open Go
theorem knows_map {α : Type} {enc : α → List (L Unit)} [EncO enc] (n : Nat) (xs : List α) : knowsR n (xs.map enc) = true := by
  have := nest_map (enc := enc) xs
  simp only [List.all_eq_true] at this
  simp only [knowsR, List.all_eq_true]
  intro r hr l hl i hi
  rw [nest_ids (this r hr l hl)] at hi
  cases hi
instance {α : Type} (n : Nat) (enc : α → List (L Unit)) [EncB enc] : EncB (lL false n enc) := ⟨fun _ => rfl⟩
instance {α : Type} (n : Nat) (enc : α → List (L Unit)) : EncD (lL false n enc) (lL false n enc) := ⟨fun _ => rfl⟩
theorem ren_free (g : Nat → Nat) {l : L Unit} (h : nestL l = true) : renL g l = l := by cases l <;> simp_all [nestL, plainL, renL]
theorem ren_map {α : Type} {enc : α → List (L Unit)} [EncO enc] (g : Nat → Nat) (n : Nat) (xs : List α) : renOb g (⟨(), n, xs.map enc⟩ : Ob Unit) = ⟨(), n, xs.map enc⟩ := by
  have := nest_map (enc := enc) xs
  simp only [List.all_eq_true] at this
  simp only [renOb, Ob.mk.injEq, true_and]
  conv => rhs; rw [← List.map_id (xs.map enc)]
  refine List.map_congr_left fun r hr => ?_
  conv => rhs; rw [id, ← List.map_id r]
  exact List.map_congr_left fun l hl => ren_free g (this r hr l hl)
theorem hrow {oa : OAsg} {nx h n : Nat} {g : Nat → Nat} {α : Type} {enc : α → List (L Unit)} [EncO enc] {xs : List α} (h1 : lko oa nx h = some ⟨(), n, xs.map enc⟩) : lko oa nx h = some (renOb g ⟨(), n, xs.map enc⟩) := by
  rw [ren_map]; exact h1
end Go.Proofs.YtghdhjgoicnbcaaGreat.AM

namespace Go.Proofs.YtghdhjgoicnbcaaGreat.AM
open Go
section
variable {P : Program} {Y : Sys P} {N nx fuel : Nat} {asg : Asg} {oa : OAsg} {K : S Unit → Prop} {ops : List Oper} {L : Array Bool}
def manyB (ops : Array Oper) (L : Array Bool) (is : List Nat) : Bool := (Region.ready .any ops L) == is
/-- The operation at a place, in any of its orders. -/
def Way (Y : Sys P) (ops : List Oper) (fuel : Nat) (L : Array Bool) (s : S Unit) (K : S Unit → Prop) (i : Nat) : Prop := ∀ o, ops[i]? = some o → d1 Y ops o s (fun s' => aAny Y ops fuel (L.setIfInBounds i true) s' K)
theorem wy {i : Nat} {dst : Option Nat} {op : Op} {ty : TypeId} {pos : String} {aft : Array Edge} (hi : ops[i]? = some ⟨dst, op, ty, pos, aft, none⟩) (h : aopK Y 0 ⟨dst, op, ty, pos, aft, none⟩ (St N asg oa nx) (fun s' => aAny Y ops fuel (L.setIfInBounds i true) s' K)) : Way Y ops fuel L (St N asg oa nx) K i := by
  intro o ho
  rw [hi] at ho
  cases ho
  obtain ⟨e, _, h1, h2⟩ := h
  exact ⟨e, h1, fun hh => h2 fun _ => hh⟩
inductive Ways (Y : Sys P) (ops : List Oper) (fuel : Nat) (L : Array Bool) (s : S Unit) (K : S Unit → Prop) : List Nat → Prop
  | nil : Ways Y ops fuel L s K []
  | cons {i : Nat} {is : List Nat} : Way Y ops fuel L s K i → Ways Y ops fuel L s K is → Ways Y ops fuel L s K (i :: is)
theorem Ways.mem {s : S Unit} {is : List Nat} (h : Ways Y ops fuel L s K is) : ∀ i ∈ is, Way Y ops fuel L s K i := by
  induction h with
  | nil => intro i hi; cases hi
  | cons h1 _ ih =>
    intro i hi
    rcases List.mem_cons.1 hi with rfl | hi
    · exact h1
    · exact ih i hi
theorem t_n (i : Nat) (is : List Nat) (hb : manyB ops.toArray L (i :: is) = true) (h : Ways Y ops fuel L (St N asg oa nx) K (i :: is)) : aAny Y ops (fuel + 1) L (St N asg oa nx) K := by
  have hr : Region.ready .any ops.toArray L = i :: is := by simpa [manyB] using hb
  refine ⟨fun h0 => (by rw [h0] at hr; cases hr), fun k hk o ho => ?_⟩
  rw [hr] at hk
  exact h.mem k hk o ho
end
end Go.Proofs.YtghdhjgoicnbcaaGreat.AM

namespace Go.Proofs.YtghdhjgoicnbcaaGreat.AM
open Go
section
variable {P : Program} {Y : Sys P}
theorem aAny_takeE [PlainY Y] (hY : LocY Y) {ops : List Oper} {i : Nat} {o : Oper} {v : V Unit} {rd : List Nat} {K : S Unit → Prop} (hi : ops[i]? = some o) (D : Nat → Prop) (hD0 : ∀ k, D k → ∀ ok, ops[k]? = some ok → ∃ e ∈ ok.after, Region.binds .any e = true ∧ (e.on = i ∨ D e.on)) : ∀ (fuel : Nat) (L : Array Bool) (s : S Unit),
    (∀ k, D k → L.getD k true = false) → (∀ j oj, ops[j]? = some oj → ¬ D j → j ≠ i → L.getD j true = false → (∀ e ∈ oj.after, Region.binds .any e = true → e.on ≠ i) → o.apart ops.toArray oj = true ∧ ∀ id ∈ rd, ∀ s nid e, Y.E oj s nid e → look s.ob id ≠ none → look (appE s oj.dst nid e).ob id = look s.ob id) →
    i ∈ Region.ready .any ops.toArray L → PY (P := P) ops o s v rd → aAny Y ops fuel (L.setIfInBounds i true) (setSl s o.dst v) K → aAny Y ops (fuel + 1) L s K := by
  have self : ∀ (fuel : Nat) (L : Array Bool) (s : S Unit), PY (P := P) ops o s v rd → aAny Y ops fuel (L.setIfInBounds i true) (setSl s o.dst v) K → d1 Y ops o s (fun s' => aAny Y ops fuel (L.setIfInBounds i true) s' K) := by
    intro fuel L s hy H
    unfold d1
    rcases hy with ⟨hg, _, hyp, he⟩ | ⟨hg, hv, _⟩
    · rw [hg]
      refine ⟨_, PlainY.h he, fun _ => ?_⟩
      have : appE s o.dst s.nx ⟨v, rd, [], [], [], hyp⟩ = setSl s o.dst v := by
        unfold appE
        rw [app_many]
        simp
      rw [this]
      exact H
    · rw [hg]
      subst hv
      exact H
  intro fuel
  induction fuel with
  | zero =>
    intro L s hDL _ hr hy H
    refine ⟨fun h => (by rw [h] at hr; cases hr), fun j hj oj hoj => ?_⟩
    by_cases hji : j = i
    · subst hji
      rw [hi] at hoj
      cases hoj
      exact self 0 L s hy H
    · have := ready_mono hj hji
      rw [H.1] at this
      cases this
  | succ fuel ih =>
    intro L s hDL hfree hr hy H
    refine ⟨fun h => (by rw [h] at hr; cases hr), fun j hj oj hoj => ?_⟩
    by_cases hji : j = i
    · subst hji
      rw [hi] at hoj
      cases hoj
      exact self _ L s hy H
    · have h1 := H.2 j (ready_mono hj hji) oj hoj
      obtain ⟨hjun, oj', hoj', hall⟩ := mem_ready.1 hj
      rw [List.getElem?_toArray, hoj] at hoj'
      cases hoj'
      have hnot : ∀ e ∈ oj.after, Region.binds .any e = true → e.on ≠ i := fun e he hb heq => by
        have h1 := hall e he hb
        have h0 := (mem_ready.1 hr).1
        rw [heq] at h1
        rcases Nat.lt_or_ge i L.size with h' | h'
        · simp [h'] at h0 h1; rw [h0] at h1; cases h1
        · simp [Array.getElem?_eq_none h'] at h1
      have hnD : ¬ D j := fun hd => by
        obtain ⟨e, he, hb, h2⟩ := hD0 j hd oj hoj
        rcases h2 with h2 | h2
        · exact hnot e he hb h2
        · have h3 := hDL _ h2
          have h4 := hall e he hb
          rcases Nat.lt_or_ge e.on L.size with h' | h'
          · simp [h'] at h3 h4; rw [h3] at h4; cases h4
          · simp [Array.getElem?_eq_none h'] at h4
      have hDL' : ∀ k, D k → (L.setIfInBounds j true).getD k true = false := fun k hk => by
        have hjk : j ≠ k := fun h => hnD (h ▸ hk)
        rw [getD_set_ne true hjk]
        exact hDL k hk
      obtain ⟨hap, hq⟩ := hfree j oj hoj hnD hji hjun hnot
      obtain ⟨a1, a2, a3⟩ := Oper.apart_spec hap
      have hfree' : ∀ k ok, ops[k]? = some ok → ¬ D k → k ≠ i → (L.setIfInBounds j true).getD k true = false → (∀ e ∈ ok.after, Region.binds .any e = true → e.on ≠ i) → o.apart ops.toArray ok = true ∧ (∀ id ∈ rd, ∀ s nid e, Y.E ok s nid e → look s.ob id ≠ none → look (appE s ok.dst nid e).ob id = look s.ob id) :=
        fun k ok hk hkD hki hun hno => by
          refine hfree k ok hk hkD hki ?_ hno
          by_cases hjk : j = k
          · subst hjk; exact hjun
          · rw [getD_set_ne true hjk] at hun; exact hun
      unfold d1 at h1 ⊢
      rw [guardB_set a1] at h1
      -- what stays of the operation's own
      have stay : ∀ s', (∀ x ∈ o.op.operands, evA s' x = evA s x) → guardB ops o s' = guardB ops o s → (∀ id ∈ rd, look s'.ob id = look s.ob id) → PY (P := P) ops o s' v rd := by
        intro s' e1 e2 e3
        rcases hy with ⟨hg, hpr, hyp, he⟩ | ⟨hg, hv, hrd0⟩
        · refine .inl ⟨e2.trans hg, fun id hid => by rw [e3 id hid]; exact hpr id hid, hyp, ?_⟩
          rw [opF_ops e1]
          exact opF_loc he e3
        · exact .inr ⟨e2.trans hg, hv, hrd0⟩
      have hne : ∀ id ∈ rd, look s.ob id ≠ none := fun id hid => by
        rcases hy with ⟨_, hpr, _⟩ | ⟨_, _, h0⟩
        · exact hpr id hid
        · rw [h0] at hid; cases hid
      split at h1
      · rename_i hg
        obtain ⟨e, he, hK⟩ := h1
        have hnx : (setSl s o.dst v).nx = s.nx := setSl_nx _ _ _
        rw [hnx] at he hK
        have he' : Y.E oj s s.nx e := hY.op he (fun x hx => (evA_set fun d hd hxd => looks_op (a1 d hd) x hx hxd).symm) (setSl_ob _ _ _).symm
        refine ⟨e, he', fun hh => ?_⟩
        replace hK := hK hh
        rw [appE_set s v _ e (fun d hd => a2 d hd)] at hK
        rw [Array.setIfInBounds_comm _ _ (Ne.symm hji)] at hK
        have e1 : ∀ s0 : S Unit, appE s0 oj.dst s0.nx e = setSl { appE s0 none s0.nx e with sl := s0.sl } oj.dst e.v := fun s0 => by unfold appE app; rfl
        have e2 : ∀ x ∈ o.op.operands, evA (appE s oj.dst s.nx e) x = evA s x := fun x hx => by
          rw [e1, evA_set fun d hd hxd => looks_op (a3 d hd) x hx hxd]
        have e3 : guardB ops o (appE s oj.dst s.nx e) = guardB ops o s := by
          rw [e1, guardB_set a3]
          rfl
        refine ih (L.setIfInBounds j true) _ hDL' hfree' (ready_mono hr (Ne.symm hji)) (stay _ e2 e3 fun id hid => ?_) hK
        exact hq id hid _ _ _ he' (hne id hid)
      · rename_i hg
        rw [setSl_comm _ _ _ (fun d hd => a2 d hd), Array.setIfInBounds_comm _ _ (Ne.symm hji)] at h1
        refine ih (L.setIfInBounds j true) _ hDL' hfree' (ready_mono hr (Ne.symm hji)) (stay _ (fun x hx => evA_set fun d hd hxd => looks_op (a3 d hd) x hx hxd) (guardB_set a3) fun id _ => by rw [setSl_ob]) h1
      · cases h1

end
def inX (X : List Nat) : Option Nat → Bool
  | some d => X.contains d
  | none => true
def sysH (P : Program) (H X : List Nat) : Sys P := { E := fun o s nid e => (sysC P).E o s nid e ∨ (CallG P o s nid e ∧ (inX X o.dst || e.upd.all fun p => H.contains p.1) = true), ok := fun h => h.elim (sysC P).ok fun h => stepOk_callG h.1 }
section
variable {P : Program} {H X : List Nat}
theorem sysH_G {o : Oper} {s : S Unit} {nid : Nat} {e : Eff} (h : (sysH P H X).E o s nid e) : (sysG P).E o s nid e := h.imp id (·.1)
theorem locH : LocY (sysH P H X) := ⟨fun {o s s' nid e} h hρ hob => by
  rcases h with h | ⟨h, h2⟩
  · exact .inl (locC.op h hρ hob)
  · rcases (locG (P := P)).op (.inr h) hρ hob with h3 | h3
    · exact .inl h3
    · exact .inr ⟨h3, h2⟩⟩
instance : PlainY (sysH P H X) := ⟨fun h => .inl (.inl h)⟩
instance : QuietY (sysH P H X) := ⟨quietG, fun hq h => quietG_ok hq (sysH_G h), locH, fun h => h⟩
theorem look_updP {upd : List (Nat × List (List (L Unit)))} {id : Nat} (h : ∀ p ∈ upd, p.1 ≠ id) : ∀ ob : List (Nat × Ob Unit), look (ob.map (updP upd)) id = look ob id
  | [] => rfl
  | p :: ob => by
    have ih := look_updP h ob
    unfold look at ih ⊢
    simp only [List.map_cons, List.find?_cons]
    have hk : (updP upd p).1 = p.1 := by unfold updP; split <;> rfl
    rw [hk]
    by_cases hp : p.1 = id
    · have : updP upd p = p := by
        unfold updP
        rw [lookup_none (fun hm => by
          obtain ⟨q, hq, hq2⟩ := List.mem_map.1 hm
          exact h q hq (hq2.trans hp))]
      simp [hp, this]
    · have : (p.1 == id) = false := by simpa using hp
      rw [this]
      exact ih
theorem far_ob {o : Oper} {s : S Unit} {nid : Nat} {e : Eff} (hx : inX X o.dst = false) (hq : quietB o.op = true) (h : (sysH P H X).E o s nid e) {id : Nat} (hid : id ∉ H) (hne : look s.ob id ≠ none) : look (appE s o.dst nid e).ob id = look s.ob id := by
  rcases h with h | ⟨⟨c, f, caps, cs, us, hs, obs, obs', r, lent, _, _, _, _, _, _, _, _, _, _, _, rfl⟩, h2⟩
  · obtain ⟨hu, hd⟩ := QuietY.ok (Y := sysC P) (o := o) (by exact hq) h
    exact quiet_ob hu hd hne
  · unfold appE app
    rw [setSl_ob]
    simp only
    have hf : s.ob.filter (fun p => !([] : List Nat).contains p.1) = s.ob := List.filter_eq_self.2 fun _ _ => rfl
    rw [hf]
    have h3 : ∀ p ∈ hs.zip ((obs'.take hs.length).map fun ob => (renOb (gG hs nid) ob).rows), p.1 ≠ id := fun p hp he => by
      rw [hx, Bool.false_or, List.all_eq_true] at h2
      have := h2 p hp
      rw [he] at this
      exact hid (by simpa using this)
    have h4 := look_updP h3 s.ob
    rw [← h4] at hne
    rw [look_news hne, h4]
end
def mainX : Op → Option Operand
  | .nilCheck x => some x
  | .load _ x => some x
  | .fieldAddr _ x _ => some x
  | .indexAddr _ x _ => some x
  | _ => none
theorem opF_rd {P : Program} {op : Op} {ρ : Env} {lk : Lk} {nid : Nat} {e : Eff} {x : Operand} (hx : mainX op = some x) (h : opF P op ρ lk nid = some e) : ∀ id ∈ e.rd, ∃ l, lO (ρ x) = some l ∧ id ∈ idsL l := by
  intro id hid
  cases op <;> simp only [mainX, reduceCtorEq, Option.some.injEq] at hx
  case nilCheck y =>
    subst hx
    simp only [opF] at h
    split at h
    · rename_i v i e' j hl
      obtain ⟨_, _, h⟩ := bind_some h
      cases h
      simp only [List.mem_singleton] at hid
      exact ⟨_, hl, by simp [idsL, hid]⟩
    · cases h; cases hid
    · cases h
  case load t y =>
    subst hx
    simp only [opF, ldF] at h
    obtain ⟨_, _, h⟩ := bind_some h
    split at h
    · rename_i v i e' j hl
      obtain ⟨_, _, h⟩ := bind_some h
      obtain ⟨_, _, h⟩ := bind_some h
      obtain ⟨_, _, h⟩ := bind_some h
      split at h
      · cases h
        simp only [List.mem_singleton] at hid
        exact ⟨_, hl, by simp [idsL, hid]⟩
      · cases h
    · obtain ⟨_, _, h⟩ := bind_some h
      split at h
      · cases h; cases hid
      · cases h
    · cases h
  case fieldAddr t y f =>
    subst hx
    simp only [opF, faF] at h
    obtain ⟨_, _, h⟩ := bind_some h
    split at h
    · obtain ⟨_, _, h⟩ := bind_some h
      obtain ⟨_, _, h⟩ := bind_some h
      split at h
      · cases h
      · split at h
        · rename_i v i e' j hl
          obtain ⟨_, _, h⟩ := bind_some h
          cases h
          simp only [List.mem_singleton] at hid
          exact ⟨_, hl, by simp [idsL, hid]⟩
        · cases h; cases hid
        · cases h
    · cases h
  case indexAddr t y z =>
    subst hx
    simp only [opF, ixF] at h
    obtain ⟨_, _, h⟩ := bind_some h
    split at h
    · obtain ⟨_, _, h⟩ := bind_some h
      split at h
      · split at h
        · split at h
          · split at h
            · obtain ⟨_, _, h⟩ := bind_some h
              cases h; cases hid
            · cases h
          · cases h
        · rename_i v i off len hl
          obtain ⟨_, _, h⟩ := bind_some h
          split at h
          · split at h
            · cases h
              simp only [List.mem_singleton] at hid
              exact ⟨_, hl, by simp [idsL, hid]⟩
            · cases h
          · cases h
        · cases h
      · cases h
    · cases h
/-- May the operation be taken first, where it asks only objects that no call is handed? -/
def takeE (X D : List Nat) (ops : Array Oper) (L : Array Bool) (i : Nat) : Bool :=
  (Region.ready .any ops L).contains i && (D.all fun k => !(L.getD k true) && match ops[k]? with
    | some ok => ok.after.any (fun e => Region.binds .any e && (e.on == i || D.contains e.on))
    | none => false) && match ops[i]? with
  | some o => (List.range ops.size).all fun j => j == i || L.getD j true || D.contains j || match ops[j]? with
    | some oj => oj.after.any (fun e => Region.binds .any e && e.on == i) || (o.apart ops oj && (quietB oj.op && !(inX X oj.dst)))
    | none => true
  | none => false
section
variable {P : Program} {H X : List Nat} {N nx t fuel : Nat} {asg : Asg} {oa : OAsg} {K : S Unit → Prop} {ops : List Oper} {L : Array Bool} {dst : Option Nat} {op : Op} {ty : TypeId} {pos : String} {aft : Array Edge}
theorem t_E {x : Operand} {l : AM.L Unit} (i : Nat) (D : List Nat) (hi : ops[i]? = some ⟨dst, op, ty, pos, aft, none⟩) (hb : takeE X D ops.toArray L i = true) (hx : mainX op = some x) (hv : ev N asg x = some (.u (.one l))) (hl : (idsL l).all (fun i => !H.contains i) = true)
    (h : aopK (sysH P H X) 2 ⟨dst, op, ty, pos, aft, none⟩ (St N asg oa nx) (fun s' => aAny (sysH P H X) ops fuel (L.setIfInBounds i true) s' K)) : aAny (sysH P H X) ops (fuel + 1) L (St N asg oa nx) K := by
  obtain ⟨v, rd, hyp, h1, h2, h3⟩ := aopK_pure (by omega) h
  have hrd := opF_rd hx h1
  simp only at hrd
  have hrdH : ∀ id ∈ rd, id ∉ H := fun id hid hm => by
    obtain ⟨l', e1, e2⟩ := hrd id hid
    rw [lO_ev hv] at e1
    cases e1
    rw [List.all_eq_true] at hl
    have := hl id e2
    simp [hm] at this
  have hi' : (ops.toArray)[i]? = some ⟨dst, op, ty, pos, aft, none⟩ := by rw [List.getElem?_toArray]; exact hi
  simp only [takeE, Bool.and_eq_true, hi'] at hb
  obtain ⟨⟨b1, b2⟩, b3⟩ := hb
  rw [List.all_eq_true] at b2 b3
  have hD : ∀ k ∈ D, L.getD k true = false ∧ ∃ ok, (ops.toArray)[k]? = some ok ∧ ∃ e ∈ ok.after, Region.binds .any e = true ∧ (e.on = i ∨ e.on ∈ D) := fun k hk => by
    have := b2 k hk
    simp only [Bool.and_eq_true, Bool.not_eq_true'] at this
    refine ⟨this.1, ?_⟩
    cases ho : (ops.toArray)[k]? with
    | none => rw [ho] at this; exact absurd this.2 (by simp)
    | some ok =>
      rw [ho] at this
      obtain ⟨e, he, h⟩ := Array.any_eq_true'.1 this.2
      simp only [Bool.and_eq_true, Bool.or_eq_true, beq_iff_eq, List.contains_eq_mem, decide_eq_true_eq] at h
      exact ⟨ok, rfl, e, he, h.1, h.2⟩
  refine aAny_takeE locH hi (fun k => k ∈ D) (fun k hk ok hok => ?_) fuel L (St N asg oa nx) (fun k hk => (hD k hk).1) (fun j oj hj hjD hji hun hno => ?_) (by simpa using b1) (.inl ⟨rfl, h2.is, hyp, h1⟩) h3
  · obtain ⟨_, ok', h, e, he, h4⟩ := hD k hk
    rw [List.getElem?_toArray, hok] at h
    cases h
    exact ⟨e, he, h4⟩
  · have hj' : (ops.toArray)[j]? = some oj := by rw [List.getElem?_toArray]; exact hj
    have := b3 j (by rw [List.mem_range]; exact (Array.getElem?_eq_some_iff.1 hj').1)
    simp only [hj', Bool.or_eq_true, beq_iff_eq, hji, hun, false_or, Bool.false_eq_true, List.contains_eq_mem, decide_eq_true_eq, hjD, Bool.and_eq_true] at this
    rcases this with this | ⟨h4, h5, h6⟩
    · obtain ⟨e', he', hb⟩ := Array.any_eq_true'.1 this
      simp only [Bool.and_eq_true, beq_iff_eq] at hb
      exact absurd hb.2 (hno e' he' hb.1)
    · exact ⟨h4, fun id hid s nid e he hne => far_ob (by simpa using h6) h5 he (hrdH id hid) hne⟩
theorem x_cgH {dst : Option Nat} {ty : TypeId} {pos : String} {aft : Array Edge} {x : Operand} {args : Array Operand} {ats : Array TypeId} {f : FuncId} {caps cs : List (AM.L Unit)} {us : List (U Unit)} {r v : V Unit} {nobs : List (Nat × Ob Unit)} {oa' : OAsg} {nx' : Nat} {obs obs' : List (Ob Unit)}
    (hs : List Nat) (lent : Bool) (hf : ev N asg x = some (.u (.one (.fn () f caps)))) (hnd : hs.Nodup) (hh : All2 (fun h ob => lko oa nx h = some (renOb (gG hs nx) ob)) hs obs) (hkn : obs.all (fun ob => knowsR hs.length ob.rows) = true)
    (ha : ArgsG (St N asg oa nx) (gG hs nx) hs lent args.toList us) (hcaps : caps = cs.map (renL (gG hs nx))) (hck : cs.all (okK hs.length) = true) (hent : Ent P f) (hsim : Sim P f (us ++ cs.map .one) obs r obs')
    (himf : lent = false ∨ (immFreeV r = true ∧ obs'.all (fun ob => immFreeR ob.rows) = true)) (hn : (obs'.take hs.length).map (·.n) = obs.map (·.n)) (hroot : rootV (fun _ => ()) (nx + (obs'.length - hs.length)) (renV (gG hs nx) r) = (v, nobs))
    (hoa : oaG (gG hs nx) nx hs obs' nobs oa = oa') (hnx : nx + (obs'.length - hs.length + nobs.length) = nx') (hK : K (St N (dstA dst v asg) oa' nx')) (hH : (inX X dst || hs.all (fun h => H.contains h)) = true) : aopK (sysH P H X) 0 ⟨dst, .call ⟨.value x, args, ats⟩, ty, pos, aft, none⟩ (St N asg oa nx) K := by
  subst hoa hnx
  have hh' : All2 (fun h ob => look (St N asg oa nx).ob h = some (renOb (gG hs nx) ob)) hs obs := all2_imp (fun _ _ h => lko_ok h) hh
  refine ⟨_, fun h => absurd rfl h, Or.inr ⟨⟨⟨.value x, args, ats⟩, f, caps, cs, us, hs, obs, obs', r, lent, rfl, ?_, hnd, hh', List.all_eq_true.1 hkn, ha, hcaps, hck, hent, hsim, himf.imp id fun h => ⟨h.1, List.all_eq_true.1 h.2⟩, rfl⟩, ?_⟩, fun _ => ?_⟩
  · simp only [calE, lO_ev hf]
  · simp only [Bool.or_eq_true, List.all_eq_true] at hH ⊢
    refine hH.imp id fun hH p hp => ?_
    exact hH p.1 (List.of_mem_zip hp).1
  · have e := St_cg (rd := []) (N := N) (asg := asg) (dst := dst) hnd hh hn hroot
    rw [← e] at hK
    exact hK
/-- The same; what is known of the callee stands first. -/
theorem x_cgS {dst : Option Nat} {ty : TypeId} {pos : String} {aft : Array Edge} {x : Operand} {args : Array Operand} {ats : Array TypeId} {f : FuncId} {us : List (U Unit)} {r v : V Unit} {nobs : List (Nat × Ob Unit)} {oa' : OAsg} {nx' : Nat} {obs obs' : List (Ob Unit)} (hsim : Sim P f us obs r obs')
    (hs : List Nat) (hf : ev N asg x = some (.u (.one (.fn () f [])))) (hnd : hs.Nodup) (hh : All2 (fun h ob => lko oa nx h = some (renOb (gG hs nx) ob)) hs obs) (hkn : obs.all (fun ob => knowsR hs.length ob.rows) = true)
    (ha : ArgsG (St N asg oa nx) (gG hs nx) hs false args.toList us) (hent : Ent P f) (hn : (obs'.take hs.length).map (·.n) = obs.map (·.n)) (hroot : rootV (fun _ => ()) (nx + (obs'.length - hs.length)) (renV (gG hs nx) r) = (v, nobs))
    (hoa : oaG (gG hs nx) nx hs obs' nobs oa = oa') (hnx : nx + (obs'.length - hs.length + nobs.length) = nx') (hK : K (St N (dstA dst v asg) oa' nx')) (hH : (inX X dst || hs.all (fun h => H.contains h)) = true) : aopK (sysH P H X) 0 ⟨dst, .call ⟨.value x, args, ats⟩, ty, pos, aft, none⟩ (St N asg oa nx) K :=
  x_cgH (caps := []) (cs := []) hs false hf hnd hh hkn ha rfl rfl hent (by simpa using hsim) (.inl rfl) hn hroot hoa hnx hK hH
end
end Go.Proofs.YtghdhjgoicnbcaaGreat.AM

namespace Go.Proofs.YtghdhjgoicnbcaaGreat.AM
open Go
section
variable {P : Program} {N nx t : Nat} {asg : Asg} {oa : OAsg} {ty : TypeId} {pos : String} {aft : Array Edge} {B : Bd} {Q : Exit → S Unit → Prop} {ops rest : List Oper}
theorem o_nlq {tt t2 e : TypeId} {x y : Operand} {n : Nat} {rows : List (List (L Unit))} (ht : P.underlying tt = some (.slice e)) (h1 : ev N asg x = some (.u (.one (.bs () n rows)))) (h2 : ev N asg y = some (.u (.one .nl)))
    (hK1 : rows = [] → WpO P B ops Q rest (St N ((t, .u (.one (.bool true))) :: asg) oa nx)) (hK2 : WpO P B ops Q rest (St N ((t, .u (.one (.bool false))) :: asg) oa nx)) :
    WpO P B ops Q (⟨some t, .binOp .eql tt x y t2, ty, pos, aft, none⟩ :: rest) (St N asg oa nx) := by
  intro a W hr
  simp only [wpList]
  rw [wanted_none rfl, if_pos rfl]
  refine .inl ?_
  obtain ⟨d, hd, hi, hs, hdef, hk, hn0⟩ := hr
  obtain ⟨l1, hl1, v1, g1⟩ := leaf_ok hi.good hs (l := .bs () n rows) (x := x) (by rw [hd]; exact lO_ev h1)
  obtain ⟨l2, hl2, v2, _⟩ := leaf_ok hi.good hs (l := .nl) (x := y) (by rw [hd]; exact lO_ev h2)
  obtain ⟨v, rows', rfl, hrows⟩ := er_bs hl1
  have := er_nl hl2
  subst this
  have hw := g1.1
  simp only [wfL] at hw
  obtain ⟨⟨ad, c, hv, _, _, hne⟩, _⟩ := hw
  simp only [val, hv] at v1
  simp only [val] at v2
  have hrun : (execOp a.eval ⟨some t, .binOp .eql tt x y t2, ty, pos, aft, none⟩).run P W = .ok (.value (val (.bool ad.isNone : L Value))) W := by
    simp only [execOp, v1, v2, eqGuard]
    simp only [Sem.run_bind]
    simp [Lib.run_eql_slice_nil W tt e ad rows'.length c 0 0 ht, val]
  obtain ⟨_, r, xx, W', d', hr', hx, he, hi', hs', hk'⟩ := done_leaf (B := B) (nid := d.nx) (rd := []) (hyp := True) hi hs hrun rfl (has_bool _)
  have hst : erS d' = St N ((t, .u (.one (.bool ad.isNone))) :: asg) oa nx := by
    rw [he, hd]
    exact St_pure ..
  unfold Oper.wp
  rw [hr']
  have hfin : Rel B (St N ((t, .u (.one (.bool ad.isNone))) :: asg) oa nx) (a.put (some t) xx) W' := by
    have hnx : d'.nx = d.nx := by
      have h1 : (erS d').nx = (erS d).nx := by rw [hst, hd]; rfl
      exact h1
    refine ⟨d', hst, hi', hs', by rw [put_defers']; exact hdef, fun i hi => ?_, by omega⟩
    rcases hk' i hi with h | ⟨h, h'⟩
    · have := hk i h
      omega
    · simp at h'; omega
  have key : wpList P ops.toArray (fun e a' W' => ∃ s', Rel B s' a' W' ∧ Q e s') rest (a.put (some t) xx) W' := by
    cases hn : ad with
    | none =>
      have hr0 : rows = [] := by
        rw [← hrows]
        cases rows' with
        | nil => rfl
        | cons r rs =>
          obtain ⟨b, o, hbo⟩ := hne (by simp)
          rw [hn] at hbo
          cases hbo
      rw [hn] at hfin
      exact hK1 hr0 _ _ hfin
    | some p =>
      rw [hn] at hfin
      exact hK2 _ _ hfin
  rcases hx with rfl | ⟨rfl, rfl⟩
  · exact key
  · exact key
end
end Go.Proofs.YtghdhjgoicnbcaaGreat.AM

namespace Go.Proofs.YtghdhjgoicnbcaaGreat.AM
open Go
theorem BO : (∀ {α : Type} (a : α), (a = a) = True) ∧ (∀ {α : Type} [h : Decidable True] (a b : α), (@ite α True h a b) = a) ∧ ((false = true) = False) ∧ (∀ {α : Type} [h : Decidable False] (a b : α), (@ite α False h a b) = b) ∧
    (∀ b : Bool, (true || b) = true) ∧ (∀ b : Bool, (false || b) = b) ∧ (∀ b : Bool, (true && b) = b) ∧ (∀ b : Bool, (false && b) = false) ∧ ((!true) = false) ∧ ((!false) = true) :=
  ⟨fun a => by simp, fun a b => by simp, by simp, fun a b => by simp, fun b => by simp, fun b => by simp, fun b => by simp, fun b => by simp, rfl, rfl⟩
theorem KO : (∀ {α : Type} (p : α → Bool) (a : α) (l : List α), (a :: l).all p = (p a && l.all p)) ∧ (∀ {α : Type} (p : α → Bool), ([] : List α).all p = true) ∧ (∀ b : Bool, (b && true) = b) ∧ (∀ b : Bool, (true && b) = b) :=
  ⟨fun _ _ _ => rfl, fun _ => rfl, fun b => by simp, fun b => by simp⟩
theorem HO : (∀ {α : Type} (n : Nat) (a : α) (l : List α), (a :: l).drop (n + 1) = l.drop n) ∧ (∀ {α : Type} (l : List α), l.drop 0 = l) ∧ (∀ {α : Type} (n : Nat), ([] : List α).drop n = []) ∧
    (∀ {α : Type} (n : Nat) (a : α) (l : List α), (a :: l).take (n + 1) = a :: l.take n) ∧ (∀ {α : Type} (l : List α), l.take 0 = []) ∧ (∀ {α : Type} (n : Nat), ([] : List α).take n = []) ∧
    (∀ {α : Type} (a : α) (l : List α), (a :: l).length = l.length + 1) ∧ (∀ {α : Type}, ([] : List α).length = 0) ∧ (∀ {α β : Type} (f : α → β) (a : α) (l : List α), (a :: l).map f = f a :: l.map f) ∧ (∀ {α β : Type} (f : α → β), ([] : List α).map f = []) ∧
    (∀ {α : Type} (n : Nat), ([] : List α).zipIdx n = []) ∧ (∀ {α β : Type} (a : α) (l : List α) (b : β) (k : List β), (a :: l).zip (b :: k) = (a, b) :: l.zip k) ∧ (∀ {α β : Type} (l : List α), l.zip ([] : List β) = []) :=
  ⟨fun _ _ _ => rfl, fun _ => rfl, fun n => by simp, fun _ _ _ => rfl, fun _ => rfl, fun n => by simp, fun _ _ => rfl, rfl, fun _ _ _ => rfl, fun _ => rfl, fun _ => rfl, fun _ _ _ _ => rfl, fun l => by simp⟩
end Go.Proofs.YtghdhjgoicnbcaaGreat.AM

namespace Go.Proofs.YtghdhjgoicnbcaaGreat.AM
open Go Go.MapKept

section
variable {P : Program}
structure InsOp (T : TypeId) (m : Nat) (o : Oper) (e : Int × List UInt8) : Prop where
  dst : o.dst = none
  guard : o.guard = none
  op : o.op = .insert T (.tmp m) (.const (.int .i64 e.1)) (.const (.string (bts e.2)))
variable {B : Bd} {Q : Exit → S Unit → Prop} {N nx : Nat} {asg : Asg} {oa : OAsg}
end
-- functions that are handed over
def stL {δ : Type} : L δ → Bool
  | .ip _ _ => true
  | l => plainL l
/-- What a function that is handed over captured: values, and rows to read. -/
def CapOk (cs : List (L Unit)) : Prop := cs.all stL = true
theorem stL_ids {δ : Type} {l : L δ} (h : stL l = true) : idsL l = [] := by cases l <;> simp_all [stL, plainL, idsL]
theorem stL_ren {δ : Type} {g : Nat → Nat} {l : L δ} (h : stL l = true) : renL g l = l := by cases l <;> simp_all [stL, plainL, renL]
theorem CapOk.ids {cs : List (L Unit)} (h : CapOk cs) : idsC cs = [] := by
  rw [idsC_eq, List.flatMap_eq_nil_iff]
  exact fun l hl => stL_ids (List.all_eq_true.1 h l hl)
theorem CapOk.ren {cs : List (L Unit)} (h : CapOk cs) (g : Nat → Nat) : renC g cs = cs := by
  rw [renC_eq]
  conv => rhs; rw [← List.map_id cs]
  exact List.map_congr_left fun l hl => stL_ren (List.all_eq_true.1 h l hl)
theorem CapOk.bor {N nx : Nat} {asg : Asg} {oa : OAsg} {k : Nat} {cs : List (L Unit)} (h : CapOk cs) : BorC (k + 1) N asg oa nx cs cs := by
  unfold CapOk at h
  induction cs with
  | nil => exact c_n
  | cons l cs ih =>
    simp only [List.all_cons, Bool.and_eq_true] at h
    refine c_c ?_ (ih h.2)
    cases l with
    | ip v c => exact b_ip
    | _ => exact b_s (by simpa [stL] using h.1)
theorem fnv_ren {cs : List (L Unit)} (h : CapOk cs) (g : Nat → Nat) (f : FuncId) : renV g (.u (.one (.fn () f cs))) = .u (.one (.fn () f cs)) := by simp [renV, renU, renL, h.ren]
theorem fnv_knows {cs : List (L Unit)} (h : CapOk cs) (n : Nat) (f : FuncId) : knowsV n (.u (.one (.fn () f cs))) = true := by simp [knowsV, leavesV, leavesU, idsL, h.ids]
end Go.Proofs.YtghdhjgoicnbcaaGreat.AM

namespace Go.Proofs.YtghdhjgoicnbcaaGreat.AM
open Go
class FacT (P : Program) (t : TypeId) (i : outParam TI) : Prop where
  h : tiOf P t = some i
class FacE (P : Program) (t : TypeId) (n : outParam Nat) : Prop where
  h : elS P t = some n
class FacA (P : Program) (t : TypeId) (q : outParam (Nat × Nat × List Z)) : Prop where
  h : elF P t = some q
class FacN (P : Program) (t : TypeId) (k : outParam TK) : Prop where
  h : lnF P t = some k
class FacF (P : Program) (t : TypeId) (f : Nat) (q : outParam (Nat × TI)) : Prop where
  h : fldF P t f = some q
class EntC (P : Program) (f : FuncId) : Prop where
  h : Ent P f
-- a list's place is set
inductive SetR {α : Type} : List α → Nat → α → List α → Prop
  | z {x y : α} {l : List α} : SetR (x :: l) 0 y (y :: l)
  | s {x y : α} {l l' : List α} {i : Nat} (h : SetR l i y l') : SetR (x :: l) (i + 1) y (x :: l')
theorem SetR.eq {α : Type} {l l' : List α} {i : Nat} {y : α} (h : SetR l i y l') : l.set i y = l' := by
  induction h with
  | z => rfl
  | s _ ih => rw [List.set_cons_succ, ih]
theorem SetR.putC {α : Type} {l l' : List α} {i : Nat} {y : α} (h : SetR l i y l') : putC l i [y] = l' := by
  induction h with
  | z => simp [AM.putC]
  | s _ ih => simp only [AM.putC, List.length_singleton] at ih ⊢; rw [List.take_succ_cons, List.cons_append, List.cons_append, ← ih]; rfl
inductive PutR {α : Type} : List α → Nat → List α → List α → Prop
  | nil {l : List α} {i : Nat} : PutR l i [] l
  | cons {l l1 l2 : List α} {i : Nat} {y : α} {ys : List α} (h : SetR l i y l1) (ht : PutR l1 (i + 1) ys l2) : PutR l i (y :: ys) l2
theorem SetR.len {α : Type} {l l' : List α} {i : Nat} {y : α} (h : SetR l i y l') : i < l.length := by
  induction h with
  | z => simp
  | s _ ih => simpa using ih
theorem PutR.eq {α : Type} {l l' ys : List α} {i : Nat} (h : PutR l i ys l') : putC l i ys = l' := by
  induction h with
  | nil => simp [putC]
  | @cons l l1 l2 i y ys h ht ih =>
    have h1 := h.eq
    have h2 := h.len
    rw [← ih, ← h1]
    apply List.ext_getElem?
    intro j
    simp only [putC, List.append_assoc, List.cons_append, List.getElem?_append, List.length_take, List.length_set, List.getElem?_take, List.getElem?_set, List.getElem?_drop, List.length_cons, List.getElem?_cons]
    grind
-- zeros
inductive ZR : List Z → List (L Unit) → Prop
  | nil : ZR [] []
  | int {k : IntKind} {n : Int} {z : List Z} {l : List (L Unit)} (h : ZR z l) : ZR (.int k n :: z) (.int k n :: l)
  | bool {b : Bool} {z : List Z} {l : List (L Unit)} (h : ZR z l) : ZR (.bool b :: z) (.bool b :: l)
  | str {s : ByteArray} {z : List Z} {l : List (L Unit)} (h : ZR z l) : ZR (.str s :: z) (.str s :: l)
  | nl {z : List Z} {l : List (L Unit)} (h : ZR z l) : ZR (.nl :: z) (.nl :: l)
  | nilp {z : List Z} {l : List (L Unit)} (h : ZR z l) : ZR (.nilp :: z) (.nilp :: l)
theorem ZR.eq {z : List Z} {l : List (L Unit)} (h : ZR z l) : z.map zL = l := by
  induction h <;> simp_all [zL]
section
variable {P : Program} {Y : Sys P} [PlainY Y] {pr N nx t : Nat} {asg : Asg} {oa : OAsg} {ty : TypeId} {pos : String} {aft : Array Edge} {K : S Unit → Prop}
theorem k_st {tt : TypeId} {x y : Operand} {id j n : Nat} {i : TI} {r r' : List (L Unit)} {u : U Unit} (ht : tiOf P tt = some i) (h1 : ev N asg x = some (.u (.one (.ptr () id 0 j)))) (h2 : ev N asg y = some (.u u))
    (ho : lko oa nx id = some ⟨(), n, [r]⟩) (hn : noOsU u = true) (hl : Nat.beq (leavesU u).length i.size = true) (hj : Nat.ble (j + i.size) r.length = true) (hs : PutR r j (leavesU u) r')
    (hK : K (St N asg ((id, some ⟨(), n, [r']⟩) :: oa) nx)) : aopK Y 0 ⟨none, .store tt x y, ty, pos, aft, none⟩ (St N asg oa nx) K :=
  x_st ht h1 h2 ho rfl hn hl hj (by rw [hs.eq]; rfl) hK
theorem k_al {tt : TypeId} {i : TI} {r : List (L Unit)} (ht : tiOf P tt = some i) (hr : ZR i.zero r)
    (hK : K (St N ((t, .u (.one (.ptr () nx 0 0))) :: asg) ((nx, some ⟨(), i.zero.length, [r]⟩) :: oa) (nx + 1))) : aopK Y 0 ⟨some t, .alloc tt, ty, pos, aft, none⟩ (St N asg oa nx) K := x_al ht hr.eq rfl hK
/-- Parts are put. -/
inductive FillR (N : Nat) (asg : Asg) (ps : List (Nat × Nat)) : List (Nat × Operand) → List (L Unit) → List (L Unit) → Prop
  | nil {c : List (L Unit)} : FillR N asg ps [] c c
  | cons {i o m : Nat} {x : Operand} {xs : List (Nat × Operand)} {u : U Unit} {c c1 c2 : List (L Unit)} (hv : ev N asg x = some (.u u)) (hn : noOsU u = true) (hp : ps[i]? = some (o, m)) (hl : Nat.beq (leavesU u).length m = true) (hb : Nat.ble (o + m) c.length = true) (h : PutR c o (leavesU u) c1)
      (ht : FillR N asg ps xs c1 c2) : FillR N asg ps ((i, x) :: xs) c c2
theorem FillR.eq {ps : List (Nat × Nat)} {xs : List (Nat × Operand)} {c c' : List (L Unit)} (h : FillR N asg ps xs c c') : ∃ us, partsE (ev N asg) xs = some us ∧ fillP (ps[·]?) us c = some c' := by
  induction h with
  | nil => exact ⟨[], rfl, rfl⟩
  | @cons i o m x xs u c c1 c2 hv hn hp hl hb h _ ih =>
    obtain ⟨us, h1, h2⟩ := ih
    refine ⟨(i, u) :: us, ?_, ?_⟩
    · simp only [partsE, hv, uO, Option.bind_some, hn, if_true, h1, Option.map_some]
    · simp only [fillP, hp, Option.bind_some]
      rw [if_pos ⟨Nat.eq_of_beq_eq_true hl, Nat.le_of_ble_eq_true hb⟩, h.eq, h2]
theorem k_bu {tt : TypeId} {ps : Array (Nat × Operand)} {i : TI} {z cells : List (L Unit)} (ht : tiOf P tt = some i) (hk : i.kd = .struct) (hz : ZR i.zero z) (hf : FillR N asg i.places ps.toList z cells)
    (hK : K (St N ((t, .u (.agg cells)) :: asg) oa nx)) : aopK Y pr ⟨some t, .build tt ps, ty, pos, aft, none⟩ (St N asg oa nx) K := by
  obtain ⟨us, h1, h2⟩ := hf.eq
  rw [← hz.eq] at h2
  exact x_bu ht hk h1 h2 hK
end
-- names anew
inductive RenC (hs : List Nat) : List (L Unit) → List (L Unit) → Prop
  | nil : RenC hs [] []
  | ptr {id j a b : Nat} {ls ls' : List (L Unit)} (h : hs[id]? = some j) (ht : RenC hs ls ls') : RenC hs (.ptr () id a b :: ls) (.ptr () j a b :: ls')
  | ref {id j a b : Nat} {ls ls' : List (L Unit)} (h : hs[id]? = some j) (ht : RenC hs ls ls') : RenC hs (.ref () id a b :: ls) (.ref () j a b :: ls')
  | same {l : L Unit} {ls ls' : List (L Unit)} (h : nestL l = true) (ht : RenC hs ls ls') : RenC hs (l :: ls) (l :: ls')
theorem RenC.eq {hs : List Nat} {nx : Nat} {ls ls' : List (L Unit)} (h : RenC hs ls ls') : ls.map (renL (gG hs nx)) = ls' := by
  induction h with
  | nil => rfl
  | ptr h _ ih => simp only [List.map_cons, ih, renL, gG_lt h]
  | ref h _ ih => simp only [List.map_cons, ih, renL, gG_lt h]
  | same h _ ih => simp only [List.map_cons, ih, ren_free _ h]
inductive NewG (hs : List Nat) (nx : Nat) : Nat → List (Ob Unit) → OAsg → OAsg → Nat → Prop
  | nil {n : Nat} {oa : OAsg} : NewG hs nx n [] oa oa n
  | same {n n' : Nat} {o : Ob Unit} {os : List (Ob Unit)} {oa oa' : OAsg} (h : renOb (gG hs nx) o = o) (ht : NewG hs nx (n + 1) os ((n, some o) :: oa) oa' n') : NewG hs nx n (o :: os) oa oa' n'
inductive UpG (hs0 : List Nat) (nx : Nat) : List Nat → List (Ob Unit) → OAsg → OAsg → Nat → Prop
  | nil {os : List (Ob Unit)} {oa oa' : OAsg} {n' : Nat} (h : NewG hs0 nx nx os oa oa' n') : UpG hs0 nx [] os oa oa' n'
  | same {k n' : Nat} {o : Ob Unit} {hs : List Nat} {os : List (Ob Unit)} {oa oa' : OAsg} (h : renOb (gG hs0 nx) o = o) (ht : UpG hs0 nx hs os ((k, some o) :: oa) oa' n') : UpG hs0 nx (k :: hs) (o :: os) oa oa' n'
  | ren {k n n' : Nat} {r r' : List (L Unit)} {hs : List Nat} {os : List (Ob Unit)} {oa oa' : OAsg} (h : RenC hs0 r r') (ht : UpG hs0 nx hs os ((k, some ⟨(), n, [r']⟩) :: oa) oa' n') : UpG hs0 nx (k :: hs) (⟨(), n, [r]⟩ :: os) oa oa' n'
theorem NewG.eq {hs : List Nat} {nx n n' : Nat} {os : List (Ob Unit)} {oa oa' : OAsg} (h : NewG hs nx n os oa oa' n') : pushO (((os.map (renOb (gG hs nx))).zipIdx n).map fun q => (q.2, q.1)) oa = oa' ∧ n + os.length = n' := by
  induction h with
  | nil => exact ⟨rfl, rfl⟩
  | same h _ ih => exact ⟨by simp only [List.map_cons, List.zipIdx_cons, pushO, h]; exact ih.1, by simp only [List.length_cons]; omega⟩
theorem UpG.eq {hs0 : List Nat} {nx : Nat} {hs : List Nat} {os : List (Ob Unit)} {oa oa' : OAsg} {n' : Nat} (h : UpG hs0 nx hs os oa oa' n') :
    pushO ((((os.drop hs.length).map (renOb (gG hs0 nx))).zipIdx nx).map fun q => (q.2, q.1)) (updO (hs.zip ((os.take hs.length).map (renOb (gG hs0 nx)))) oa) = oa' ∧ nx + (os.length - hs.length) = n' := by
  induction h with
  | nil h => exact ⟨by simpa [updO] using h.eq.1, by simpa using h.eq.2⟩
  | same h _ ih => exact ⟨by simpa only [List.length_cons, List.drop_succ_cons, List.take_succ_cons, List.map_cons, List.zip_cons_cons, updO, h] using ih.1, by simpa only [List.length_cons, Nat.add_sub_add_right] using ih.2⟩
  | @ren k n n' r r' hs os oa oa' h _ ih =>
    have e : renOb (gG hs0 nx) ⟨(), n, [r]⟩ = ⟨(), n, [r']⟩ := by simp only [renOb, List.map_cons, List.map_nil, h.eq]
    exact ⟨by simpa only [List.length_cons, List.drop_succ_cons, List.take_succ_cons, List.map_cons, List.zip_cons_cons, updO, e] using ih.1, by simpa only [List.length_cons, Nat.add_sub_add_right] using ih.2⟩
-- results
inductive RtC (g : Nat → Nat) : Nat → List (L Unit) → List (L Unit) → Nat → OAsg → OAsg → Prop
  | nil {n : Nat} {oa : OAsg} : RtC g n [] [] n oa oa
  | os {α : Type} {enc : α → List (L Unit)} {n n' m : Nat} {xs : List α} {ls ls' : List (L Unit)} {oa oa' : OAsg} (ht : RtC g (n + 1) ls ls' n' ((n, some ⟨(), m, List.map enc xs⟩) :: oa) oa') : RtC g n (.os () m (List.map enc xs) :: ls) (.ref () n 0 xs.length :: ls') n' oa oa'
  | ptr {id j a b n n' : Nat} {ls ls' : List (L Unit)} {oa oa' : OAsg} (h : g id = j) (ht : RtC g n ls ls' n' oa oa') : RtC g n (.ptr () id a b :: ls) (.ptr () j a b :: ls') n' oa oa'
  | same {l : L Unit} {n n' : Nat} {ls ls' : List (L Unit)} {oa oa' : OAsg} (h : plainL l = true) (ht : RtC g n ls ls' n' oa oa') : RtC g n (l :: ls) (l :: ls') n' oa oa'
theorem RtC.eq {g : Nat → Nat} {n n' : Nat} {ls ls' : List (L Unit)} {oa oa' : OAsg} (h : RtC g n ls ls' n' oa oa') : ∃ nobs, rootLs (fun _ => ()) n (ls.map (renL g)) = (ls', nobs) ∧ pushO nobs oa = oa' ∧ n + nobs.length = n' := by
  induction h with
  | nil => exact ⟨[], rfl, rfl, rfl⟩
  | @os α enc n n' m xs ls ls' oa oa' _ ih =>
    obtain ⟨nobs, h1, h2, h3⟩ := ih
    refine ⟨(n, ⟨(), m, List.map enc xs⟩) :: nobs, ?_, h2, by simp only [List.length_cons]; omega⟩
    simp only [List.map_cons, renL, rootLs, h1, List.length_map]
  | ptr h _ ih =>
    obtain ⟨nobs, h1, h2⟩ := ih
    exact ⟨nobs, by simp only [List.map_cons, renL, rootLs, h1, h], h2⟩
  | @same l _ _ _ _ _ _ h _ ih =>
    obtain ⟨nobs, h1, h2⟩ := ih
    have e : renL g l = l := ren_free g (plain_nest h)
    refine ⟨nobs, ?_, h2⟩
    rw [List.map_cons, e]
    cases l <;> simp_all [rootLs, plainL]
inductive RtUs (g : Nat → Nat) : Nat → List (U Unit) → List (U Unit) → Nat → OAsg → OAsg → Prop
  | nil {n : Nat} {oa : OAsg} : RtUs g n [] [] n oa oa
  | one {l l' : L Unit} {n n1 n' : Nat} {us us' : List (U Unit)} {oa oa1 oa' : OAsg} (h : RtC g n [l] [l'] n1 oa oa1) (ht : RtUs g n1 us us' n' oa1 oa') : RtUs g n (.one l :: us) (.one l' :: us') n' oa oa'
  | all {n n' : Nat} {ls : List (L Unit)} {us us' : List (U Unit)} {oa oa' : OAsg} (h : ls.all plainL = true) (ht : RtUs g n us us' n' oa oa') : RtUs g n (.agg ls :: us) (.agg ls :: us') n' oa oa'
  | agg {n n1 n' : Nat} {ls ls' : List (L Unit)} {us us' : List (U Unit)} {oa oa1 oa' : OAsg} (h : RtC g n ls ls' n1 oa oa1) (ht : RtUs g n1 us us' n' oa1 oa') : RtUs g n (.agg ls :: us) (.agg ls' :: us') n' oa oa'
theorem pushO_append : ∀ (a b : List (Nat × Ob Unit)) (oa : OAsg), pushO (a ++ b) oa = pushO b (pushO a oa)
  | [], _, _ => rfl
  | (i, o) :: a, b, oa => by simp only [List.cons_append, pushO]; exact pushO_append a b _
theorem root_plain {g : Nat → Nat} {n : Nat} : ∀ {ls : List (L Unit)}, ls.all plainL = true → rootLs (fun _ => ()) n (ls.map (renL g)) = (ls, [])
  | [], _ => rfl
  | l :: ls, h => by
    simp only [List.all_cons, Bool.and_eq_true] at h
    have e : renL g l = l := ren_free g (plain_nest h.1)
    rw [List.map_cons, e]
    have := root_plain (g := g) (n := n) h.2
    cases l <;> simp_all [rootLs, plainL]
theorem RtUs.eq {g : Nat → Nat} {n n' : Nat} {us us' : List (U Unit)} {oa oa' : OAsg} (h : RtUs g n us us' n' oa oa') : ∃ nobs, rootUs (fun _ => ()) n (us.map (renU g)) = (us', nobs) ∧ pushO nobs oa = oa' ∧ n + nobs.length = n' := by
  induction h with
  | nil => exact ⟨[], rfl, rfl, rfl⟩
  | one h _ ih =>
    obtain ⟨n1, h1, rfl, rfl⟩ := h.eq
    obtain ⟨n2, g1, rfl, rfl⟩ := ih
    simp only [List.map_cons, List.map_nil] at h1
    exact ⟨n1 ++ n2, by simp only [List.map_cons, renU, rootUs, rootU, h1, g1], pushO_append _ _ _, by simp only [List.length_append]; omega⟩
  | all h _ ih =>
    obtain ⟨n2, g1, rfl, rfl⟩ := ih
    exact ⟨n2, by simp only [List.map_cons, renU, rootUs, rootU, root_plain h, List.length_nil, Nat.add_zero, g1, List.nil_append], rfl, rfl⟩
  | agg h _ ih =>
    obtain ⟨n1, h1, rfl, rfl⟩ := h.eq
    obtain ⟨n2, g1, rfl, rfl⟩ := ih
    exact ⟨n1 ++ n2, by simp only [List.map_cons, renU, rootUs, rootU, h1, g1], pushO_append _ _ _, by simp only [List.length_append]; omega⟩
inductive RtV (g : Nat → Nat) : Nat → V Unit → V Unit → Nat → OAsg → OAsg → Prop
  | u {u u' : U Unit} {n n' : Nat} {oa oa' : OAsg} (h : RtUs g n [u] [u'] n' oa oa') : RtV g n (.u u) (.u u') n' oa oa'
  | tup {us us' : List (U Unit)} {n n' : Nat} {oa oa' : OAsg} (h : RtUs g n us us' n' oa oa') : RtV g n (.tup us) (.tup us') n' oa oa'
theorem RtV.eq {g : Nat → Nat} {n n' : Nat} {v v' : V Unit} {oa oa' : OAsg} (h : RtV g n v v' n' oa oa') : ∃ nobs, rootV (fun _ => ()) n (renV g v) = (v', nobs) ∧ pushO nobs oa = oa' ∧ n + nobs.length = n' := by
  cases h with
  | u h =>
    obtain ⟨nobs, h1, h2, h3⟩ := h.eq
    simp only [List.map_cons, List.map_nil, rootUs, Prod.mk.injEq, List.cons.injEq, and_true, List.append_nil] at h1
    exact ⟨nobs, by simp only [renV, rootV, h1.1, h1.2], h2, h3⟩
  | tup h =>
    obtain ⟨nobs, h1, h2, h3⟩ := h.eq
    exact ⟨nobs, by simp only [renV, rootV, h1], h2, h3⟩
theorem ko_c {n : Nat} {o : Ob Unit} {os : List (Ob Unit)} (h : knowsR n o.rows = true) (ht : os.all (fun ob => knowsR n ob.rows) = true) : (o :: os).all (fun ob => knowsR n ob.rows) = true := by simp only [List.all_cons, h, ht, Bool.and_self]
end Go.Proofs.YtghdhjgoicnbcaaGreat.AM

namespace Go.Proofs.YtghdhjgoicnbcaaGreat.AM
open Go
theorem im_z : ([] : List (L Unit)).all immFreeL = true := rfl
theorem im_c {l : L Unit} {ls : List (L Unit)} (h : immFreeL l = true) (ht : ls.all immFreeL = true) : (l :: ls).all immFreeL = true := by rw [List.all_cons, h, ht]; rfl
theorem im_u {u : U Unit} (h : (leavesU u).all immFreeL = true) : immFreeV (.u u) = true := h
theorem im_n : immFreeV (.tup []) = true := rfl
theorem im_t {u : U Unit} {us : List (U Unit)} (h : (leavesU u).all immFreeL = true) (ht : immFreeV (.tup us) = true) : immFreeV (.tup (u :: us)) = true := by
  simp only [immFreeV, leavesV, List.flatMap_cons, List.all_append, h, Bool.true_and] at ht ⊢; exact ht
section
variable {P : Program} {N nx : Nat} {asg : Asg} {oa oa1 oa2 : OAsg} {K : S Unit → Prop} {dst : Option Nat} {ty : TypeId} {pos : String} {aft : Array Edge} {x : Operand} {args : Array Operand} {ats : Array TypeId} {f : FuncId} {us : List (U Unit)} {r v : V Unit} {n1 n2 : Nat} {obs obs' : List (Ob Unit)}
theorem up_eq {hs : List Nat} (hup : UpG hs nx hs obs' oa oa1 n1) (hrt : RtV (gG hs nx) n1 r v n2 oa1 oa2) : ∃ nobs, rootV (fun _ => ()) (nx + (obs'.length - hs.length)) (renV (gG hs nx) r) = (v, nobs) ∧ oaG (gG hs nx) nx hs obs' nobs oa = oa2 ∧ nx + (obs'.length - hs.length + nobs.length) = n2 := by
  obtain ⟨h1, h2⟩ := hup.eq
  subst h2
  obtain ⟨nobs, h3, h4, h5⟩ := hrt.eq
  exact ⟨nobs, h3, by rw [oaG, h1, h4], by omega⟩
theorem cG (hs : List Nat) (hsim : Sim P f us obs r obs') (hK : K (St N (dstA dst v asg) oa2 n2))
    (hf : ev N asg x = some (.u (.one (.fn () f []))) := by rfl) (hnd : hs.Nodup := by decide) (hh : All2 (fun h ob => lko oa nx h = some (renOb (gG hs nx) ob)) hs obs := by repeat first | exact h_n | refine h_c (by first | rfl | exact hrow rfl) ?_) (hkn : obs.all (fun ob => knowsR hs.length ob.rows) = true := by repeat first | exact rfl | refine ko_c (by first | exact knows_map _ _ | rfl) ?_)
    (ha : ArgsG (St N asg oa nx) (gG hs nx) hs false args.toList us := by repeat first | exact g_n | refine g_1 rfl rfl rfl ?_ | refine g_a rfl rfl rfl ?_ | refine g_an rfl (by repeat first | exact .nil | refine .cons (.same rfl) ?_ | refine .cons .nl ?_) rfl ?_) [hent : EntC P f] (hn : (obs'.take hs.length).map (·.n) = obs.map (·.n) := by rfl)
    (hup : UpG hs nx hs obs' oa oa1 n1 := by repeat first | exact UpG.nil NewG.nil | (apply UpG.same; (first | exact ren_map _ _ _ | exact rfl)) | (apply UpG.ren; (repeat first | exact RenC.nil | (apply RenC.same; exact rfl) | (apply RenC.ptr; exact rfl) | (apply RenC.ref; exact rfl))) | apply UpG.nil | exact NewG.nil | (apply NewG.same; (first | exact ren_map _ _ _ | exact rfl)))
    (hrt : RtV (gG hs nx) n1 r v n2 oa1 oa2 := by (first | apply RtV.u | apply RtV.tup); (repeat first | exact RtUs.nil | (apply RtUs.all; exact rfl) | (apply RtUs.one; (repeat first | exact RtC.nil | (apply RtC.same; exact rfl) | apply RtC.os | (apply RtC.ptr; exact rfl))) | (apply RtUs.agg; (repeat first | exact RtC.nil | (apply RtC.same; exact rfl) | apply RtC.os | (apply RtC.ptr; exact rfl))))) : aopK (sysA P) 0 ⟨dst, .call ⟨.value x, args, ats⟩, ty, pos, aft, none⟩ (St N asg oa nx) K := by
  obtain ⟨nobs, h1, h2, h3⟩ := up_eq hup hrt
  exact x_cg (caps := []) (cs := []) hs false hf hnd hh hkn ha rfl rfl hent.h (by simpa using hsim) (.inl rfl) hn h1 h2 h3 hK
theorem cgG (hs : List Nat) (hsim : Sim P f us obs r obs') (hK : K (St N (dstA dst v asg) oa2 n2))
    (hf : ev N asg x = some (.u (.one (.fn () f []))) := by rfl) (hnd : hs.Nodup := by decide) (hh : All2 (fun h ob => lko oa nx h = some (renOb (gG hs nx) ob)) hs obs := by repeat first | exact h_n | refine h_c (by first | rfl | exact hrow rfl) ?_) (hkn : obs.all (fun ob => knowsR hs.length ob.rows) = true := by repeat first | exact rfl | refine ko_c (by first | exact knows_map _ _ | rfl) ?_)
    (ha : ArgsG (St N asg oa nx) (gG hs nx) hs false args.toList us := by repeat first | exact g_n | refine g_1 rfl rfl rfl ?_ | refine g_a rfl rfl rfl ?_ | refine g_an rfl (by repeat first | exact .nil | refine .cons (.same rfl) ?_ | refine .cons .nl ?_) rfl ?_) [hent : EntC P f] (hn : (obs'.take hs.length).map (·.n) = obs.map (·.n) := by rfl)
    (hup : UpG hs nx hs obs' oa oa1 n1 := by repeat first | exact UpG.nil NewG.nil | (apply UpG.same; (first | exact ren_map _ _ _ | exact rfl)) | (apply UpG.ren; (repeat first | exact RenC.nil | (apply RenC.same; exact rfl) | (apply RenC.ptr; exact rfl) | (apply RenC.ref; exact rfl))) | apply UpG.nil | exact NewG.nil | (apply NewG.same; (first | exact ren_map _ _ _ | exact rfl)))
    (hrt : RtV (gG hs nx) n1 r v n2 oa1 oa2 := by (first | apply RtV.u | apply RtV.tup); (repeat first | exact RtUs.nil | (apply RtUs.all; exact rfl) | (apply RtUs.one; (repeat first | exact RtC.nil | (apply RtC.same; exact rfl) | apply RtC.os | (apply RtC.ptr; exact rfl))) | (apply RtUs.agg; (repeat first | exact RtC.nil | (apply RtC.same; exact rfl) | apply RtC.os | (apply RtC.ptr; exact rfl))))) : aopK (sysG P) 0 ⟨dst, .call ⟨.value x, args, ats⟩, ty, pos, aft, none⟩ (St N asg oa nx) K := by
  obtain ⟨nobs, h1, h2, h3⟩ := up_eq hup hrt
  exact x_cgG (caps := []) (cs := []) hs false hf hnd hh hkn ha rfl rfl hent.h (by simpa using hsim) (.inl rfl) hn h1 h2 h3 hK
theorem cO (hs cons : List Nat) (hsim : Sim P f us obs r obs') (hK : K (St N (dstA dst v asg) oa2 n2))
    (hf : ev N asg x = some (.u (.one (.fn () f []))) := by rfl) (hnd : (hs ++ cons).Nodup := by decide) (hh : All2 (fun h ob => lko oa nx h = some (renOb (gG hs nx) ob)) hs obs := by repeat first | exact h_n | refine h_c (by first | rfl | exact hrow rfl) ?_) (hkn : obs.all (fun ob => knowsR hs.length ob.rows) = true := by repeat first | exact rfl | refine ko_c (by first | exact knows_map _ _ | rfl) ?_)
    (ha : ArgsO (St N asg oa nx) (gG hs nx) hs args.toList us cons := by repeat first | exact q_n | refine q_1 rfl rfl rfl ?_ | refine q_a rfl rfl rfl ?_ | refine q_o rfl rfl (by first | rfl | simp) ?_) [hent : EntC P f] (hn : (obs'.take hs.length).map (·.n) = obs.map (·.n) := by rfl)
    (hup : UpG hs nx hs obs' (delO cons oa) oa1 n1 := by repeat first | exact UpG.nil NewG.nil | (apply UpG.same; (first | exact ren_map _ _ _ | exact rfl)) | (apply UpG.ren; (repeat first | exact RenC.nil | (apply RenC.same; exact rfl) | (apply RenC.ptr; exact rfl) | (apply RenC.ref; exact rfl))) | apply UpG.nil | exact NewG.nil | (apply NewG.same; (first | exact ren_map _ _ _ | exact rfl)))
    (hrt : RtV (gG hs nx) n1 r v n2 oa1 oa2 := by (first | apply RtV.u | apply RtV.tup); (repeat first | exact RtUs.nil | (apply RtUs.all; exact rfl) | (apply RtUs.one; (repeat first | exact RtC.nil | (apply RtC.same; exact rfl) | apply RtC.os | (apply RtC.ptr; exact rfl))) | (apply RtUs.agg; (repeat first | exact RtC.nil | (apply RtC.same; exact rfl) | apply RtC.os | (apply RtC.ptr; exact rfl))))) : aopK (sysA P) 0 ⟨dst, .call ⟨.value x, args, ats⟩, ty, pos, aft, none⟩ (St N asg oa nx) K := by
  obtain ⟨nobs, h1, h2, h3⟩ := up_eq hup hrt
  exact x_co (caps := []) (cs := []) hs cons hf hnd hh hkn ha rfl rfl hent.h (by simpa using hsim) hn h1 h2 h3 hK
theorem cB {t : Nat} (hsim : Sim P f us [] r []) (hK : K (St N ((t, v) :: asg) oa2 n2)) (hf : ev N asg x = some (.u (.one (.fn () f []))) := by rfl) (ha : BorA N asg oa nx args.toList us := by repeat first | exact a_n | refine a_1 rfl (by first | exact b_s rfl | exact b_r rfl | exact b_ip | exact b_p rfl (by first | exact c_all rfl | (repeat first | exact c_n | refine c_c (by first | exact b_s rfl | exact b_r rfl) ?_)) rfl) ?_ | refine a_a rfl (by first | exact c_all rfl | (repeat first | exact c_n | refine c_c (by first | exact b_s rfl | exact b_r rfl | exact b_ip | exact b_p rfl (by first | exact c_all rfl | (repeat first | exact c_n | refine c_c (by first | exact b_s rfl | exact b_r rfl) ?_)) rfl) ?_)) ?_)
    [hent : EntC P f] (himf : immFreeV r = true := by first | rfl | (repeat first | exact im_n | refine im_t (by repeat first | exact im_z | refine im_c (by first | rfl | exact immF_map _) ?_) ?_ | refine im_u (by repeat first | exact im_z | refine im_c (by first | rfl | exact immF_map _) ?_)))
    (hrt : RtV (fun i => i) nx r v n2 oa oa2 := by (first | apply RtV.u | apply RtV.tup); (repeat first | exact RtUs.nil | (apply RtUs.all; exact rfl) | (apply RtUs.one; (repeat first | exact RtC.nil | (apply RtC.same; exact rfl) | apply RtC.os | (apply RtC.ptr; exact rfl))) | (apply RtUs.agg; (repeat first | exact RtC.nil | (apply RtC.same; exact rfl) | apply RtC.os | (apply RtC.ptr; exact rfl))))) : aopK (sysC P) 0 ⟨some t, .call ⟨.value x, args, ats⟩, ty, pos, aft, none⟩ (St N asg oa nx) K := by
  obtain ⟨nobs, h1, h2, h3⟩ := hrt.eq
  rw [renV_id] at h1
  exact x_call (caps := []) (cs := []) hf ha c_n hent.h (by simpa using hsim) himf h1 h2 h3 hK
end
section
variable {P : Program} {B : Bd} {N nx : Nat} {asg asg' : Asg} {oa oa' oa2 : OAsg}
/-- A state seen anew. -/
theorem vW (l : List Nat) (hA : SubA l asg asg' := by repeat first | exact SubA.nil | refine SubA.cons rfl rfl ?_ | refine SubA.cons (by simp only [List.length_set]; rfl) rfl ?_) (hO : SubO l oa nx oa' := by repeat first | exact SubO.nil | refine SubO.map rfl ?_ | refine SubO.lit rfl rfl ?_) (hn : l.Nodup := by decide) (hB : ∀ i, i < B.n0 → l[i]? = some i := by first | exact hB_0 hB0 | exact hB_n _ hB0 rfl) :
    GhB B (St N asg oa nx) (St N asg' oa' l.length) := w_ l hA hO hn hB
/-- A function ends. -/
theorem rG {rs : List ResultVar} {us us' : List (U Unit)} {us2 : List (U Unit)} {r : V Unit} {e : Exit} {n2 k0 : Nat} {obs obs' : List (Ob Unit)} (ids : List Nat) (hg : resUs P (St N asg oa nx).sl (look (St N asg oa nx).ob) rs = some us → GhB B (Rt us oa nx) (Rt us2 oa2 n2)) (hrr : resR us' = r)
    (hr : resUs P (St N asg oa nx).sl (look (St N asg oa nx).ob) rs = some us) (he : (match e with | .normal => true | .ret => true | _ => false) = true)
    (hu : us2 = us'.map (renU (gG ids 0))) (hh : All2 (fun h ob => lko oa2 n2 h = some (renOb (gG ids 0) ob)) ids obs') (hnd : ids.Nodup) (hkr : obs'.all (fun o => knowsR ids.length o.rows) = true)
    (hB : B.n0 = k0) (hpre : ids.take k0 = List.range k0) (hk0 : Nat.ble k0 ids.length = true) (hk : us'.all (fun u => (leavesU u).all fun l => (idsL l).all fun i => Nat.blt i ids.length) = true)
    (hs : (obs'.take obs.length).map shape = obs.map shape) (hl : Nat.ble obs.length obs'.length = true) : RetQ P B rs obs r obs' e (St N asg oa nx) := by
  have hlen := all2_len hh
  rw [hlen] at hk hkr
  exact retG he hr ((hg hr).trans (by have := f_end (B := B) ids hu hh hnd (by rw [hlen]; exact hk) (by rw [hlen]; exact hkr) hB hpre hk0; exact this)) hrr hs hl hk hkr
theorem rG1 {rs : List ResultVar} {us : List (U Unit)} {u : U Unit} {e : Exit} {k0 : Nat} {obs obs' : List (Ob Unit)} (ids : List Nat) (hr : resUs P (St N asg oa nx).sl (look (St N asg oa nx).ob) rs = some us := by repeat first | exact r_nil | (apply r_tmp; exact rfl; exact rfl; exact rfl) | (apply r_cell; exact rfl; exact FacT.h; exact rfl; exact rfl; exact rfl; (first | exact pk_all rfl rfl | exact rfl); exact rfl)) (he : (match e with | .normal => true | .ret => true | _ => false) = true := by rfl)
    (hu : us = [u].map (renU (gG ids 0)) := by rfl) (hh : All2 (fun h ob => lko oa nx h = some (renOb (gG ids 0) ob)) ids obs' := by repeat first | exact h_n | refine h_c (by first | rfl | exact hrow rfl) ?_) (hnd : ids.Nodup := by decide) (hkr : obs'.all (fun o => knowsR ids.length o.rows) = true := by repeat first | exact rfl | refine ko_c (by first | exact knows_map _ _ | rfl) ?_)
    (hB : B.n0 = k0 := by exact hB0) (hpre : ids.take k0 = List.range k0 := by rfl) (hk0 : Nat.ble k0 ids.length = true := by rfl) (hk : [u].all (fun u => (leavesU u).all fun l => (idsL l).all fun i => Nat.blt i ids.length) = true := by rfl)
    (hs : (obs'.take obs.length).map shape = obs.map shape := by rfl) (hl : Nat.ble obs.length obs'.length = true := by rfl) : RetQ P B rs obs (.u u) obs' e (St N asg oa nx) :=
  rG (us' := [u]) ids (fun _ => GhB.refl _ _) rfl hr he hu hh hnd hkr hB hpre hk0 hk hs hl
theorem rG1h {rs : List ResultVar} {us us2 : List (U Unit)} {u : U Unit} {e : Exit} {n2 k0 : Nat} {obs obs' : List (Ob Unit)} (ids : List Nat) (hr : resUs P (St N asg oa nx).sl (look (St N asg oa nx).ob) rs = some us := by repeat first | exact r_nil | (apply r_tmp; exact rfl; exact rfl; exact rfl) | (apply r_cell; exact rfl; exact FacT.h; exact rfl; exact rfl; exact rfl; (first | exact pk_all rfl rfl | exact rfl); exact rfl)) (he : (match e with | .normal => true | .ret => true | _ => false) = true := by rfl)
    (hg : GhB B (Rt us oa nx) (Rt us2 oa2 n2)) (hu : us2 = [u].map (renU (gG ids 0)) := by rfl) (hh : All2 (fun h ob => lko oa2 n2 h = some (renOb (gG ids 0) ob)) ids obs' := by repeat first | exact h_n | refine h_c (by first | rfl | exact hrow rfl) ?_) (hnd : ids.Nodup := by decide) (hkr : obs'.all (fun o => knowsR ids.length o.rows) = true := by repeat first | exact rfl | refine ko_c (by first | exact knows_map _ _ | rfl) ?_)
    (hB : B.n0 = k0 := by exact hB0) (hpre : ids.take k0 = List.range k0 := by rfl) (hk0 : Nat.ble k0 ids.length = true := by rfl) (hk : [u].all (fun u => (leavesU u).all fun l => (idsL l).all fun i => Nat.blt i ids.length) = true := by rfl)
    (hs : (obs'.take obs.length).map shape = obs.map shape := by rfl) (hl : Nat.ble obs.length obs'.length = true := by rfl) : RetQ P B rs obs (.u u) obs' e (St N asg oa nx) :=
  rG (us' := [u]) ids (fun _ => hg) rfl hr he hu hh hnd hkr hB hpre hk0 hk hs hl
theorem rGt {rs : List ResultVar} {us us' : List (U Unit)} {e : Exit} {k0 : Nat} {obs obs' : List (Ob Unit)} (ids : List Nat) (hr : resUs P (St N asg oa nx).sl (look (St N asg oa nx).ob) rs = some us := by repeat first | exact r_nil | (apply r_tmp; exact rfl; exact rfl; exact rfl) | (apply r_cell; exact rfl; exact FacT.h; exact rfl; exact rfl; exact rfl; (first | exact pk_all rfl rfl | exact rfl); exact rfl)) (he : (match e with | .normal => true | .ret => true | _ => false) = true := by rfl)
    (hu : us = us'.map (renU (gG ids 0)) := by rfl) (hh : All2 (fun h ob => lko oa nx h = some (renOb (gG ids 0) ob)) ids obs' := by repeat first | exact h_n | refine h_c (by first | rfl | exact hrow rfl) ?_) (hnd : ids.Nodup := by decide) (hkr : obs'.all (fun o => knowsR ids.length o.rows) = true := by repeat first | exact rfl | refine ko_c (by first | exact knows_map _ _ | rfl) ?_)
    (hB : B.n0 = k0 := by exact hB0) (hpre : ids.take k0 = List.range k0 := by rfl) (hk0 : Nat.ble k0 ids.length = true := by rfl) (hk : us'.all (fun u => (leavesU u).all fun l => (idsL l).all fun i => Nat.blt i ids.length) = true := by rfl)
    (hs : (obs'.take obs.length).map shape = obs.map shape := by rfl) (hl : Nat.ble obs.length obs'.length = true := by rfl) (hrr : resR us' = .tup us' := by rfl) : RetQ P B rs obs (.tup us') obs' e (St N asg oa nx) :=
  rG (us' := us') ids (fun _ => GhB.refl _ _) hrr hr he hu hh hnd hkr hB hpre hk0 hk hs hl
theorem rGth {rs : List ResultVar} {us us' us2 : List (U Unit)} {e : Exit} {n2 k0 : Nat} {obs obs' : List (Ob Unit)} (ids : List Nat) (hr : resUs P (St N asg oa nx).sl (look (St N asg oa nx).ob) rs = some us := by repeat first | exact r_nil | (apply r_tmp; exact rfl; exact rfl; exact rfl) | (apply r_cell; exact rfl; exact FacT.h; exact rfl; exact rfl; exact rfl; (first | exact pk_all rfl rfl | exact rfl); exact rfl)) (he : (match e with | .normal => true | .ret => true | _ => false) = true := by rfl)
    (hg : GhB B (Rt us oa nx) (Rt us2 oa2 n2)) (hu : us2 = us'.map (renU (gG ids 0)) := by rfl) (hh : All2 (fun h ob => lko oa2 n2 h = some (renOb (gG ids 0) ob)) ids obs' := by repeat first | exact h_n | refine h_c (by first | rfl | exact hrow rfl) ?_) (hnd : ids.Nodup := by decide) (hkr : obs'.all (fun o => knowsR ids.length o.rows) = true := by repeat first | exact rfl | refine ko_c (by first | exact knows_map _ _ | rfl) ?_)
    (hB : B.n0 = k0 := by exact hB0) (hpre : ids.take k0 = List.range k0 := by rfl) (hk0 : Nat.ble k0 ids.length = true := by rfl) (hk : us'.all (fun u => (leavesU u).all fun l => (idsL l).all fun i => Nat.blt i ids.length) = true := by rfl)
    (hs : (obs'.take obs.length).map shape = obs.map shape := by rfl) (hl : Nat.ble obs.length obs'.length = true := by rfl) (hrr : resR us' = .tup us' := by rfl) : RetQ P B rs obs (.tup us') obs' e (St N asg oa nx) :=
  rG (us' := us') ids (fun _ => hg) hrr hr he hu hh hnd hkr hB hpre hk0 hk hs hl
theorem rZ1 {rs : List ResultVar} {us : List (U Unit)} {u : U Unit} {e : Exit} (hr : resUs P (St N asg oa nx).sl (look (St N asg oa nx).ob) rs = some us := by repeat first | exact r_nil | (apply r_tmp; exact rfl; exact rfl; exact rfl) | (apply r_cell; exact rfl; exact FacT.h; exact rfl; exact rfl; exact rfl; (first | exact pk_all rfl rfl | exact rfl); exact rfl)) (he : (match e with | .normal => true | .ret => true | _ => false) = true := by rfl) (hu : us = [u] := by rfl)
    (hk : [u].all (fun u => (leavesU u).all fun l => (idsL l).isEmpty) = true := by rfl) : RetQ P B rs [] (.u u) [] e (St N asg oa nx) := by
  subst hu; exact ret0 (us' := [u]) he hr f_done rfl hk
theorem rZ1h {rs : List ResultVar} {us us2 : List (U Unit)} {u : U Unit} {e : Exit} {n2 : Nat} (hr : resUs P (St N asg oa nx).sl (look (St N asg oa nx).ob) rs = some us := by repeat first | exact r_nil | (apply r_tmp; exact rfl; exact rfl; exact rfl) | (apply r_cell; exact rfl; exact FacT.h; exact rfl; exact rfl; exact rfl; (first | exact pk_all rfl rfl | exact rfl); exact rfl)) (he : (match e with | .normal => true | .ret => true | _ => false) = true := by rfl) (hg : GhB B (Rt us oa nx) (Rt us2 oa2 n2)) (hu : us2 = [u] := by rfl)
    (hk : [u].all (fun u => (leavesU u).all fun l => (idsL l).isEmpty) = true := by rfl) : RetQ P B rs [] (.u u) [] e (St N asg oa nx) := by
  subst hu; exact ret0 (us' := [u]) he hr (hg.trans f_done) rfl hk
theorem rZt {rs : List ResultVar} {us us' : List (U Unit)} {e : Exit} (hr : resUs P (St N asg oa nx).sl (look (St N asg oa nx).ob) rs = some us := by repeat first | exact r_nil | (apply r_tmp; exact rfl; exact rfl; exact rfl) | (apply r_cell; exact rfl; exact FacT.h; exact rfl; exact rfl; exact rfl; (first | exact pk_all rfl rfl | exact rfl); exact rfl)) (he : (match e with | .normal => true | .ret => true | _ => false) = true := by rfl) (hu : us = us' := by rfl)
    (hk : us'.all (fun u => (leavesU u).all fun l => (idsL l).isEmpty) = true := by rfl) (hrr : resR us' = .tup us' := by rfl) : RetQ P B rs [] (.tup us') [] e (St N asg oa nx) := by
  subst hu; exact ret0 he hr f_done hrr hk
theorem rZth {rs : List ResultVar} {us us' us2 : List (U Unit)} {e : Exit} {n2 : Nat} (hr : resUs P (St N asg oa nx).sl (look (St N asg oa nx).ob) rs = some us := by repeat first | exact r_nil | (apply r_tmp; exact rfl; exact rfl; exact rfl) | (apply r_cell; exact rfl; exact FacT.h; exact rfl; exact rfl; exact rfl; (first | exact pk_all rfl rfl | exact rfl); exact rfl)) (he : (match e with | .normal => true | .ret => true | _ => false) = true := by rfl) (hg : GhB B (Rt us oa nx) (Rt us2 oa2 n2)) (hu : us2 = us' := by rfl)
    (hk : us'.all (fun u => (leavesU u).all fun l => (idsL l).isEmpty) = true := by rfl) (hrr : resR us' = .tup us' := by rfl) : RetQ P B rs [] (.tup us') [] e (St N asg oa nx) := by
  subst hu; exact ret0 he hr (hg.trans f_done) hrr hk
end
section
variable {B : Bd} {N nx : Nat} {asg : Asg} {oa : OAsg} {us : List (U Unit)} {n m len : Nat} {r r' : List (L Unit)} {rows2 : List (List (L Unit))}
theorem one_set {r r' : List (L Unit)} {j : Nat} {l : L Unit} (h : SetR r j l r') : [r].set 0 (r.set j l) = [r'] := by rw [h.eq]; rfl
theorem q_op {α : Type} {enc : α → List (L Unit)} {xs : List α} (id j : Nat) (ho : lko oa nx id = some ⟨(), n, [r]⟩ := by rfl) (hj : r[j]? = some (.os () m (List.map enc xs)) := by rfl) (hs : SetR r j (.ref () nx 0 xs.length) r' := by repeat first | exact SetR.z | apply SetR.s) :
    GhB B (St N asg oa nx) (St N asg ((id, some ⟨(), n, [r']⟩) :: (nx, some ⟨(), m, List.map enc xs⟩) :: oa) (nx + 1)) := f_op id 0 j ho rfl hj (List.length_map _).symm (one_set hs)
theorem q_cl {α : Type} {enc : α → List (L Unit)} [EncO enc] {xs : List α} (id id2 j : Nat) (ho : lko oa nx id = some ⟨(), n, [r]⟩ := by rfl) (ho2 : lko oa nx id2 = some ⟨(), m, List.map enc xs⟩ := by rfl) (hj : r[j]? = some (.ref () id2 0 len) := by rfl) (hl : len = (List.map enc xs).length := by first | rfl | simp) (hs : SetR r j (.os () m (List.map enc xs)) r' := by repeat first | exact SetR.z | apply SetR.s)
    (hne : Nat.beq id id2 = false := by rfl) : GhB B (St N asg oa nx) (St N asg ((id, some ⟨(), n, [r']⟩) :: (id2, none) :: oa) nx) := f_cl id id2 0 j hne ho ho2 (nest_map xs) rfl hj hl (one_set hs)
theorem q_nlc (id j m : Nat) (ho : lko oa nx id = some ⟨(), n, [r]⟩ := by rfl) (hj : r[j]? = some .nl := by rfl) (hs : SetR r j (.ref () nx 0 0) r' := by repeat first | exact SetR.z | apply SetR.s) :
    GhB B (St N asg oa nx) (St N asg ((id, some ⟨(), n, [r']⟩) :: (nx, some ⟨(), m, []⟩) :: oa) (nx + 1)) := f_nlc id 0 j m ho rfl hj (one_set hs)
theorem q_cb {α : Type} {e e' : α → List (L Unit)} [EncO e] [EncD e e'] {xs : List α} (id j : Nat) (ho : lko oa nx id = some ⟨(), n, [r]⟩ := by rfl) (hj : r[j]? = some (.os () m (xs.map e)) := by rfl) (hs : SetR r j (.bs () m (xs.map e')) r' := by repeat first | exact SetR.z | apply SetR.s) :
    GhB B (St N asg oa nx) (St N asg ((id, some ⟨(), n, [r']⟩) :: oa) nx) := f_cb id 0 j ho rfl hj (one_set hs)
theorem q_nlcR (id j m : Nat) (ho : lko oa nx id = some ⟨(), n, [r]⟩ := by rfl) (hj : r[j]? = some .nl := by rfl) (hs : SetR r j (.ref () nx 0 0) r' := by repeat first | exact SetR.z | apply SetR.s) :
    GhB B (Rt us oa nx) (Rt us ((id, some ⟨(), n, [r']⟩) :: (nx, some ⟨(), m, []⟩) :: oa) (nx + 1)) := f_nlcR id 0 j m ho rfl hj (one_set hs)
theorem q_cz (id id2 j : Nat) (ho : lko oa nx id = some ⟨(), n, [r]⟩ := by rfl) (ho2 : lko oa nx id2 = some ⟨(), m, []⟩ := by rfl) (hj : r[j]? = some (.ref () id2 0 0) := by rfl) (hs : SetR r j (.os () m []) r' := by repeat first | exact SetR.z | apply SetR.s)
    (hne : Nat.beq id id2 = false := by rfl) : GhB B (St N asg oa nx) (St N asg ((id, some ⟨(), n, [r']⟩) :: (id2, none) :: oa) nx) := f_cl id id2 0 j hne ho ho2 rfl rfl hj rfl (one_set hs)
theorem q_czR (id id2 j : Nat) (ho : lko oa nx id = some ⟨(), n, [r]⟩ := by rfl) (ho2 : lko oa nx id2 = some ⟨(), m, []⟩ := by rfl) (hj : r[j]? = some (.ref () id2 0 0) := by rfl) (hs : SetR r j (.os () m []) r' := by repeat first | exact SetR.z | apply SetR.s)
    (hne : Nat.beq id id2 = false := by rfl) : GhB B (Rt us oa nx) (Rt us ((id, some ⟨(), n, [r']⟩) :: (id2, none) :: oa) nx) := f_clR id id2 0 j hne ho ho2 rfl rfl hj rfl (one_set hs)
theorem q_opM {α β : Type} [Inhabited α] {enc : α → List (L Unit)} {e2 : β → List (L Unit)} {xs : List α} {ys : List β} {ix : Int} (id j : Nat) (hx : 0 ≤ ix ∧ ix < (xs.length : Int)) (ho : lko oa nx id = some ⟨(), n, List.map enc xs⟩ := by rfl) (hj : (enc (at_ xs ix))[j]? = some (.os () m (List.map e2 ys)) := by rfl)
    (hs : SetR (enc (at_ xs ix)) j (.ref () nx 0 ys.length) r' := by repeat first | exact SetR.z | apply SetR.s) : GhB B (St N asg oa nx) (St N asg ((id, some ⟨(), n, (List.map enc xs).set ix.toNat r'⟩) :: (nx, some ⟨(), m, List.map e2 ys⟩) :: oa) (nx + 1)) := f_op id ix.toNat j ho (map_get hx) hj (List.length_map _).symm (by rw [hs.eq])
theorem q_clT {α β : Type} {enc : α → List (L Unit)} {e2 : β → List (L Unit)} [EncO e2] {xs : List α} {ys : List β} {ix : Int} (v : α) (id id2 j : Nat) (hx : 0 ≤ ix ∧ ix < (xs.length : Int)) (ho : lko oa nx id = some ⟨(), n, (List.map enc xs).set ix.toNat r⟩ := by rfl) (ho2 : lko oa nx id2 = some ⟨(), m, List.map e2 ys⟩ := by rfl) (hj : r[j]? = some (.ref () id2 0 len) := by rfl)
    (hl : len = (List.map e2 ys).length := by first | rfl | simp) (hs : r.set j (.os () m (List.map e2 ys)) = enc v := by rfl) (hne : Nat.beq id id2 = false := by rfl) : GhB B (St N asg oa nx) (St N asg ((id, some ⟨(), n, List.map enc (xs.set ix.toNat v)⟩) :: (id2, none) :: oa) nx) :=
  f_cl id id2 ix.toNat j hne ho ho2 (nest_map ys) (set_get hx) hj hl (set_map2 hs)
theorem q_nb {c c' : List (L Unit)} (t j m : Nat) (hN : Nat.blt t N = true := by rfl) (ht : lkp asg t = some (.u (.agg c)) := by rfl) (hj : c[j]? = some .nl := by rfl) (hs : SetR c j (.bs () m []) c' := by repeat first | exact SetR.z | apply SetR.s) : GhB B (St N asg oa nx) (St N ((t, .u (.agg c')) :: asg) oa nx) :=
  f_nb t j m hN ht hj (by simp only [setLf, hs.eq])
end
abbrev vI (n : Int) : V Unit := .u (.one (.int .i64 n))
abbrev vB (b : Bool) : V Unit := .u (.one (.bool b))
abbrev vP (i : Nat) : V Unit := .u (.one (.ptr () i 0 0))
abbrev vR (i n : Nat) : V Unit := .u (.one (.ref () i 0 n))
abbrev oM {α : Type} (n : Nat) (enc : α → List (L Unit)) (xs : List α) : Option (Ob Unit) := some ⟨(), n, List.map enc xs⟩
abbrev oL (n : Nat) (r : List (L Unit)) : Option (Ob Unit) := some ⟨(), n, [r]⟩
theorem gH {P : Program} {B : Bd} {c : Code} {Q : Exit → S Unit → Prop} {s s' : S Unit} (hg : GhB B s s') (h : Wp (P := P) B c Q s') : Wp (P := P) B c Q s := Wp.ghb s' hg h
theorem lP {P : Program} {B : Bd} {c : Code} {Q : Exit → S Unit → Prop} {s : S Unit} {σ ρ : Type} {body : σ → Option (σ ⊕ ρ)} {st0 : σ} {r : ρ} (hl : loopO body st0 = some r) (S' : σ → S Unit) (R : ρ → Exit × S Unit) (h0 : GhB B s (S' st0))
    (round : ∀ st x, body st = some x → Wp (P := P) B c (fun e s' => match x with | .inl st' => e = .normal ∧ GhB B s' (S' st') | .inr r' => e = (R r').1 ∧ GhB B s' (R r').2) (S' st))
    (hQ : Q (R r).1 (R r).2) (hx : ∀ y, (R y).1 ≠ .normal := by intro y; simp) : Wp (P := P) B (.loop c) Q s := c_loop hl S' R h0 round hx hQ
theorem fN {P : Program} {f : FuncId} {F : Func} {c : Code} {args : List (U Unit)} {obs obs' : List (Ob Unit)} {r : V Unit} (N k0 : Nat) (hf : P.funcs[f]? = some F) (rs : List ResultVar)
    (hw : ∀ B, B.n0 = k0 → Wp (P := P) B c (RetQ P B rs obs r obs') (St N (asgOf 0 args) (oaOf 0 obs) k0)) (hb : F.body = some c := by rfl) (hN : F.ntmps = N := by rfl) (hk0 : obs.length = k0 := by rfl) (hn : Nat.ble args.length N = true := by rfl)
    (hrs : F.results.toList = rs := by rfl) (hk : args.all (fun u => (leavesU u).all fun l => (idsL l).all fun i => Nat.blt i obs.length) = true := by rfl) (hk2 : obs.all (fun o => knowsR obs.length o.rows) = true := by first | rfl | (repeat first | exact rfl | refine ko_c (by first | exact knows_map _ _ | rfl) ?_)) : Sim P f args obs r obs' :=
  sim_st hf hb hN hk0 hn hrs hk hk2 hw
end Go.Proofs.YtghdhjgoicnbcaaGreat.AM
