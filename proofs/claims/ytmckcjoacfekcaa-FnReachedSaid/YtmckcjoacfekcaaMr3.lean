import Derived.Test.YtmckcjoacfekcaaMr2
import Derived.MapKept
import Derived.Test.YtmckcjoacfekcaaProg
import Derived.KernelRfl
set_option linter.unusedVariables false
set_option linter.unusedSimpArgs false
/-! The calculus, forty-first part: the step of a call that hands objects over, whole. -/
namespace Go.Proofs.Ytmckcjoacfekcaa.AM
open Go

theorem keyed_of {ob : List (Nat × Ob Value)} {obs' : List (Ob Unit)} (h : ob.map (fun p => (p.1, erOb p.2)) = keyed obs') : ob = keyed (ob.map (·.2)) ∧ (ob.map (·.2)).map erOb = obs' := by
  have h1 : ob.map (·.1) = List.range obs'.length := by
    have := congrArg (List.map (·.1)) h
    rw [keyed_keys, List.map_map] at this
    exact this
  have h2 : (ob.map (·.2)).map erOb = obs' := by
    have := congrArg (List.map (·.2)) h
    have e : (keyed obs').map (·.2) = obs' := by
      have : ∀ (n : Nat) (l : List (Ob Unit)), ((l.zipIdx n).map (fun q => (q.2, q.1))).map (·.2) = l := by
        intro n l
        induction l generalizing n with
        | nil => rfl
        | cons x l ih => simp only [List.zipIdx_cons, List.map_cons, ih]
      exact this 0 obs'
    rw [e, List.map_map] at this
    rw [List.map_map]
    exact this
  refine ⟨?_, h2⟩
  have hl : obs'.length = ob.length := by rw [← h2]; simp
  have := rekey 0 ob (by rw [h1, hl, List.range_eq_range'])
  exact this.symm
theorem upd_pairs {g : Nat → Nat} {hs : List Nat} {hobs nobs : List (Ob Value)} (hn : hs.Nodup) (hl : hs.length = hobs.length) (hl2 : nobs.length = hobs.length) (hh : ∀ (i : Nat) (o o' : Ob Value), hobs[i]? = some o → nobs[i]? = some o' → o'.h = o.h ∧ o'.n = o.n) :
    (pairs g hs hobs).map (updP (hs.zip (nobs.map fun ob => (renOb g ob).rows))) = pairs g hs nobs := by
  apply List.ext_getElem?
  intro i
  rw [List.getElem?_map]
  by_cases hi : i < hs.length
  · have h1 : hs[i]? = some hs[i] := List.getElem?_eq_getElem hi
    have h2 : hobs[i]? = some (hobs[i]'(by omega)) := List.getElem?_eq_getElem (by omega)
    have h3 : nobs[i]? = some (nobs[i]'(by omega)) := List.getElem?_eq_getElem (by omega)
    rw [pairs_get h1 h2, pairs_get h1 h3, Option.map_some]
    have hz : (hs.zip (nobs.map fun ob => (renOb g ob).rows))[i]? = some (hs[i], (renOb g (nobs[i]'(by omega))).rows) := by
      rw [List.getElem?_zip_eq_some]
      exact ⟨h1, by rw [List.getElem?_map, h3]; rfl⟩
    have hk : ((hs.zip (nobs.map fun ob => (renOb g ob).rows)).map (·.1)).Nodup := by
      rw [List.map_fst_zip (by simp; omega)]
      exact hn
    have := lookup_get hk hz
    simp only at this
    unfold updP
    simp only [this]
    obtain ⟨e1, e2⟩ := hh i _ _ h2 h3
    simp only [renOb, e1, e2]
  · rw [List.getElem?_eq_none (by simp [pairs]; omega), List.getElem?_eq_none (by simp [pairs]; omega)]
    rfl
theorem upd_rest {upd : List (Nat × List (List (L Value)))} {rest : List (Nat × Ob Value)} (h : ∀ p ∈ rest, p.1 ∉ upd.map (·.1)) : rest.map (updP upd) = rest := by
  conv => rhs; rw [← List.map_id rest]
  refine List.map_congr_left fun p hp => ?_
  unfold updP
  rw [lookup_none (h p hp)]
  rfl
theorem leafE {us : List (U Value)} {u : U Value} (hu : u ∈ us) {l : L Value} (hl : l ∈ leavesU u) : V.u u ∈ us.map V.u ∧ l ∈ leavesV (V.u u) := ⟨List.mem_map.2 ⟨u, hu, rfl⟩, hl⟩
set_option maxHeartbeats 4000000 in
theorem stepOk_callG {P : Program} {o : Oper} {s : S Unit} {nid : Nat} {e : Eff} (h : CallG P o s nid e) : StepOk P o s nid e := by
  obtain ⟨c, f, caps, cs, us, hs, obs, obs', r, lent, ho, hcal, hnd, hhand, hkn, hargs, hcaps, hcsk, hent, hsim, himf, rfl⟩ := h
  intro B d a W hd hi hsl hf hdef
  subst hd
  refine ⟨trivial, ?_⟩
  generalize hgd : gG hs nid = g at *
  have hgi : ∀ i h, hs[i]? = some h → g i = h := fun i h h1 => by rw [← hgd]; exact gG_lt h1
  have hge : ∀ i, hs.length ≤ i → g i = nid + (i - hs.length) := fun i h1 => by rw [← hgd]; exact gG_ge h1
  -- the callee
  obtain ⟨x, hx, v, hlx⟩ : ∃ x, c.callee = .value x ∧ ∃ v, lO (evA (erS d) x) = some (.fn v f caps) := by
    unfold calE at hcal
    split at hcal
    · rename_i x hcx
      split at hcal
      · rename_i v f' caps' hl
        cases hcal
        exact ⟨x, hcx, v, hl⟩
      · cases hcal
    · cases hcal
  obtain ⟨l', h1, h2, h3⟩ := leaf_ok hi.good hsl hlx
  obtain ⟨v', caps', rfl, hc'⟩ : ∃ v' caps', l' = .fn v' f caps' ∧ caps'.map erL = caps := by
    cases l' <;> simp [mapL] at h1
    rename_i v' f' c'
    exact ⟨v', c', by rw [h1.1], by rw [← h1.2, mapC_eq]⟩
  obtain ⟨_, hv', hw'⟩ := h3.1
  have hcap : ∀ l ∈ caps', Has d l := fun l hl => by
    refine ⟨(wfC_iff _ _).1 hw' l hl, (refOkC_iff _ _).1 h3.2.1 l hl, fun p hp => h3.2.2.1 p ?_, fun i hi => h3.2.2.2 i ?_⟩
    · simp only [immL, immC_eq]
      exact List.mem_flatMap.2 ⟨l, hl, hp⟩
    · simp only [idsL, idsC_eq]
      exact List.mem_flatMap.2 ⟨l, hl, hi⟩
  obtain ⟨cs', hcs1, hcs2⟩ := erLs_ren g (hc'.trans hcaps)
  -- what is handed over
  obtain ⟨hobs, hob1, hob2⟩ := hand_lift hhand
  have hlen := all2_len hob2
  obtain ⟨rest, hperm, hrl, hrk, hgr, hrimm, hdc, hown⟩ := hand_in hi hnd hob2 hgi
  obtain ⟨us', hus1, hus2⟩ := argsG_ok (dr := ⟨d.sl, rest, d.nx⟩) (dcob := keyed hobs) hi.good hgr hsl ⟨hsl.1, hsl.2⟩ rfl hrl hrimm hdc hargs
  have hrun : (execOp a.eval o).run P W = .ok (.enter f (c.args.toList.map a.eval ++ cs'.map val).toArray) W := by
    simp only [execOp, ho, resolve, hx, h2, val, hv', Deferred.ofValue, pure_bind, invoke]
    rw [run_callFunc hent]
    congr 2
    apply Array.ext'
    have e : caps'.map val = cs'.map val := by rw [← hcs2, List.map_map]; exact List.map_congr_left fun l _ => val_ren g l
    simp [e]
  let args' : List (U Value) := us' ++ cs'.map U.one
  let dc : S Value := ⟨args'.map V.u, keyed hobs, hobs.length⟩
  have hargl : ∀ u ∈ args', ∀ l ∈ leavesU u, noOs l = true ∧ (∀ i ∈ idsL l, i < hs.length) ∧ wfL false l ∧ refOk (keyed hobs) l ∧ ∀ p ∈ immL l, p.2 = [] ∨ SubIn p (immS d) ∨ (lent = true ∧ ImmFact W p ∧ ∃ q ∈ ownS (⟨d.sl, rest, d.nx⟩ : S Value), q.1 = p.1.block) := by
    intro u hu l hl
    rcases List.mem_append.1 hu with hu | hu
    · obtain ⟨i, hi1⟩ := List.mem_iff_getElem?.1 hu
      have hl2 := all2_len hus2
      have hlt : i < (c.args.toList.map a.eval).length := by rw [← hl2]; exact (List.getElem?_eq_some_iff.1 hi1).1
      exact (all2_get hus2 i u _ hi1 (List.getElem?_eq_getElem hlt)).leaf l hl
    · obtain ⟨l0, hl0, rfl⟩ := List.mem_map.1 hu
      simp only [leavesU, List.mem_singleton] at hl
      subst hl
      have hh := hcap (renL g l) (by rw [← hcs2]; exact List.mem_map.2 ⟨l, hl0, rfl⟩)
      have hk := List.all_eq_true.1 hcsk (erL l) (by rw [← hcs1]; exact List.mem_map.2 ⟨l, hl0, rfl⟩)
      rw [okK_iff, noOs_er, idsL_er] at hk
      exact ⟨hk.1, hk.2, (wf_ren g false l).1 hh.1, refOk_ren hdc l hh.2.1, fun p hp => .inr (.inl (hh.2.2.1 p (by rwa [imm_ren])))⟩
  have hno : ∀ u ∈ args', ∀ l ∈ leavesU u, noOs l = true := fun u hu l hl => (hargl u hu l hl).1
  have hperm0 := hown args' hno
  have hnd0 := (hperm0.map (·.1)).nodup_iff.1 hi.good.nodup
  rw [List.map_append, List.nodup_append] at hnd0
  -- the leaves of what is handed over
  have hrow : ∀ (i : Nat) ob, hobs[i]? = some ob → ∃ h, hs[i]? = some h ∧ look d.ob h = some (renOb g ob) := fun i ob hi1 => by
    have hlt := (List.getElem?_eq_some_iff.1 hi1).1
    exact ⟨_, List.getElem?_eq_getElem (by omega), all2_get hob2 i _ _ (List.getElem?_eq_getElem (by omega)) hi1⟩
  have hrowl : ∀ p ∈ keyed hobs, ∀ r ∈ p.2.rows, ∀ l ∈ r, renL g l ∈ tops d := fun p hp r hr l hl => by
    have h5 := (zipIdx_mem (n := 0) hp).2
    obtain ⟨h, _, h7⟩ := hrow _ _ h5
    exact mem_tops.2 (.inr (mem_obLeaves.2 ⟨_, find?_key h7, r.map (renL g), List.mem_map.2 ⟨r, hr, rfl⟩, List.mem_map.2 ⟨l, hl, rfl⟩⟩))
  have hids : ∀ l ∈ tops dc, ∀ i ∈ idsL l, i < obs.length := by
    intro l hl i hi1
    have hol : obs.length = hs.length := by rw [← hob1, List.length_map, hlen]
    rcases mem_tops.1 hl with ⟨u0, hu0, hl⟩ | hl
    · obtain ⟨u, hu1, rfl⟩ := List.mem_map.1 hu0
      rw [hol]
      exact (hargl u hu1 l hl).2.1 i hi1
    · obtain ⟨p, hp, r, hr, hl⟩ := mem_obLeaves.1 hl
      have h5 := (zipIdx_mem (n := 0) hp).2
      have h6 := hkn (erOb p.2) (by rw [← hob1]; exact List.mem_map.2 ⟨_, List.mem_of_getElem? h5, rfl⟩)
      simp only [knowsR, mapOb, List.all_map, List.all_eq_true, Function.comp_def] at h6
      have := h6 r hr l hl i (by rw [idsL_er]; exact hi1)
      rw [hol]
      exact blt_lt this
  have himmdc : ∀ p ∈ immS dc, p.2 = [] ∨ SubIn p (immS d) ∨ (lent = true ∧ ImmFact W p ∧ ∃ q ∈ ownS (⟨d.sl, rest, d.nx⟩ : S Value), q.1 = p.1.block) := by
    intro p hp
    obtain ⟨l, hl, hp⟩ := List.mem_flatMap.1 hp
    rcases mem_tops.1 hl with ⟨u0, hu0, hl⟩ | hl
    · obtain ⟨u, hu1, rfl⟩ := List.mem_map.1 hu0
      exact (hargl u hu1 l hl).2.2.2.2 p hp
    · obtain ⟨q, hq, r, hr, hl⟩ := mem_obLeaves.1 hl
      exact .inr (.inl (.of_mem (List.mem_flatMap.2 ⟨_, hrowl q hq r hr l hl, by rwa [imm_ren]⟩)))
  have hgood : Good W dc := {
    wf := fun l hl => by
      rcases mem_tops.1 hl with ⟨u0, hu0, hl⟩ | hl
      · obtain ⟨u, hu1, rfl⟩ := List.mem_map.1 hu0
        have := hargl u hu1 l hl
        exact ⟨this.2.2.1, this.2.2.2.1⟩
      · obtain ⟨p, hp, r, hr, hl⟩ := mem_obLeaves.1 hl
        have := hi.good.wf _ (hrowl p hp r hr l hl)
        exact ⟨(wf_ren g false l).1 this.1, refOk_ren hdc l this.2⟩
    obs := fun p hp => by
      have h5 := (zipIdx_mem (n := 0) hp).2
      obtain ⟨h, _, h7⟩ := hrow _ _ h5
      have := hi.good.obs _ (find?_key h7)
      simp only [renOb, List.map_eq_nil_iff, List.length_map] at this
      refine ⟨this.1, fun r hr => ?_⟩
      have := this.2 (r.map (renL g)) (List.mem_map.2 ⟨r, hr, rfl⟩)
      simpa using this
    ids := by
      show ((keyed hobs).map (·.1)).Nodup
      rw [keyed_keys]; exact List.nodup_range
    own := fun p hp => hi.good.own p (hperm0.mem_iff.2 (List.mem_append_left _ hp))
    nodup := hnd0.1
    imm := fun p hp hne => by
      rcases himmdc p hp with h0 | h0 | ⟨_, h0, q, hq, hqe⟩
      · exact absurd h0 hne
      · rcases h0 with h0 | ⟨q, hq, hs'⟩
        · exact absurd h0 hne
        · obtain ⟨k1, k2⟩ := hi.good.imm q hq (hs'.ne hne)
          exact ⟨hs'.fact k1, fun q2 hq2 => by rw [hs'.1]; exact k2 q2 (hperm0.mem_iff.2 (List.mem_append_left _ hq2))⟩
      · exact ⟨h0, fun q2 hq2 e => hnd0.2.2 q2.1 (List.mem_map.2 ⟨q2, hq2, rfl⟩) q.1 (List.mem_map.2 ⟨q, hq, rfl⟩) (e.trans hqe.symm)⟩ }
  have hall : All2 UR args' (c.args.toList.map a.eval ++ cs'.map val) :=
    all2_append (all2_imp (fun _ _ h => h.ur) hus2) (all2_map fun l _ => rfl)
  have hobk : (erS dc).ob = obs.zipIdx.map (fun q => (q.2, q.1)) := by
    rw [← hob1]
    simp only [dc, erS, mapS, keyed, List.zipIdx_map, List.map_map]
    rfl
  have hcalls := hsim W dc args' _ rfl (by simp [args', hus1, ← hcs1, mapU, Function.comp_def]) hall hobk hgood hids
  unfold Oper.wp
  rw [hrun]
  simp only [Oper.upon]
  refine Calls.mono hcalls fun e W' he => ?_
  obtain ⟨y, d', rv, rfl, hd'sl, hrv, hd'ob, hvr, hend⟩ := he
  have hd'ob2 : d'.ob.map (fun p => (p.1, erOb p.2)) = keyed obs' := hd'ob
  obtain ⟨hk1, hk2⟩ := keyed_of hd'ob2
  generalize hno2 : d'.ob.map (·.2) = nobs at hk1 hk2
  have hm : obs'.length = nobs.length := by rw [← hk2]; simp
  have hk0 : hobs.length = hs.length := hlen.symm
  have hdcob : dc.ob.length = hs.length := by simp [dc, keyed, hk0]
  -- headers
  have hhdr := hend.hdr
  rw [hdcob] at hhdr
  have hkm : hs.length ≤ nobs.length := by
    have := congrArg List.length hhdr
    simp only [List.length_map, List.length_take, hdcob] at this
    rw [hk1] at this
    simp [keyed] at this
    omega
  have hh2 : ∀ (i : Nat) (o o' : Ob Value), hobs[i]? = some o → nobs[i]? = some o' → o'.h = o.h ∧ o'.n = o.n ∧ o'.rows.length = o.rows.length := by
    intro i o1 o2 ho1 ho2
    have hlt := (List.getElem?_eq_some_iff.1 ho1).1
    have e := congrArg (fun l => l[i]?) hhdr
    simp only [List.getElem?_map, List.getElem?_take] at e
    rw [if_pos (by omega)] at e
    have e1 : dc.ob[i]? = some (i, o1) := by
      show (keyed hobs)[i]? = _
      simp [keyed, List.getElem?_map, List.getElem?_zipIdx, ho1]
    have e2 : d'.ob[i]? = some (i, o2) := by
      rw [hk1]
      simp [keyed, List.getElem?_map, List.getElem?_zipIdx, ho2]
    rw [e1, e2] at e
    simp only [Option.map_some, Option.some.injEq, Prod.mk.injEq, true_and] at e
    exact e
  -- the state behind the call
  have hlen2 : nobs.length = obs'.length := hm.symm
  generalize hrr : rootV hdV (nid + (nobs.length - hs.length)) (renV g rv) = rr
  obtain ⟨rv', ro⟩ := rr
  have herv := rootV_er (nid + (nobs.length - hs.length)) (renV g rv)
  rw [renV_er, hrv, hrr] at herv
  simp only at herv
  rw [hm] at hf ⊢
  rw [herv] at hf ⊢
  simp only [List.length_append, List.length_map, List.length_drop, hm] at hf ⊢
  obtain ⟨hlv, hlo⟩ := rootV_leaves hdV (nid + (nobs.length - hs.length)) (renV g rv)
  have hmm := rootLs_mem (nid + (nobs.length - hs.length)) (leavesV (renV g rv))
  have hrokeys := rootLs_keys hdV (nid + (nobs.length - hs.length)) (leavesV (renV g rv))
  have hroown := rootLs_own (nid + (nobs.length - hs.length)) (leavesV (renV g rv))
  rw [← hlv, ← hlo] at hmm
  rw [← hlo] at hrokeys
  rw [← hlv, ← hlo] at hroown
  rw [hrr] at hmm hrokeys hroown
  simp only at hmm hrokeys hroown
  have hrvk : ∀ l ∈ leavesV rv, l ∈ tops d' := fun l hl => mem_tops.2 (.inl ⟨rv, by rw [hd'sl]; simp, hl⟩)
  let nk := nobs.take hs.length
  let nn := nobs.drop hs.length
  let updV : List (Nat × List (List (L Value))) := hs.zip (nk.map fun ob => (renOb g ob).rows)
  let obU := d.ob.map (updP updV)
  let newsA : List (Nat × Ob Value) := ((nn.map (renOb g)).zipIdx nid).map (fun q => (q.2, q.1))
  let ob1 := obU ++ (newsA ++ ro)
  let d1 : S Value := ⟨d.sl ++ [rv'], ob1, d.nx + (nobs.length - hs.length + ro.length)⟩
  have hnkl : nk.length = hobs.length := by simp [nk]; omega
  have hnkg : ∀ (i : Nat) o', nk[i]? = some o' → nobs[i]? = some o' ∧ i < hs.length := fun i o' h => by
    have hlt := (List.getElem?_eq_some_iff.1 h).1
    simp only [nk, List.getElem?_take] at h
    split at h
    · exact ⟨h, by omega⟩
    · cases h
  have hnng : ∀ (i : Nat) o', nn[i]? = some o' → nobs[hs.length + i]? = some o' := fun i o' h => by
    simp only [nn, List.getElem?_drop] at h
    exact h
  have hU : obU.Perm (pairs g hs nk ++ rest) := by
    have h5 := hperm.map (updP updV)
    rw [List.map_append, upd_pairs hnd hlen hnkl (fun i o1 o2 a1 a2 => by
      have := hh2 i o1 o2 a1 (hnkg i o2 a2).1
      exact ⟨this.1, this.2.1⟩), upd_rest (upd := updV) (rest := rest) (fun p hp => by
      have e : updV.map (·.1) = hs := List.map_fst_zip (by simp [hnkl]; omega)
      rw [e]
      exact hrk p hp)] at h5
    exact h5
  have hUk : obU.map (·.1) = d.ob.map (·.1) := by
    simp only [obU, List.map_map]
    exact List.map_congr_left fun p _ => updP_key updV p
  have hnewk : (newsA ++ ro).map (·.1) = List.range' nid (nobs.length - hs.length + ro.length) := by
    have e1 : newsA.map (·.1) = List.range' nid (nobs.length - hs.length) := by
      rw [zipIdx_keys]
      simp [nn]
    rw [List.map_append, e1, hrokeys, List.range'_append_1]
  have hnk : ∀ i, Knows d i → i ∉ (newsA ++ ro).map (·.1) := fun i hk hm2 => by
    rw [hnewk, List.mem_range'_1] at hm2
    have := hf.1 i hk
    omega
  have hnodup : (ob1.map (·.1)).Nodup := by
    show ((obU ++ (newsA ++ ro)).map (·.1)).Nodup
    rw [List.map_append, List.nodup_append]
    refine ⟨by rw [hUk]; exact hi.good.ids, by rw [hnewk]; exact List.nodup_range', fun i hi2 j hj e => ?_⟩
    subst e
    rw [hUk] at hi2
    exact hnk i (.inr hi2) hj
  -- members
  have hpk : ∀ p ∈ pairs g hs nk, ∃ (j h : Nat) (ob ob0 : Ob Value), hs[j]? = some h ∧ nobs[j]? = some ob ∧ hobs[j]? = some ob0 ∧ p = (h, renOb g ob) ∧ look d.ob h = some (renOb g ob0) := by
    intro p hp
    obtain ⟨q, hq, rfl⟩ := List.mem_map.1 hp
    obtain ⟨j, hj⟩ := List.getElem?_of_mem hq
    rw [List.getElem?_zip_eq_some] at hj
    obtain ⟨a1, a2⟩ := hnkg j _ hj.2
    have a3 : hobs[j]? = some (hobs[j]'(by omega)) := List.getElem?_eq_getElem (by omega)
    exact ⟨j, _, _, _, hj.1, a1, a3, rfl, all2_get hob2 j _ _ hj.1 a3⟩
  have hrestm : ∀ p ∈ rest, p ∈ d.ob := fun p hp => hperm.mem_iff.2 (List.mem_append_right _ hp)
  have hnewm : ∀ p ∈ newsA, ∃ (j : Nat) (ob : Ob Value), nobs[j]? = some ob ∧ hs.length ≤ j ∧ p = (nid + (j - hs.length), renOb g ob) := by
    intro p hp
    obtain ⟨a1, a2⟩ := zipIdx_mem hp
    rw [List.getElem?_map, Option.map_eq_some_iff] at a2
    obtain ⟨ob, a3, a4⟩ := a2
    refine ⟨hs.length + (p.1 - nid), ob, hnng _ _ a3, by omega, ?_⟩
    rw [a4]
    refine Prod.ext ?_ rfl
    simp only
    omega
  have hd'm : ∀ (j : Nat) ob, nobs[j]? = some ob → (j, ob) ∈ d'.ob := fun j ob h => by
    rw [hk1]
    have := zipIdx_mk (n := 0) h
    simpa [keyed] using this
  have hd'l : ∀ (j : Nat) ob, nobs[j]? = some ob → ∀ r ∈ ob.rows, ∀ l ∈ r, l ∈ tops d' := fun j ob h r hr l hl =>
    mem_tops.2 (.inr (mem_obLeaves.2 ⟨_, hd'm j ob h, r, hr, hl⟩))
  have hkn' : ∀ l ∈ tops d', ∀ i ∈ idsL l, i < nobs.length := fun l hl i hi1 => by
    have := hend.known l hl i hi1
    rw [hk1] at this
    simpa [keyed] using this
  have hL1 : ∀ (j : Nat) ob, nobs[j]? = some ob → look ob1 (g j) = some (renOb g ob) := fun j ob h => by
    refine look_mem hnodup ?_
    rcases Nat.lt_or_ge j hs.length with hj | hj
    · have a1 : hs[j]? = some hs[j] := List.getElem?_eq_getElem hj
      rw [hgi j _ a1]
      refine List.mem_append_left _ (hU.mem_iff.2 (List.mem_append_left _ ?_))
      have a2 : nk[j]? = some ob := by simp [nk, List.getElem?_take, hj, h]
      exact List.mem_of_getElem? (pairs_get a1 a2)
    · rw [hge j hj]
      refine List.mem_append_right _ (List.mem_append_left _ ?_)
      exact zipIdx_mk (by
        rw [List.getElem?_map]
        have : nn[j - hs.length]? = some ob := by
          simp only [nn, List.getElem?_drop]
          rw [show hs.length + (j - hs.length) = j by omega]
          exact h
        rw [this]
        rfl)
  have hA : ∀ l ∈ tops d', wfL false (renL g l) ∧ refOk ob1 (renL g l) := fun l hl => by
    have h5 := hend.good.wf l hl
    refine ⟨(wf_ren g false l).2 h5.1, refOk_tr (fun i hi1 o' ho' => ?_) h5.2⟩
    have hlt := hkn' l hl i hi1
    have a1 : nobs[i]? = some nobs[i] := List.getElem?_eq_getElem hlt
    rw [hL1 i _ a1] at ho'
    cases ho'
    refine ⟨nobs[i], ?_, rfl, rfl, by simp [renOb]⟩
    rw [hk1]
    exact keyed_look.2 a1
  have hB : ∀ l, Has d l → refOk ob1 l := fun l hh => by
    refine refOk_same (fun i hi1 o' ho' => ?_) hh.2.1
    have hkw := hh.2.2.2 i hi1
    have hmem1 := find?_key ho'
    rcases List.mem_append.1 hmem1 with h5 | h5
    · rcases List.mem_append.1 (hU.mem_iff.1 h5) with h5 | h5
      · obtain ⟨j, h, ob, ob0, a1, a2, a3, a4, a5⟩ := hpk _ h5
        cases a4
        have := hh2 j ob0 ob a3 a2
        exact ⟨_, a5, by simp [renOb, this.1], by simp [renOb, this.2.1], by simp [renOb, this.2.2]⟩
      · exact ⟨o', look_mem hi.good.ids (hrestm _ h5), rfl, rfl, rfl⟩
    · exact absurd (List.mem_map.2 ⟨_, h5, rfl⟩) (hnk i hkw)
  have hrvl : ∀ v' m' rows, (.os v' m' rows : L Value) ∈ leavesV (renV g rv) → (.os v' m' rows : L Value) ∈ leavesV rv := fun v' m' rows h => by
    rw [leavesV_ren] at h
    obtain ⟨l0, a1, a2⟩ := List.mem_map.1 h
    cases l0 <;> simp only [renL, reduceCtorEq] at a2
    cases a2
    exact a1
  have hro : ∀ p ∈ ro, ∃ v' m' rows, (.os v' m' rows : L Value) ∈ leavesV rv ∧ p.2 = ⟨hdV v', m', rows⟩ ∧ isOwn v' rows ∧ (∀ r ∈ rows, r.length = m') ∧ wfR true rows := fun p hp => by
    obtain ⟨v', m', rows, a1, a2⟩ := hmm.2 p hp
    have a3 := hrvl _ _ _ a1
    have := (hend.good.wf _ (hrvk _ a3)).1
    exact ⟨v', m', rows, a3, a2, this.1, this.2.1, this.2.2⟩
  have hrol : ∀ p ∈ ro, ∀ r ∈ p.2.rows, ∀ l ∈ r, wfL true l ∧ ∀ q ∈ immL l, q ∈ immS d' := fun p hp r hr l hl => by
    obtain ⟨v', m', rows, a1, a2, _, _, a5⟩ := hro p hp
    rw [a2] at hr
    refine ⟨(wfR_iff _ _).1 a5 r hr l hl, fun q hq => List.mem_flatMap.2 ⟨_, hrvk _ a1, ?_⟩⟩
    simp only [immL, immR_eq]
    exact List.mem_flatMap.2 ⟨l, List.mem_flatten.2 ⟨r, hr, hl⟩, hq⟩
  have hwfo : ∀ l ∈ leavesV rv', wfL false l ∧ refOk ob1 l ∧ noOs l = true ∧ (∀ i ∈ idsL l, (∃ j, j < nobs.length ∧ i = g j) ∨ i ∈ ro.map (·.1)) ∧ ∀ q ∈ immL l, q ∈ immS d' := fun l hl => by
    rcases hmm.1 l hl with ⟨a1, a2⟩ | ⟨i, v', m', rows, rfl, a2, a3⟩
    · rw [leavesV_ren] at a1
      obtain ⟨l0, a3, rfl⟩ := List.mem_map.1 a1
      have := hA l0 (hrvk l0 a3)
      refine ⟨this.1, this.2, a2, fun i hi1 => ?_, fun q hq => ?_⟩
      · rw [idsL_ren] at hi1
        obtain ⟨j, a4, rfl⟩ := List.mem_map.1 hi1
        exact .inl ⟨j, hkn' l0 (hrvk l0 a3) j a4, rfl⟩
      · rw [imm_ren] at hq
        exact List.mem_flatMap.2 ⟨l0, hrvk l0 a3, hq⟩
    · have a4 := (hend.good.wf _ (hrvk _ (hrvl _ _ _ a2))).1
      have hown2 := a4.1
      have hv2 : ∃ a n c, v' = .slice a n c := by
        rcases hown2 with ⟨rfl, _⟩ | ⟨_, _, _, rfl, _⟩ <;> exact ⟨_, _, _, rfl⟩
      refine ⟨⟨rfl, hv2⟩, fun o2 ho2 => ?_, rfl, fun j hj => ?_, fun q hq => by simp [immL] at hq⟩
      · rw [look_mem hnodup (List.mem_append_right _ (List.mem_append_right _ a3))] at ho2
        cases ho2
        refine ⟨by simp, ?_⟩
        rcases hown2 with ⟨rfl, _⟩ | ⟨b, x, c, rfl, _⟩
        · exact .inl ⟨rfl, rfl⟩
        · exact .inr ⟨b, x, c, rfl, .inl (by simp)⟩
      · simp only [idsL, List.mem_singleton] at hj
        subst hj
        exact .inr (List.mem_map.2 ⟨_, a3, rfl⟩)
  -- what stands on top
  have htop1 : ∀ l ∈ tops d1, l ∈ tops d ∨ (∃ l0 ∈ tops d', l = renL g l0) ∨ l ∈ leavesV rv' ∨ ∃ p ∈ ro, ∃ r ∈ p.2.rows, l ∈ r := fun l hl => by
    rcases mem_tops.1 hl with ⟨u, hu, hl2⟩ | hl
    · rcases List.mem_append.1 hu with hu | hu
      · exact .inl (mem_tops.2 (.inl ⟨u, hu, hl2⟩))
      · simp only [List.mem_singleton] at hu
        subst hu
        exact .inr (.inr (.inl hl2))
    · obtain ⟨p, hp, r, hr, hl⟩ := mem_obLeaves.1 hl
      rcases List.mem_append.1 hp with hp | hp
      · rcases List.mem_append.1 (hU.mem_iff.1 hp) with hp | hp
        · obtain ⟨j, h, ob, ob0, a1, a2, a3, rfl, a5⟩ := hpk _ hp
          obtain ⟨r0, b1, rfl⟩ := List.mem_map.1 hr
          obtain ⟨l0, b2, rfl⟩ := List.mem_map.1 hl
          exact .inr (.inl ⟨l0, hd'l j ob a2 r0 b1 l0 b2, rfl⟩)
        · exact .inl (mem_tops.2 (.inr (mem_obLeaves.2 ⟨p, hrestm p hp, r, hr, hl⟩)))
      · rcases List.mem_append.1 hp with hp | hp
        · obtain ⟨j, ob, a1, a2, rfl⟩ := hnewm _ hp
          obtain ⟨r0, b1, rfl⟩ := List.mem_map.1 hr
          obtain ⟨l0, b2, rfl⟩ := List.mem_map.1 hl
          exact .inr (.inl ⟨l0, hd'l j ob a1 r0 b1 l0 b2, rfl⟩)
        · exact .inr (.inr (.inr ⟨p, hp, r, hr, hl⟩))
  have hinv1 : Inv B W' d1 := by
    refine call_core hi (rest := ownS ⟨d.sl, rest, d.nx⟩) hperm0 ?_ hend ?_ (fun p hp => ?_) (fun l hl => ?_) (fun p hp => ?_) hnodup (fun p hp hlt => ?_)
    · rcases himf with h5 | ⟨h5, h6⟩
      · left
        intro q hq hne
        rcases himmdc q hq with h7 | h7 | ⟨h7, _⟩
        · exact absurd h7 hne
        · rcases h7 with h7 | ⟨q', hq', hs'⟩
          · exact absurd h7 hne
          · exact ⟨q', hq', hs'.ne hne, hs'.1.symm⟩
        · rw [h5] at h7; cases h7
      · right
        simp only [immS, List.flatMap_eq_nil_iff]
        intro l hl
        rcases mem_tops.1 hl with ⟨u, hu, hl⟩ | hl
        · rw [hd'sl] at hu
          simp only [List.mem_singleton] at hu
          subst hu
          rw [← hrv] at h5
          simp only [immFreeV, leavesV_map, List.all_map, List.all_eq_true, Function.comp_def] at h5
          exact immFree_er (h5 l hl)
        · obtain ⟨p, hp, r, hr, hl⟩ := mem_obLeaves.1 hl
          have h7 := h6 (erOb p.2) (by rw [← hk2, ← hno2]; exact List.mem_map.2 ⟨p.2, List.mem_map.2 ⟨p, hp, rfl⟩, rfl⟩)
          have h8 : immR p.2.rows = [] := immFreeR_er (by rw [mapR_eq]; exact h7)
          rw [immR_eq, List.flatMap_eq_nil_iff] at h8
          exact h8 l (List.mem_flatten.2 ⟨r, hr, hl⟩)
    · classical
      refine List.perm_iff_count.2 fun q => ?_
      have c1 := List.perm_iff_count.1 (own_split d1) q
      have c2 := List.perm_iff_count.1 (own_split d') q
      have c3 := List.perm_iff_count.1 (own_split ⟨d.sl, rest, d.nx⟩) q
      have c4 := List.perm_iff_count.1 (hU.flatMap_right ownOb) q
      have c5 := List.perm_iff_count.1 (own_obs ro) q
      have c6 := List.perm_iff_count.1 hroown.2 q
      have c7 : newsA.flatMap ownOb = nn.flatMap (fun o => ownOb (0, o)) := by
        rw [zipIdx_own, List.flatMap_map]
        exact ownOb_ren.flatMap_congr' fun o _ => ownOb_ren g 0 0 o
      have c8 : (pairs g hs nk).flatMap ownOb = nk.flatMap (fun o => ownOb (0, o)) := pairs_own (by rw [hnkl, hk0])
      have c9 : d'.ob.flatMap ownOb = nk.flatMap (fun o => ownOb (0, o)) ++ nn.flatMap (fun o => ownOb (0, o)) := by
        rw [← List.flatMap_append, List.take_append_drop, hk1]
        exact zipIdx_own 0 nobs
      have c10 : (leavesV (renV g rv)).flatMap ownL = (leavesV rv).flatMap ownL := by
        rw [leavesV_ren, List.flatMap_map]
        exact ownOb_ren.flatMap_congr' fun l _ => own_ren g l
      rw [c10] at c6
      rw [c9] at c2
      simp only [List.flatMap_append, c8, List.count_append] at c4
      simp only [d1, ob1, List.flatMap_append, c7, List.flatMap_cons, List.flatMap_nil, List.append_nil, hroown.1, List.count_append] at c1
      simp only [hd'sl, List.flatMap_cons, List.flatMap_nil, List.append_nil, List.count_append] at c2
      simp only [List.count_append] at c3 c5 c6 ⊢
      have c11 : List.count q (ownS d1) = _ := c1
      omega
    · obtain ⟨l, hl, hp⟩ := List.mem_flatMap.1 hp
      rcases htop1 l hl with h5 | ⟨l0, h5, rfl⟩ | h5 | ⟨q, hq, r', hr', h5⟩
      · exact .inl (.of_mem (List.mem_flatMap.2 ⟨l, h5, hp⟩))
      · rw [imm_ren] at hp
        exact .inr (List.mem_flatMap.2 ⟨l0, h5, hp⟩)
      · exact .inr ((hwfo l h5).2.2.2.2 p hp)
      · exact .inr ((hrol q hq r' hr' l h5).2 p hp)
    · rcases htop1 l hl with h5 | ⟨l0, h5, rfl⟩ | h5 | ⟨q, hq, r', hr', h5⟩
      · have hh := has_top hi.good h5
        exact ⟨hh.1, hB l hh⟩
      · exact hA l0 h5
      · exact ⟨(hwfo l h5).1, (hwfo l h5).2.1⟩
      · have := wf_weak (hrol q hq r' hr' l h5).1
        exact ⟨this.1, this.2.1 _⟩
    · have hren : ∀ (j : Nat) ob, nobs[j]? = some ob → (((renOb g ob).h = .slice none 0 0 ∧ (renOb g ob).rows = []) ∨ ∃ b x c, (renOb g ob).h = .slice (some ⟨b, x, none⟩) 0 c ∧ (renOb g ob).rows.length ≤ c ∧ (renOb g ob).rows.length ≤ LIM) ∧ ∀ r ∈ (renOb g ob).rows, r.length = (renOb g ob).n := fun j ob h => by
        have := hend.good.obs _ (hd'm j ob h)
        simp only at this
        refine ⟨by simpa [renOb] using this.1, fun r hr => ?_⟩
        obtain ⟨r0, b1, rfl⟩ := List.mem_map.1 hr
        simpa [renOb] using this.2 r0 b1
      rcases List.mem_append.1 hp with hp | hp
      · rcases List.mem_append.1 (hU.mem_iff.1 hp) with hp | hp
        · obtain ⟨j, h, ob, ob0, a1, a2, a3, rfl, a5⟩ := hpk _ hp
          exact hren j ob a2
        · exact hi.good.obs p (hrestm p hp)
      · rcases List.mem_append.1 hp with hp | hp
        · obtain ⟨j, ob, a1, a2, rfl⟩ := hnewm _ hp
          exact hren j ob a1
        · obtain ⟨v', m', rows, _, a2, a3, a4, _⟩ := hro p hp
          rw [a2]
          refine ⟨?_, a4⟩
          rcases a3 with ⟨rfl, rfl⟩ | ⟨b, x, c, rfl, a5, a6⟩
          · exact .inl ⟨rfl, rfl⟩
          · exact .inr ⟨b, x, c, rfl, a5, a6⟩
    · rcases List.mem_append.1 hp with hp | hp
      · rcases List.mem_append.1 (hU.mem_iff.1 hp) with hp | hp
        · obtain ⟨j, h, ob, ob0, a1, a2, a3, rfl, a5⟩ := hpk _ hp
          have := hi.hdr _ (find?_key a5) hlt
          simp only [renOb] at this ⊢
          rw [(hh2 j ob0 ob a3 a2).1]
          exact this
        · exact hi.hdr p (hrestm p hp) hlt
      · have : p.1 ∈ (newsA ++ ro).map (·.1) := List.mem_map.2 ⟨p, hp, rfl⟩
        rw [hnewk, List.mem_range'_1] at this
        have := hf.2
        omega
  obtain ⟨hinv2, htop2⟩ := inv_slot (sl := d.sl) (ob := ob1) (nx := d.nx + (nobs.length - hs.length + ro.length)) hinv1 (fun l hl => (hwfo l hl).2.2.1) o.dst
  refine ⟨setSl ⟨d.sl, ob1, d.nx + (nobs.length - hs.length + ro.length)⟩ o.dst rv', ?_, hinv2, SlR.put (d := ⟨d.sl, ob1, d.nx + (nobs.length - hs.length + ro.length)⟩) ⟨hsl.1, hsl.2⟩ o.dst ?_, by rw [put_defers']; exact hdef, fun i hk => ?_⟩
  · have k1 : updV.map (fun q => (q.1, q.2.map fun r => r.map erL)) = hs.zip ((obs'.take hs.length).map fun ob => (renOb g ob).rows) := by
      rw [← hk2, ← List.map_take, List.map_map]
      simp only [updV, nk]
      rw [List.zip_map_right, List.zip_map_right, List.map_map]
      refine List.map_congr_left fun q _ => ?_
      simp only [Function.comp, Prod.map, id]
      refine Prod.ext rfl ?_
      show _ = (renOb g (erOb q.2)).rows
      rw [← renOb_er]
      rfl
    have k2 : (obs'.drop hs.length).map (renOb g) = (nn.map (renOb g)).map erOb := by
      rw [← hk2, ← List.map_drop, List.map_map, List.map_map]
      exact List.map_congr_left fun ob _ => (renOb_er g ob).symm
    have k3 : (((ro.map (fun p => (p.1, erOb p.2))).map (·.2)).zipIdx (nid + (nobs.length - hs.length))).map (fun q => (q.2, q.1)) = ro.map (fun p => (p.1, erOb p.2)) := by
      refine rekey _ _ ?_
      rw [List.map_map, List.length_map, ← hrokeys]
      rfl
    rw [erS_setSl]
    unfold appE app
    congr 1
    simp only [erS, mapS, S.mk.injEq, true_and]
    refine ⟨?_, ?_⟩
    · have k4 : obU.map (fun p => (p.1, erOb p.2)) = (d.ob.map (fun p => (p.1, erOb p.2))).map (updP (hs.zip ((obs'.take hs.length).map fun ob => (renOb g ob).rows))) := by
        rw [← k1, List.map_map, List.map_map]
        exact List.map_congr_left fun p _ => updP_er updV p
      have k5 : (d.ob.map (fun p => (p.1, erOb p.2))).filter (fun p => !([] : List Nat).contains p.1) = d.ob.map (fun p => (p.1, erOb p.2)) := List.filter_eq_self.2 (fun _ _ => rfl)
      have k6 : nn.length = nobs.length - hs.length := by simp [nn]
      rw [k5, ← k4, k2, List.zipIdx_append]
      simp only [List.length_map, ob1, List.map_append, k6]
      rw [k3]
      congr 2
      simp only [newsA, List.zipIdx_map, List.map_map]
      rfl
    · simp [hm]
  · have := rootV_VR (n := nid + (nobs.length - hs.length)) (VR_ren' g hvr)
    rw [hrr] at this
    exact this
  · have hgk : ∀ j, j < nobs.length → Knows d (g j) ∨ (nid ≤ g j ∧ g j < nid + (nobs.length - hs.length + ro.length)) := fun j hj => by
      rcases Nat.lt_or_ge j hs.length with h5 | h5
      · have a1 : hs[j]? = some hs[j] := List.getElem?_eq_getElem h5
        rw [hgi j _ a1]
        have a2 := all2_get hob2 j _ _ a1 (List.getElem?_eq_getElem (by omega))
        exact .inl (.inr (List.mem_map.2 ⟨_, find?_key a2, rfl⟩))
      · rw [hge j h5]
        exact .inr (by omega)
    rcases hk with ⟨l, hl, hi2⟩ | hi2
    · rcases htop1 l (htop2 l hl) with h5 | ⟨l0, h5, rfl⟩ | h5 | ⟨q, hq, r', hr', h5⟩
      · exact .inl (.inl ⟨l, h5, hi2⟩)
      · rw [idsL_ren] at hi2
        obtain ⟨j, a4, rfl⟩ := List.mem_map.1 hi2
        exact hgk j (hkn' l0 h5 j a4)
      · rcases (hwfo l h5).2.2.2.1 i hi2 with ⟨j, hj, rfl⟩ | h6
        · exact hgk j hj
        · have : i ∈ (newsA ++ ro).map (·.1) := by rw [List.map_append]; exact List.mem_append_right _ h6
          rw [hnewk, List.mem_range'_1] at this
          exact .inr this
      · rw [(wf_weak (hrol q hq r' hr' l h5).1).2.2] at hi2; cases hi2
    · rw [setSl_ob] at hi2
      have hi2 : i ∈ (obU ++ (newsA ++ ro)).map (·.1) := hi2
      rw [List.map_append, List.mem_append] at hi2
      rcases hi2 with hi2 | hi2
      · rw [hUk] at hi2
        exact .inl (.inr hi2)
      · rw [hnewk, List.mem_range'_1] at hi2
        exact .inr hi2
end Go.Proofs.Ytmckcjoacfekcaa.AM

/-! The calculus, forty-second part: calls that hand objects over, over states as written down. -/
namespace Go.Proofs.Ytmckcjoacfekcaa.AM
open Go

def updO : List (Nat × Ob Unit) → OAsg → OAsg
  | [], oa => oa
  | (i, o) :: l, oa => updO l ((i, some o) :: oa)
theorem updP_cons {ob : List (Nat × Ob Unit)} {h : Nat} {rows : List (List (L Unit))} {l : List (Nat × List (List (L Unit)))} (hn : h ∉ l.map (·.1)) : ob.map (updP ((h, rows) :: l)) = (updOb ob h rows).map (updP l) := by
  simp only [updOb, List.map_map]
  refine List.map_congr_left fun p _ => ?_
  simp only [Function.comp]
  by_cases hp : p.1 = h
  · subst hp
    rw [if_pos rfl]
    unfold updP
    simp only [List.lookup_cons, beq_self_eq_true, lookup_none hn]
  · rw [if_neg hp]
    unfold updP
    simp only [List.lookup_cons]
    have : (p.1 == h) = false := by simpa using hp
    rw [this]
theorem lko_ne {oa : OAsg} {nx i j : Nat} (o : Option (Ob Unit)) (h : i ≠ j) : lko ((i, o) :: oa) nx j = lko oa nx j := by
  simp only [lko, obAt_ne oa o h]
theorem obOf_updO {nx : Nat} : ∀ {l : List (Nat × Ob Unit)} {oa : OAsg}, (l.map (·.1)).Nodup → (∀ p ∈ l, ∃ o, lko oa nx p.1 = some o ∧ o.n = p.2.n) → obOf (updO l oa) nx = (obOf oa nx).map (updP (l.map fun p => (p.1, p.2.rows)))
  | [], oa, _, _ => by simp [updO, updP_nil]
  | (h, o) :: l, oa, hn, hl => by
    simp only [List.map_cons, List.nodup_cons] at hn
    obtain ⟨o0, h1, h2⟩ := hl (h, o) (by simp)
    simp only at h1 h2
    have e : (⟨(), o.n, o.rows⟩ : Ob Unit) = ⟨o0.h, o0.n, o.rows⟩ := by rw [h2]
    have ho : o = ⟨o0.h, o0.n, o.rows⟩ := by rw [← e]
    have h3 := obOf_upd h1 o.rows
    rw [← ho] at h3
    simp only [updO, List.map_cons]
    rw [obOf_updO hn.2 (fun p hp => by
      obtain ⟨o1, a1, a2⟩ := hl p (by simp [hp])
      refine ⟨o1, ?_, a2⟩
      rw [lko_ne _ (fun e => hn.1 (by rw [e]; exact List.mem_map.2 ⟨p, hp, rfl⟩))]
      exact a1), h3]
    rw [updP_cons (by rw [List.map_map]; exact hn.1)]
def dstA (dst : Option Nat) (v : V Unit) (asg : Asg) : Asg := match dst with
  | some t => (t, v) :: asg
  | none => asg
def oaG (g : Nat → Nat) (nx : Nat) (hs : List Nat) (obs' : List (Ob Unit)) (nobs : List (Nat × Ob Unit)) (oa : OAsg) : OAsg :=
  pushO nobs (pushO ((((obs'.drop hs.length).map (renOb g)).zipIdx nx).map fun q => (q.2, q.1)) (updO (hs.zip ((obs'.take hs.length).map (renOb g))) oa))
section
variable {P : Program} {N nx : Nat} {asg : Asg} {oa : OAsg} {K : S Unit → Prop}
theorem St_cg {dst : Option Nat} {r v : V Unit} {nobs : List (Nat × Ob Unit)} {hs : List Nat} {obs obs' : List (Ob Unit)} {g : Nat → Nat} {rd : List Nat} (hnd : hs.Nodup) (hh : All2 (fun h ob => lko oa nx h = some (renOb g ob)) hs obs)
    (hn : (obs'.take hs.length).map (·.n) = obs.map (·.n)) (hroot : rootV (fun _ => ()) (nx + (obs'.length - hs.length)) (renV g r) = (v, nobs)) :
    appE (St N asg oa nx) dst nx { v := (rootV (fun _ => ()) (nx + (obs'.length - hs.length)) (renV g r)).1, rd := rd, news := (obs'.drop hs.length).map (renOb g) ++ (rootV (fun _ => ()) (nx + (obs'.length - hs.length)) (renV g r)).2.map (·.2), upd := hs.zip ((obs'.take hs.length).map fun ob => (renOb g ob).rows) } = St N (dstA dst v asg) (oaG g nx hs obs' nobs oa) (nx + (obs'.length - hs.length + nobs.length)) := by
  have hlen := all2_len hh
  have hlk : (obs'.take hs.length).length = hs.length := by
    have := congrArg List.length hn
    simp only [List.length_map] at this
    omega
  have hk : nobs.map (·.1) = List.range' (nx + (obs'.length - hs.length)) nobs.length := by
    have := rootLs_keys (fun _ : Unit => ()) (nx + (obs'.length - hs.length)) (leavesV (renV g r))
    have h2 := (rootV_leaves (fun _ : Unit => ()) (nx + (obs'.length - hs.length)) (renV g r)).2
    rw [← h2, hroot] at this
    exact this
  have hre := rekey _ nobs hk
  have k1 : (hs.zip ((obs'.take hs.length).map (renOb g))).map (fun p => (p.1, p.2.rows)) = hs.zip ((obs'.take hs.length).map fun ob => (renOb g ob).rows) := by
    rw [List.zip_map_right, List.zip_map_right, List.map_map]
    rfl
  have k2 : obOf (updO (hs.zip ((obs'.take hs.length).map (renOb g))) oa) nx = (obOf oa nx).map (updP (hs.zip ((obs'.take hs.length).map fun ob => (renOb g ob).rows))) := by
    rw [obOf_updO ?_ ?_, k1]
    · rw [List.map_fst_zip (by simp only [List.length_map]; omega)]
      exact hnd
    · intro p hp
      obtain ⟨i, hi⟩ := List.getElem?_of_mem hp
      rw [List.getElem?_zip_eq_some, List.getElem?_map, Option.map_eq_some_iff] at hi
      obtain ⟨h1, ob', h2, h3⟩ := hi
      have hlt := (List.getElem?_eq_some_iff.1 h1).1
      have h4 : obs[i]? = some (obs[i]'(by omega)) := List.getElem?_eq_getElem (by omega)
      refine ⟨_, all2_get hh i _ _ h1 h4, ?_⟩
      have h5 := congrArg (fun l => l[i]?) hn
      simp only [List.getElem?_map, h2, h4, Option.map_some, Option.some.injEq] at h5
      rw [← h3]
      exact h5.symm
  have k3 : ((((obs'.drop hs.length).map (renOb g)).zipIdx nx).map (fun q => (q.2, q.1))).map (·.1) = List.range' nx ((((obs'.drop hs.length).map (renOb g)).zipIdx nx).map (fun q => (q.2, q.1))).length := by
    rw [zipIdx_keys]
    simp
  have kl : ((((obs'.drop hs.length).map (renOb g)).zipIdx nx).map (fun q => (q.2, q.1))).length = obs'.length - hs.length := by simp
  have k4 := obOf_push _ (updO (hs.zip ((obs'.take hs.length).map (renOb g))) oa) nx k3
  rw [kl] at k4
  have k5 := obOf_push nobs (pushO ((((obs'.drop hs.length).map (renOb g)).zipIdx nx).map fun q => (q.2, q.1)) (updO (hs.zip ((obs'.take hs.length).map (renOb g))) oa)) (nx + (obs'.length - hs.length)) hk
  rw [k4, k2] at k5
  have k6 : nx + (obs'.length - hs.length + nobs.length) = nx + (obs'.length - hs.length) + nobs.length := by omega
  have e1 : ∀ (oa' : OAsg) (nx' : Nat), St N (dstA dst v asg) oa' nx' = setSl ⟨slotsOf N asg, obOf oa' nx', nx'⟩ dst v := fun oa' nx' => by
    cases dst with
    | none => rfl
    | some t => simp only [dstA, St, setSl, slots_set]
  rw [e1]
  unfold appE app
  rw [hroot]
  simp only
  congr 1
  have k7 : (obOf oa nx).filter (fun p => !([] : List Nat).contains p.1) = obOf oa nx := List.filter_eq_self.2 (fun _ _ => rfl)
  have k8 : ((((obs'.drop hs.length).map (renOb g)) ++ nobs.map (·.2)).zipIdx nx).map (fun q => (q.2, q.1)) = (((obs'.drop hs.length).map (renOb g)).zipIdx nx).map (fun q => (q.2, q.1)) ++ nobs := by
    rw [List.zipIdx_append, List.map_append]
    congr 1
    simp only [List.length_map, List.length_drop]
    exact hre
  simp only [St, S.mk.injEq, true_and]
  refine ⟨?_, by simp⟩
  rw [k7, k8, k6]
  unfold oaG
  rw [k5, List.append_assoc]
/-- A call that hands objects over. -/
theorem x_cg {dst : Option Nat} {ty : TypeId} {pos : String} {aft : Array Edge} {x : Operand} {args : Array Operand} {ats : Array TypeId} {f : FuncId} {caps cs : List (L Unit)} {us : List (U Unit)} {r v : V Unit} {nobs : List (Nat × Ob Unit)} {oa' : OAsg} {nx' : Nat} {obs obs' : List (Ob Unit)}
    (hs : List Nat) (lent : Bool) (hf : ev N asg x = some (.u (.one (.fn () f caps)))) (hnd : hs.Nodup) (hh : All2 (fun h ob => lko oa nx h = some (renOb (gG hs nx) ob)) hs obs) (hkn : obs.all (fun ob => knowsR hs.length ob.rows) = true)
    (ha : ArgsG (St N asg oa nx) (gG hs nx) hs lent args.toList us) (hcaps : caps = cs.map (renL (gG hs nx))) (hck : cs.all (okK hs.length) = true) (hent : Ent P f) (hsim : Sim P f (us ++ cs.map .one) obs r obs')
    (himf : lent = false ∨ (immFreeV r = true ∧ obs'.all (fun ob => immFreeR ob.rows) = true)) (hn : (obs'.take hs.length).map (·.n) = obs.map (·.n)) (hroot : rootV (fun _ => ()) (nx + (obs'.length - hs.length)) (renV (gG hs nx) r) = (v, nobs))
    (hoa : oaG (gG hs nx) nx hs obs' nobs oa = oa') (hnx : nx + (obs'.length - hs.length + nobs.length) = nx') (hK : K (St N (dstA dst v asg) oa' nx')) : aopK (sysA P) 0 ⟨dst, .call ⟨.value x, args, ats⟩, ty, pos, aft, none⟩ (St N asg oa nx) K := by
  subst hoa hnx
  have hh' : All2 (fun h ob => look (St N asg oa nx).ob h = some (renOb (gG hs nx) ob)) hs obs := all2_imp (fun _ _ h => lko_ok h) hh
  refine ⟨_, fun h => absurd rfl h, stepOk_callG ⟨⟨.value x, args, ats⟩, f, caps, cs, us, hs, obs, obs', r, lent, rfl, ?_, hnd, hh', List.all_eq_true.1 hkn, ha, hcaps, hck, hent, hsim, himf.imp id fun h => ⟨h.1, List.all_eq_true.1 h.2⟩, rfl⟩, fun _ => ?_⟩
  · simp only [calE, lO_ev hf]
  · have e := St_cg (rd := []) (N := N) (asg := asg) (dst := dst) hnd hh hn hroot
    rw [← e] at hK
    exact hK
variable {g : Nat → Nat} {hs : List Nat} {lent : Bool}
theorem h_n : All2 (fun h ob => lko oa nx h = some (renOb g ob)) [] [] := .nil
theorem h_c {h : Nat} {ob : Ob Unit} {hs : List Nat} {obs : List (Ob Unit)} (h1 : lko oa nx h = some (renOb g ob)) (h2 : All2 (fun h ob => lko oa nx h = some (renOb g ob)) hs obs) : All2 (fun h ob => lko oa nx h = some (renOb g ob)) (h :: hs) (ob :: obs) := .cons h1 h2
theorem g_n : ArgsG (St N asg oa nx) g hs lent [] [] := .nil
theorem g_1 {x : Operand} {xs : List Operand} {l0 l : L Unit} {us : List (U Unit)} (hv : ev N asg x = some (.u (.one l0))) (hr : l0 = renL g l) (hk : okK hs.length l = true) (ht : ArgsG (St N asg oa nx) g hs lent xs us) : ArgsG (St N asg oa nx) g hs lent (x :: xs) (.one l :: us) :=
  .given (by rw [uO_ev hv, hr]; rfl) (by simp only [leavesU, List.all_cons, hk, List.all_nil, Bool.and_self]) ht
theorem g_a {x : Operand} {xs : List Operand} {ls0 ls : List (L Unit)} {us : List (U Unit)} (hv : ev N asg x = some (.u (.agg ls0))) (hr : ls0 = ls.map (renL g)) (hk : ls.all (okK hs.length) = true) (ht : ArgsG (St N asg oa nx) g hs lent xs us) : ArgsG (St N asg oa nx) g hs lent (x :: xs) (.agg ls :: us) :=
  .given (by rw [uO_ev hv, hr]; rfl) hk ht
end
end Go.Proofs.Ytmckcjoacfekcaa.AM

/-! The calculus, forty-third part: the end of a function that was handed objects. -/
namespace Go.Proofs.Ytmckcjoacfekcaa.AM
open Go
section
variable {P : Program} {B : Bd} {N nx : Nat} {asg : Asg} {oa : OAsg}
theorem f_end {us us' : List (U Unit)} {obs' : List (Ob Unit)} {k0 : Nat} (ids : List Nat) (hu : us = us'.map (renU (gG ids 0))) (hh : All2 (fun h ob => lko oa nx h = some (renOb (gG ids 0) ob)) ids obs') (hnd : ids.Nodup)
    (hk : us'.all (fun u => (leavesU u).all fun l => (idsL l).all fun i => Nat.blt i ids.length) = true) (hkr : obs'.all (fun o => knowsR ids.length o.rows) = true) (hB : B.n0 = k0) (hpre : ids.take k0 = List.range k0) (hk0 : Nat.ble k0 ids.length = true) :
    GhB B (Rt us oa nx) ⟨us'.map .u, keyed obs', ids.length⟩ := by
  have hlen := all2_len hh
  have hk0' := Nat.le_of_ble_eq_true hk0
  have hgi : ∀ i (h : i < ids.length), gG ids 0 i = ids[i] := fun i h => gG_lt (List.getElem?_eq_getElem h)
  refine GhB.view (gG ids 0) (by simp [Rt, hu]) (fun t v' hv => ?_) (fun p hp => ?_) (by rw [keyed_keys]; exact List.nodup_range) (fun i j hi hj e => ?_) (fun i hi => ?_) (by rw [hB]; exact hk0') (fun i hi => ?_)
  · right
    simp only [List.getElem?_map, Option.map_eq_some_iff] at hv
    obtain ⟨u', h1, rfl⟩ := hv
    simp only [Rt, hu, List.getElem?_map, h1, Option.map_some]
    rfl
  · have h1 := (zipIdx_mem (n := 0) hp).2
    simp only [Nat.sub_zero] at h1
    have hlt := (List.getElem?_eq_some_iff.1 h1).1
    rw [hgi p.1 (by omega)]
    exact lko_ok (N := 0) (asg := []) (all2_get hh p.1 _ _ (List.getElem?_eq_getElem (by omega)) h1)
  · simp only at hi hj
    rw [hgi i hi, hgi j hj] at e
    exact (List.getElem_inj hnd).1 e
  · show i < ids.length
    rcases hi with ⟨l, hl, hi⟩ | hi
    · rcases mem_tops.1 hl with ⟨v, hv, hl⟩ | hl
      · obtain ⟨u, hu2, rfl⟩ := List.mem_map.1 hv
        simp only [List.all_eq_true] at hk
        exact blt_lt (hk u hu2 l hl i hi)
      · obtain ⟨p, hp, r, hr, hl⟩ := mem_obLeaves.1 hl
        have h1 := (zipIdx_mem (n := 0) hp).2
        simp only [List.all_eq_true, knowsR] at hkr
        exact blt_lt (hkr _ (List.mem_of_getElem? h1) r hr l hl i hi)
    · have : i ∈ (keyed obs').map (·.1) := hi
      rw [keyed_keys, List.mem_range] at this
      omega
  · rw [hB] at hi
    rw [hgi i (by omega)]
    have h1 : (ids.take k0)[i]? = (List.range k0)[i]? := by rw [hpre]
    rw [List.getElem?_take, if_pos hi, List.getElem?_eq_getElem (by omega), List.getElem?_range hi] at h1
    exact Option.some.inj h1
theorem hB_k {l : List Nat} {k : Nat} (h : B.n0 = k) (hp : l.take k = List.range k) (hk : Nat.ble k l.length = true) : ∀ i, i < B.n0 → l[i]? = some i := fun i hi => by
  rw [h] at hi
  have hk' := Nat.le_of_ble_eq_true hk
  have h1 : (l.take k)[i]? = (List.range k)[i]? := by rw [hp]
  rw [List.getElem?_take, if_pos hi, List.getElem?_range hi] at h1
  exact h1
/-- A function ends. -/
theorem retG {rs : List ResultVar} {us us' : List (U Unit)} {r : V Unit} {e : Exit} {nx' : Nat} {obs obs' : List (Ob Unit)} (he : (match e with | .normal => true | .ret => true | _ => false) = true) (hr : resUs P (St N asg oa nx).sl (look (St N asg oa nx).ob) rs = some us)
    (hg : GhB B (Rt us oa nx) ⟨us'.map .u, keyed obs', nx'⟩) (hrr : resR us' = r) (hs : (obs'.take obs.length).map shape = obs.map shape) (hl : Nat.ble obs.length obs'.length = true)
    (hk : us'.all (fun u => (leavesU u).all fun l => (idsL l).all fun i => Nat.blt i obs'.length) = true) (hkr : obs'.all (fun o => knowsR obs'.length o.rows) = true) : RetQ P B rs obs r obs' e (St N asg oa nx) :=
  ⟨by cases e <;> simp_all, us, hr, us', nx', hg, hrr, hs, Nat.le_of_ble_eq_true hl, hk, hkr⟩
end
end Go.Proofs.Ytmckcjoacfekcaa.AM

/-! The calculus, forty-fourth part: ghost steps between the operations of a region. -/
namespace Go.Proofs.Ytmckcjoacfekcaa.AM
open Go
section
variable {P : Program} {Y : Sys P}
theorem awpOps_pre {ops : Array Oper} {post : List Oper} {B : Bd} {Q : Exit → Act → World → Prop} {K : S Unit → Prop} (hK : ∀ s a W, K s → Rel B s a W → wpList P ops Q post a W) :
    ∀ (rest : List Oper) (s : S Unit) (a : Act) (W : World), awpOps Y ops.toList rest s K → Rel B s a W → wpList P ops Q (rest ++ post) a W
  | [], s, a, W, h, hr => hK s a W h hr
  | o :: rest, s, a, W, h, hr => by
    have run : ∀ s a W, aop Y o s (fun e => awpOps Y ops.toList rest (appE s o.dst s.nx e) K) → Rel B s a W → o.wp P a W (wpList P ops Q (rest ++ post)) Q := by
      intro s a W h hr
      obtain ⟨e, he, h⟩ := h
      obtain ⟨h1, h2⟩ := hr.step (Y.ok he)
      exact wp_any_post (Oper.wp_mono (fun a' W' hr' => awpOps_pre hK rest _ a' W' (h h1) hr') h2)
    have run2 : ∀ s a W, aop Y ⟨o.dst, o.op, o.type, o.pos, o.after, none⟩ s (fun e => awpOps Y ops.toList rest (appE s o.dst s.nx e) K) → Rel B s a W → o.wp P a W (wpList P ops Q (rest ++ post)) Q := by
      intro s a W h hr
      obtain ⟨e, he, h⟩ := h
      obtain ⟨h1, h2⟩ := hr.step (Y.ok he)
      have h3 : o.wp P a W (fun a' W' => Rel B (appE s o.dst s.nx e) a' W') (fun _ _ _ => False) := h2
      exact wp_any_post (Oper.wp_mono (fun a' W' hr' => awpOps_pre hK rest _ a' W' (h h1) hr') h3)
    simp only [awpOps] at h
    simp only [List.cons_append, wpList]
    split at h
    · rename_i hg
      rw [wanted_none hg, if_pos rfl]
      exact .inl (run s a W h hr)
    · rename_i j want hg
      split at h
      · cases h
      · rename_i t hj
        rw [Array.getElem?_toList] at hj
        split at h
        · rename_i b hb
          obtain ⟨d, rfl, hi, hs, hdef, hk⟩ := hr
          have hw := wanted_bool hg hj (slot_bool hs hb)
          rw [hw]
          by_cases hbw : b = want
          · subst hbw
            simp only [beq_self_eq_true, if_true]
            have h1 := h.1 rfl
            rw [stB_self hb] at h1
            exact .inl (run2 _ a W h1 ⟨d, rfl, hi, hs, hdef, hk⟩)
          · have hbn : b = !want := by cases b <;> cases want <;> simp_all
            have : (b == want) = false := by simpa using hbw
            rw [this, if_neg (by simp)]
            subst hbn
            have h2 := h.2 rfl
            rw [stB_self hb] at h2
            exact awpOps_pre hK rest _ _ _ h2 (Rel.skip ⟨d, rfl, hi, hs, hdef, hk⟩ o.dst)
        · rename_i hb
          obtain ⟨d, rfl, hi, hs, hdef, hk⟩ := hr
          have hw := wanted_ud hg hj (slot_ud hs hb)
          rw [hw, if_neg (by simp)]
          exact awpOps_pre hK rest _ _ _ h (Rel.skip ⟨d, rfl, hi, hs, hdef, hk⟩ o.dst)
        · cases h

/-- What is left of a region, told of worlds. -/
def WpO (P : Program) (B : Bd) (ops : List Oper) (Q : Exit → S Unit → Prop) (rest : List Oper) (s : S Unit) : Prop :=
  ∀ a W, Rel B s a W → wpList P ops.toArray (fun e a' W' => ∃ s', Rel B s' a' W' ∧ Q e s') rest a W
variable {B : Bd} {Q : Exit → S Unit → Prop} {ops rest : List Oper} {s s' : S Unit}
theorem c_regS {id : Nat} (h : WpO P B ops Q ops s) : Wp (P := P) B (.region id ops.toArray false) Q s := by
  intro a W hr
  have := h a W hr
  refine wp_region ?_
  have e := wpOps_eq_wpList (P := P) (ops := ops.toArray) (Q := fun e a' W' => ∃ s', Rel B s' a' W' ∧ Q e s') ops 0 (by simp)
  rw [← List.range_eq_range'] at e
  have h2 : (List.range ops.toArray.size) = List.range ops.length := by simp
  rw [h2, e]
  exact this
theorem o_run (k : Nat) (h : awpOps Y ops (rest.take k) s (fun s' => WpO P B ops Q (rest.drop k) s')) : WpO P B ops Q rest s := by
  intro a W hr
  have := awpOps_pre (Y := Y) (ops := ops.toArray) (post := rest.drop k) (B := B) (Q := fun e a' W' => ∃ s', Rel B s' a' W' ∧ Q e s') (K := fun s' => WpO P B ops Q (rest.drop k) s') (fun s a W h hr => h a W hr) (rest.take k) s a W (by simpa using h) hr
  rwa [List.take_append_drop] at this
theorem o_end (h : Q .normal s) : WpO P B ops Q [] s := fun _ _ hr => ⟨_, hr, h⟩
theorem WpO.ghb (hg : GhB B s s') (h : WpO P B ops Q rest s') : WpO P B ops Q rest s := fun a W hr => h a W (hg a W hr)
end
end Go.Proofs.Ytmckcjoacfekcaa.AM

/-! The calculus, forty-fifth part: an own object is frozen: it stands as rows that are read from then on. -/
namespace Go.Proofs.Ytmckcjoacfekcaa.AM
open Go

section
variable {δ : Type}
def frzL (id n : Nat) (rows : List (List (L δ))) : L δ → L δ
  | .ref v i off len => match Nat.beq i id && Nat.beq off 0 && Nat.beq len rows.length with
    | true => .bs v n rows
    | false => .ref v i off len
  | l => l
def frzU (id n : Nat) (rows : List (List (L δ))) : U δ → U δ
  | .one l => .one (frzL id n rows l)
  | .agg ls => .agg (ls.map (frzL id n rows))
def frzV (id n : Nat) (rows : List (List (L δ))) : V δ → V δ
  | .u x => .u (frzU id n rows x)
  | .tup xs => .tup (xs.map (frzU id n rows))
  | .un => .un
  | .ud => .ud
theorem leavesU_frz (id n : Nat) (rows : List (List (L δ))) (u : U δ) : leavesU (frzU id n rows u) = (leavesU u).map (frzL id n rows) := by cases u <;> simp [leavesU, frzU]
theorem leavesV_frz (id n : Nat) (rows : List (List (L δ))) (v : V δ) : leavesV (frzV id n rows v) = (leavesV v).map (frzL id n rows) := by
  cases v with
  | u x => exact leavesU_frz id n rows x
  | tup xs => simp [leavesV, frzV, List.map_flatMap, List.flatMap_map, leavesU_frz]
  | un => rfl
  | ud => rfl
end
theorem frzL_er (id n : Nat) (rows : List (List (L Value))) (l : L Value) : erL (frzL id n rows l) = frzL id n (rowsE rows) (erL l) := by
  cases l with
  | ref v i off len =>
    simp only [frzL, mapL, rowsE, List.length_map]
    split <;> rename_i h <;> simp only [h, mapL, mapR_eq]
  | _ => simp [frzL, mapL]
theorem frzU_er (id n : Nat) (rows : List (List (L Value))) (u : U Value) : erU (frzU id n rows u) = frzU id n (rowsE rows) (erU u) := by
  cases u <;> simp [frzU, mapU, frzL_er, Function.comp_def]
theorem frzV_er (id n : Nat) (rows : List (List (L Value))) (v : V Value) : erV (frzV id n rows v) = frzV id n (rowsE rows) (erV v) := by
  cases v <;> simp [frzV, mapV, frzU_er, Function.comp_def]
theorem frzL_val (id n : Nat) (rows : List (List (L Value))) (l : L Value) : val (frzL id n rows l) = val l := by
  cases l with
  | ref v i off len => simp only [frzL]; split <;> rfl
  | _ => rfl
theorem frzL_own (id n : Nat) (rows : List (List (L Value))) (hr : ∀ r ∈ rows, ∀ l ∈ r, plainL l = true) (l : L Value) : ownL (frzL id n rows l) = ownL l := by
  cases l with
  | ref v i off len => simp only [frzL]; split <;> simp [ownL]
  | _ => rfl
theorem frzL_cases (id n : Nat) (rows : List (List (L Value))) (l : L Value) : frzL id n rows l = l ∨ ∃ v, l = .ref v id 0 rows.length ∧ frzL id n rows l = .bs v n rows := by
  cases l with
  | ref v i off len =>
    simp only [frzL]
    split
    · rename_i h
      simp only [Bool.and_eq_true] at h
      obtain ⟨⟨h1, h2⟩, h3⟩ := h
      have e1 := Nat.eq_of_beq_eq_true h1
      have e2 := Nat.eq_of_beq_eq_true h2
      have e3 := Nat.eq_of_beq_eq_true h3
      subst e1 e2 e3
      exact .inr ⟨v, rfl, rfl⟩
    · exact .inl rfl
  | _ => exact .inl rfl
theorem UR_frz {id n : Nat} {rows : List (List (L Value))} {u : U Value} {x : Value} (h : UR u x) : UR (frzU id n rows u) x := by
  cases u with
  | one l => simp only [UR, frzU, frzL_val] at h ⊢; exact h
  | agg ls =>
    have : (ls.map (frzL id n rows)).map val = ls.map val := by rw [List.map_map]; exact List.map_congr_left fun l _ => frzL_val id n rows l
    simp only [UR, frzU, this] at h ⊢
    exact h
theorem VR_frz {id n : Nat} {rows : List (List (L Value))} {v : V Value} {x : Value} (h : VR v x) : VR (frzV id n rows v) x := by
  cases v with
  | u y => exact UR_frz h
  | tup xs =>
    obtain ⟨vs, h1, h2, h3⟩ := h
    refine ⟨vs, h1, by simpa using h2, fun i y z hy hz => ?_⟩
    rw [List.getElem?_map, Option.map_eq_some_iff] at hy
    obtain ⟨y0, hy0, rfl⟩ := hy
    exact UR_frz (h3 i y0 z hy0 hz)
  | un => trivial
  | ud => exact h
theorem GhB.freeze {B : Bd} {s : S Unit} {id : Nat} {o : Ob Unit} (ho : look s.ob id = some o) (hp : o.rows.all (fun r => r.all plainL) = true) :
    GhB B s ⟨s.sl.map (frzV id o.n o.rows), s.ob.filter (fun p => !(p.1 == id)), s.nx⟩ := by
  rintro a W ⟨d, rfl, hi, hs, hdef, hk, hn0⟩
  obtain ⟨o', ho', rfl⟩ := look_lift ho
  have hobs : _ ∧ ∀ r ∈ o'.rows, r.length = o'.n := hi.good.obs _ (find?_key ho')
  have hplain : ∀ r ∈ o'.rows, ∀ l ∈ r, plainL l = true := by
    simp only [erOb, mapOb, List.all_map, List.all_eq_true, Function.comp_def, plain_er] at hp
    exact hp
  have hsub : (d.ob.filter (fun p => !(p.1 == id))).Sublist d.ob := List.filter_sublist
  let d' : S Value := ⟨d.sl.map (frzV id o'.n o'.rows), d.ob.filter (fun p => !(p.1 == id)), d.nx⟩
  have htop : ∀ l ∈ tops d', l ∈ tops d ∨ ∃ v, .ref v id 0 o'.rows.length ∈ tops d ∧ l = .bs v o'.n o'.rows := fun l hl => by
    rcases mem_tops.1 hl with ⟨w, hw, hl2⟩ | hl2
    · obtain ⟨w0, hw0, rfl⟩ := List.mem_map.1 hw
      rw [leavesV_frz] at hl2
      obtain ⟨l0, hl0, rfl⟩ := List.mem_map.1 hl2
      have hm : l0 ∈ tops d := mem_tops.2 (.inl ⟨w0, hw0, hl0⟩)
      rcases frzL_cases id o'.n o'.rows l0 with h | ⟨v, h1, h2⟩
      · rw [h]; exact .inl hm
      · exact .inr ⟨v, by rw [← h1]; exact hm, h2⟩
    · obtain ⟨p, hp, r, hr, hlr⟩ := mem_obLeaves.1 hl2
      exact .inl (mem_tops.2 (.inr (mem_obLeaves.2 ⟨p, hsub.subset hp, r, hr, hlr⟩)))
  have hrow0 : o'.rows.flatten.flatMap ownL = [] := by
    rw [List.flatMap_eq_nil_iff]
    intro l hl
    obtain ⟨r, hr, hl⟩ := List.mem_flatten.1 hl
    exact ownL_noOs (plain_noOs (hplain r hr l hl))
  have hperm : (ownS d).Perm (hdrOwn o'.h o'.n o'.rows ++ ownS d') := by
    classical
    obtain ⟨l1, l2, hob, h1, h2⟩ := look_split ho' hi.good.ids
    have hf : d'.ob = l1 ++ l2 := by
      show d.ob.filter _ = _
      rw [hob]
      exact filter_ne h1 h2
    refine List.perm_iff_count.2 fun q => ?_
    have c1 := List.perm_iff_count.1 (own_split d) q
    have c2 := List.perm_iff_count.1 (own_split d') q
    have c3 : (d'.sl.flatMap leavesV).flatMap ownL = (d.sl.flatMap leavesV).flatMap ownL := by
      simp only [d', List.flatMap_map, List.flatMap_assoc]
      refine ownOb_ren.flatMap_congr' fun v _ => ?_
      rw [leavesV_frz, List.flatMap_map]
      exact ownOb_ren.flatMap_congr' fun l _ => frzL_own id o'.n o'.rows hplain l
    rw [hf, c3] at c2
    rw [hob] at c1
    simp only [List.flatMap_append, List.flatMap_cons, List.count_append, ownOb, hrow0, List.append_nil] at c1 c2 ⊢
    omega
  have hnd := (hperm.map (·.1)).nodup_iff.1 hi.good.nodup
  rw [List.map_append, List.nodup_append] at hnd
  have hown' : ∀ q ∈ ownS d', q ∈ ownS d := fun q hq => hperm.mem_iff.2 (List.mem_append_right _ hq)
  have hbs : ∀ v, .ref v id 0 o'.rows.length ∈ tops d → isSl v o'.rows ∧ ∀ p ∈ hdrImm v (valR o'.rows), p.2 ≠ [] → ImmFact W p ∧ (∀ q ∈ ownS d', q.1 ≠ p.1.block) ∧ ∃ q ∈ ownS d, q.1 = p.1.block := fun v hv => by
    obtain ⟨_, hform⟩ := (hi.good.wf _ hv).2 o' ho'
    rcases hform with ⟨h0, hv0⟩ | ⟨b, x, c0, h0, hv0⟩
    · have hr0 : o'.rows = [] := by
        rcases hobs.1 with ⟨_, h1⟩ | ⟨_, _, _, h1, _⟩
        · exact h1
        · simp only at h1; rw [h0] at h1; cases h1
      rw [hr0]
      exact ⟨⟨none, 0, by simpa using hv0, by simp, by simp [LIM], fun h => absurd rfl h⟩, fun p hp => by rw [hv0] at hp; simp [hdrImm] at hp⟩
    · rcases hv0 with hv0 | ⟨y, _, _, h9, _⟩
      · rcases hobs.1 with ⟨h7, _⟩ | ⟨b2, x2, c2, h7, h8, h9⟩
        · simp only at h7; rw [h0] at h7; cases h7
        · simp only at h7 h8 h9
          rw [h0] at h7
          cases h7
          simp only [Nat.zero_mul, Nat.add_zero, Nat.sub_zero] at hv0
          refine ⟨⟨_, _, hv0, h8, h9, fun _ => ⟨_, _, rfl⟩⟩, fun p hp hne => ?_⟩
          rw [hv0] at hp
          simp only [hdrImm, List.mem_singleton] at hp
          subst hp
          have hm0 : (b, x, c0 * o'.n, valR o'.rows) ∈ hdrOwn o'.h o'.n o'.rows := by simp [hdrOwn, h0]
          have hm : (b, x, c0 * o'.n, valR o'.rows) ∈ ownS d := hperm.mem_iff.2 (List.mem_append_left _ hm0)
          refine ⟨fun j u hj => ?_, fun q hq e => ?_, _, hm, rfl⟩
          · obtain ⟨arr, ty, k1, _, _, k4⟩ := hi.good.own _ hm
            have := k4 _ _ hj
            simp only [World.cell?, k1]
            simpa using this
          · exact hnd.2.2 b (List.mem_map.2 ⟨_, hm0, rfl⟩) q.1 (List.mem_map.2 ⟨q, hq, rfl⟩) e.symm
      · omega
  have hrowimm : ∀ r ∈ o'.rows, ∀ l ∈ r, ∀ p ∈ immL l, p ∈ immS d := fun r hr l hl p hp =>
    List.mem_flatMap.2 ⟨l, mem_tops.2 (.inr (mem_obLeaves.2 ⟨_, find?_key ho', r, hr, hl⟩)), hp⟩
  have himm : ∀ p ∈ immS d', p ∈ immS d ∨ ∃ v, .ref v id 0 o'.rows.length ∈ tops d ∧ p ∈ hdrImm v (valR o'.rows) := fun p hp => by
    obtain ⟨l, hl, hp⟩ := List.mem_flatMap.1 hp
    rcases htop l hl with h | ⟨v, h1, rfl⟩
    · exact .inl (List.mem_flatMap.2 ⟨l, h, hp⟩)
    · simp only [immL, List.mem_append] at hp
      rcases hp with hp | hp
      · exact .inr ⟨v, h1, hp⟩
      · rw [immR_eq] at hp
        obtain ⟨l2, hl2, hp⟩ := List.mem_flatMap.1 hp
        obtain ⟨r, hr, hl2⟩ := List.mem_flatten.1 hl2
        exact .inl (hrowimm r hr l2 hl2 p hp)
  refine ⟨d', ?_, ?_, ⟨by simpa [d'] using hs.1, fun i w hw => ?_⟩, hdef, fun i hi2 => hk i ?_, hn0⟩
  · have e1 : d'.sl.map erV = (d.sl.map erV).map (frzV id (erOb o').n (erOb o').rows) := by
      simp only [d', List.map_map]
      exact List.map_congr_left fun v _ => frzV_er id o'.n o'.rows v
    have e2 : (d.ob.filter (fun p => !(p.1 == id))).map (fun p => (p.1, erOb p.2)) = (d.ob.map (fun p => (p.1, erOb p.2))).filter (fun p => !(p.1 == id)) := by
      rw [List.filter_map]
      rfl
    simp only [erS, mapS, S.mk.injEq, and_true]
    exact ⟨e1, e2, rfl⟩
  · constructor
    · refine ⟨fun l hl => ?_, fun p hp => hi.good.obs p (hsub.subset hp), hi.good.ids.sublist (hsub.map _), fun p hp => hi.good.own p (hown' p hp), hnd.2.1, fun p hp hne => ?_⟩
      · rcases htop l hl with h | ⟨v, h1, rfl⟩
        · have := hi.good.wf l h
          exact ⟨this.1, refOk_mono (fun i _ => look_filter (f := fun j => !(j == id))) this.2⟩
        · refine ⟨⟨(hbs v h1).1, hobs.2, (wfR_iff _ _).2 fun r hr l hlr => plain_wf (hplain r hr l hlr) (has_ob hi.good ho' hr hlr).1⟩, by simp [refOk]⟩
      · rcases himm p hp with h | ⟨v, h1, h2⟩
        · obtain ⟨k1, k2⟩ := hi.good.imm p h hne
          exact ⟨k1, fun q hq => k2 q (hown' q hq)⟩
        · have := (hbs v h1).2 p h2 hne
          exact ⟨this.1, this.2.1⟩
    · exact hi.fr
    · exact fun p hp => hi.mine p (hown' p hp)
    · intro p hp hne
      rcases himm p hp with h | ⟨v, h1, h2⟩
      · exact hi.seen p h hne
      · obtain ⟨_, _, q, hq, e⟩ := (hbs v h1).2 p h2 hne
        rw [← e]
        rcases hi.mine q hq with h | h
        · exact .inr (.inl h)
        · exact .inr (.inr h)
    · exact fun p hp => hi.hdr p (hsub.subset hp)
  · simp only [d', List.getElem?_map, Option.map_eq_some_iff] at hw
    obtain ⟨w0, hw0, rfl⟩ := hw
    exact VR_frz (hs.2 i w0 hw0)
  · rcases hi2 with ⟨l, hl, h⟩ | h
    · rcases htop l hl with h2 | ⟨v, h1, rfl⟩
      · exact .inl ⟨l, h2, h⟩
      · simp [idsL] at h
    · exact .inr ((hsub.map _).subset h)
section
variable {B : Bd} {N nx : Nat} {asg : Asg} {oa : OAsg}
theorem lkp_mapV (f : V Unit → V Unit) (t : Nat) : ∀ asg : Asg, lkp (asg.map fun p => (p.1, f p.2)) t = (lkp asg t).map f
  | [] => rfl
  | (k, v) :: l => by
    simp only [List.map_cons]
    by_cases h : k = t
    · subst h; rw [lkp_cons_self, lkp_cons_self]; rfl
    · rw [lkp_cons_ne _ _ h, lkp_cons_ne _ _ h, lkp_mapV f t l]
def refTo {δ : Type} (id : Nat) : L δ → Bool
  | .ref _ i _ _ => Nat.beq i id
  | _ => false
theorem frzL_no {id n : Nat} {rows : List (List (L Unit))} {l : L Unit} (h : refTo id l = false) : frzL id n rows l = l := by
  cases l with
  | ref v i off len =>
    simp only [refTo] at h
    simp only [frzL, h, Bool.false_and]
  | _ => rfl
theorem frzU_no {id n : Nat} {rows : List (List (L Unit))} {u : U Unit} (h : ∀ l ∈ leavesU u, refTo id l = false) : frzU id n rows u = u := by
  cases u with
  | one l => simp only [frzU, frzL_no (h l (by simp [leavesU]))]
  | agg ls =>
    simp only [frzU, U.agg.injEq]
    conv => rhs; rw [← List.map_id ls]
    exact List.map_congr_left fun l hl => frzL_no (h l hl)
theorem frzV_no {id n : Nat} {rows : List (List (L Unit))} {v : V Unit} (h : ∀ l ∈ leavesV v, refTo id l = false) : frzV id n rows v = v := by
  cases v with
  | u x => simp only [frzV, frzU_no h]
  | tup xs =>
    simp only [frzV, V.tup.injEq]
    conv => rhs; rw [← List.map_id xs]
    exact List.map_congr_left fun x hx => frzU_no fun l hl => h l (List.mem_flatMap.2 ⟨x, hx, hl⟩)
  | un => rfl
  | ud => rfl
theorem lkp_mem {α : Type} : ∀ {l : List (Nat × α)} {k : Nat} {v : α}, lkp l k = some v → (k, v) ∈ l
  | [], k, v, h => by simp [lkp] at h
  | (a, b) :: l, k, v, h => by
    by_cases hk : a = k
    · subst hk
      rw [lkp_cons_self] at h
      cases h
      simp
    · rw [lkp_cons_ne _ _ hk] at h
      exact List.mem_cons_of_mem _ (lkp_mem h)
/-- The slots that hold the object. -/
inductive Fz (asg : Asg) (id k : Nat) : List Nat → Prop
  | nil : Fz asg id k []
  | cons {t len : Nat} {ts : List Nat} : lkp asg t = some (.u (.one (.ref () id 0 len))) → len = k → Fz asg id k ts → Fz asg id k (t :: ts)
def frzA (v : V Unit) : List Nat → Asg → Asg
  | [], asg => asg
  | t :: ts, asg => (t, v) :: frzA v ts asg
theorem frzA_lkp (v : V Unit) (t : Nat) (asg : Asg) : ∀ ts : List Nat, lkp (frzA v ts asg) t = if t ∈ ts then some v else lkp asg t
  | [] => by simp [frzA]
  | t0 :: ts => by
    simp only [frzA]
    by_cases h : t0 = t
    · subst h; rw [lkp_cons_self]; simp
    · rw [lkp_cons_ne _ _ h, frzA_lkp v t asg ts]
      have : (t ∈ t0 :: ts) ↔ t ∈ ts := by simp [Ne.symm h]
      simp only [this]
theorem Fz.mem {asg : Asg} {id k : Nat} : ∀ {ts : List Nat}, Fz asg id k ts → ∀ t ∈ ts, lkp asg t = some (.u (.one (.ref () id 0 k)))
  | _, .nil, t, h => by cases h
  | _, .cons h1 h2 h3, t, h => by
    subst h2
    rcases List.mem_cons.1 h with rfl | h
    · exact h1
    · exact h3.mem t h
/-- An own object is frozen. -/
theorem f_frz {o : Ob Unit} (id : Nat) (ts : List Nat) (ho : lko oa nx id = some o) (hp : o.rows.all (fun r => r.all plainL) = true) (hts : Fz asg id o.rows.length ts) (hno : asg.all (fun p => ts.contains p.1 || (leavesV p.2).all fun l => !refTo id l) = true) :
    GhB B (St N asg oa nx) (St N (frzA (.u (.one (.bs () o.n o.rows))) ts asg) ((id, none) :: oa) nx) := by
  have h := GhB.freeze (B := B) (s := St N asg oa nx) (lko_ok ho) hp
  have e1 : (slotsOf N asg).map (frzV id o.n o.rows) = slotsOf N (frzA (.u (.one (.bs () o.n o.rows))) ts asg) := by
    unfold slotsOf
    rw [List.map_map]
    refine List.map_congr_left fun t _ => ?_
    simp only [Function.comp, slotV, frzA_lkp]
    by_cases ht : t ∈ ts
    · rw [if_pos ht, hts.mem t ht]
      simp [frzV, frzU, frzL]
    · rw [if_neg ht]
      cases hl : lkp asg t with
      | none => rfl
      | some v =>
        have h1 := List.all_eq_true.1 hno _ (lkp_mem hl)
        simp only [Bool.or_eq_true, List.contains_iff_mem, ht, false_or, List.all_eq_true, Bool.not_eq_true'] at h1
        exact frzV_no h1
  have e2 : (⟨(St N asg oa nx).sl.map (frzV id o.n o.rows), (St N asg oa nx).ob.filter (fun p => !(p.1 == id)), (St N asg oa nx).nx⟩ : S Unit) = St N (frzA (.u (.one (.bs () o.n o.rows))) ts asg) ((id, none) :: oa) nx := by
    simp only [St, e1, obOf_del]
  rw [← e2]
  exact h
end
end Go.Proofs.Ytmckcjoacfekcaa.AM

/-! The calculus, forty-sixth part: a slice that is nil, as rows to read. -/
namespace Go.Proofs.Ytmckcjoacfekcaa.AM
open Go
theorem GhB.nl {B : Bd} {s : S Unit} {u : U Unit} (t j m : Nat) (o : Bool) (ht : s.sl[t]? = some (.u u)) (hj : (leavesU u)[j]? = some .nl) : GhB B s ⟨s.sl.set t (.u (setLf u j (match o with | true => .os () m [] | false => .bs () m []))), s.ob, s.nx⟩ := by
  rintro a W ⟨d, he, hi, hs, hdef, hk, hn0⟩
  have hsl : d.sl.map erV = s.sl := congrArg S.sl he
  have hob : (erS d).ob = s.ob := congrArg S.ob he
  have hnx : d.nx = s.nx := congrArg S.nx he
  have h1 : (d.sl.map erV)[t]? = some (.u u) := by rw [hsl, ht]
  rw [List.getElem?_map, Option.map_eq_some_iff] at h1
  obtain ⟨v, hv, hvu⟩ := h1
  obtain ⟨u', rfl, rfl⟩ : ∃ u', v = .u u' ∧ erU u' = u := by
    cases v with
    | u x => exact ⟨x, rfl, by injection hvu⟩
    | tup xs => cases hvu
    | un => cases hvu
    | ud => cases hvu
  rw [leavesU_map, List.getElem?_map, Option.map_eq_some_iff] at hj
  obtain ⟨l', hj', hl'⟩ := hj
  obtain rfl : l' = .nl := by cases l' <;> simp [mapL] at hl'; rfl
  have hjlt : j < (leavesU u').length := (List.getElem?_eq_some_iff.1 hj').1
  have htlt : t < d.sl.length := (List.getElem?_eq_some_iff.1 hv).1
  let nl' : L Value := match o with | true => .os (.slice none 0 0) m [] | false => .bs (.slice none 0 0) m []
  have hno : ownL nl' = [] := by cases o <;> simp [nl', ownL, hdrOwn, ownR]
  have him : immL nl' = [] := by cases o <;> simp [nl', immL, hdrImm, immR]
  have hids : idsL nl' = [] := by cases o <;> rfl
  have hwf : wfL false nl' := by
    cases o
    · exact ⟨⟨none, 0, rfl, Nat.le_refl _, by simp [LIM], fun h => absurd rfl h⟩, by simp, trivial⟩
    · exact ⟨.inl ⟨rfl, rfl⟩, by simp, trivial⟩
  have hval : val nl' = val (.nl : L Value) := by cases o <;> rfl
  let nv : V Value := .u (setLf u' j nl')
  have hlv : leavesV nv = (leavesU u').set j nl' := setLf_leaves hjlt
  let d' : S Value := ⟨d.sl.set t nv, d.ob, d.nx⟩
  have htop : ∀ l ∈ tops d', l ∈ tops d ∨ l = nl' := fun l hl => by
    rcases mem_tops.1 hl with ⟨w, hw, hl2⟩ | hl2
    · rcases List.mem_or_eq_of_mem_set hw with hw | rfl
      · exact .inl (mem_tops.2 (.inl ⟨w, hw, hl2⟩))
      · rw [hlv] at hl2
        rcases List.mem_or_eq_of_mem_set hl2 with hl2 | rfl
        · exact .inl (mem_tops.2 (.inl ⟨.u u', List.mem_of_getElem? hv, hl2⟩))
        · exact .inr rfl
    · exact .inl (mem_tops.2 (.inr hl2))
  have hown : (ownS d').Perm (ownS d) := by
    have h1 : ((leavesV nv).flatMap ownL).Perm ([] ++ (leavesV (.u u')).flatMap ownL) := by
      rw [hlv]
      exact perm_set (e := []) hj' (by simp [hno, ownL])
    have h2 := perm_set (f := fun v => (leavesV v).flatMap ownL) (e := []) hv h1
    simp only [ownS, tops, List.flatMap_append, List.flatMap_assoc, d'] at h2 ⊢
    simp only [List.nil_append] at h2
    exact (h2.append_right _).append_left _
  refine ⟨d', ?_, ?_, ⟨by simpa [d'] using hs.1, fun i w hw => ?_⟩, hdef, fun i hi2 => hk i ?_, hn0⟩
  · have e1 : (d'.sl.map erV) = s.sl.set t (.u (setLf (erU u') j (match o with | true => .os () m [] | false => .bs () m []))) := by
      simp only [d', List.map_set, hsl]
      congr 1
      show V.u (erU (setLf u' j nl')) = _
      rw [setLf_er]
      cases o <;> simp [nl', mapL, mapR]
    have : erS d' = ⟨d'.sl.map erV, (erS d).ob, d.nx⟩ := rfl
    rw [this, e1, hob, hnx]
  · refine hi.step (Nat.le_refl _) (Same.refl _) (fun _ _ _ => rfl) (fun l hl => ?_) hi.good.obs hi.good.ids (fun p hp => ⟨hi.good.own p (hown.mem_iff.1 hp), .inl ⟨p, hown.mem_iff.1 hp, rfl⟩⟩) ((hown.map (·.1)).nodup_iff.2 hi.good.nodup) (fun p hp => ?_) hi.hdr
    · rcases htop l hl with h | rfl
      · exact hi.good.wf l h
      · exact ⟨hwf, refOk_free hids⟩
    · obtain ⟨l, hl, hp⟩ := List.mem_flatMap.1 hp
      rcases htop l hl with h | rfl
      · exact .of_mem (List.mem_flatMap.2 ⟨l, h, hp⟩)
      · rw [him] at hp; cases hp
  · simp only [d', List.getElem?_set] at hw
    by_cases hti : t = i
    · subst hti
      rw [if_pos rfl, if_pos htlt] at hw
      cases hw
      exact setLf_UR (hs.2 t _ hv) hj' hval
    · rw [if_neg hti] at hw
      exact hs.2 i w hw
  · rcases hi2 with ⟨l, hl, h⟩ | h
    · rcases htop l hl with h2 | rfl
      · exact .inl ⟨l, h2, h⟩
      · rw [hids] at h; cases h
    · exact .inr h

section
variable {B : Bd} {N nx : Nat} {asg : Asg} {oa : OAsg}
/-- A nil slice in a slot stands as rows to read. -/
theorem f_nb {u u' : U Unit} (t j m : Nat) (hN : Nat.blt t N = true) (ht : lkp asg t = some (.u u)) (hj : (leavesU u)[j]? = some .nl) (hu : setLf u j (.bs () m []) = u') : GhB B (St N asg oa nx) (St N ((t, .u u') :: asg) oa nx) := by
  subst hu
  have h := GhB.nl (B := B) t j m false (St_get (oa := oa) (nx := nx) hN ht) hj
  have e : (⟨(St N asg oa nx).sl.set t (.u (setLf u j (.bs () m []))), (St N asg oa nx).ob, (St N asg oa nx).nx⟩ : S Unit) = St N ((t, .u (setLf u j (.bs () m []))) :: asg) oa nx := by
    simp only [St, slots_set]
  rw [← e]
  exact h
end
end Go.Proofs.Ytmckcjoacfekcaa.AM

/-! The calculus, forty-seventh part: a nil slice in a cell of an own object becomes an own object without rows. -/
namespace Go.Proofs.Ytmckcjoacfekcaa.AM
open Go
theorem set_flatMap {α β : Type} {f : α → List β} : ∀ {ls : List α} {j : Nat} {x x0 : α}, ls[j]? = some x0 → f x = f x0 → (ls.set j x).flatMap f = ls.flatMap f
  | [], j, x, x0, h, _ => by simp at h
  | y :: ls, 0, x, x0, h, he => by
    simp only [List.getElem?_cons_zero, Option.some.injEq] at h
    subst h
    simp [he]
  | y :: ls, j + 1, x, x0, h, he => by
    simp only [List.getElem?_cons_succ] at h
    simp [set_flatMap h he]
theorem set_map {α β : Type} {f : α → β} : ∀ {ls : List α} {j : Nat} {x x0 : α}, ls[j]? = some x0 → f x = f x0 → (ls.set j x).map f = ls.map f
  | [], j, x, x0, h, _ => by simp at h
  | y :: ls, 0, x, x0, h, he => by
    simp only [List.getElem?_cons_zero, Option.some.injEq] at h
    subst h
    simp [he]
  | y :: ls, j + 1, x, x0, h, he => by
    simp only [List.getElem?_cons_succ] at h
    simp only [List.set_cons_succ, List.map_cons, set_map h he]
theorem GhB.nlc {B : Bd} {s : S Unit} {id e j : Nat} {o : Ob Unit} {r : List (L Unit)} (m : Nat) (ho : look s.ob id = some o) (hr : o.rows[e]? = some r) (hj : r[j]? = some .nl) :
    GhB B s ⟨s.sl, updOb (s.ob ++ [(s.nx, ⟨(), m, []⟩)]) id (o.rows.set e (r.set j (.ref () s.nx 0 0))), s.nx + 1⟩ := by
  rintro a W ⟨d, rfl, hi, hs, hdef, hk, hn0⟩
  obtain ⟨o', ho', rfl⟩ := look_lift ho
  obtain ⟨r', hr', rfl⟩ := rows_er hr
  rw [List.getElem?_map, Option.map_eq_some_iff] at hj
  obtain ⟨l', hj', hl'⟩ := hj
  obtain rfl : l' = .nl := by cases l' <;> simp [mapL] at hl'; rfl
  have hfr : ∀ i, Knows d i → i ≠ d.nx := fun i hi1 he => by have := hk i hi1; omega
  obtain ⟨hinv, hkn⟩ := hi.new (W' := W) (fun _ => true) hfr hn0 (hd := .slice none 0 0) (n := m) (rows := []) (by simp) (by simp) (Nat.le_refl _) (Same.refl _) (fun _ _ _ => rfl) (.inl ⟨rfl, rfl⟩)
  have hfl : d.ob.filter (fun _ => true) = d.ob := List.filter_eq_self.2 fun _ _ => rfl
  simp only [hfl] at hinv hkn
  let d1 : S Value := ⟨d.sl, d.ob ++ [(d.nx, ⟨.slice none 0 0, m, []⟩)], d.nx + 1⟩
  have hinv1 : Inv B W d1 := hinv
  have hlook : look d1.ob id = some o' := look_mem hinv1.good.ids (List.mem_append_left _ (find?_key ho'))
  have hlookn : look d1.ob d.nx = some ⟨.slice none 0 0, m, []⟩ := look_mem hinv1.good.ids (List.mem_append_right _ (by simp))
  have hobs : _ ∧ ∀ r ∈ o'.rows, r.length = o'.n := hi.good.obs _ (find?_key ho')
  have hrm := List.mem_of_getElem? hr'
  obtain ⟨b, x, c, hh, hle, hlim⟩ : ∃ b x c, o'.h = .slice (some ⟨b, x, none⟩) 0 c ∧ o'.rows.length ≤ c ∧ o'.rows.length ≤ LIM := by
    rcases hobs.1 with ⟨_, h1⟩ | h1
    · simp only at h1; rw [h1] at hrm; cases hrm
    · exact h1
  have hm : (b, x, c * o'.n, valR o'.rows) ∈ ownS d1 := by
    simp only [ownS, List.mem_append]
    left
    exact List.mem_flatMap.2 ⟨(id, o'), find?_key hlook, by simp [hdrOwn, hh]⟩
  let rows' := o'.rows.set e (r'.set j (.ref (.slice none 0 0) d.nx 0 0))
  have hval : valR rows' = valR o'.rows := by
    unfold valR
    have e1 : ∀ rs : List (List (L Value)), rs.flatten.map val = rs.flatMap (fun r => r.map val) := fun rs => by rw [List.map_flatten, List.flatMap_def]
    rw [e1, e1]
    exact set_flatMap hr' (set_map hj' rfl)
  have hown : ownR rows' = ownR o'.rows := by
    rw [ownR_eq, ownR_eq]
    have e1 : ∀ rs : List (List (L Value)), rs.flatten.flatMap ownL = rs.flatMap (fun r => r.flatMap ownL) := fun rs => by rw [List.flatMap_def, List.flatMap_def, List.map_flatten, List.flatten_flatten, List.map_map]; rfl
    rw [e1, e1]
    exact set_flatMap hr' (set_flatMap hj' rfl)
  have hmem : ∀ r ∈ rows', r ∈ o'.rows ∨ r = r'.set j (.ref (.slice none 0 0) d.nx 0 0) := fun r hr => List.mem_or_eq_of_mem_set hr
  obtain ⟨hinv2, hkn2⟩ := hinv1.upd (W' := W) hlook (rows := rows') (fun r hr => by
      rcases hmem r hr with h | rfl
      · exact hobs.2 r h
      · rw [List.length_set]; exact hobs.2 r' hrm) (by simp [rows']) (fun r hr l hl => by
      rcases hmem r hr with h | rfl
      · exact has_ob hinv1.good hlook h hl
      · rcases List.mem_or_eq_of_mem_set hl with h | rfl
        · exact has_ob hinv1.good hlook hrm h
        · refine ⟨⟨rfl, _, _, _, rfl⟩, fun o2 ho2 => ?_, fun p hp => by simp [immL] at hp, fun i hi1 => ?_⟩
          · rw [hlookn] at ho2
            cases ho2
            exact ⟨by simp, .inl ⟨rfl, rfl⟩⟩
          · simp only [idsL, List.mem_singleton] at hi1
            subst hi1
            exact .inr (List.mem_map.2 ⟨_, List.mem_append_right _ (List.mem_singleton.2 rfl), rfl⟩)) (by rw [hown]; exact List.Sublist.refl _) hh rfl (Same.refl _) (fun _ _ => rfl) (by rw [hval]; exact hinv1.good.own _ hm)
  refine ⟨⟨d.sl, updOb d1.ob id rows', d.nx + 1⟩, ?_, hinv2, ⟨hs.1, hs.2⟩, hdef, fun i hi1 => ?_, ?_⟩
  · simp only [erS, mapS, S.mk.injEq, true_and, and_true]
    have e1 : rows'.map (fun r => r.map erL) = (erOb o').rows.set e ((r'.map erL).set j (.ref () d.nx 0 0)) := by
      simp [rows', erOb, mapOb, List.map_set, mapL]
    have e2 : d1.ob.map (fun p => (p.1, erOb p.2)) = d.ob.map (fun p => (p.1, erOb p.2)) ++ [(d.nx, ⟨(), m, []⟩)] := by simp [d1, mapOb]
    rw [← e1]
    unfold updOb
    rw [← e2, List.map_map, List.map_map]
    refine List.map_congr_left fun p _ => ?_
    simp only [Function.comp]
    split <;> rfl
  · have := hkn2 i hi1
    rcases hkn i this with h | h
    · have := hk i h; show i < d.nx + 1; omega
    · show i < d.nx + 1; omega
  · show B.n0 ≤ d.nx + 1; omega
section
variable {B : Bd} {N nx : Nat} {asg : Asg} {oa : OAsg}
/-- A nil slice in a cell of an own object becomes an own object without rows. -/
theorem f_nlc {n : Nat} {rows rows' : List (List (L Unit))} {r : List (L Unit)} (id e j m : Nat) (ho : lko oa nx id = some ⟨(), n, rows⟩) (hr : rows[e]? = some r) (hj : r[j]? = some .nl) (hrows : rows.set e (r.set j (.ref () nx 0 0)) = rows') :
    GhB B (St N asg oa nx) (St N asg ((id, some ⟨(), n, rows'⟩) :: (nx, some ⟨(), m, []⟩) :: oa) (nx + 1)) := by
  subst hrows
  have h := GhB.nlc (B := B) (s := St N asg oa nx) m (lko_ok ho) hr hj
  obtain ⟨hlt, hat⟩ := lko_lt ho
  have h1 : lko ((nx, some (⟨(), m, []⟩ : Ob Unit)) :: oa) (nx + 1) id = some ⟨(), n, rows⟩ := by
    unfold lko
    have : Nat.blt id (nx + 1) = true := by simp [Nat.blt]; omega
    rw [this]
    simp only
    rw [obAt_ne _ _ (by omega)]
    exact hat
  have h2 := obOf_upd h1 (rows.set e (r.set j (.ref () nx 0 0)))
  rw [obOf_new] at h2
  have e2 : (⟨(St N asg oa nx).sl, updOb ((St N asg oa nx).ob ++ [((St N asg oa nx).nx, ⟨(), m, []⟩)]) id (rows.set e (r.set j (.ref () (St N asg oa nx).nx 0 0))), (St N asg oa nx).nx + 1⟩ : S Unit) = St N asg ((id, some ⟨(), n, rows.set e (r.set j (.ref () nx 0 0))⟩) :: (nx, some ⟨(), m, []⟩) :: oa) (nx + 1) := by
    simp only [St]
    rw [h2]
  rw [← e2]
  exact h
end
end Go.Proofs.Ytmckcjoacfekcaa.AM

/-! The calculus, forty-eighth part: calls that hand objects over, in regions whose order is drawn. -/
namespace Go.Proofs.Ytmckcjoacfekcaa.AM
open Go
section
variable {P : Program}
theorem ArgsG.loc {s s' : S Unit} {g : Nat → Nat} {hs : List Nat} {lent : Bool} (hob : s'.ob = s.ob) : ∀ {xs : List Operand} {us : List (U Unit)}, ArgsG s g hs lent xs us → (∀ x ∈ xs, evA s' x = evA s x) → ArgsG s' g hs lent xs us
  | _, _, .nil, _ => .nil
  | _, _, .given h1 h2 h3, he => .given (by rw [he _ (by simp)]; exact h1) h2 (h3.loc hob fun x hx => he x (by simp [hx]))
  | _, _, .lent h0 h1 h2 h3 h4, he => .lent h0 (by rw [he _ (by simp)]; exact h1) (by rw [hob]; exact h2) h3 (h4.loc hob fun x hx => he x (by simp [hx]))
def sysG (P : Program) : Sys P := { E := fun o s nid e => (sysC P).E o s nid e ∨ CallG P o s nid e, ok := fun h => h.elim (sysC P).ok stepOk_callG }
theorem locG : LocY (sysG P) := ⟨fun {o s s' nid e} h hρ hob => by
  rcases h with h | ⟨c, f, caps, cs, us, hs, obs, obs', r, lent, h1, h2, h3, h4, h5, h6, h7⟩
  · exact .inl (locC.op h hρ hob)
  · refine .inr ⟨c, f, caps, cs, us, hs, obs, obs', r, lent, h1, ?_, h3, by rw [hob]; exact h4, h5, ?_, h7⟩
    · rw [h1] at hρ
      unfold calE at h2 ⊢
      split at h2
      · rename_i x hx
        rw [hρ x (by simp [Op.operands, Call.operands, hx])]
        exact h2
      · cases h2
    · exact h6.loc hob fun x hx => hρ x (by rw [h1]; simp only [Op.operands, Call.operands, Array.mem_append]; exact .inr (by simpa using hx))⟩
def quietG : Op → Bool
  | .call c => quietB (.call c) && (match c.callee with
    | .value _ => false
    | _ => true)
  | op => quietB op
instance : PlainY (sysG P) := ⟨fun h => .inl (.inl h)⟩
theorem quietG_ok {o : Oper} {s : S Unit} {nid : Nat} {e : Eff} (hq : quietG o.op = true) (h : (sysG P).E o s nid e) : e.upd = [] ∧ e.del = [] := by
  rcases h with h | ⟨c, f, caps, cs, us, hs, obs, obs', r, lent, h1, h2, _⟩
  · refine QuietY.ok (Y := sysC P) (o := o) ?_ h
    show quietB o.op = true
    unfold quietG at hq
    split at hq
    · rename_i c hc
      rw [hc]
      simp only [Bool.and_eq_true] at hq
      exact hq.1
    · exact hq
  · unfold calE at h2
    split at h2
    · rename_i x hx
      rw [h1] at hq
      simp only [quietG, hx, Bool.and_false, Bool.false_eq_true] at hq
    · cases h2
instance : QuietY (sysG P) := ⟨quietG, quietG_ok, locG, fun h => h⟩
variable {K : S Unit → Prop}
theorem aopK_G {pr : Nat} {o : Oper} {s : S Unit} (h : aopK (sysC P) pr o s K) : aopK (sysG P) pr o s K := by
  obtain ⟨e, h0, h1, h2⟩ := h
  exact ⟨e, h0, .inl h1, h2⟩
end
section
variable {P : Program} {N nx : Nat} {asg : Asg} {oa : OAsg} {K : S Unit → Prop}
theorem x_cgG {dst : Option Nat} {ty : TypeId} {pos : String} {aft : Array Edge} {x : Operand} {args : Array Operand} {ats : Array TypeId} {f : FuncId} {caps cs : List (L Unit)} {us : List (U Unit)} {r v : V Unit} {nobs : List (Nat × Ob Unit)} {oa' : OAsg} {nx' : Nat} {obs obs' : List (Ob Unit)}
    (hs : List Nat) (lent : Bool) (hf : ev N asg x = some (.u (.one (.fn () f caps)))) (hnd : hs.Nodup) (hh : All2 (fun h ob => lko oa nx h = some (renOb (gG hs nx) ob)) hs obs) (hkn : obs.all (fun ob => knowsR hs.length ob.rows) = true)
    (ha : ArgsG (St N asg oa nx) (gG hs nx) hs lent args.toList us) (hcaps : caps = cs.map (renL (gG hs nx))) (hck : cs.all (okK hs.length) = true) (hent : Ent P f) (hsim : Sim P f (us ++ cs.map .one) obs r obs')
    (himf : lent = false ∨ (immFreeV r = true ∧ obs'.all (fun ob => immFreeR ob.rows) = true)) (hn : (obs'.take hs.length).map (·.n) = obs.map (·.n)) (hroot : rootV (fun _ => ()) (nx + (obs'.length - hs.length)) (renV (gG hs nx) r) = (v, nobs))
    (hoa : oaG (gG hs nx) nx hs obs' nobs oa = oa') (hnx : nx + (obs'.length - hs.length + nobs.length) = nx') (hK : K (St N (dstA dst v asg) oa' nx')) : aopK (sysG P) 0 ⟨dst, .call ⟨.value x, args, ats⟩, ty, pos, aft, none⟩ (St N asg oa nx) K := by
  subst hoa hnx
  have hh' : All2 (fun h ob => look (St N asg oa nx).ob h = some (renOb (gG hs nx) ob)) hs obs := all2_imp (fun _ _ h => lko_ok h) hh
  refine ⟨_, fun h => absurd rfl h, Or.inr ⟨⟨.value x, args, ats⟩, f, caps, cs, us, hs, obs, obs', r, lent, rfl, ?_, hnd, hh', List.all_eq_true.1 hkn, ha, hcaps, hck, hent, hsim, himf.imp id fun h => ⟨h.1, List.all_eq_true.1 h.2⟩, rfl⟩, fun _ => ?_⟩
  · simp only [calE, lO_ev hf]
  · have e := St_cg (rd := []) (N := N) (asg := asg) (dst := dst) hnd hh hn hroot
    rw [← e] at hK
    exact hK
end
section
variable {P : Program} {Y : Sys P} {N nx fuel : Nat} {asg : Asg} {oa : OAsg} {K : S Unit → Prop} {ops : List Oper} {L : Array Bool} {dst dst' : Option Nat} {op op' : Op} {ty ty' : TypeId} {pos pos' : String} {aft aft' : Array Edge}
def bothB (ops : Array Oper) (L : Array Bool) (i j : Nat) : Bool := (Region.ready .any ops L) == [i, j]
/-- Two operations are ready: both orders. -/
theorem t_2 (i j : Nat) (hi : ops[i]? = some ⟨dst, op, ty, pos, aft, none⟩) (hj : ops[j]? = some ⟨dst', op', ty', pos', aft', none⟩) (hb : bothB ops.toArray L i j = true)
    (h1 : aopK Y 0 ⟨dst, op, ty, pos, aft, none⟩ (St N asg oa nx) (fun s' => aAny Y ops fuel (L.setIfInBounds i true) s' K))
    (h2 : aopK Y 0 ⟨dst', op', ty', pos', aft', none⟩ (St N asg oa nx) (fun s' => aAny Y ops fuel (L.setIfInBounds j true) s' K)) : aAny Y ops (fuel + 1) L (St N asg oa nx) K := by
  have hr : Region.ready .any ops.toArray L = [i, j] := by simpa [bothB] using hb
  refine ⟨fun h0 => (by rw [h0] at hr; cases hr), fun k hk o ho => ?_⟩
  rw [hr] at hk
  simp only [List.mem_cons, List.not_mem_nil, or_false] at hk
  rcases hk with rfl | rfl
  · rw [hi] at ho
    cases ho
    obtain ⟨e, _, h1, h2⟩ := h1
    exact ⟨e, h1, fun hh => h2 fun _ => hh⟩
  · rw [hj] at ho
    cases ho
    obtain ⟨e, _, h1, h2⟩ := h2
    exact ⟨e, h1, fun hh => h2 fun _ => hh⟩
end
/-- An own slice goes inline; its length is told otherwise. -/
theorem f_foldl {B : Bd} {nx : Nat} {oa : OAsg} {α : Type} {enc : α → List (L Unit)} [EncO enc] {us us' : List (U Unit)} {u : U Unit} {m id n : Nat} {xs : List α} (t j : Nat) (ht : us[t]? = some u) (hj : (leavesU u)[j]? = some (.ref () id 0 n)) (ho : lko oa nx id = some ⟨(), m, xs.map enc⟩) (hn : n = xs.length)
    (hu : us.set t (setLf u j (.os () m (xs.map enc))) = us') : GhB B (Rt us oa nx) (Rt us' ((id, none) :: oa) nx) := by
  subst hn
  exact f_fold t j ht hj ho hu
end Go.Proofs.Ytmckcjoacfekcaa.AM

/-! The calculus, forty-ninth part: pieces of slices. -/
namespace Go.Proofs.Ytmckcjoacfekcaa.AM
open Go
section
variable {P : Program} {Y : Sys P} [PlainY Y] {N nx t pr : Nat} {asg : Asg} {oa : OAsg} {K : S Unit → Prop} {ty : TypeId} {pos : String} {aft : Array Edge}
/-- A bound that is told. -/
def BdS (N : Nat) (asg : Asg) (x : Option Operand) (dflt n : Nat) : Prop := (x = none ∧ n = dflt) ∨ ∃ y k m, x = some y ∧ ev N asg y = some (.u (.one (.int k m))) ∧ 0 ≤ m ∧ n = m.toNat
theorem bd_n {d : Nat} : BdS N asg none d d := .inl ⟨rfl, rfl⟩
theorem bd_s {y : Operand} {d : Nat} {k : IntKind} {m : Int} (h : ev N asg y = some (.u (.one (.int k m)))) (h0 : 0 ≤ m) : BdS N asg (some y) d m.toNat := .inr ⟨y, k, m, rfl, h, h0, rfl⟩
theorem BdS.e {x : Option Operand} {d n : Nat} (h : BdS N asg x d n) : bdE (evA (St N asg oa nx)) x d = some n := by
  rcases h with ⟨rfl, rfl⟩ | ⟨y, k, m, rfl, h1, h2, rfl⟩
  · rfl
  · simp only [bdE, lO_ev h1, if_pos h2]
/-- A piece of rows that are read. -/
theorem x_slb {α : Type} {tt : TypeId} {x : Operand} {lo hi : Option Operand} {m l h : Nat} {xs : List α} {enc : α → List (L Unit)} (he : elS P tt = some m) (h1 : ev N asg x = some (.u (.one (.bs () m (xs.map enc))))) (hl : BdS N asg lo 0 l) (hh : BdS N asg hi xs.length h)
    (hb : l ≤ h ∧ h ≤ xs.length) (hK : K (St N ((t, .u (.one (.bs () m (((xs.drop l).take (h - l)).map enc)))) :: asg) oa nx)) : aopK Y pr ⟨some t, .slice tt x lo hi none, ty, pos, aft, none⟩ (St N asg oa nx) K := by
  obtain ⟨i, ie, a1, a2, a3, rfl⟩ := elS_spec he
  have e1 := hl.e (oa := oa) (nx := nx)
  have e2 := hh.e (oa := oa) (nx := nx)
  rw [List.map_take, List.map_drop] at hK
  exact aopK_r (v := one1 (.bs () ie.size (((xs.map enc).drop l).take (h - l)))) (rd := []) (hyp := True) (by simp only [opF, slF, a1, a2, a3, Option.bind_some, lO_ev h1, e1, List.length_map, e2, if_true, if_pos hb]) rd0 (fun _ => by rw [St_pure]; exact hK)
/-- A piece of own rows. -/
theorem x_slr {tt : TypeId} {x : Operand} {lo hi : Option Operand} {m l h id off len : Nat} {rows : List (List (L Unit))} (hp : Nat.beq pr 1 = false) (he : elS P tt = some m) (h1 : ev N asg x = some (.u (.one (.ref () id off len)))) (ho : lko oa nx id = some ⟨(), m, rows⟩) (hl : BdS N asg lo 0 l) (hh : BdS N asg hi len h)
    (hb : l ≤ h ∧ h ≤ len) (hK : K (St N ((t, .u (.one (.ref () id (off + l) (h - l)))) :: asg) oa nx)) : aopK Y pr ⟨some t, .slice tt x lo hi none, ty, pos, aft, none⟩ (St N asg oa nx) K := by
  obtain ⟨i, ie, a1, a2, a3, rfl⟩ := elS_spec he
  have e1 := hl.e (oa := oa) (nx := nx)
  have e2 := hh.e (oa := oa) (nx := nx)
  exact aopK_r (v := one1 (.ref () id (off + l) (h - l))) (rd := [id]) (hyp := True) (by simp only [opF, slF, a1, a2, a3, Option.bind_some, lO_ev h1, lko_ok ho, e1, e2, if_true, if_pos hb]) (rd1 hp (lko_ok ho)) (fun _ => by rw [St_pure]; exact hK)
end
end Go.Proofs.Ytmckcjoacfekcaa.AM

/-! The calculus, fiftieth part: a piece of own rows, the rest let go. -/
namespace Go.Proofs.Ytmckcjoacfekcaa.AM
open Go
theorem GhB.cut {B : Bd} {s : S Unit} {t id off len : Nat} {o : Ob Unit} (ht : s.sl[t]? = some (.u (.one (.ref () id off len)))) (ho : look s.ob id = some o) (hno : o.rows.all (fun r => r.all noOs) = true) :
    GhB B s ⟨s.sl.set t (.u (.one (.ref () s.nx 0 len))), s.ob.filter (fun p => !(p.1 == id)) ++ [(s.nx, ⟨(), o.n, (o.rows.drop off).take len⟩)], s.nx + 1⟩ := by
  rintro a W ⟨d, rfl, hi, hs, hdef, hk, hn0⟩
  obtain ⟨v1, hv1, hv2⟩ := erS_slot ht
  obtain ⟨v, rfl⟩ : ∃ v, v1 = .u (.one (.ref v id off len)) := by
    cases v1 with
    | u x => cases x with
      | one l =>
        simp only [mapV, mapU, V.u.injEq, U.one.injEq] at hv2
        obtain ⟨v, rfl⟩ := er_ref hv2
        exact ⟨v, rfl⟩
      | agg ls => cases hv2
    | tup xs => cases hv2
    | un => cases hv2
    | ud => cases hv2
  obtain ⟨o', ho', rfl⟩ := look_lift ho
  have hobs : _ ∧ ∀ r ∈ o'.rows, r.length = o'.n := hi.good.obs _ (find?_key ho')
  have hnos : ∀ r ∈ o'.rows, ∀ l ∈ r, noOs l = true := by
    simp only [erOb, mapOb, List.all_map, List.all_eq_true, Function.comp_def, noOs_er] at hno
    exact hno
  have hmem : L.ref v id off len ∈ tops d := mem_tops.2 (.inl ⟨_, List.mem_of_getElem? hv1, by simp [leavesV, leavesU]⟩)
  obtain ⟨hle, hform⟩ := (hi.good.wf _ hmem).2 o' ho'
  let rows' := (o'.rows.drop off).take len
  have hlr : rows'.length = len := by simp only [rows', List.length_take, List.length_drop]; omega
  have hsubr : ∀ r ∈ rows', r ∈ o'.rows := fun r hr => List.mem_of_mem_drop (List.mem_of_mem_take hr)
  have hkey : (id, o') ∈ d.ob := find?_key ho'
  -- the header
  obtain ⟨h', hh1, hh2, hh3⟩ : ∃ h', ((h' = .slice none 0 0 ∧ rows' = []) ∨ ∃ b x c, h' = .slice (some ⟨b, x, none⟩) 0 c ∧ rows'.length ≤ c ∧ rows'.length ≤ LIM) ∧
      (∀ ob : List (Nat × Ob Value), look ob d.nx = some ⟨h', o'.n, rows'⟩ → refOk ob (.ref v d.nx 0 len)) ∧
      (∀ p ∈ hdrOwn h' o'.n rows', OwnFact W p ∧ ∃ q ∈ hdrOwn o'.h o'.n o'.rows, q.1 = p.1) := by
    rcases hform with ⟨h0, hv0⟩ | ⟨b, x, c0, h0, hv0⟩
    · have hr0 : o'.rows = [] := by
        rcases hobs.1 with ⟨_, h1⟩ | ⟨_, _, _, h1, _⟩
        · exact h1
        · simp only at h1; rw [h0] at h1; cases h1
      have hr1 : rows' = [] := by simp [rows', hr0]
      refine ⟨.slice none 0 0, .inl ⟨rfl, hr1⟩, fun ob hl o2 ho2 => ?_, fun p hp => by simp [hdrOwn] at hp⟩
      rw [hl] at ho2
      cases ho2
      exact ⟨by simp [hlr], .inl ⟨rfl, hv0⟩⟩
    · have hc : o'.rows.length ≤ c0 ∧ o'.rows.length ≤ LIM := by
        rcases hobs.1 with ⟨h7, _⟩ | ⟨b2, x2, c2, h7, h8, h9⟩
        · simp only at h7; rw [h0] at h7; cases h7
        · simp only at h7 h8 h9; rw [h0] at h7; cases h7; exact ⟨h8, h9⟩
      have hm0 : (b, x, c0 * o'.n, valR o'.rows) ∈ hdrOwn o'.h o'.n o'.rows := by simp [hdrOwn, h0]
      have hm : (b, x, c0 * o'.n, valR o'.rows) ∈ ownS d := by
        simp only [ownS, List.mem_append]
        left
        exact List.mem_flatMap.2 ⟨(id, o'), hkey, hm0⟩
      obtain ⟨arr, ty, k1, k2, k3, k4⟩ := hi.good.own _ hm
      simp only at k2 k3 k4
      rcases hv0 with hv0 | ⟨y, hv0, hl0, h9, h10⟩
      · refine ⟨.slice (some ⟨b, x + off * o'.n, none⟩) 0 (c0 - off), .inr ⟨_, _, _, rfl, by omega, by omega⟩, fun ob hl o2 ho2 => ?_, fun p hp => ?_⟩
        · rw [hl] at ho2
          cases ho2
          exact ⟨by simp [hlr], .inr ⟨b, _, _, rfl, .inl (by rw [hv0]; simp)⟩⟩
        · simp only [hdrOwn, List.mem_singleton] at hp
          subst hp
          refine ⟨⟨arr, ty, k1, ?_, ?_, fun j u hj => ?_⟩, _, hm0, rfl⟩
          · simp only
            have : off * o'.n + (c0 - off) * o'.n = c0 * o'.n := by rw [← Nat.add_mul]; congr 1; omega
            omega
          · simp only
            rw [valR_len fun r hr => hobs.2 r (hsubr r hr)]
            exact Nat.mul_le_mul_right _ (by omega)
          · have h2 := drop_take_valR hobs.2 off len j hj
            have := k4 _ _ h2
            simpa [Nat.add_assoc] using this
      · have hr1 : rows' = [] := List.eq_nil_of_length_eq_zero (by omega)
        refine ⟨.slice (some ⟨b, y, none⟩) 0 0, .inr ⟨_, _, _, rfl, by omega, by omega⟩, fun ob hl o2 ho2 => ?_, fun p hp => ?_⟩
        · rw [hl] at ho2
          cases ho2
          exact ⟨by simp [hlr], .inr ⟨b, _, _, rfl, .inl (by rw [hv0, hl0]; simp)⟩⟩
        · simp only [hdrOwn, List.mem_singleton] at hp
          subst hp
          refine ⟨⟨arr, ty, k1, ?_, ?_, fun j u hj => ?_⟩, _, hm0, rfl⟩
          · simp only [Nat.zero_mul]; omega
          · simp [hr1, valR]
          · simp [hr1, valR] at hj
  let nv : V Value := .u (.one (.ref v d.nx 0 len))
  let no : Ob Value := ⟨h', o'.n, rows'⟩
  let d' : S Value := ⟨d.sl.set t nv, d.ob.filter (fun p => !(p.1 == id)) ++ [(d.nx, no)], d.nx + 1⟩
  have hsub : (d.ob.filter (fun p => !(p.1 == id))).Sublist d.ob := List.filter_sublist
  have hnk : d.nx ∉ d.ob.map (·.1) := fun hm => by have := hk d.nx (.inr hm); omega
  have hnd' : (d'.ob.map (·.1)).Nodup := by
    show ((d.ob.filter _ ++ [(d.nx, no)]).map (·.1)).Nodup
    rw [List.map_append, List.nodup_append]
    refine ⟨hi.good.ids.sublist (hsub.map _), by simp, fun i hi1 j hj e => ?_⟩
    simp only [List.map_cons, List.map_nil, List.mem_singleton] at hj
    subst e hj
    exact hnk ((hsub.map _).subset hi1)
  have hlookn : look d'.ob d.nx = some no := look_mem hnd' (List.mem_append_right _ (by simp))
  have htop : ∀ l ∈ tops d', l ∈ tops d ∨ l = .ref v d.nx 0 len := fun l hl => by
    rcases mem_tops.1 hl with ⟨w, hw, hl2⟩ | hl2
    · rcases List.mem_or_eq_of_mem_set hw with hw | rfl
      · exact .inl (mem_tops.2 (.inl ⟨w, hw, hl2⟩))
      · simp only [nv, leavesV, leavesU, List.mem_singleton] at hl2
        exact .inr hl2
    · obtain ⟨p, hp, r, hr, hlr⟩ := mem_obLeaves.1 hl2
      rcases List.mem_append.1 hp with hp | hp
      · exact .inl (mem_tops.2 (.inr (mem_obLeaves.2 ⟨p, hsub.subset hp, r, hr, hlr⟩)))
      · simp only [List.mem_singleton] at hp
        subst hp
        exact .inl (mem_tops.2 (.inr (mem_obLeaves.2 ⟨_, hkey, r, hsubr r hr, hlr⟩)))
  have hlook' : ∀ i, Knows d i → look d'.ob i = look d.ob i ∨ look d'.ob i = none := fun i hi1 => by
    have hne : i ≠ d.nx := fun e => by have := hk i hi1; omega
    have e1 : look d'.ob i = look (d.ob.filter (fun p => !(p.1 == id))) i := by
      unfold look
      simp only [d', List.find?_append]
      have : List.find? (fun p : Nat × Ob Value => p.1 == i) [(d.nx, no)] = none := by simp [Ne.symm hne]
      rw [this, Option.or_none]
    rw [e1]
    exact look_filter (f := fun j => !(j == id))
  have hown0 : o'.rows.flatten.flatMap ownL = [] := by
    rw [List.flatMap_eq_nil_iff]
    intro l hl
    obtain ⟨r, hr, hl⟩ := List.mem_flatten.1 hl
    exact ownL_noOs (hnos r hr l hl)
  have hown1 : rows'.flatten.flatMap ownL = [] := by
    rw [List.flatMap_eq_nil_iff]
    intro l hl
    obtain ⟨r, hr, hl⟩ := List.mem_flatten.1 hl
    exact ownL_noOs (hnos r (hsubr r hr) l hl)
  obtain ⟨R, hR, hR'⟩ : ∃ R, (ownS d).Perm (hdrOwn o'.h o'.n o'.rows ++ R) ∧ (ownS d').Perm (hdrOwn h' o'.n rows' ++ R) := by
    classical
    obtain ⟨l1, l2, hob, h1, h2⟩ := look_split ho' hi.good.ids
    have hf : d.ob.filter (fun p => !(p.1 == id)) = l1 ++ l2 := by rw [hob]; exact filter_ne h1 h2
    refine ⟨(l1 ++ l2).flatMap ownOb ++ (d.sl.flatMap leavesV).flatMap ownL, List.perm_iff_count.2 fun q => ?_, List.perm_iff_count.2 fun q => ?_⟩
    · have c1 := List.perm_iff_count.1 (own_split d) q
      rw [hob] at c1
      simp only [List.flatMap_append, List.flatMap_cons, List.count_append, ownOb, hown0, List.append_nil] at c1 ⊢
      omega
    · have c1 := List.perm_iff_count.1 (own_split d') q
      have c2 : (d'.sl.flatMap leavesV).flatMap ownL = (d.sl.flatMap leavesV).flatMap ownL := by
        rw [List.flatMap_assoc, List.flatMap_assoc]
        exact set_flatMap hv1 (by simp [nv, leavesV, leavesU, ownL])
      have c3 : d'.ob = (l1 ++ l2) ++ [(d.nx, no)] := by show d.ob.filter _ ++ _ = _; rw [hf]
      rw [c2, c3] at c1
      simp only [List.flatMap_append, List.flatMap_cons, List.flatMap_nil, List.append_nil, List.count_append, ownOb, no, hown1] at c1 ⊢
      omega
  have hnd := (hR.map (·.1)).nodup_iff.1 hi.good.nodup
  rw [List.map_append, List.nodup_append] at hnd
  have h1' : (hdrOwn h' o'.n rows').length ≤ 1 := by unfold hdrOwn; split <;> simp
  refine ⟨d', ?_, ?_, ⟨by simpa [d'] using hs.1, fun i w hw => ?_⟩, hdef, fun i hi2 => ?_, ?_⟩
  · have e1 : d'.sl.map erV = (d.sl.map erV).set t (.u (.one (.ref () d.nx 0 len))) := by
      simp only [d', nv, List.map_set, mapV, mapU, mapL]
    have e2 : (d.ob.filter (fun p => !(p.1 == id))).map (fun p => (p.1, erOb p.2)) = (d.ob.map (fun p => (p.1, erOb p.2))).filter (fun p => !(p.1 == id)) := by
      rw [List.filter_map]; rfl
    have e3 : erOb no = ⟨(), (erOb o').n, ((erOb o').rows.drop off).take len⟩ := by
      simp [no, rows', erOb, mapOb, List.map_take, List.map_drop]
    simp only [erS, mapS, S.mk.injEq, and_true]
    refine ⟨e1, ?_, rfl⟩
    show List.map _ (d.ob.filter _ ++ [(d.nx, no)]) = _
    rw [List.map_append, e2]
    congr 1
    simp only [List.map_cons, List.map_nil]
    rw [show mapOb (fun _ => ()) no = erOb no from rfl, e3]
  · refine hi.step (Nat.le_refl _) (Same.refl _) (fun _ _ _ => rfl) (fun l hl => ?_) (fun p hp => ?_) hnd' (fun p hp => ?_) ?_ (fun p hp => ?_) (fun p hp hlt => ?_)
    · rcases htop l hl with h | rfl
      · have hh := has_top hi.good h
        exact ⟨hh.1, refOk_mono (fun i hi1 => hlook' i (hh.2.2.2 i hi1)) hh.2.1⟩
      · exact ⟨⟨rfl, (hi.good.wf _ hmem).1.2⟩, hh2 _ hlookn⟩
    · rcases List.mem_append.1 hp with hp | hp
      · exact hi.good.obs p (hsub.subset hp)
      · simp only [List.mem_singleton] at hp
        subst hp
        exact ⟨hh1, fun r hr => hobs.2 r (hsubr r hr)⟩
    · rcases List.mem_append.1 (hR'.mem_iff.1 hp) with hp | hp
      · obtain ⟨k1, q, k2, k3⟩ := hh3 p hp
        exact ⟨k1, .inl ⟨q, hR.mem_iff.2 (List.mem_append_left _ k2), k3⟩⟩
      · have := hR.mem_iff.2 (List.mem_append_right _ hp)
        exact ⟨hi.good.own p this, .inl ⟨p, this, rfl⟩⟩
    · rw [(hR'.map (·.1)).nodup_iff, List.map_append, List.nodup_append]
      refine ⟨?_, hnd.2.1, fun i hi1 j hj e => ?_⟩
      · unfold hdrOwn; split <;> simp
      · obtain ⟨p, hp, rfl⟩ := List.mem_map.1 hi1
        obtain ⟨_, q, k2, k3⟩ := hh3 p hp
        exact hnd.2.2 q.1 (List.mem_map.2 ⟨q, k2, rfl⟩) j hj (k3.trans e)
    · obtain ⟨l, hl, hp⟩ := List.mem_flatMap.1 hp
      rcases htop l hl with h | rfl
      · exact .of_mem (List.mem_flatMap.2 ⟨l, h, hp⟩)
      · simp [immL] at hp
    · rcases List.mem_append.1 hp with hp | hp
      · exact hi.hdr p (hsub.subset hp) hlt
      · simp only [List.mem_singleton] at hp
        subst hp
        simp only at hlt
        omega
  · simp only [d', List.getElem?_set] at hw
    by_cases hti : t = i
    · subst hti
      have hlt : t < d.sl.length := (List.getElem?_eq_some_iff.1 hv1).1
      rw [if_pos rfl, if_pos hlt] at hw
      cases hw
      have := hs.2 t _ hv1
      simpa [nv, VR, UR, val] using this
    · rw [if_neg hti] at hw
      exact hs.2 i w hw
  · show i < d.nx + 1
    rcases hi2 with ⟨l, hl, h⟩ | h
    · rcases htop l hl with h2 | rfl
      · have := hk i (.inl ⟨l, h2, h⟩); omega
      · simp only [idsL, List.mem_singleton] at h; omega
    · have : i ∈ (d.ob.filter (fun p => !(p.1 == id)) ++ [(d.nx, no)]).map (·.1) := h
      rw [List.map_append, List.mem_append] at this
      rcases this with h3 | h3
      · have := hk i (.inr ((hsub.map _).subset h3)); omega
      · simp only [List.map_cons, List.map_nil, List.mem_singleton] at h3; omega
  · show B.n0 ≤ d.nx + 1; omega
section
variable {B : Bd} {N nx : Nat} {asg : Asg} {oa : OAsg}
theorem all_noOs_map {α : Type} {enc : α → List (L Unit)} [EncB enc] (xs : List α) : (xs.map enc).all (fun r => r.all noOs) = true := by
  simp only [List.all_map, List.all_eq_true]
  intro x _
  have := EncB.h (enc := enc) x
  simp only [List.all_eq_true] at this
  simp only [Function.comp, List.all_eq_true]
  exact fun l hl => plain_noOs (this l hl)
/-- A piece of own rows, the rest let go. -/
theorem f_cut {α : Type} {enc : α → List (L Unit)} [EncB enc] {id off len n len' : Nat} (t : Nat) (xs : List α) (hN : Nat.blt t N = true) (ht : lkp asg t = some (.u (.one (.ref () id off len)))) (ho : lko oa nx id = some ⟨(), n, xs.map enc⟩) (hl : len = len') :
    GhB B (St N asg oa nx) (St N ((t, .u (.one (.ref () nx 0 len'))) :: asg) ((nx, some ⟨(), n, ((xs.drop off).take len').map enc⟩) :: (id, none) :: oa) (nx + 1)) := by
  subst hl
  have h := GhB.cut (B := B) (s := St N asg oa nx) (St_get (oa := oa) (nx := nx) hN ht) (lko_ok ho) (all_noOs_map xs)
  have e : (⟨(St N asg oa nx).sl.set t (.u (.one (.ref () (St N asg oa nx).nx 0 len))), (St N asg oa nx).ob.filter (fun p => !(p.1 == id)) ++ [((St N asg oa nx).nx, ⟨(), n, ((xs.map enc).drop off).take len⟩)], (St N asg oa nx).nx + 1⟩ : S Unit) =
      St N ((t, .u (.one (.ref () nx 0 len))) :: asg) ((nx, some ⟨(), n, ((xs.drop off).take len).map enc⟩) :: (id, none) :: oa) (nx + 1) := by
    simp only [St, slots_set, obOf_delnew, List.map_take, List.map_drop]
  rw [← e]
  exact h
end
end Go.Proofs.Ytmckcjoacfekcaa.AM

/-! The calculus, fifty-first part: pieces in terms; results frozen; a nil slice in a slot as an own object. -/
namespace Go.Proofs.Ytmckcjoacfekcaa.AM
open Go
theorem GhB.nls {B : Bd} {s : S Unit} {u : U Unit} (t j m : Nat) (ht : s.sl[t]? = some (.u u)) (hj : (leavesU u)[j]? = some .nl) : GhB B s ⟨s.sl.set t (.u (setLf u j (.ref () s.nx 0 0))), s.ob ++ [(s.nx, ⟨(), m, []⟩)], s.nx + 1⟩ := by
  rintro a W ⟨d, rfl, hi0, hs, hdef, hk, hn0⟩
  have h1 : (d.sl.map erV)[t]? = some (.u u) := ht
  rw [List.getElem?_map, Option.map_eq_some_iff] at h1
  obtain ⟨v, hv, hvu⟩ := h1
  obtain ⟨u', rfl, rfl⟩ : ∃ u', v = .u u' ∧ erU u' = u := by
    cases v with
    | u x => exact ⟨x, rfl, by injection hvu⟩
    | tup xs => cases hvu
    | un => cases hvu
    | ud => cases hvu
  rw [leavesU_map, List.getElem?_map, Option.map_eq_some_iff] at hj
  obtain ⟨l', hj', hl'⟩ := hj
  obtain rfl : l' = .nl := by cases l' <;> simp [mapL] at hl'; rfl
  have hjlt : j < (leavesU u').length := (List.getElem?_eq_some_iff.1 hj').1
  have htlt : t < d.sl.length := (List.getElem?_eq_some_iff.1 hv).1
  have hfr : ∀ i, Knows d i → i ≠ d.nx := fun i hi1 he => by have := hk i hi1; omega
  obtain ⟨hi, hkn⟩ := hi0.new (W' := W) (fun _ => true) hfr hn0 (hd := .slice none 0 0) (n := m) (rows := []) (by simp) (by simp) (Nat.le_refl _) (Same.refl _) (fun _ _ _ => rfl) (.inl ⟨rfl, rfl⟩)
  have hfl : d.ob.filter (fun _ => true) = d.ob := List.filter_eq_self.2 fun _ _ => rfl
  simp only [hfl] at hi hkn
  let d1 : S Value := ⟨d.sl, d.ob ++ [(d.nx, ⟨.slice none 0 0, m, []⟩)], d.nx + 1⟩
  have hi : Inv B W d1 := hi
  have hlookn : look d1.ob d.nx = some ⟨.slice none 0 0, m, []⟩ := look_mem hi.good.ids (List.mem_append_right _ (by simp))
  let nl' : L Value := .ref (.slice none 0 0) d.nx 0 0
  have hno : ownL nl' = [] := rfl
  have him : immL nl' = [] := by simp [nl', immL]
  have hids : idsL nl' = [d.nx] := rfl
  have hwf : wfL false nl' := ⟨rfl, _, _, _, rfl⟩
  have hrf : refOk d1.ob nl' := fun o2 ho2 => by
    rw [hlookn] at ho2
    cases ho2
    exact ⟨by simp, .inl ⟨rfl, rfl⟩⟩
  have hval : val nl' = val (.nl : L Value) := rfl
  let nv : V Value := .u (setLf u' j nl')
  have hlv : leavesV nv = (leavesU u').set j nl' := setLf_leaves hjlt
  let d' : S Value := ⟨d.sl.set t nv, d1.ob, d.nx + 1⟩
  have htop : ∀ l ∈ tops d', l ∈ tops d1 ∨ l = nl' := fun l hl => by
    rcases mem_tops.1 hl with ⟨w, hw, hl2⟩ | hl2
    · rcases List.mem_or_eq_of_mem_set hw with hw | rfl
      · exact .inl (mem_tops.2 (.inl ⟨w, hw, hl2⟩))
      · rw [hlv] at hl2
        rcases List.mem_or_eq_of_mem_set hl2 with hl2 | rfl
        · exact .inl (mem_tops.2 (.inl ⟨.u u', List.mem_of_getElem? hv, hl2⟩))
        · exact .inr rfl
    · exact .inl (mem_tops.2 (.inr hl2))
  have hown : (ownS d').Perm (ownS d1) := by
    have h1 : ((leavesV nv).flatMap ownL).Perm ([] ++ (leavesV (.u u')).flatMap ownL) := by
      rw [hlv]
      exact perm_set (e := []) hj' (by simp [hno, ownL])
    have h2 := perm_set (f := fun v => (leavesV v).flatMap ownL) (e := []) hv h1
    simp only [ownS, tops, List.flatMap_append, List.flatMap_assoc, d', d1] at h2 ⊢
    simp only [List.nil_append] at h2
    exact (h2.append_right _).append_left _
  refine ⟨d', ?_, ?_, ⟨by simpa [d'] using hs.1, fun i w hw => ?_⟩, hdef, fun i hi2 => ?_, ?_⟩
  · have e1 : (d'.sl.map erV) = (d.sl.map erV).set t (.u (setLf (erU u') j (.ref () d.nx 0 0))) := by
      simp only [d', List.map_set]
      congr 1
      show V.u (erU (setLf u' j nl')) = _
      rw [setLf_er]
      simp [nl', mapL]
    have e2 : erS d' = ⟨d'.sl.map erV, d1.ob.map (fun p => (p.1, erOb p.2)), d'.nx⟩ := rfl
    rw [e2, e1]
    simp only [d1, List.map_append, List.map_cons, List.map_nil, mapOb]
    rfl
  · refine hi.step (Nat.le_refl _) (Same.refl _) (fun _ _ _ => rfl) (fun l hl => ?_) hi.good.obs hi.good.ids (fun p hp => ⟨hi.good.own p (hown.mem_iff.1 hp), .inl ⟨p, hown.mem_iff.1 hp, rfl⟩⟩) ((hown.map (·.1)).nodup_iff.2 hi.good.nodup) (fun p hp => ?_) hi.hdr
    · rcases htop l hl with h | rfl
      · exact hi.good.wf l h
      · exact ⟨hwf, hrf⟩
    · obtain ⟨l, hl, hp⟩ := List.mem_flatMap.1 hp
      rcases htop l hl with h | rfl
      · exact .of_mem (List.mem_flatMap.2 ⟨l, h, hp⟩)
      · rw [him] at hp; cases hp
  · simp only [d', List.getElem?_set] at hw
    by_cases hti : t = i
    · subst hti
      rw [if_pos rfl, if_pos htlt] at hw
      cases hw
      exact setLf_UR (hs.2 t _ hv) hj' hval
    · rw [if_neg hti] at hw
      exact hs.2 i w hw
  · show i < d.nx + 1
    rcases hi2 with ⟨l, hl, h⟩ | h
    · rcases htop l hl with h2 | rfl
      · rcases hkn i (.inl ⟨l, h2, h⟩) with h | h
        · have := hk i h; omega
        · omega
      · rw [hids] at h
        simp only [List.mem_singleton] at h
        omega
    · rcases hkn i (.inr h) with h | h
      · have := hk i h; omega
      · omega
  · show B.n0 ≤ d.nx + 1; omega
section
variable {B : Bd} {N nx : Nat} {asg : Asg} {oa : OAsg}
/-- A nil slice in a slot becomes an own object without rows. -/
theorem f_nls {u u' : U Unit} (t j m : Nat) (hN : Nat.blt t N = true) (ht : lkp asg t = some (.u u)) (hj : (leavesU u)[j]? = some .nl) (hu : setLf u j (.ref () nx 0 0) = u') :
    GhB B (St N asg oa nx) (St N ((t, .u u') :: asg) ((nx, some ⟨(), m, []⟩) :: oa) (nx + 1)) := by
  subst hu
  have h := GhB.nls (B := B) t j m (St_get (oa := oa) (nx := nx) hN ht) hj
  have e : (⟨(St N asg oa nx).sl.set t (.u (setLf u j (.ref () (St N asg oa nx).nx 0 0))), (St N asg oa nx).ob ++ [((St N asg oa nx).nx, ⟨(), m, []⟩)], (St N asg oa nx).nx + 1⟩ : S Unit) =
      St N ((t, .u (setLf u j (.ref () nx 0 0))) :: asg) ((nx, some ⟨(), m, []⟩) :: oa) (nx + 1) := by
    simp only [St, slots_set, obOf_new]
  rw [← e]
  exact h
/-- A piece to the end, the rest let go. -/
theorem f_cutd {α : Type} {enc : α → List (L Unit)} [EncB enc] {id off len n : Nat} (t : Nat) (xs ys : List α) (hN : Nat.blt t N = true) (ht : lkp asg t = some (.u (.one (.ref () id off len)))) (ho : lko oa nx id = some ⟨(), n, xs.map enc⟩) (hl : len = ys.length) (hy : (xs.drop off).take len = ys) :
    GhB B (St N asg oa nx) (St N ((t, .u (.one (.ref () nx 0 ys.length))) :: asg) ((nx, some ⟨(), n, ys.map enc⟩) :: (id, none) :: oa) (nx + 1)) := by
  have := f_cut (B := B) t xs hN ht ho hl
  rw [← hl, hy, hl] at this
  exact this
theorem frzU_set {us us' : List (U Unit)} {u : U Unit} {n id : Nat} {rows : List (List (L Unit))} {t j : Nat} (ht : us[t]? = some u) (hj : (leavesU u)[j]? = some (.ref () id 0 rows.length)) (hu : us.set t (setLf u j (.bs () n rows)) = us')
    (hno : us'.all (fun u => (leavesU u).all fun l => !refTo id l) = true) : us.map (frzU id n rows) = us' := by
  subst hu
  have hjlt : j < (leavesU u).length := (List.getElem?_eq_some_iff.1 hj).1
  simp only [List.all_eq_true, Bool.not_eq_true'] at hno
  apply List.ext_getElem?
  intro i
  rw [List.getElem?_map, List.getElem?_set]
  by_cases hti : t = i
  · subst hti
    have htlt : t < us.length := (List.getElem?_eq_some_iff.1 ht).1
    rw [ht, if_pos rfl, if_pos htlt]
    simp only [Option.map_some, Option.some.injEq]
    have h2 := hno (setLf u j (.bs () n rows)) (List.mem_of_getElem? (i := t) (by rw [List.getElem?_set, if_pos rfl, if_pos htlt]))
    rw [setLf_leaves hjlt] at h2
    cases u with
    | one l =>
      simp only [leavesU, List.length_singleton] at hjlt
      obtain rfl : j = 0 := by omega
      simp only [leavesU, List.getElem?_cons_zero, Option.some.injEq] at hj
      subst hj
      simp [frzU, frzL, setLf]
    | agg ls =>
      simp only [leavesU] at hj hjlt h2
      simp only [frzU, setLf, U.agg.injEq]
      apply List.ext_getElem?
      intro k
      rw [List.getElem?_map, List.getElem?_set]
      by_cases hjk : j = k
      · subst hjk
        rw [hj, if_pos rfl, if_pos hjlt]
        simp [frzL]
      · rw [if_neg hjk]
        cases hk : ls[k]? with
        | none => rfl
        | some l =>
          simp only [Option.map_some, Option.some.injEq]
          exact frzL_no (h2 l (List.mem_of_getElem? (i := k) (by rw [List.getElem?_set, if_neg hjk, hk])))
  · rw [if_neg hti]
    cases hk : us[i]? with
    | none => rfl
    | some w =>
      simp only [Option.map_some, Option.some.injEq]
      exact frzU_no fun l hl => hno w (List.mem_of_getElem? (i := i) (by rw [List.getElem?_set, if_neg hti, hk])) l hl
/-- An own slice of a result is frozen. -/
theorem f_frR {α : Type} {enc : α → List (L Unit)} [EncB enc] {us us' : List (U Unit)} {u : U Unit} {m id n : Nat} {xs : List α} (t j : Nat) (ht : us[t]? = some u) (hj : (leavesU u)[j]? = some (.ref () id 0 n)) (ho : lko oa nx id = some ⟨(), m, xs.map enc⟩) (hn : n = xs.length)
    (hu : us.set t (setLf u j (.bs () m (xs.map enc))) = us') (hno : us'.all (fun u => (leavesU u).all fun l => !refTo id l) = true) : GhB B (Rt us oa nx) (Rt us' ((id, none) :: oa) nx) := by
  subst hn
  have h := GhB.freeze (B := B) (s := Rt us oa nx) (lko_ok (N := 0) (asg := []) ho) (all_plain_map xs)
  have e : (⟨(Rt us oa nx).sl.map (frzV id m (xs.map enc)), (Rt us oa nx).ob.filter (fun p => !(p.1 == id)), (Rt us oa nx).nx⟩ : S Unit) = Rt us' ((id, none) :: oa) nx := by
    simp only [Rt, obOf_del, S.mk.injEq, and_true]
    rw [← frzU_set ht (by simpa using hj) hu hno]
    simp [frzV, Function.comp_def]
  rw [← e]
  exact h
end
end Go.Proofs.Ytmckcjoacfekcaa.AM

/-! The calculus, fifty-second part: an own object that one leaf of one slot knows is frozen. -/
namespace Go.Proofs.Ytmckcjoacfekcaa.AM
open Go
theorem frzU_setLf {u : U Unit} {n id : Nat} {rows : List (List (L Unit))} {j : Nat} (hj : (leavesU u)[j]? = some (.ref () id 0 rows.length)) (hno : (leavesU (setLf u j (.bs () n rows))).all (fun l => !refTo id l) = true) : frzU id n rows u = setLf u j (.bs () n rows) := by
  have h := frzU_set (us := [u]) (us' := [setLf u j (.bs () n rows)]) (u := u) (n := n) (id := id) (rows := rows) (t := 0) (j := j) rfl hj rfl (by simpa using hno)
  simpa using h
section
variable {B : Bd} {N nx : Nat} {asg : Asg} {oa : OAsg}
theorem f_frj {α : Type} {enc : α → List (L Unit)} [EncB enc] {u u' : U Unit} {m id n : Nat} {xs : List α} (t j : Nat) (ht : lkp asg t = some (.u u)) (hj : (leavesU u)[j]? = some (.ref () id 0 n)) (ho : lko oa nx id = some ⟨(), m, xs.map enc⟩) (hn : n = xs.length)
    (hu : setLf u j (.bs () m (xs.map enc)) = u') (hu' : (leavesU u').all (fun l => !refTo id l) = true) (hno : asg.all (fun p => Nat.beq p.1 t || (leavesV p.2).all fun l => !refTo id l) = true) :
    GhB B (St N asg oa nx) (St N ((t, .u u') :: asg) ((id, none) :: oa) nx) := by
  subst hn
  subst hu
  have h := GhB.freeze (B := B) (s := St N asg oa nx) (lko_ok ho) (all_plain_map xs)
  have e1 : (slotsOf N asg).map (frzV id m (xs.map enc)) = slotsOf N ((t, .u (setLf u j (.bs () m (xs.map enc)))) :: asg) := by
    unfold slotsOf
    rw [List.map_map]
    refine List.map_congr_left fun i _ => ?_
    simp only [Function.comp, slotV]
    by_cases hti : t = i
    · subst hti
      rw [lkp_cons_self, ht]
      simp only [Option.getD_some, frzV]
      rw [frzU_setLf (by simpa using hj) hu']
    · rw [lkp_cons_ne _ _ hti]
      cases hl : lkp asg i with
      | none => rfl
      | some v =>
        have h1 := List.all_eq_true.1 hno _ (lkp_mem hl)
        simp only [Bool.or_eq_true, List.all_eq_true, Bool.not_eq_true'] at h1
        rcases h1 with h1 | h1
        · exact absurd (Nat.eq_of_beq_eq_true h1).symm hti
        · exact frzV_no h1
  have e2 : (⟨(St N asg oa nx).sl.map (frzV id m (xs.map enc)), (St N asg oa nx).ob.filter (fun p => !(p.1 == id)), (St N asg oa nx).nx⟩ : S Unit) = St N ((t, .u (setLf u j (.bs () m (xs.map enc)))) :: asg) ((id, none) :: oa) nx := by
    simp only [St, e1, obOf_del]
  rw [← e2]
  exact h
end
end Go.Proofs.Ytmckcjoacfekcaa.AM

/-! The calculus, thirty-fourth part: a map that is written out, and asked. -/
namespace Go.Proofs.Ytmckcjoacfekcaa.AM
open Go Go.MapKept

def mkE : List (Int × List UInt8) → Nat → List MapEntry
  | [], _ => []
  | e :: es, n => ⟨.int .i64 e.1, .string (bts e.2), n⟩ :: mkE es (n + 1)
theorem mkE_append : ∀ (es : List (Int × List UInt8)) (n : Nat) (e : Int × List UInt8), mkE (es ++ [e]) n = mkE es n ++ [⟨.int .i64 e.1, .string (bts e.2), n + es.length⟩]
  | [], n, e => rfl
  | f :: es, n, e => by
    simp only [List.cons_append, mkE, mkE_append es (n + 1) e, List.length_cons]
    rw [show n + 1 + es.length = n + (es.length + 1) by omega]
def lkE (es : List (Int × List UInt8)) (k : Int) : Option (List UInt8) := (es.find? (fun e => e.1 == k)).map (·.2)
theorem findNow_mkE (k : Int) : ∀ (es : List (Int × List UInt8)) (n i : Nat), ∃ a, Instr.findNow (.int .i64) (.int .i64 k) (mkE es n) i = some a ∧ a.map (·.2) = (lkE es k).map fun v => .string (bts v)
  | [], n, i => ⟨none, rfl, rfl⟩
  | e :: es, n, i => by
    obtain ⟨a, h1, h2⟩ := findNow_mkE k es (n + 1) (i + 1)
    simp only [mkE, Instr.findNow, Instr.sameNow, if_true]
    by_cases hk : k = e.1
    · refine ⟨some (i, .string (bts e.2)), ?_, ?_⟩
      · simp [hk]
      · simp [lkE, hk]
    · have hb : (k == e.1) = false := by simpa using hk
      rw [hb]
      refine ⟨a, h1, ?_⟩
      rw [h2]
      have hb2 : (e.1 == k) = false := by simp only [beq_eq_false_iff_ne, ne_eq]; exact fun h => hk h.symm
      simp [lkE, hb2]
section
variable {P : Program}
structure InsOp (T : TypeId) (m : Nat) (o : Oper) (e : Int × List UInt8) : Prop where
  dst : o.dst = none
  guard : o.guard = none
  op : o.op = .insert T (.tmp m) (.const (.int .i64 e.1)) (.const (.string (bts e.2)))
theorem isKey_int (k : Int) : IsKey (.int .i64) (.int .i64 k) := by simp [IsKey]
theorem eval_put_self {a : Act} {t : Nat} {v : Value} (h : t < a.tmps.size) : (a.put (some t) v).eval (.tmp t) = v := by
  simp only [Act.eval, Act.put]
  rw [Array.getD_eq_getD_getElem?, Array.getElem?_setIfInBounds_self_of_lt h]
  rfl
theorem wpl_v {ops : Array Oper} {Q : Exit → Act → World → Prop} {o : Oper} {rest : List Oper} {a : Act} {W W' : World} {t : Nat} {v : Value} (hg : o.guard = none) (hd : o.dst = some t) (hr : (execOp a.eval o).run P W = .ok (.value v) W')
    (h : wpList P ops Q rest (a.put (some t) v) W') : wpList P ops Q (o :: rest) a W := by
  simp only [wpList]
  rw [wanted_none hg, if_pos rfl]
  left
  unfold Oper.wp
  rw [hr]
  simp only [Oper.upon, hd]
  exact h
theorem wpl_s {ops : Array Oper} {Q : Exit → Act → World → Prop} {o : Oper} {rest : List Oper} {a : Act} {W W' : World} (hg : o.guard = none) (hd : o.dst = none) (hr : (execOp a.eval o).run P W = .ok .skip W')
    (h : wpList P ops Q rest a W') : wpList P ops Q (o :: rest) a W := by
  simp only [wpList]
  rw [wanted_none hg, if_pos rfl]
  left
  unfold Oper.wp
  rw [hr]
  simp only [Oper.upon, hd]
  exact h
theorem wp_inserts {T kt vt : TypeId} (hT : P.underlying T = some (.map kt vt)) (hkt : P.underlying kt = some (.int .i64)) {m r : Nat} {ops : Array Oper} {Q : Exit → Act → World → Prop} {rest : List Oper} {a : Act} (hm : a.tmps.getD m undef = .map (some r)) :
    ∀ (todo done : List (Int × List UInt8)) (opl : List Oper) (W : World), All2 (InsOp T m) opl todo → W.heap[r]? = some (.map (mkE done 0).toArray done.length) → ((done ++ todo).map (·.1)).Nodup →
    (∀ W', W'.heap.size = W.heap.size → W'.heap[r]? = some (.map (mkE (done ++ todo) 0).toArray (done ++ todo).length) → (∀ b, b ≠ r → W'.heap[b]? = W.heap[b]?) → Same W W' → wpList P ops Q rest a W') → wpList P ops Q (opl ++ rest) a W
  | [], done, _, W, .nil, hW, _, h => by
    simp only [List.nil_append, List.append_nil] at h ⊢
    exact h W rfl hW (fun _ _ => rfl) (Same.refl W)
  | e :: todo, done, o :: opl, W, .cons ho hall, hW, hnd, h => by
    have hr := (Array.getElem?_eq_some_iff.1 hW).1
    have hno : lkE done e.1 = none := by
      unfold lkE
      rw [Option.map_eq_none_iff, List.find?_eq_none]
      intro x hx
      rw [List.map_append, List.nodup_append] at hnd
      have := hnd.2.2 x.1 (List.mem_map.2 ⟨x, hx, rfl⟩) e.1 (by simp)
      simpa using this
    obtain ⟨fa, f1, f2⟩ := findNow_mkE e.1 done 0 0
    rw [hno] at f2
    obtain rfl : fa = none := by cases fa <;> simp_all
    let W1 : World := { W with heap := W.heap.setIfInBounds r (.map ((mkE done 0).toArray.push ⟨.int .i64 e.1, .string (bts e.2), done.length⟩) (done.length + 1)) }
    have hrun : (execOp a.eval o).run P W = .ok .skip W1 := by
      have hev : a.eval (.tmp m) = .map (some r) := by simpa [Act.eval] using hm
      simp only [execOp, ho.op, hev]
      have hk : ∀ e' : Bool, (Instr.checkKey e' 10000 kt (.int .i64 e.1)).run P W = .ok () W := fun e' => run_checkKey (n := 9999) hkt (isKey_int _) e'
      have hf := run_findKey (P := P) (w := W) (kt := kt) hkt f1
      simp [Instr.mapUpdate, run_underlying hT, MapKept.run_getObj_map hW, hk, hf, MapKept.run_setObj_map _ hW, Act.eval]
      simp [W1]
    have e1 : done ++ e :: todo = (done ++ [e]) ++ todo := by simp
    rw [e1] at hnd h
    rw [List.cons_append]
    refine wpl_s ho.guard ho.dst hrun ?_
    refine wp_inserts hT hkt hm todo (done ++ [e]) opl W1 hall ?_ hnd fun W' h1 h2 h3 h4 => h W' (by rw [h1]; simp [W1]) h2 (fun b hb => ?_) h4
    · have : W1.heap[r]? = some (.map ((mkE done 0).toArray.push ⟨.int .i64 e.1, .string (bts e.2), done.length⟩) (done.length + 1)) := by
        simp [W1, hr]
      rw [this, mkE_append]
      simp
    · rw [h3 b hb]
      simp only [W1, Array.getElem?_setIfInBounds_ne (Ne.symm hb)]
theorem SlR.put_un {d : S Value} {a : Act} (h : SlR d a) {t : Nat} (hu : d.sl[t]? = some .un ∨ d.sl[t]? = none) (x : Value) : SlR d (a.put (some t) x) := by
  refine ⟨by simp [Act.put, h.1], fun j u hj => ?_⟩
  by_cases htj : t = j
  · subst htj
    rcases hu with hu | hu <;> rw [hu] at hj
    · cases hj; trivial
    · cases hj
  · have := h.2 j u hj
    simp only [Act.put]
    rw [Array.getD_eq_getD_getElem?, Array.getElem?_setIfInBounds_ne htj, ← Array.getD_eq_getD_getElem?]
    exact this
variable {B : Bd} {Q : Exit → S Unit → Prop} {N nx : Nat} {asg : Asg} {oa : OAsg}
/-- A map that is written out in a region, and asked once. -/
theorem c_maplit {T kt vt : TypeId} (hT : P.underlying T = some (.map kt vt)) (hkt : P.underlying kt = some (.int .i64)) (hz : ∀ W, (zeroValue vt).run P W = .ok (.string ⟨#[]⟩) W) {id t1 t2 t3 t4 : Nat} {x : Operand} {n : Int} (es : List (Int × List UInt8)) {o0 o1 o2 o3 : Oper} {opl rest : List Oper}
    (h0 : o0.dst = some t1 ∧ o0.guard = none ∧ o0.op = .makeMap T none) (hins : All2 (InsOp T t1) opl es) (hnd : (es.map (·.1)).Nodup) (h1 : o1.dst = some t2 ∧ o1.guard = none ∧ o1.op = .move (.tmp t1)) (h2 : o2.dst = some t3 ∧ o2.guard = none ∧ o2.op = .move x)
    (h3 : o3.dst = some t4 ∧ o3.guard = none ∧ o3.op = .lookup T (.tmp t2) (.tmp t3) true) (hx : ev N asg x = some (.u (.one (.int .i64 n)))) (hxt : x ≠ .tmp t1 ∧ x ≠ .tmp t2) (ht : lkp asg t1 = none ∧ lkp asg t2 = none ∧ lkp asg t3 = none) (hN : t1 < N ∧ t2 < N ∧ t3 < N ∧ t4 < N) (hne : t2 ≠ t3)
    (h : awpOps (sysA P) (o0 :: opl ++ o1 :: o2 :: o3 :: rest) rest (St N ((t4, .tup [.one (.str (bts ((lkE es n).getD []))), .one (.bool (lkE es n).isSome)]) :: asg) oa nx) (Q .normal)) :
    Wp (P := P) B (.region id (o0 :: opl ++ o1 :: o2 :: o3 :: rest).toArray false) Q (St N asg oa nx) := by
  intro a W hr
  refine wp_region_list ?_
  simp only [List.cons_append]
  -- the map is made
  obtain ⟨d, hd, hi, hs, hdef, hk, hn⟩ := hr
  have hun : ∀ t, t < N → lkp asg t = none → d.sl[t]? = some .un ∨ d.sl[t]? = none := fun t htN hl => by
    have e1 : (d.sl.map erV)[t]? = some .un := by
      have : d.sl.map erV = slotsOf N asg := congrArg S.sl hd
      rw [this, slots_get htN, slotV, hl]; rfl
    rw [List.getElem?_map, Option.map_eq_some_iff] at e1
    obtain ⟨v, hv, he⟩ := e1
    left
    rw [hv]
    cases v <;> simp [mapV] at he
    rfl
  have hsz : a.tmps.size = N := by
    rw [hs.1]
    have : d.sl.map erV = slotsOf N asg := congrArg S.sl hd
    have := congrArg List.length this
    simpa [slotsOf] using this
  let r := W.heap.size
  let a1 := a.put (some t1) (.map (some r))
  have hm1 : a1.tmps.getD t1 undef = .map (some r) := by
    simp only [a1, Act.put]
    rw [Array.getD_eq_getD_getElem?, Array.getElem?_setIfInBounds_self_of_lt (by rw [hsz]; exact hN.1)]
    rfl
  have hrun0 : (execOp a.eval o0).run P W = .ok (.value (.map (some r))) (W.alloc (.map #[] 0)) := by
    simp [execOp, h0.2.2, Instr.makeMap]
    rfl
  refine wpl_v h0.2.1 h0.1 hrun0 ?_
  refine wp_inserts hT hkt hm1 es [] opl _ hins (by show (W.heap.push _)[r]? = _; simp [r, mkE]) (by simpa using hnd) fun W' w1 w2 w3 w4 => ?_
  simp only [List.nil_append] at w2
  have hk' : Keeps W W' := by
    have hs' : W'.heap.size = W.heap.size + 1 := by rw [w1]; show (W.heap.push _).size = _; simp
    refine ⟨by omega, fun b hb => ?_, w4⟩
    rw [w3 b (by simp only [r]; omega)]
    show (W.heap.push _)[b]? = _
    rw [Array.getElem?_push_lt hb, Array.getElem?_eq_getElem hb]
  -- it is moved, and the key
  let a2 := a1.put (some t2) (.map (some r))
  obtain ⟨v0, hv0, hvr⟩ : ∃ l', erL l' = .int .i64 n ∧ a.eval x = val l' := by
    obtain ⟨l', e1, e2, _⟩ := leaf_ok hi.good hs (l := .int .i64 n) (x := x) (by rw [hd]; exact lO_ev hx)
    exact ⟨l', e1, e2⟩
  obtain rfl := er_int hv0
  have hx2 : a2.eval x = .int .i64 n := by
    have e1 : a2.eval x = a1.eval x := Act.eval_put fun d hd => by cases hd; exact hxt.2
    have e2 : a1.eval x = a.eval x := Act.eval_put fun d hd => by cases hd; exact hxt.1
    rw [e1, e2, hvr]; rfl
  let a3 := a2.put (some t3) (.int .i64 n)
  have hrun1 : (execOp a1.eval o1).run P W' = .ok (.value (.map (some r))) W' := by
    have : a1.eval (.tmp t1) = .map (some r) := by simpa [Act.eval] using hm1
    simp [execOp, h1.2.2, this]
  refine wpl_v h1.2.1 h1.1 hrun1 ?_
  have hrun2 : (execOp a2.eval o2).run P W' = .ok (.value (.int .i64 n)) W' := by
    simp [execOp, h2.2.2, hx2]
  refine wpl_v h2.2.1 h2.1 hrun2 ?_
  -- it is asked
  have s1 := hs.put_un (hun t1 hN.1 ht.1) (.map (some r))
  have s2 := s1.put_un (hun t2 hN.2.1 ht.2.1) (.map (some r))
  have s3 := s2.put_un (hun t3 hN.2.2.1 ht.2.2) (.int .i64 n)
  have hsz2 : a2.tmps.size = N := by simp [a2, a1, Act.put, hsz]
  have em : a3.eval (.tmp t2) = .map (some r) := by
    have : a3.eval (.tmp t2) = a2.eval (.tmp t2) := Act.eval_put fun d hd => by cases hd; intro he; injection he with he; exact hne he
    rw [this]
    exact eval_put_self (by simp [a1, Act.put, hsz]; exact hN.2.1)
  have ek : a3.eval (.tmp t3) = .int .i64 n := by
    exact eval_put_self (by rw [hsz2]; exact hN.2.2.1)
  obtain ⟨fa, f1, f2⟩ := findNow_mkE n es 0 0
  let u : U Value := .one (.str (bts ((lkE es n).getD [])))
  let w : U Value := .one (.bool (lkE es n).isSome)
  have hrun3 : (execOp a3.eval o3).run P W' = .ok (.value (.tuple #[.string (bts ((lkE es n).getD [])), .bool (lkE es n).isSome])) W' := by
    simp only [execOp, h3.2.2, em, ek]
    have hkk : ∀ e' : Bool, (Instr.checkKey e' 10000 kt (.int .i64 n)).run P W' = .ok () W' := fun e' => run_checkKey (n := 9999) hkt (isKey_int _) e'
    have hf := run_findKey (P := P) (w := W') (kt := kt) hkt f1
    cases hl : lkE es n with
    | none =>
      rw [hl] at f2
      obtain rfl : fa = none := by cases fa <;> simp_all
      simp [Instr.lookup, run_underlying hT, MapKept.run_getObj_map w2, hkk, hf, hz]
      rfl
    | some v =>
      rw [hl] at f2
      obtain ⟨j, rfl⟩ : ∃ j, fa = some (j, .string (bts v)) := by
        cases fa with
        | none => simp at f2
        | some p => obtain ⟨j, q⟩ := p; simp at f2; exact ⟨j, by rw [f2]⟩
      simp [Instr.lookup, run_underlying hT, MapKept.run_getObj_map w2, hkk, hf]
  refine wpl_v h3.2.1 h3.1 hrun3 ?_
  let d' : S Value := setSl d (some t4) (.tup [u, w])
  have hd' : erS d' = St N ((t4, .tup [.one (.str (bts ((lkE es n).getD []))), .one (.bool (lkE es n).isSome)]) :: asg) oa nx := by
    simp only [d', erS_setSl, hd, St_setSl]
    rfl
  have hrel : Rel B (St N ((t4, .tup [.one (.str (bts ((lkE es n).getD []))), .one (.bool (lkE es n).isSome)]) :: asg) oa nx) (a3.put (some t4) (.tuple #[.string (bts ((lkE es n).getD [])), .bool (lkE es n).isSome])) W' := by
    refine ⟨d', hd', hi.put hk' _ rfl (fun l hl => ?_) (fun l hl p hp => ?_), s3.put (some t4) ⟨[.string (bts ((lkE es n).getD [])), .bool (lkE es n).isSome], rfl, rfl, fun i y z hy hz => ?_⟩, ?_, fun i hi => ?_, by rw [setSl_nx]; exact hn⟩
    · simp only [leavesV, u, w, leavesU, List.flatMap_cons, List.flatMap_nil, List.append_nil, List.cons_append, List.nil_append, List.mem_cons, List.not_mem_nil, or_false] at hl
      rcases hl with rfl | rfl <;> simp [wfL, refOk]
    · simp only [leavesV, u, w, leavesU, List.flatMap_cons, List.flatMap_nil, List.append_nil, List.cons_append, List.nil_append, List.mem_cons, List.not_mem_nil, or_false] at hl
      rcases hl with rfl | rfl <;> simp [immL] at hp
    · rcases i with _ | _ | i
      · simp at hy hz; subst hy hz; rfl
      · simp at hy hz; subst hy hz; rfl
      · simp at hy
    · simp only [put_defers', a3, a2, a1]
      exact hdef
    · rw [setSl_nx]
      exact hk i (knows_put (by simp [leavesV, u, w, leavesU, idsL]) hi)
  have := awpOps_sound (Y := sysA P) (ops := (o0 :: opl ++ o1 :: o2 :: o3 :: rest).toArray) (K := Q .normal) (Q := fun e a' W' => ∃ s', Rel B s' a' W' ∧ Q e s') (fun s a W h hr => ⟨s, hr, h⟩) rest _ _ W' (by simpa using h) hrel
  simpa using this
theorem c_map {T kt vt : TypeId} (hT : P.underlying T = some (.map kt vt)) (hkt : P.underlying kt = some (.int .i64)) (hz : ∀ W, (zeroValue vt).run P W = .ok (.string ⟨#[]⟩) W) {id t1 t2 t3 t4 : Nat} {x : Operand} {n : Int} {ops : List Oper} (k : Nat) (es : List (Int × List UInt8)) {o0 o1 o2 o3 : Oper}
    (i0 : ops[0]? = some o0) (i1 : ops[k + 1]? = some o1) (i2 : ops[k + 2]? = some o2) (i3 : ops[k + 3]? = some o3)
    (h0 : o0.dst = some t1 ∧ o0.guard = none ∧ o0.op = .makeMap T none) (hins : All2 (InsOp T t1) ((ops.drop 1).take k) es) (hnd : (es.map (·.1)).Nodup) (h1 : o1.dst = some t2 ∧ o1.guard = none ∧ o1.op = .move (.tmp t1)) (h2 : o2.dst = some t3 ∧ o2.guard = none ∧ o2.op = .move x)
    (h3 : o3.dst = some t4 ∧ o3.guard = none ∧ o3.op = .lookup T (.tmp t2) (.tmp t3) true) (hx : ev N asg x = some (.u (.one (.int .i64 n)))) (hxt : x ≠ .tmp t1 ∧ x ≠ .tmp t2) (ht : lkp asg t1 = none ∧ lkp asg t2 = none ∧ lkp asg t3 = none) (hN : t1 < N ∧ t2 < N ∧ t3 < N ∧ t4 < N) (hne : t2 ≠ t3)
    (h : awpOps (sysA P) ops (ops.drop (k + 4)) (St N ((t4, .tup [.one (.str (bts ((lkE es n).getD []))), .one (.bool (lkE es n).isSome)]) :: asg) oa nx) (Q .normal)) :
    Wp (P := P) B (.region id ops.toArray false) Q (St N asg oa nx) := by
  have e : ops = o0 :: (ops.drop 1).take k ++ o1 :: o2 :: o3 :: ops.drop (k + 4) := by
    have d : ∀ (j : Nat) (o : Oper), ops[j]? = some o → ops.drop j = o :: ops.drop (j + 1) := fun j o hj => by
      obtain ⟨hlt, rfl⟩ := List.getElem?_eq_some_iff.1 hj
      exact List.drop_eq_getElem_cons hlt
    have e0 := d 0 o0 i0
    rw [List.drop_zero] at e0
    have e1 : ops.drop 1 = (ops.drop 1).take k ++ ops.drop (k + 1) := by
      conv => lhs; rw [← List.take_append_drop k (ops.drop 1)]
      rw [List.drop_drop, Nat.add_comm]
    rw [d _ _ i1, d _ _ i2, d _ _ i3] at e1
    rw [List.cons_append, ← e1, ← e0]
  have := c_maplit (B := B) (Q := Q) hT hkt hz (id := id) es h0 hins hnd h1 h2 h3 hx hxt ht hN hne (by rw [← e]; exact h)
  rwa [← e] at this
end
-- functions that are handed over
def stL {δ : Type} : L δ → Bool
  | .ip _ _ => true
  | l => plainL l
/-- What a function that is handed over captured: values, and rows to read. -/
def CapOk (cs : List (L Unit)) : Prop := cs.all stL = true
theorem stL_ids {δ : Type} {l : L δ} (h : stL l = true) : idsL l = [] := by cases l <;> simp_all [stL, plainL, idsL]
theorem stL_ren {δ : Type} {g : Nat → Nat} {l : L δ} (h : stL l = true) : renL g l = l := by cases l <;> simp_all [stL, plainL, renL]
theorem CapOk.ids {cs : List (L Unit)} (h : CapOk cs) : idsC cs = [] := by
  rw [idsC_eq, List.flatMap_eq_nil_iff]
  exact fun l hl => stL_ids (List.all_eq_true.1 h l hl)
theorem CapOk.ren {cs : List (L Unit)} (h : CapOk cs) (g : Nat → Nat) : renC g cs = cs := by
  rw [renC_eq]
  conv => rhs; rw [← List.map_id cs]
  exact List.map_congr_left fun l hl => stL_ren (List.all_eq_true.1 h l hl)
theorem CapOk.bor {N nx : Nat} {asg : Asg} {oa : OAsg} {k : Nat} {cs : List (L Unit)} (h : CapOk cs) : BorC (k + 1) N asg oa nx cs cs := by
  unfold CapOk at h
  induction cs with
  | nil => exact c_n
  | cons l cs ih =>
    simp only [List.all_cons, Bool.and_eq_true] at h
    refine c_c ?_ (ih h.2)
    cases l with
    | ip v c => exact b_ip
    | _ => exact b_s (by simpa [stL] using h.1)
theorem fnv_ren {cs : List (L Unit)} (h : CapOk cs) (g : Nat → Nat) (f : FuncId) : renV g (.u (.one (.fn () f cs))) = .u (.one (.fn () f cs)) := by simp [renV, renU, renL, h.ren]
theorem fnv_knows {cs : List (L Unit)} (h : CapOk cs) (n : Nat) (f : FuncId) : knowsV n (.u (.one (.fn () f cs))) = true := by simp [knowsV, leavesV, leavesU, idsL, h.ids]
end Go.Proofs.Ytmckcjoacfekcaa.AM

/-! Printed by a program of this repo (wip/gen): types, encoders, facts of types. -/
namespace Go.Proofs.Ytmckcjoacfekcaa.AM
open Go
theorem mixed : Try.prog.follows .mixedOrders = true := by kernel_rfl
theorem b_nl : True := trivial
structure GPhi where
  w : Int
  ins : List Int

def zPhi : GPhi := { w := 0, ins := [] }
instance : Inhabited GPhi := ⟨zPhi⟩
def ePhi (o : Bool) (x : GPhi) : List (L Unit) := [.int .i64 x.w, sl o 1 (List.map iL x.ins)]
instance : EncB (ePhi false) := ⟨fun _ => rfl⟩
instance (o : Bool) : EncO (ePhi o) := ⟨fun _ => by cases o <;> rfl⟩
instance : EncF (ePhi true) := ⟨fun _ => by simp only [ePhi, sl, immFreeC, immFreeL, immF_map, Bool.and_self]⟩
structure GInst where
  op_ : Int
  w : Int
  a : Int
  b : Int
  c : Int
  imm : Int
  args : List Int

def zInst : GInst := { op_ := 0, w := 0, a := 0, b := 0, c := 0, imm := 0, args := [] }
instance : Inhabited GInst := ⟨zInst⟩
def eInst (o : Bool) (x : GInst) : List (L Unit) := [.int .i64 x.op_, .int .i64 x.w, .int .i64 x.a, .int .i64 x.b, .int .i64 x.c, .int .i64 x.imm, sl o 1 (List.map iL x.args)]
instance : EncB (eInst false) := ⟨fun _ => rfl⟩
instance (o : Bool) : EncO (eInst o) := ⟨fun _ => by cases o <;> rfl⟩
instance : EncF (eInst true) := ⟨fun _ => by simp only [eInst, sl, immFreeC, immFreeL, immF_map, Bool.and_self]⟩
structure GTerm where
  kind : Int
  a : Int
  x : Int
  y : Int

def zTerm : GTerm := { kind := 0, a := 0, x := 0, y := 0 }
instance : Inhabited GTerm := ⟨zTerm⟩
def eTerm (x : GTerm) : List (L Unit) := [.int .i64 x.kind, .int .i64 x.a, .int .i64 x.x, .int .i64 x.y]
instance : EncB eTerm := ⟨fun _ => rfl⟩
instance : EncF eTerm := ⟨fun _ => rfl⟩
structure GBlock where
  phis : List GPhi
  insts : List GInst
  term : GTerm

def zBlock : GBlock := { phis := [], insts := [], term := zTerm }
instance : Inhabited GBlock := ⟨zBlock⟩
def eBlock (o : Bool) (x : GBlock) : List (L Unit) := [sl o 2 (List.map (ePhi o) x.phis), sl o 7 (List.map (eInst o) x.insts), .int .i64 x.term.kind, .int .i64 x.term.a, .int .i64 x.term.x, .int .i64 x.term.y]
instance : EncB (eBlock false) := ⟨fun _ => rfl⟩
instance (o : Bool) : EncO (eBlock o) := ⟨fun _ => by cases o <;> rfl⟩
instance : EncF (eBlock true) := ⟨fun _ => by simp only [eBlock, sl, immFreeC, immFreeL, immF_map, Bool.and_self]⟩
structure GFunc where
  params : List Int
  ret : Int
  blocks : List GBlock

def zFunc : GFunc := { params := [], ret := 0, blocks := [] }
instance : Inhabited GFunc := ⟨zFunc⟩
def eFunc (o : Bool) (x : GFunc) : List (L Unit) := [sl o 1 (List.map iL x.params), .int .i64 x.ret, sl o 6 (List.map (eBlock o) x.blocks)]
instance : EncB (eFunc false) := ⟨fun _ => rfl⟩
instance (o : Bool) : EncO (eFunc o) := ⟨fun _ => by cases o <;> rfl⟩
instance : EncF (eFunc true) := ⟨fun _ => by simp only [eFunc, sl, immFreeC, immFreeL, immF_map, Bool.and_self]⟩
structure GMIns where
  op_ : Int
  w : Int
  d : Int
  a : Int
  b : Int
  c : Int
  imm : Int

def zMIns : GMIns := { op_ := 0, w := 0, d := 0, a := 0, b := 0, c := 0, imm := 0 }
instance : Inhabited GMIns := ⟨zMIns⟩
def eMIns (x : GMIns) : List (L Unit) := [.int .i64 x.op_, .int .i64 x.w, .int .i64 x.d, .int .i64 x.a, .int .i64 x.b, .int .i64 x.c, .int .i64 x.imm]
instance : EncB eMIns := ⟨fun _ => rfl⟩
instance : EncF eMIns := ⟨fun _ => rfl⟩
structure GProgram where
  regs : Int
  params : List Int
  widths : List Int
  code : List GMIns

def zProgram : GProgram := { regs := 0, params := [], widths := [], code := [] }
instance : Inhabited GProgram := ⟨zProgram⟩
def eProgram (o : Bool) (x : GProgram) : List (L Unit) := [.int .i64 x.regs, sl o 1 (List.map iL x.params), sl o 1 (List.map iL x.widths), sl o 7 (List.map eMIns x.code)]
instance : EncB (eProgram false) := ⟨fun _ => rfl⟩
instance (o : Bool) : EncO (eProgram o) := ⟨fun _ => by cases o <;> rfl⟩
instance : EncF (eProgram true) := ⟨fun _ => by simp only [eProgram, sl, immFreeC, immFreeL, immF_map, Bool.and_self]⟩
structure Gl1Rd where
  b : List Int
  p : Int

def zl1Rd : Gl1Rd := { b := [], p := 0 }
instance : Inhabited Gl1Rd := ⟨zl1Rd⟩
def el1Rd (o : Bool) (x : Gl1Rd) : List (L Unit) := [sl o 1 (List.map (iK .u8) x.b), .int .i64 x.p]
instance : EncB (el1Rd false) := ⟨fun _ => rfl⟩
instance (o : Bool) : EncO (el1Rd o) := ⟨fun _ => by cases o <;> rfl⟩
instance : EncF (el1Rd true) := ⟨fun _ => by simp only [el1Rd, sl, immFreeC, immFreeL, immF_map, Bool.and_self]⟩
structure GModule where
  funcs : List GFunc

def zModule : GModule := { funcs := [] }
instance : Inhabited GModule := ⟨zModule⟩
def eModule (o : Bool) (x : GModule) : List (L Unit) := [sl o 3 (List.map (eFunc o) x.funcs)]
instance : EncB (eModule false) := ⟨fun _ => rfl⟩
instance (o : Bool) : EncO (eModule o) := ⟨fun _ => by cases o <;> rfl⟩
instance : EncF (eModule true) := ⟨fun _ => by simp only [eModule, sl, immFreeC, immFreeL, immF_map, Bool.and_self]⟩
theorem T2 : tiOf Try.prog 2 = some { kd := .int .i64, agg := false, size := 1, bytes := 8, zero := [.int .i64 0], fields := [], elem := 0, places := [] } := by kernel_rfl
theorem T3 : tiOf Try.prog 3 = some { kd := .int .i64, agg := false, size := 1, bytes := 8, zero := [.int .i64 0], fields := [], elem := 0, places := [] } := by kernel_rfl
theorem T4 : tiOf Try.prog 4 = some { kd := .bool, agg := false, size := 1, bytes := 1, zero := [.bool false], fields := [], elem := 0, places := [] } := by kernel_rfl
theorem T5 : tiOf Try.prog 5 = some { kd := .int .u8, agg := false, size := 1, bytes := 1, zero := [.int .u8 0], fields := [], elem := 0, places := [] } := by kernel_rfl
theorem T22 : tiOf Try.prog 22 = some { kd := .slice, agg := false, size := 1, bytes := 24, zero := [.nl], fields := [], elem := 5, places := [] } := by kernel_rfl
theorem T25 : tiOf Try.prog 25 = some { kd := .slice, agg := false, size := 1, bytes := 24, zero := [.nl], fields := [], elem := 61, places := [] } := by kernel_rfl
theorem T27 : tiOf Try.prog 27 = some { kd := .struct, agg := true, size := 3, bytes := 56, zero := [.nl, .int .i64 0, .nl], fields := [(0, 24), (1, 2), (2, 25)], elem := 0, places := [(0, 1), (1, 1), (2, 1)] } := by kernel_rfl
theorem T59 : tiOf Try.prog 59 = some { kd := .struct, agg := true, size := 4, bytes := 32, zero := [.int .i64 0, .int .i64 0, .int .i64 0, .int .i64 0], fields := [(0, 2), (1, 2), (2, 2), (3, 2)], elem := 0, places := [(0, 1), (1, 1), (2, 1), (3, 1)] } := by kernel_rfl
theorem T61 : tiOf Try.prog 61 = some { kd := .struct, agg := true, size := 6, bytes := 80, zero := [.nl, .nl, .int .i64 0, .int .i64 0, .int .i64 0, .int .i64 0], fields := [(0, 56), (1, 57), (2, 59)], elem := 0, places := [(0, 1), (1, 1), (2, 4)] } := by kernel_rfl
theorem T102 : tiOf Try.prog 102 = some { kd := .struct, agg := true, size := 2, bytes := 32, zero := [.nl, .int .i64 0], fields := [(0, 22), (1, 3)], elem := 0, places := [(0, 1), (1, 1)] } := by kernel_rfl
theorem T138 : tiOf Try.prog 138 = some { kd := .int .u64, agg := false, size := 1, bytes := 8, zero := [.int .u64 0], fields := [], elem := 0, places := [] } := by kernel_rfl
theorem E22 : elS Try.prog 22 = some 1 := by kernel_rfl
theorem E24 : elS Try.prog 24 = some 1 := by kernel_rfl
theorem E25 : elS Try.prog 25 = some 6 := by kernel_rfl
theorem E68 : elS Try.prog 68 = some 1 := by kernel_rfl
theorem A24 : elF Try.prog 24 = some (1, 8, [.int .i64 0]) := by kernel_rfl
theorem A25 : elF Try.prog 25 = some (6, 80, [.nl, .nl, .int .i64 0, .int .i64 0, .int .i64 0, .int .i64 0]) := by kernel_rfl
theorem A68 : elF Try.prog 68 = some (1, 1, [.bool false]) := by kernel_rfl
theorem N22 : lnF Try.prog 22 = some .slice := by kernel_rfl
theorem N24 : lnF Try.prog 24 = some .slice := by kernel_rfl
theorem N25 : lnF Try.prog 25 = some .slice := by kernel_rfl
theorem N68 : lnF Try.prog 68 = some .slice := by kernel_rfl
theorem F27_2 : fldF Try.prog 27 2 = some (2, { kd := .slice, agg := false, size := 1, bytes := 24, zero := [.nl], fields := [], elem := 61, places := [] }) := by kernel_rfl
theorem F59_0 : fldF Try.prog 59 0 = some (0, { kd := .int .i64, agg := false, size := 1, bytes := 8, zero := [.int .i64 0], fields := [], elem := 0, places := [] }) := by kernel_rfl
theorem F59_2 : fldF Try.prog 59 2 = some (2, { kd := .int .i64, agg := false, size := 1, bytes := 8, zero := [.int .i64 0], fields := [], elem := 0, places := [] }) := by kernel_rfl
theorem F59_3 : fldF Try.prog 59 3 = some (3, { kd := .int .i64, agg := false, size := 1, bytes := 8, zero := [.int .i64 0], fields := [], elem := 0, places := [] }) := by kernel_rfl
theorem F61_2 : fldF Try.prog 61 2 = some (2, { kd := .struct, agg := true, size := 4, bytes := 32, zero := [.int .i64 0, .int .i64 0, .int .i64 0, .int .i64 0], fields := [(0, 2), (1, 2), (2, 2), (3, 2)], elem := 0, places := [(0, 1), (1, 1), (2, 1), (3, 1)] }) := by kernel_rfl
theorem F102_0 : fldF Try.prog 102 0 = some (0, { kd := .slice, agg := false, size := 1, bytes := 24, zero := [.nl], fields := [], elem := 5, places := [] }) := by kernel_rfl
theorem F102_1 : fldF Try.prog 102 1 = some (1, { kd := .int .i64, agg := false, size := 1, bytes := 8, zero := [.int .i64 0], fields := [], elem := 0, places := [] }) := by kernel_rfl
theorem ent8 : Ent Try.prog 8 := ⟨Try.f8, Try.func8, by decide +kernel, rfl⟩
theorem ent9 : Ent Try.prog 9 := ⟨Try.f9, Try.func9, by decide +kernel, rfl⟩
theorem ent10 : Ent Try.prog 10 := ⟨Try.f10, Try.func10, by decide +kernel, rfl⟩
theorem ent11 : Ent Try.prog 11 := ⟨Try.f11, Try.func11, by decide +kernel, rfl⟩
theorem ent12 : Ent Try.prog 12 := ⟨Try.f12, Try.func12, by decide +kernel, rfl⟩
theorem ent13 : Ent Try.prog 13 := ⟨Try.f13, Try.func13, by decide +kernel, rfl⟩
theorem ent14 : Ent Try.prog 14 := ⟨Try.f14, Try.func14, by decide +kernel, rfl⟩
theorem ent15 : Ent Try.prog 15 := ⟨Try.f15, Try.func15, by decide +kernel, rfl⟩
theorem ent16 : Ent Try.prog 16 := ⟨Try.f16, Try.func16, by decide +kernel, rfl⟩
theorem ent17 : Ent Try.prog 17 := ⟨Try.f17, Try.func17, by decide +kernel, rfl⟩
theorem ent38 : Ent Try.prog 38 := ⟨Try.f38, Try.func38, by decide +kernel, rfl⟩
theorem ent39 : Ent Try.prog 39 := ⟨Try.f39, Try.func39, by decide +kernel, rfl⟩
theorem ent40 : Ent Try.prog 40 := ⟨Try.f40, Try.func40, by decide +kernel, rfl⟩
theorem ent41 : Ent Try.prog 41 := ⟨Try.f41, Try.func41, by decide +kernel, rfl⟩
theorem ent42 : Ent Try.prog 42 := ⟨Try.f42, Try.func42, by decide +kernel, rfl⟩
theorem ent43 : Ent Try.prog 43 := ⟨Try.f43, Try.func43, by decide +kernel, rfl⟩
theorem ent44 : Ent Try.prog 44 := ⟨Try.f44, Try.func44, by decide +kernel, rfl⟩
theorem ent45 : Ent Try.prog 45 := ⟨Try.f45, Try.func45, by decide +kernel, rfl⟩
theorem ent46 : Ent Try.prog 46 := ⟨Try.f46, Try.func46, by decide +kernel, rfl⟩
theorem ent49 : Ent Try.prog 49 := ⟨Try.f49, Try.func49, by decide +kernel, rfl⟩
theorem ent54 : Ent Try.prog 54 := ⟨Try.f54, Try.func54, by decide +kernel, rfl⟩
theorem ent55 : Ent Try.prog 55 := ⟨Try.f55, Try.func55, by decide +kernel, rfl⟩
theorem ent76 : Ent Try.prog 76 := ⟨Try.f76, Try.func76, by decide +kernel, rfl⟩
theorem ent77 : Ent Try.prog 77 := ⟨Try.f77, Try.func77, by decide +kernel, rfl⟩
theorem ent78 : Ent Try.prog 78 := ⟨Try.f78, Try.func78, by decide +kernel, rfl⟩
theorem ent86 : Ent Try.prog 86 := ⟨Try.f86, Try.func86, by decide +kernel, rfl⟩
theorem ent87 : Ent Try.prog 87 := ⟨Try.f87, Try.func87, by decide +kernel, rfl⟩
theorem ent88 : Ent Try.prog 88 := ⟨Try.f88, Try.func88, by decide +kernel, rfl⟩
theorem ent89 : Ent Try.prog 89 := ⟨Try.f89, Try.func89, by decide +kernel, rfl⟩
theorem ent90 : Ent Try.prog 90 := ⟨Try.f90, Try.func90, by decide +kernel, rfl⟩
theorem ent91 : Ent Try.prog 91 := ⟨Try.f91, Try.func91, by decide +kernel, rfl⟩
theorem ent92 : Ent Try.prog 92 := ⟨Try.f92, Try.func92, by decide +kernel, rfl⟩
theorem ent93 : Ent Try.prog 93 := ⟨Try.f93, Try.func93, by decide +kernel, rfl⟩
theorem ent97 : Ent Try.prog 97 := ⟨Try.f97, Try.func97, by decide +kernel, rfl⟩
theorem ent108 : Ent Try.prog 108 := ⟨Try.f108, Try.func108, by decide +kernel, rfl⟩
theorem ent109 : Ent Try.prog 109 := ⟨Try.f109, Try.func109, by decide +kernel, rfl⟩
theorem ent111 : Ent Try.prog 111 := ⟨Try.f111, Try.func111, by decide +kernel, rfl⟩
theorem ent112 : Ent Try.prog 112 := ⟨Try.f112, Try.func112, by decide +kernel, rfl⟩
theorem ent125 : Ent Try.prog 125 := ⟨Try.f125, Try.func125, by decide +kernel, rfl⟩
end Go.Proofs.Ytmckcjoacfekcaa.AM
