import Derived.Test.YtmckcjoacfekcaaAm19
/-! The calculus, twentieth part: a call's step. -/
namespace Go.Proofs.Ytmckcjoacfekcaa.AM
open Go

/-- A function can be entered. -/
def Ent (P : Program) (f : FuncId) : Prop := ∃ fn, P.funcs[f]? = some fn ∧ (fn.name == "runtime.NumGoroutine") = false ∧ fn.body.isNone = false
theorem run_callFunc {P : Program} {f : FuncId} (h : Ent P f) (args : Array Value) (W : World) : (callFunc f args).run P W = .ok (.enter f args) W := by
  obtain ⟨fn, h1, h2, h3⟩ := h
  have h2' : fn.name ≠ "runtime.NumGoroutine" := by simpa using h2
  have h3' : fn.body ≠ none := by rintro h; rw [h] at h3; cases h3
  simp [callFunc, h1, h2', h3']
/-- What is called: a function, and what it captured. -/
def calE {δ : Type} (ρ : Operand → Option (V δ)) : Callee → Option (FuncId × List (L δ))
  | .value x => match lO (ρ x) with
    | some (.fn _ f caps) => some (f, caps)
    | _ => none
  | _ => none
def borU (lk : Lk) : U Unit → Option (U Unit × List Nat)
  | .one l => (borL lk 4 l).map fun p => (.one p.1, p.2)
  | .agg ls => (mapO (borL lk 4) ls).map fun p => (.agg p.1, p.2)
def argsE (lk : Lk) (ρ : Env) : List Operand → Option (List (U Unit) × List Nat)
  | [] => some ([], [])
  | x :: xs => (uO (ρ x)).bind fun u => (borU lk u).bind fun p => (argsE lk ρ xs).bind fun q => some (p.1 :: q.1, p.2 ++ q.2)
def immFreeV (v : V Unit) : Bool := (leavesV v).all immFreeL
/-- A call that hands no objects over. -/
def CallB (P : Program) (o : Oper) (s : S Unit) (nid : Nat) (e : Eff) : Prop :=
  ∃ c f caps us rd cs rd2 r, o.op = .call c ∧ calE (evA s) c.callee = some (f, caps) ∧ argsE (look s.ob) (evA s) c.args.toList = some (us, rd) ∧ mapO (borL (look s.ob) 4) caps = some (cs, rd2) ∧
    Ent P f ∧ Sim P f (us ++ cs.map .one) [] r [] ∧ immFreeV r = true ∧
    e = { v := (rootV (fun _ => ()) nid r).1, rd := rd ++ rd2, news := (rootV (fun _ => ()) nid r).2.map (·.2) }
/-- An argument as the callee has it. -/
structure ArgOk (W : World) (d : S Value) (u : U Value) (x : Value) : Prop where
  ur : UR u x
  leaf : ∀ l ∈ leavesU u, noOs l = true ∧ idsL l = [] ∧ wfL false l ∧ ∀ p ∈ immL l, BorIn W d p
theorem borU_ok {W : World} {d : S Value} (hg : Good W d) {u : U Value} {x : Value} (hx : UR u x) (hh : ∀ l ∈ leavesU u, Has d l) {p : U Unit × List Nat} (h : borU (look (erS d).ob) (erU u) = some p) :
    ∃ u', erU u' = p.1 ∧ ArgOk W d u' x := by
  cases u with
  | one l =>
    simp only [mapU, borU, Option.map_eq_some_iff] at h
    obtain ⟨q, hq, rfl⟩ := h
    obtain ⟨l', h1, h2⟩ := bor_ok hg 4 (hh l (by simp [leavesU])) hq
    refine ⟨.one l', by simp [mapU, h1], ?_, fun l2 hl2 => ?_⟩
    · simp only [UR] at hx ⊢
      rw [hx, h2.val]
    · simp only [leavesU, List.mem_singleton] at hl2
      subst hl2
      exact ⟨h2.no, h2.free, h2.wf, h2.imm⟩
  | agg ls =>
    simp only [mapU, borU, Option.map_eq_some_iff] at h
    obtain ⟨q, hq, rfl⟩ := h
    obtain ⟨ls', h1, h2⟩ := mapO_ok (R := Bor W d) hq (fun l hl y hy => bor_ok hg 4 (hh l hl) hy)
    refine ⟨.agg ls', by simp [mapU, h1], ?_, fun l2 hl2 => ?_⟩
    · simp only [UR] at hx ⊢
      rw [hx, all2_val h2]
    · obtain ⟨l0, _, hb⟩ := all2_mem h2 l2 hl2
      exact ⟨hb.no, hb.free, hb.wf, hb.imm⟩
theorem argsE_ok {W : World} {d : S Value} {a : Act} (hg : Good W d) (hs : SlR d a) : ∀ {xs : List Operand} {p : List (U Unit) × List Nat}, argsE (look (erS d).ob) (evA (erS d)) xs = some p →
    ∃ us', us'.map erU = p.1 ∧ All2 (ArgOk W d) us' (xs.map a.eval)
  | [], p, h => by cases h; exact ⟨[], rfl, .nil⟩
  | x :: xs, p, h => by
    simp only [argsE] at h
    obtain ⟨u, hu, h⟩ := bind_some h
    obtain ⟨q, hq, h⟩ := bind_some h
    obtain ⟨q2, hq2, h⟩ := bind_some h
    cases h
    obtain ⟨u', h1, h2, h3⟩ := u_ok hg hs hu
    subst h1
    obtain ⟨u2, h4, h5⟩ := borU_ok hg h2 h3 hq
    obtain ⟨us', h6, h7⟩ := argsE_ok hg hs hq2
    exact ⟨u2 :: us', by simp [h4, h6], .cons h5 h7⟩
mutual
theorem immFree_er : ∀ {l : L Value}, immFreeL (erL l) = true → immL l = []
  | .int _ _, _ | .bool _, _ | .str _, _ | .nl, _ | .nilp, _ | .ref _ _ _ _, _ | .ptr _ _ _ _, _ => by simp [immL]
  | .os v n rows, h => by
    simp only [mapL, immFreeL] at h
    simp only [immL]
    exact immFreeR_er h
  | .bs _ _ _, h | .ip _ _, h | .fn _ _ _, h => by simp [mapL, immFreeL] at h
theorem immFreeC_er : ∀ {ls : List (L Value)}, immFreeC (mapC (fun _ => ()) ls) = true → immC ls = []
  | [], _ => rfl
  | l :: ls, h => by
    simp only [mapC, immFreeC, Bool.and_eq_true] at h
    simp only [immC, immFree_er h.1, immFreeC_er h.2, List.append_nil]
theorem immFreeR_er : ∀ {rs : List (List (L Value))}, immFreeR (mapR (fun _ => ()) rs) = true → immR rs = []
  | [], _ => rfl
  | r :: rs, h => by
    simp only [mapR, immFreeR, Bool.and_eq_true] at h
    simp only [immR, immFreeC_er h.1, immFreeR_er h.2, List.append_nil]
end
theorem all2_append {α β : Type} {R : α → β → Prop} : ∀ {xs : List α} {ys : List β} {xs' : List α} {ys' : List β}, All2 R xs ys → All2 R xs' ys' → All2 R (xs ++ xs') (ys ++ ys')
  | _, _, _, _, .nil, h' => h'
  | _, _, _, _, .cons h t, h' => .cons h (all2_append t h')
theorem all2_imp {α β : Type} {R R' : α → β → Prop} (hr : ∀ x y, R x y → R' x y) : ∀ {xs : List α} {ys : List β}, All2 R xs ys → All2 R' xs ys
  | _, _, .nil => .nil
  | _, _, .cons h t => .cons (hr _ _ h) (all2_imp hr t)
theorem all2_map {α β : Type} {R : α → β → Prop} {γ : Type} {f : γ → α} {g : γ → β} : ∀ {xs : List γ}, (∀ x ∈ xs, R (f x) (g x)) → All2 R (xs.map f) (xs.map g)
  | [], _ => .nil
  | x :: xs, h => .cons (h x (by simp)) (all2_map fun y hy => h y (List.mem_cons_of_mem _ hy))
theorem rekey {β : Type} : ∀ (n : Nat) (l : List (Nat × β)), l.map (·.1) = List.range' n l.length → ((l.map (·.2)).zipIdx n).map (fun q => (q.2, q.1)) = l
  | n, [], _ => rfl
  | n, p :: l, h => by
    simp only [List.map_cons, List.length_cons, List.range'_succ, List.cons.injEq] at h
    obtain ⟨rfl, h2⟩ := h
    simp only [List.map_cons, List.zipIdx_cons, rekey (p.1 + 1) l h2]
theorem app_many {δ : Type} (s : S δ) (dst : Option Nat) (nid : Nat) (v : V δ) (news : List (Ob δ)) : app s dst nid v news [] [] = setSl ⟨s.sl, s.ob ++ (news.zipIdx nid).map (fun q => (q.2, q.1)), s.nx + news.length⟩ dst v := by
  simp [app, updP_nil, List.filter_eq_self.2 (fun _ _ => rfl)]
theorem stepOk_callB {P : Program} {o : Oper} {s : S Unit} {nid : Nat} {e : Eff} (h : CallB P o s nid e) : StepOk P o s nid e := by
  obtain ⟨c, f, caps, us, rd, cs, rd2, r, ho, hcal, hargs, hcaps, hent, hsim, himf, rfl⟩ := h
  intro B d a W hd hi hs hf hdef
  subst hd
  refine ⟨trivial, ?_⟩
  -- the callee
  obtain ⟨x, hx, hlx⟩ : ∃ x, c.callee = .value x ∧ ∃ v, lO (evA (erS d) x) = some (.fn v f caps) := by
    unfold calE at hcal
    split at hcal
    · rename_i x hcx
      split at hcal
      · rename_i v f' caps' hl
        cases hcal
        exact ⟨x, hcx, v, hl⟩
      · cases hcal
    · cases hcal
  obtain ⟨v, hlx⟩ := hlx
  obtain ⟨l', h1, h2, h3⟩ := leaf_ok hi.good hs hlx
  obtain ⟨v', caps', rfl, hc'⟩ : ∃ v' caps', l' = .fn v' f caps' ∧ caps'.map erL = caps := by
    cases l' <;> simp [mapL] at h1
    rename_i v' f' c'
    exact ⟨v', c', by rw [h1.1], by rw [← h1.2, mapC_eq]⟩
  obtain ⟨_, hv', hw'⟩ := h3.1
  have hcap : ∀ l ∈ caps', Has d l := fun l hl => by
    refine ⟨(wfC_iff _ _).1 hw' l hl, (refOkC_iff _ _).1 h3.2.1 l hl, fun p hp => h3.2.2.1 p ?_, fun i hi => h3.2.2.2 i ?_⟩
    · simp only [immL, immC_eq]
      exact List.mem_flatMap.2 ⟨l, hl, hp⟩
    · simp only [idsL, idsC_eq]
      exact List.mem_flatMap.2 ⟨l, hl, hi⟩
  rw [← hc'] at hcaps
  obtain ⟨cs', hcs1, hcs2⟩ := mapO_ok (R := Bor W d) hcaps (fun l hl y hy => bor_ok hi.good 4 (hcap l hl) hy)
  obtain ⟨us', hus1, hus2⟩ := argsE_ok hi.good hs hargs
  simp only at hcs1 hus1
  have hrun : (execOp a.eval o).run P W = .ok (.enter f (c.args.toList.map a.eval ++ cs'.map val).toArray) W := by
    simp only [execOp, ho, resolve, hx, h2, val, hv', Deferred.ofValue, pure_bind, invoke]
    rw [run_callFunc hent]
    congr 2
    apply Array.ext'
    simp [all2_val hcs2]
  let dc : S Value := ⟨(us' ++ cs'.map U.one).map V.u, [], 0⟩
  have hleaf : ∀ l ∈ tops dc, noOs l = true ∧ idsL l = [] ∧ wfL false l ∧ ∀ p ∈ immL l, BorIn W d p := by
    intro l hl
    rcases mem_tops.1 hl with ⟨u0, hu0, hl⟩ | hl
    · obtain ⟨u, hu1, rfl⟩ := List.mem_map.1 hu0
      rcases List.mem_append.1 hu1 with hu | hu
      · obtain ⟨i, hi⟩ := List.mem_iff_getElem?.1 hu
        have hlen := all2_len hus2
        have hlt : i < (c.args.toList.map a.eval).length := by rw [← hlen]; exact (List.getElem?_eq_some_iff.1 hi).1
        exact (all2_get hus2 i u _ hi (List.getElem?_eq_getElem hlt)).leaf l hl
      · obtain ⟨l0, hl0, rfl⟩ := List.mem_map.1 hu
        simp only [leavesV, leavesU, List.mem_singleton] at hl
        subst hl
        obtain ⟨l1, _, hb⟩ := all2_mem hcs2 l hl0
        exact ⟨hb.no, hb.free, hb.wf, hb.imm⟩
    · simp [obLeaves, dc] at hl
  have hown : ownS dc = [] := by
    have : (tops dc).flatMap ownL = [] := List.flatMap_eq_nil_iff.2 fun l hl => ownL_noOs (hleaf l hl).1
    simp only [ownS, this, List.append_nil]
    rfl
  have hgood : Good W dc := {
    wf := fun l hl => ⟨(hleaf l hl).2.2.1, refOk_free (hleaf l hl).2.1⟩
    obs := fun p hp => by cases hp
    ids := List.nodup_nil
    own := fun p hp => by rw [hown] at hp; cases hp
    nodup := by rw [hown]; exact List.nodup_nil
    imm := fun p hp hne => by
      obtain ⟨l, hl, hp⟩ := List.mem_flatMap.1 hp
      refine ⟨?_, fun q hq => by rw [hown] at hq; cases hq⟩
      rcases (hleaf l hl).2.2.2 p hp with h0 | h0 | h0
      · exact absurd h0 hne
      · rcases h0 with h0 | ⟨q, hq, hs⟩
        · exact absurd h0 hne
        · exact hs.fact (hi.good.imm q hq (hs.ne hne)).1
      · exact h0.1 }
  have hall : All2 UR (us' ++ cs'.map U.one) (c.args.toList.map a.eval ++ cs'.map val) :=
    all2_append (all2_imp (fun _ _ h => h.ur) hus2) (all2_map fun l _ => rfl)
  have hcalls := hsim W dc (us' ++ cs'.map U.one) _ rfl (by simp [hus1, ← hcs1, mapU, Function.comp_def]) hall rfl hgood (fun l hl i hi => by rw [(hleaf l hl).2.1] at hi; cases hi)
  unfold Oper.wp
  rw [hrun]
  simp only [Oper.upon]
  refine Calls.mono hcalls fun e W' he => ?_
  obtain ⟨y, d', rv, rfl, hd'sl, hrv, hd'ob, hvr, hend⟩ := he
  have hob' : d'.ob = [] := by
    have : (erS d').ob = [] := hd'ob
    simpa [erS, mapS] using this
  have htop' : tops d' = leavesV rv := by simp [tops, hd'sl, hob', obLeaves]
  have hown' : ownS d' = (leavesV rv).flatMap ownL := by simp [ownS, hob', htop']
  obtain ⟨hlv, hlo⟩ := rootV_leaves hdV nid rv
  have hm := rootLs_mem nid (leavesV rv)
  have hkeys := rootLs_keys hdV nid (leavesV rv)
  have hperm := rootLs_own nid (leavesV rv)
  rw [← hlv, ← hlo] at hm
  rw [← hlo] at hkeys
  rw [← hlv, ← hlo] at hperm
  have herv := rootV_er nid rv
  rw [hrv] at herv
  rw [herv] at hf ⊢
  simp only [List.length_map] at hf ⊢
  generalize hrr : rootV hdV nid rv = rr at *
  obtain ⟨rv', obs⟩ := rr
  simp only at hm hkeys hperm hf hlv hlo ⊢
  have hrleaf : ∀ l ∈ leavesV rv, wfL false l ∧ idsL l = [] ∧ immL l = [] := fun l hl => by
    have hl' : l ∈ tops d' := by rw [htop']; exact hl
    refine ⟨(hend.good.wf l hl').1, List.eq_nil_iff_forall_not_mem.2 fun i hi => by have := hend.known l hl' i hi; rw [hob'] at this; simp at this, ?_⟩
    rw [← hrv] at himf
    simp only [immFreeV, leavesV_map, List.all_map, List.all_eq_true, Function.comp_def] at himf
    exact immFree_er (himf l hl)
  have himm' : immS d' = [] := by
    simp only [immS, htop', List.flatMap_eq_nil_iff]
    exact fun l hl => (hrleaf l hl).2.2
  have hnk : ∀ i, Knows d i → i ∉ obs.map (·.1) := fun i hk hm2 => by
    rw [hkeys, List.mem_range'_1] at hm2
    have := hf.1 i hk
    omega
  have hlook : ∀ i, i ∉ obs.map (·.1) → look (d.ob ++ obs) i = look d.ob i := fun i hi => by
    unfold look
    rw [List.find?_append]
    have : obs.find? (fun p => p.1 == i) = none := by
      rw [List.find?_eq_none]
      intro p hp
      simp only [beq_iff_eq]
      rintro rfl
      exact hi (List.mem_map.2 ⟨p, hp, rfl⟩)
    rw [this, Option.or_none]
  have hnodup : ((d.ob ++ obs).map (·.1)).Nodup := by
    rw [List.map_append, List.nodup_append]
    refine ⟨hi.good.ids, by rw [hkeys]; exact List.nodup_range', fun i hi2 j hj e => ?_⟩
    subst e
    exact hnk i (.inr hi2) hj
  have hobrow : ∀ p ∈ obs, ∃ v m rows, (.os v m rows : L Value) ∈ leavesV rv ∧ p.2 = ⟨hdV v, m, rows⟩ ∧ isOwn v rows ∧ (∀ r ∈ rows, r.length = m) ∧ wfR true rows := fun p hp => by
    obtain ⟨v, m, rows, h1, h2⟩ := hm.2 p hp
    have := (hrleaf _ h1).1
    exact ⟨v, m, rows, h1, h2, this.1, this.2.1, this.2.2⟩
  let d1 : S Value := ⟨d.sl ++ [rv'], d.ob ++ obs, d.nx + obs.length⟩
  have htop1 : ∀ l ∈ tops d1, l ∈ tops d ∨ l ∈ leavesV rv' ∨ ∃ p ∈ obs, ∃ r ∈ p.2.rows, l ∈ r := fun l hl => by
    rcases mem_tops.1 hl with ⟨u, hu, hl2⟩ | hl
    · rcases List.mem_append.1 hu with hu | hu
      · exact .inl (mem_tops.2 (.inl ⟨u, hu, hl2⟩))
      · simp only [List.mem_singleton] at hu
        subst hu
        exact .inr (.inl hl2)
    · rw [obLeaves_append, List.mem_append] at hl
      rcases hl with hl | hl
      · exact .inl (mem_tops.2 (.inr hl))
      · exact .inr (.inr (mem_obLeaves.1 hl))
  have hrow : ∀ p ∈ obs, ∀ r ∈ p.2.rows, ∀ l ∈ r, wfL true l ∧ immL l = [] := fun p hp r hr l hl => by
    obtain ⟨v, m, rows, h1, h2, _, _, h5⟩ := hobrow p hp
    rw [h2] at hr
    refine ⟨(wfR_iff _ _).1 h5 r hr l hl, ?_⟩
    have := (hrleaf _ h1).2.2
    simp only [immL, immR_eq, List.flatMap_eq_nil_iff] at this
    exact this l (List.mem_flatten.2 ⟨r, hr, hl⟩)
  have hwfo : ∀ l ∈ leavesV rv', wfL false l ∧ refOk d1.ob l ∧ immL l = [] ∧ noOs l = true ∧ ∀ i ∈ idsL l, i ∈ obs.map (·.1) := fun l hl => by
    rcases hm.1 l hl with ⟨h1, h2⟩ | ⟨i, v, m, rows, rfl, h2, h3⟩
    · have := hrleaf l h1
      exact ⟨this.1, refOk_free this.2.1, this.2.2, h2, by rw [this.2.1]; simp⟩
    · have hown2 := (hrleaf _ h2).1.1
      have hv2 : ∃ a n c, v = .slice a n c := by
        rcases hown2 with ⟨rfl, _⟩ | ⟨_, _, _, rfl, _⟩ <;> exact ⟨_, _, _, rfl⟩
      refine ⟨⟨rfl, hv2⟩, fun o2 ho2 => ?_, rfl, rfl, fun j hj => ?_⟩
      · rw [look_mem hnodup (List.mem_append_right _ h3)] at ho2
        cases ho2
        refine ⟨by simp, ?_⟩
        rcases hown2 with ⟨rfl, _⟩ | ⟨b, x, c, rfl, _⟩
        · exact .inl ⟨rfl, rfl⟩
        · exact .inr ⟨b, x, c, rfl, .inl (by simp)⟩
      · simp only [idsL, List.mem_singleton] at hj
        subst hj
        exact List.mem_map.2 ⟨_, h3, rfl⟩
  have hinv1 : Inv B W' d1 := by
    refine call_core hi (rest := ownS d) (by rw [hown]; exact .refl _) (.inr himm') hend ?_ (fun p hp => ?_) (fun l hl => ?_) (fun p hp => ?_) hnodup (fun p hp hlt => ?_)
    · classical
      refine List.perm_iff_count.2 fun q => ?_
      have h5 := List.perm_iff_count.1 hperm.2 q
      have h6 := hperm.1
      simp only [ownS, tops, d1, obLeaves_append, List.flatMap_append, List.flatMap_cons, List.flatMap_nil, List.append_nil, List.count_append, h6, hd'sl, hob', List.count_nil] at h5 ⊢
      simp only [obLeaves, List.flatMap_nil, List.count_nil, Nat.add_zero, Nat.zero_add] at h5 ⊢
      omega
    · obtain ⟨l, hl, hp⟩ := List.mem_flatMap.1 hp
      rcases htop1 l hl with h5 | h5 | ⟨q, hq, r', hr', h5⟩
      · exact .inl (.of_mem (List.mem_flatMap.2 ⟨l, h5, hp⟩))
      · rw [(hwfo l h5).2.2.1] at hp; cases hp
      · rw [(hrow q hq r' hr' l h5).2] at hp; cases hp
    · rcases htop1 l hl with h5 | h5 | ⟨q, hq, r', hr', h5⟩
      · have hh := has_top hi.good h5
        exact ⟨hh.1, refOk_mono (fun i hi2 => .inl (hlook i (hnk i (hh.2.2.2 i hi2)))) hh.2.1⟩
      · exact ⟨(hwfo l h5).1, (hwfo l h5).2.1⟩
      · have := wf_weak (hrow q hq r' hr' l h5).1
        exact ⟨this.1, this.2.1 _⟩
    · rcases List.mem_append.1 hp with hp | hp
      · exact hi.good.obs p hp
      · obtain ⟨v, m, rows, _, h2, h3, h4, _⟩ := hobrow p hp
        rw [h2]
        refine ⟨?_, h4⟩
        rcases h3 with ⟨rfl, rfl⟩ | ⟨b, x, c, rfl, h5, h6⟩
        · exact .inl ⟨rfl, rfl⟩
        · exact .inr ⟨b, x, c, rfl, h5, h6⟩
    · rcases List.mem_append.1 hp with hp | hp
      · exact hi.hdr p hp hlt
      · have : p.1 ∈ obs.map (·.1) := List.mem_map.2 ⟨p, hp, rfl⟩
        rw [hkeys, List.mem_range'_1] at this
        have := hf.2
        omega
  let d2 : S Value := setSl ⟨d.sl, d.ob ++ obs, d.nx + obs.length⟩ o.dst rv'
  have hd2ob : d2.ob = d1.ob := setSl_ob _ _ _
  have hno' : (leavesV rv').flatMap ownL = [] := List.flatMap_eq_nil_iff.2 fun l hl => ownL_noOs (hwfo l hl).2.2.2.1
  have htop2 : ∀ l ∈ tops d2, l ∈ tops d1 := fun l hl => by
    rcases mem_tops.1 hl with ⟨u, hu, hl2⟩ | hl2
    · refine mem_tops.2 (.inl ⟨u, ?_, hl2⟩)
      show u ∈ d.sl ++ [rv']
      cases hdst : o.dst with
      | none =>
        simp only [d2, hdst, setSl] at hu
        exact List.mem_append_left _ hu
      | some t =>
        simp only [d2, hdst, setSl] at hu
        rcases List.mem_or_eq_of_mem_set hu with hu | rfl
        · exact List.mem_append_left _ hu
        · exact List.mem_append_right _ (by simp)
    · rw [hd2ob] at hl2
      exact mem_tops.2 (.inr hl2)
  have hsub2 : (ownS d2).Sublist (ownS d1) := by
    simp only [ownS, tops, hd2ob, List.flatMap_append]
    refine (List.Sublist.refl _).append (List.Sublist.append ?_ (List.Sublist.refl _))
    rw [List.flatMap_assoc, List.flatMap_assoc]
    have e : d1.sl.flatMap (fun x => List.flatMap ownL (leavesV x)) = d.sl.flatMap (fun x => List.flatMap ownL (leavesV x)) := by
      simp only [d1, List.flatMap_append, List.flatMap_cons, List.flatMap_nil, List.append_nil, hno']
    rw [e]
    cases hdst : o.dst with
    | none =>
      simp only [d2, hdst, setSl]
      exact List.Sublist.refl _
    | some t =>
      simp only [d2, hdst, setSl]
      exact flatMap_set_sublist (fun x => List.flatMap ownL (leavesV x)) _ hno' _ _
  have hinv2 : Inv B W' d2 := hinv1.step (Nat.le_refl _) (Same.refl _) (fun _ _ _ => rfl) (fun l hl => by rw [hd2ob]; exact hinv1.good.wf l (htop2 l hl)) (by rw [hd2ob]; exact hinv1.good.obs) (by rw [hd2ob]; exact hinv1.good.ids)
    (fun p hp => ⟨hinv1.good.own p (hsub2.subset hp), .inl ⟨p, hsub2.subset hp, rfl⟩⟩) (hinv1.good.nodup.sublist (hsub2.map _)) (fun p hp => by
      obtain ⟨l, hl, hp⟩ := List.mem_flatMap.1 hp
      exact .of_mem (List.mem_flatMap.2 ⟨l, htop2 l hl, hp⟩)) (by rw [hd2ob]; exact hinv1.hdr)
  refine ⟨d2, ?_, hinv2, SlR.put (d := ⟨d.sl, d.ob ++ obs, d.nx + obs.length⟩) ⟨hs.1, hs.2⟩ o.dst ?_, by rw [put_defers']; exact hdef, fun i hk => ?_⟩
  · have hk2 : (obs.map (fun p => (p.1, erOb p.2))).map (·.1) = List.range' nid (obs.map (fun p => (p.1, erOb p.2))).length := by
      rw [List.map_map, List.length_map, ← hkeys]
      rfl
    have hre := rekey nid _ hk2
    simp only [d2, erS_setSl, appE, app_many]
    rw [hre]
    simp [erS, mapS]
  · have := rootV_VR (n := nid) hvr
    rw [hrr] at this
    exact this
  · rcases hk with ⟨l, hl, hi2⟩ | hi2
    · rcases htop1 l (htop2 l hl) with h5 | h5 | ⟨q, hq, r', hr', h5⟩
      · exact .inl (.inl ⟨l, h5, hi2⟩)
      · have := (hwfo l h5).2.2.2.2 i hi2
        rw [hkeys, List.mem_range'_1] at this
        exact .inr this
      · rw [(wf_weak (hrow q hq r' hr' l h5).1).2.2] at hi2; cases hi2
    · rw [hd2ob] at hi2
      simp only [d1, List.map_append, List.mem_append] at hi2
      rcases hi2 with hi2 | hi2
      · exact .inl (.inr hi2)
      · rw [hkeys, List.mem_range'_1] at hi2
        exact .inr hi2
end Go.Proofs.Ytmckcjoacfekcaa.AM
