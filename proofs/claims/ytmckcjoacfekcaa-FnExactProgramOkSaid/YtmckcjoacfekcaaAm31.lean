import Derived.Test.YtmckcjoacfekcaaAm30
/-! The calculus, thirty-first part: how a function is entered and left, and calls, on states as they are written down. -/
namespace Go.Proofs.Ytmckcjoacfekcaa.AM
open Go

def asgOf (k : Nat) : List (U Unit) → Asg
  | [] => []
  | u :: us => (k, .u u) :: asgOf (k + 1) us
def oaOf (k : Nat) : List (Ob Unit) → OAsg
  | [] => []
  | o :: os => (k, some o) :: oaOf (k + 1) os
theorem asgOf_get : ∀ (us : List (U Unit)) (k t : Nat), lkp (asgOf k us) t = if k ≤ t then (us[t - k]?).map .u else none
  | [], k, t => by simp [asgOf, lkp]
  | u :: us, k, t => by
    by_cases h : k = t
    · subst h; simp [asgOf, lkp_cons_self]
    · rw [asgOf, lkp_cons_ne _ _ h, asgOf_get us (k + 1) t]
      by_cases hk : k + 1 ≤ t
      · rw [if_pos hk, if_pos (by omega)]
        have : t - k = (t - (k + 1)) + 1 := by omega
        rw [this, List.getElem?_cons_succ]
      · rw [if_neg hk, if_neg (by omega)]
theorem oaOf_get : ∀ (os : List (Ob Unit)) (k t : Nat), obAt (oaOf k os) t = if k ≤ t then os[t - k]? else none
  | [], k, t => by simp [oaOf, obAt, lkp]
  | o :: os, k, t => by
    by_cases h : k = t
    · subst h; simp [oaOf, obAt_self]
    · rw [oaOf, obAt_ne _ _ h, oaOf_get os (k + 1) t]
      by_cases hk : k + 1 ≤ t
      · rw [if_pos hk, if_pos (by omega)]
        have : t - k = (t - (k + 1)) + 1 := by omega
        rw [this, List.getElem?_cons_succ]
      · rw [if_neg hk, if_neg (by omega)]
mutual
theorem renL_id {δ : Type} : ∀ l : L δ, renL (fun i => i) l = l
  | .int _ _ | .bool _ | .str _ | .nl | .nilp | .bs _ _ _ | .os _ _ _ | .ip _ _ | .ref _ _ _ _ | .ptr _ _ _ _ => by simp [renL]
  | .fn v f caps => by simp [renL, renC_id caps]
theorem renC_id {δ : Type} : ∀ ls : List (L δ), renC (fun i => i) ls = ls
  | [] => rfl
  | l :: ls => by simp [renC, renL_id l, renC_id ls]
end
theorem renU_id {δ : Type} (u : U δ) : renU (fun i => i) u = u := by
  cases u with
  | one l => simp [renU, renL_id]
  | agg ls => simp only [renU, U.agg.injEq]; conv => rhs; rw [← List.map_id ls]
              exact List.map_congr_left fun l _ => renL_id l
theorem renV_id {δ : Type} (v : V δ) : renV (fun i => i) v = v := by
  cases v with
  | u x => simp [renV, renU_id]
  | tup xs => simp only [renV, V.tup.injEq]; conv => rhs; rw [← List.map_id xs]
              exact List.map_congr_left fun l _ => renU_id l
  | un => rfl
  | ud => rfl
theorem renOb_id {δ : Type} (o : Ob δ) : renOb (fun i => i) o = o := by
  obtain ⟨h, n, rows⟩ := o
  simp only [renOb, Ob.mk.injEq, true_and]
  conv => rhs; rw [← List.map_id rows]
  refine List.map_congr_left fun r _ => ?_
  simp only [id]
  conv => rhs; rw [← List.map_id r]
  exact List.map_congr_left fun l _ => renL_id l
theorem keyed_obOf (obs : List (Ob Unit)) : obOf (oaOf 0 obs) obs.length = keyed obs := by
  unfold obOf keyed
  apply List.ext_getElem?
  intro i
  have e : ∀ n, n ≤ obs.length → (List.range n).filterMap (fun i => (obAt (oaOf 0 obs) i).map fun o => (i, o)) = ((obs.take n).zipIdx).map (fun q => (q.2, q.1)) := by
    intro n
    induction n with
    | zero => intro _; rfl
    | succ n ih =>
      intro hn
      rw [List.range_succ, List.filterMap_append, ih (by omega)]
      have hlt : n < obs.length := by omega
      rw [List.take_succ_eq_append_getElem hlt, List.zipIdx_append, List.map_append]
      congr 1
      have : obAt (oaOf 0 obs) n = some obs[n] := by
        rw [oaOf_get]; simp [hlt]
      simp [this, List.length_take, Nat.min_eq_left (show n ≤ obs.length by omega)]
  rw [e _ (Nat.le_refl _), List.take_length]
theorem sim_st {P : Program} {f : FuncId} {fn : Func} {c : Code} (hf : P.funcs[f]? = some fn) (hb : fn.body = some c) {args : List (U Unit)} {obs obs' : List (Ob Unit)} {r : V Unit} {N k0 : Nat} (hN : fn.ntmps = N) (hk0 : obs.length = k0) (hn : Nat.ble args.length N = true)
    {rs : List ResultVar} (hrs : fn.results.toList = rs) (hk : args.all (fun u => (leavesU u).all fun l => (idsL l).all fun i => Nat.blt i obs.length) = true) (hk2 : obs.all (fun o => knowsR obs.length o.rows) = true)
    (hw : ∀ B, B.n0 = k0 → Wp (P := P) B c (RetQ P B rs obs r obs') (St N (asgOf 0 args) (oaOf 0 obs) k0)) : Sim P f args obs r obs' := by
  subst hN hk0
  have hn' := Nat.le_of_ble_eq_true hn
  refine sim_of_wp hf hb hn' hrs rfl fun B hB => Wp.ghb _ ?_ (hw B hB)
  refine GhB.view (fun i => i) (by simp [St, slotsOf]; omega) (fun t v' hv => ?_) (fun p hp => ?_) (obOf_keys _ _) (fun i j _ _ h => h) (fun i hi => ?_) (by rw [hB]; exact Nat.le_refl _) (fun _ _ => rfl)
  · have ht : t < fn.ntmps := by
      have := (List.getElem?_eq_some_iff.1 hv).1
      simpa [St, slotsOf] using this
    have e : (St fn.ntmps (asgOf 0 args) (oaOf 0 obs) obs.length).sl[t]? = some (slotV (asgOf 0 args) t) := slots_get ht
    rw [e] at hv
    cases hv
    rw [renV_id]
    simp only [slotV, asgOf_get, Nat.zero_le, if_true, Nat.sub_zero]
    by_cases h : t < args.length
    · right
      rw [List.getElem?_append_left (by simpa using h), List.getElem?_map, List.getElem?_eq_getElem h]
      rfl
    · left
      rw [List.getElem?_eq_none (by omega)]
      rfl
  · rw [renOb_id]
    show look (keyed obs) p.1 = some p.2
    rw [← keyed_obOf]
    exact look_mem (obOf_keys _ _) hp
  · show i < obs.length
    rcases hi with ⟨c, hc, hi⟩ | hi
    · rcases mem_tops.1 hc with ⟨v, hv, hc⟩ | hc
      · simp only [St, slotsOf, List.mem_map, List.mem_range] at hv
        obtain ⟨t, ht, rfl⟩ := hv
        simp only [slotV, asgOf_get, Nat.zero_le, if_true, Nat.sub_zero] at hc
        by_cases h : t < args.length
        · rw [List.getElem?_eq_getElem h] at hc
          simp only [Option.map_some, Option.getD_some, leavesV] at hc
          simp only [List.all_eq_true] at hk
          exact blt_lt (hk _ (List.getElem_mem h) c hc i hi)
        · rw [List.getElem?_eq_none (by omega)] at hc
          simp [leavesV] at hc
      · obtain ⟨p, hp, r, hr, hcr⟩ := mem_obLeaves.1 hc
        obtain ⟨h1, h2⟩ := mem_obOf hp
        have h3 : obs[p.1]? = some p.2 := by simpa [oaOf_get] using h2
        simp only [List.all_eq_true, knowsR] at hk2
        exact blt_lt (hk2 _ (List.mem_of_getElem? h3) r hr c hcr i hi)
    · obtain ⟨p, hp, rfl⟩ := List.mem_map.1 hi
      exact (mem_obOf hp).1

-- the end
def Rt (us : List (U Unit)) (oa : OAsg) (nx : Nat) : S Unit := ⟨us.map .u, obOf oa nx, nx⟩
section
variable {P : Program} {B : Bd} {N nx : Nat} {asg : Asg} {oa : OAsg}
theorem r_nil : resUs P (St N asg oa nx).sl (look (St N asg oa nx).ob) [] = some [] := rfl
theorem r_tmp {t : Nat} {u : U Unit} {rs : List ResultVar} {us : List (U Unit)} (hN : Nat.blt t N = true) (hv : lkp asg t = some (.u u)) (hn : noOsU u = true) (h : resUs P (St N asg oa nx).sl (look (St N asg oa nx).ob) rs = some us) :
    resUs P (St N asg oa nx).sl (look (St N asg oa nx).ob) (.tmp t :: rs) = some (u :: us) := by
  simp only [resUs, resU, St_get (oa := oa) (nx := nx) hN hv, uO, Option.bind_some, hn, if_true, h, Option.map_some]
theorem r_cell {a ty id e j : Nat} {i : TI} {o : Ob Unit} {r : List (L Unit)} {u : U Unit} {rs : List ResultVar} {us : List (U Unit)} (hN : Nat.blt a N = true) (ht : tiOf P ty = some i) (hv : lkp asg a = some (.u (.one (.ptr () id e j))))
    (ho : lko oa nx id = some o) (hr : o.rows[e]? = some r) (hu : pk i r j = some u) (hn : noOsU u = true) (h : resUs P (St N asg oa nx).sl (look (St N asg oa nx).ob) rs = some us) :
    resUs P (St N asg oa nx).sl (look (St N asg oa nx).ob) (.cell a ty :: rs) = some (u :: us) := by
  simp only [resUs, resU, ht, St_get (oa := oa) (nx := nx) hN hv, lO, Option.bind_some, lko_ok ho, hr, hu, hn, if_true, h, Option.map_some]
/-- An own slice goes inline. -/
theorem f_fold {α : Type} {enc : α → List (L Unit)} [EncO enc] {us us' : List (U Unit)} {u : U Unit} {m id : Nat} {xs : List α} (t j : Nat) (ht : us[t]? = some u) (hj : (leavesU u)[j]? = some (.ref () id 0 xs.length)) (ho : lko oa nx id = some ⟨(), m, xs.map enc⟩)
    (hu : us.set t (setLf u j (.os () m (xs.map enc))) = us') : GhB B (Rt us oa nx) (Rt us' ((id, none) :: oa) nx) := by
  subst hu
  have h := Gh.fold (s := Rt us oa nx) (t := t) (j := j) (id := id) (len := xs.length) (u := u) (by simp [Rt, ht]) hj (o := ⟨(), m, xs.map enc⟩) (lko_ok (N := 0) (asg := []) ho) (by simp) (by
    simp only [List.all_map, List.all_eq_true]
    intro x _
    simpa using EncO.h (enc := enc) x)
  have e : (⟨(Rt us oa nx).sl.set t (.u (setLf u j (.os () m (xs.map enc)))), (Rt us oa nx).ob.filter (fun p => !(p.1 == id)), nx⟩ : S Unit) = Rt (us.set t (setLf u j (.os () m (xs.map enc)))) ((id, none) :: oa) nx := by
    simp only [Rt, obOf_del, List.map_set]
  rw [← e]
  exact h.b
theorem f_done {us : List (U Unit)} : GhB B (Rt us oa nx) ⟨us.map .u, keyed [], nx⟩ := by
  have h := Gh.drop (Rt us oa nx) (fun _ => false)
  have e : (⟨(Rt us oa nx).sl, (Rt us oa nx).ob.filter (fun _ => false), nx⟩ : S Unit) = ⟨us.map .u, keyed [], nx⟩ := by
    simp [Rt, keyed]
  rw [← e]
  exact h.b
/-- A slice that is nil, as an own one without elements, or one to read. -/
theorem f_nl {us us' : List (U Unit)} {u : U Unit} (t j m : Nat) (o : Bool) (ht : us[t]? = some u) (hj : (leavesU u)[j]? = some .nl) (hu : us.set t (setLf u j (match o with | true => .os () m [] | false => .bs () m [])) = us') : GhB B (Rt us oa nx) (Rt us' oa nx) := by
  subst hu
  rintro a W ⟨d, he, hi, hs, hdef, hk, hn0⟩
  have hsl : d.sl.map erV = us.map .u := congrArg S.sl he
  have hob : (erS d).ob = obOf oa nx := congrArg S.ob he
  have hnx : d.nx = nx := congrArg S.nx he
  have h1 : (d.sl.map erV)[t]? = some (.u u) := by rw [hsl, List.getElem?_map, ht]; rfl
  rw [List.getElem?_map, Option.map_eq_some_iff] at h1
  obtain ⟨v, hv, hvu⟩ := h1
  obtain ⟨u', rfl, rfl⟩ : ∃ u', v = .u u' ∧ erU u' = u := by
    cases v with
    | u x => exact ⟨x, rfl, by injection hvu⟩
    | tup xs => cases hvu
    | un => cases hvu
    | ud => cases hvu
  rw [leavesU_map, List.getElem?_map, Option.map_eq_some_iff] at hj
  obtain ⟨l', hj', hl'⟩ := hj
  obtain rfl : l' = .nl := by cases l' <;> simp [mapL] at hl'; rfl
  have hjlt : j < (leavesU u').length := (List.getElem?_eq_some_iff.1 hj').1
  have htlt : t < d.sl.length := (List.getElem?_eq_some_iff.1 hv).1
  let nl' : L Value := match o with | true => .os (.slice none 0 0) m [] | false => .bs (.slice none 0 0) m []
  have hno : ownL nl' = [] := by cases o <;> simp [nl', ownL, hdrOwn, ownR]
  have him : immL nl' = [] := by cases o <;> simp [nl', immL, hdrImm, immR]
  have hids : idsL nl' = [] := by cases o <;> rfl
  have hwf : wfL false nl' := by
    cases o
    · exact ⟨⟨none, 0, rfl, Nat.le_refl _, by simp [LIM], fun h => absurd rfl h⟩, by simp, trivial⟩
    · exact ⟨.inl ⟨rfl, rfl⟩, by simp, trivial⟩
  have hval : val nl' = val (.nl : L Value) := by cases o <;> rfl
  let nv : V Value := .u (setLf u' j nl')
  have hlv : leavesV nv = (leavesU u').set j nl' := setLf_leaves hjlt
  let d' : S Value := ⟨d.sl.set t nv, d.ob, d.nx⟩
  have htop : ∀ l ∈ tops d', l ∈ tops d ∨ l = nl' := fun l hl => by
    rcases mem_tops.1 hl with ⟨w, hw, hl2⟩ | hl2
    · rcases List.mem_or_eq_of_mem_set hw with hw | rfl
      · exact .inl (mem_tops.2 (.inl ⟨w, hw, hl2⟩))
      · rw [hlv] at hl2
        rcases List.mem_or_eq_of_mem_set hl2 with hl2 | rfl
        · exact .inl (mem_tops.2 (.inl ⟨.u u', List.mem_of_getElem? hv, hl2⟩))
        · exact .inr rfl
    · exact .inl (mem_tops.2 (.inr hl2))
  have hown : (ownS d').Perm (ownS d) := by
    have h1 : ((leavesV nv).flatMap ownL).Perm ([] ++ (leavesV (.u u')).flatMap ownL) := by
      rw [hlv]
      exact perm_set (e := []) hj' (by simp [hno, ownL])
    have h2 := perm_set (f := fun v => (leavesV v).flatMap ownL) (e := []) hv h1
    simp only [ownS, tops, List.flatMap_append, List.flatMap_assoc, d'] at h2 ⊢
    simp only [List.nil_append] at h2
    exact (h2.append_right _).append_left _
  refine ⟨d', ?_, ?_, ⟨by simpa [d'] using hs.1, fun i w hw => ?_⟩, hdef, fun i hi2 => hk i ?_, hn0⟩
  · have e1 : (d'.sl.map erV) = (us.set t (setLf (erU u') j (match o with | true => .os () m [] | false => .bs () m []))).map .u := by
      simp only [d', List.map_set, hsl]
      congr 1
      show V.u (erU (setLf u' j nl')) = _
      rw [setLf_er]
      cases o <;> simp [nl', mapL, mapR]
    have : erS d' = ⟨d'.sl.map erV, (erS d).ob, d.nx⟩ := rfl
    rw [this, e1, hob, hnx]
    rfl
  · refine hi.step (Nat.le_refl _) (Same.refl _) (fun _ _ _ => rfl) (fun l hl => ?_) hi.good.obs hi.good.ids (fun p hp => ⟨hi.good.own p (hown.mem_iff.1 hp), .inl ⟨p, hown.mem_iff.1 hp, rfl⟩⟩) ((hown.map (·.1)).nodup_iff.2 hi.good.nodup) (fun p hp => ?_) hi.hdr
    · rcases htop l hl with h | rfl
      · exact hi.good.wf l h
      · exact ⟨hwf, refOk_free hids⟩
    · obtain ⟨l, hl, hp⟩ := List.mem_flatMap.1 hp
      rcases htop l hl with h | rfl
      · exact .of_mem (List.mem_flatMap.2 ⟨l, h, hp⟩)
      · rw [him] at hp; cases hp
  · simp only [d', List.getElem?_set] at hw
    by_cases hti : t = i
    · subst hti
      rw [if_pos rfl, if_pos htlt] at hw
      cases hw
      exact setLf_UR (hs.2 t _ hv) hj' hval
    · rw [if_neg hti] at hw
      exact hs.2 i w hw
  · rcases hi2 with ⟨l, hl, h⟩ | h
    · rcases htop l hl with h2 | rfl
      · exact .inl ⟨l, h2, h⟩
      · rw [hids] at h; cases h
    · exact .inr h
/-- A function that was handed no objects ends. -/
theorem ret0 {rs : List ResultVar} {us us' : List (U Unit)} {r : V Unit} {e : Exit} {nx' : Nat} (he : (match e with | .normal => true | .ret => true | _ => false) = true) (hr : resUs P (St N asg oa nx).sl (look (St N asg oa nx).ob) rs = some us)
    (hg : GhB B (Rt us oa nx) ⟨us'.map .u, keyed [], nx'⟩) (hrr : resR us' = r) (hk : us'.all (fun u => (leavesU u).all fun l => (idsL l).isEmpty) = true) : RetQ P B rs [] r [] e (St N asg oa nx) := by
  refine ⟨by cases e <;> simp_all, us, hr, us', nx', hg, hrr, rfl, Nat.le_refl _, ?_, rfl⟩
  simp only [List.all_eq_true, List.isEmpty_iff] at hk ⊢
  intro u hu l hl i hi
  rw [hk u hu l hl] at hi
  cases hi
end

-- calls
section
variable {P : Program} {N nx : Nat} {asg : Asg} {oa : OAsg}
/-- A leaf as the callee has it; leaves; arguments. -/
def BorL (k : Nat) (N : Nat) (asg : Asg) (oa : OAsg) (nx : Nat) (l l' : L Unit) : Prop := ∃ rd, borL (look (St N asg oa nx).ob) k l = some (l', rd)
def BorC (k : Nat) (N : Nat) (asg : Asg) (oa : OAsg) (nx : Nat) (ls ls' : List (L Unit)) : Prop := ∃ rd, mapO (borL (look (St N asg oa nx).ob) k) ls = some (ls', rd)
def BorA (N : Nat) (asg : Asg) (oa : OAsg) (nx : Nat) (xs : List Operand) (us : List (U Unit)) : Prop := ∃ rd, argsE (look (St N asg oa nx).ob) (evA (St N asg oa nx)) xs = some (us, rd)
theorem b_s {k : Nat} {l : L Unit} (h : plainL l = true) : BorL (k + 1) N asg oa nx l l := ⟨[], by cases l <;> simp_all [plainL, borL]⟩
theorem b_ip {k : Nat} {cs : List (L Unit)} : BorL (k + 1) N asg oa nx (.ip () cs) (.ip () cs) := ⟨[], rfl⟩
theorem all_plain_map {α : Type} {enc : α → List (L Unit)} [EncB enc] (xs : List α) : (xs.map enc).all (fun r => r.all plainL) = true := by
  simp only [List.all_map, List.all_eq_true]
  intro x _
  simpa using EncB.h (enc := enc) x
theorem b_r {α : Type} {enc : α → List (L Unit)} [EncB enc] {k id m : Nat} {xs : List α} (ho : lko oa nx id = some ⟨(), m, xs.map enc⟩) : BorL (k + 1) N asg oa nx (.ref () id 0 xs.length) (.bs () m (xs.map enc)) := by
  refine ⟨[id], ?_⟩
  have e : ((xs.map enc).drop 0).take xs.length = xs.map enc := by rw [List.drop_zero, List.take_of_length_le (by simp)]
  simp only [borL, lko_ok ho, Option.bind_some, e, all_plain_map, if_true]
theorem b_rl {α : Type} {enc : α → List (L Unit)} [EncB enc] {k id m n : Nat} (xs : List α) {rows : List (List (L Unit))} (ho : lko oa nx id = some ⟨(), m, rows⟩) (hr : rows = xs.map enc) (hn : n = xs.length) : BorL (k + 1) N asg oa nx (.ref () id 0 n) (.bs () m (xs.map enc)) := by
  subst hr hn; exact b_r ho
theorem c_n {k : Nat} : BorC k N asg oa nx [] [] := ⟨[], rfl⟩
theorem c_c {k : Nat} {l l' : L Unit} {ls ls' : List (L Unit)} (h : BorL k N asg oa nx l l') (ht : BorC k N asg oa nx ls ls') : BorC k N asg oa nx (l :: ls) (l' :: ls') := by
  obtain ⟨rd, h⟩ := h
  obtain ⟨rd2, ht⟩ := ht
  exact ⟨rd ++ rd2, by simp only [mapO, h, ht, Option.bind_some]⟩
/-- Leaves that are values, or rows to read, all at once. -/
theorem c_all {k : Nat} {ls : List (L Unit)} (h : ls.all plainL = true) : BorC (k + 1) N asg oa nx ls ls := by
  induction ls with
  | nil => exact c_n
  | cons l ls ih =>
    simp only [List.all_cons, Bool.and_eq_true] at h
    exact c_c (b_s h.1) (ih h.2)
theorem b_p {k id j n : Nat} {r cs : List (L Unit)} (ho : lko oa nx id = some ⟨(), n, [r]⟩) (h : BorC k N asg oa nx (r.drop j) cs) (hp : cs.all plainL = true) : BorL (k + 1) N asg oa nx (.ptr () id 0 j) (.ip () cs) := by
  obtain ⟨rd, h⟩ := h
  exact ⟨id :: rd, by simp only [borL, lko_ok ho, Option.bind_some, List.getElem?_cons_zero, h, hp, if_true]⟩
theorem b_f {k : Nat} {f : FuncId} {caps cs : List (L Unit)} (h : BorC k N asg oa nx caps cs) : BorL (k + 1) N asg oa nx (.fn () f caps) (.fn () f cs) := by
  obtain ⟨rd, h⟩ := h
  exact ⟨rd, by simp only [borL, h, Option.bind_some]⟩
theorem a_n : BorA N asg oa nx [] [] := ⟨[], rfl⟩
theorem a_1 {x : Operand} {xs : List Operand} {l l' : L Unit} {us : List (U Unit)} (hv : ev N asg x = some (.u (.one l))) (h : BorL 4 N asg oa nx l l') (ht : BorA N asg oa nx xs us) : BorA N asg oa nx (x :: xs) (.one l' :: us) := by
  obtain ⟨rd, h⟩ := h
  obtain ⟨rd2, ht⟩ := ht
  exact ⟨rd ++ rd2, by simp only [argsE, uO_ev hv, borU, h, Option.map_some, Option.bind_some, ht]⟩
theorem a_a {x : Operand} {xs : List Operand} {ls ls' : List (L Unit)} {us : List (U Unit)} (hv : ev N asg x = some (.u (.agg ls))) (h : BorC 4 N asg oa nx ls ls') (ht : BorA N asg oa nx xs us) : BorA N asg oa nx (x :: xs) (.agg ls' :: us) := by
  obtain ⟨rd, h⟩ := h
  obtain ⟨rd2, ht⟩ := ht
  exact ⟨rd ++ rd2, by simp only [argsE, uO_ev hv, borU, h, Option.map_some, Option.bind_some, ht]⟩
def pushO : List (Nat × Ob Unit) → OAsg → OAsg
  | [], oa => oa
  | (i, o) :: l, oa => pushO l ((i, some o) :: oa)
theorem obOf_push : ∀ (l : List (Nat × Ob Unit)) (oa : OAsg) (nx : Nat), l.map (·.1) = List.range' nx l.length → obOf (pushO l oa) (nx + l.length) = obOf oa nx ++ l
  | [], oa, nx, _ => by simp [pushO]
  | (i, o) :: l, oa, nx, h => by
    simp only [List.map_cons, List.length_cons, List.range'_succ, List.cons.injEq] at h
    obtain ⟨rfl, h⟩ := h
    have := obOf_push l ((i, some o) :: oa) (i + 1) h
    simp only [pushO, List.length_cons]
    rw [show i + (l.length + 1) = i + 1 + l.length by omega, this, obOf_new]
    simp
variable {t : Nat} {ty : TypeId} {pos : String} {aft : Array Edge} {K : S Unit → Prop}
theorem St_call {r : V Unit} {v : V Unit} {nobs : List (Nat × Ob Unit)} {rd : List Nat} (hroot : rootV (fun _ => ()) nx r = (v, nobs)) :
    appE (St N asg oa nx) (some t) nx ⟨(rootV (fun _ => ()) nx r).1, rd, (rootV (fun _ => ()) nx r).2.map (·.2), [], [], True⟩ = St N ((t, v) :: asg) (pushO nobs oa) (nx + nobs.length) := by
  have hk : nobs.map (·.1) = List.range' nx nobs.length := by
    have := rootLs_keys (fun _ : Unit => ()) nx (leavesV r)
    have h2 := (rootV_leaves (fun _ : Unit => ()) nx r).2
    rw [← h2, hroot] at this
    exact this
  have hre := rekey nx nobs hk
  simp only [St, hroot, appE, app_many, hre, obOf_push nobs oa nx hk, List.length_map, setSl, slots_set]
/-- A call. -/
theorem x_call {x : Operand} {args : Array Operand} {ats : Array TypeId} {f : FuncId} {caps cs : List (L Unit)} {us : List (U Unit)} {r v : V Unit} {nobs : List (Nat × Ob Unit)} {oa' : OAsg} {nx' : Nat} (hf : ev N asg x = some (.u (.one (.fn () f caps)))) (ha : BorA N asg oa nx args.toList us)
    (hc : BorC 4 N asg oa nx caps cs) (hent : Ent P f) (hsim : Sim P f (us ++ cs.map .one) [] r []) (himf : immFreeV r = true) (hroot : rootV (fun _ => ()) nx r = (v, nobs)) (hoa : pushO nobs oa = oa') (hnx : nx + nobs.length = nx')
    (hK : K (St N ((t, v) :: asg) oa' nx')) : aopK (sysC P) 0 ⟨some t, .call ⟨.value x, args, ats⟩, ty, pos, aft, none⟩ (St N asg oa nx) K := by
  subst hoa hnx
  obtain ⟨rd, ha⟩ := ha
  obtain ⟨rd2, hc⟩ := hc
  refine ⟨⟨(rootV (fun _ => ()) nx r).1, rd ++ rd2, (rootV (fun _ => ()) nx r).2.map (·.2), [], [], True⟩, fun h => absurd rfl h, .inr ⟨⟨.value x, args, ats⟩, f, caps, us, rd, cs, rd2, r, rfl, ?_, ha, hc, hent, hsim, himf, rfl⟩, fun _ => ?_⟩
  · simp only [calE, lO_ev hf]
  · show K (appE (St N asg oa nx) (some t) nx _)
    rw [St_call hroot]
    exact hK
end
end Go.Proofs.Ytmckcjoacfekcaa.AM
