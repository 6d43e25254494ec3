import Derived.Test.YtmckcjoacfekcaaAm15
/-! The calculus, sixteenth part: how a function is entered and left. -/
namespace Go.Proofs.Ytmckcjoacfekcaa.AM
open Go

def keyed {δ : Type} (obs : List (Ob δ)) : List (Nat × Ob δ) := obs.zipIdx.map (fun q => (q.2, q.1))
def idFreeL {δ : Type} (l : L δ) : Bool := (idsL l).isEmpty
def idFreeV {δ : Type} (v : V δ) : Bool := (leavesV v).all idFreeL
def idFreeR {δ : Type} (rows : List (List (L δ))) : Bool := rows.all (fun r => r.all idFreeL)
mutual
theorem idsL_er : ∀ l : L Value, idsL (erL l) = idsL l
  | .int _ _ | .bool _ | .str _ | .nl | .nilp => by simp [mapL, idsL]
  | .bs _ _ _ | .os _ _ _ | .ip _ _ => by simp [mapL, idsL]
  | .ref _ _ _ _ | .ptr _ _ _ _ => by simp [mapL, idsL]
  | .fn _ _ caps => by simp [mapL, idsL, idsC_er caps]
theorem idsC_er : ∀ ls : List (L Value), idsC (mapC (fun _ => ()) ls) = idsC ls
  | [] => rfl
  | l :: ls => by simp only [mapC, idsC, idsC_er ls]; rw [← idsL_er l]
end
def shape {δ : Type} (o : Ob δ) : Nat × Nat := (o.n, o.rows.length)
/-- A result, as it is read at the end. -/
def resU (P : Program) (sl : List (V Unit)) (lk : Lk) : ResultVar → Option (U Unit)
  | .tmp t => uO sl[t]?
  | .cell a t => (tiOf P t).bind fun i => match lO sl[a]? with
    | some (.ptr _ id e j) => (lk id).bind fun o => (o.rows[e]?).bind fun r => pk i r j
    | _ => none
def resUs (P : Program) (sl : List (V Unit)) (lk : Lk) : List ResultVar → Option (List (U Unit))
  | [] => some []
  | r :: rs => (resU P sl lk r).bind fun u => if noOsU u then (resUs P sl lk rs).map fun us => u :: us else none
def resR : List (U Unit) → V Unit
  | [u] => .u u
  | us => .tup us
def knowsV (n : Nat) (v : V Unit) : Bool := (leavesV v).all fun l => (idsL l).all fun i => Nat.blt i n
def knowsR (n : Nat) (rows : List (List (L Unit))) : Bool := rows.all fun r => r.all fun l => (idsL l).all fun i => Nat.blt i n
/-- A step of the mind, in one call. -/
def GhB (B : Bd) (s s' : S Unit) : Prop := ∀ a W, Rel B s a W → Rel B s' a W
theorem GhB.refl (B : Bd) (s : S Unit) : GhB B s s := fun _ _ h => h
theorem GhB.trans {B : Bd} {s s' s'' : S Unit} (h : GhB B s s') (h' : GhB B s' s'') : GhB B s s'' := fun a W hr => h' a W (h a W hr)
theorem Gh.b {B : Bd} {s s' : S Unit} (h : Gh s s') : GhB B s s' := fun a W hr => h B a W hr
/-- What holds where a function ends. -/
def RetQ (P : Program) (B : Bd) (rs : List ResultVar) (obs : List (Ob Unit)) (r : V Unit) (obs' : List (Ob Unit)) (e : Exit) (s : S Unit) : Prop :=
  (e = .normal ∨ e = .ret) ∧ ∃ us, resUs P s.sl (look s.ob) rs = some us ∧ ∃ us' nx, GhB B ⟨us.map .u, s.ob, s.nx⟩ ⟨us'.map .u, keyed obs', nx⟩ ∧ resR us' = r ∧ (obs'.take obs.length).map shape = obs.map shape ∧ obs.length ≤ obs'.length ∧
    us'.all (fun u => (leavesU u).all fun l => (idsL l).all fun i => Nat.blt i obs'.length) = true ∧ obs'.all (fun o => knowsR obs'.length o.rows) = true

theorem keyed_keys {δ : Type} (obs : List (Ob δ)) : (keyed obs).map (·.1) = List.range obs.length := by
  rw [keyed, List.map_map, List.range_eq_range']
  exact List.zipIdx_map_snd 0 obs
theorem all2_len {α β : Type} {R : α → β → Prop} : ∀ {xs : List α} {ys : List β}, All2 R xs ys → xs.length = ys.length
  | _, _, .nil => rfl
  | _, _, .cons _ h => by simp [all2_len h]
theorem all2_get {α β : Type} {R : α → β → Prop} : ∀ {xs : List α} {ys : List β}, All2 R xs ys → ∀ (i : Nat) x y, xs[i]? = some x → ys[i]? = some y → R x y
  | _, _, .cons h _, 0, x, y, hx, hy => by simp at hx hy; subst hx hy; exact h
  | _, _, .cons _ h, i + 1, x, y, hx, hy => by simp at hx hy; exact all2_get h i x y hx hy
def RdG (a : Act) (g : ResultVar → Sem Value) : Prop := (∀ t, g (.tmp t) = pure (a.tmps.getD t undef)) ∧ ∀ x t, g (.cell x t) = (do loadVar t (← asAddr (a.tmps.getD x undef)))
theorem res_one {P : Program} {W : World} {d : S Value} {a : Act} (hg : Good W d) (hs : SlR d a) {r : ResultVar} {u : U Unit} (h : resU P (erS d).sl (look (erS d).ob) r = some u) :
    ∃ u' x, (∀ g, RdG a g → (g r).run P W = .ok x W) ∧ erU u' = u ∧ UR u' x ∧ ∀ l ∈ leavesU u', l ∈ tops d := by
  cases r with
  | tmp t =>
    simp only [resU] at h
    unfold uO at h
    split at h
    · rename_i y hy
      cases h
      obtain ⟨v', h1, h2⟩ := erS_slot hy
      cases v' with
      | u y' =>
        simp only [erV, mapV, V.u.injEq] at h2
        refine ⟨y', _, fun g hg => by rw [hg.1]; rfl, h2, hs.2 t _ h1, fun l hl => mem_tops.2 (.inl ⟨_, List.mem_of_getElem? h1, hl⟩)⟩
      | tup xs => cases h2
      | un => cases h2
      | ud => cases h2
    · cases h
  | cell x t =>
    simp only [resU] at h
    obtain ⟨i, ht, h⟩ := bind_some h
    split at h
    · rename_i v id e j hx
      obtain ⟨ob, hob, h⟩ := bind_some h
      obtain ⟨r, hr, hu⟩ := bind_some h
      have hx' : lO (evA (erS d) (.tmp x)) = some (.ptr v id e j) := hx
      obtain ⟨l', h1, h2, h3⟩ := leaf_ok hg hs hx'
      obtain ⟨v', rfl⟩ := er_ptr h1
      obtain ⟨ob', ho', rfl⟩ := look_lift hob
      obtain ⟨b, y, c0, hh, hv⟩ := h3.2.1 ob' ho'
      obtain ⟨r', hr', rfl⟩ := rows_er hr
      rw [← pk_er, Option.map_eq_some_iff] at hu
      obtain ⟨u', hu', rfl⟩ := hu
      obtain ⟨x', hx2, hur⟩ := run_pk (W := W) ht (b := b) (o := y + e * ob'.n) hu' (fun k l hk => by rw [Nat.add_assoc]; exact ob_cell hg ho' hh hr' hk)
      refine ⟨u', x', fun g hg' => ?_, rfl, hur, fun l hl => mem_tops.2 (.inr (mem_obLeaves.2 ⟨_, find?_key ho', r', List.mem_of_getElem? hr', pk_mem hu' l hl⟩))⟩
      have e1 : a.tmps.getD x undef = .pointer (some ⟨b, y + e * ob'.n + j, none⟩) := by
        have : a.eval (.tmp x) = a.tmps.getD x undef := by simp [Act.eval]
        rw [← this, h2]
        simp only [val, hv]
        rw [Nat.add_assoc]
      rw [hg'.2, e1]
      have : asAddr (.pointer (some ⟨b, y + e * ob'.n + j, none⟩)) = pure ⟨b, y + e * ob'.n + j, none⟩ := rfl
      rw [this, pure_bind]
      simp only [Instr.loadAt, Instr.sureAddr] at hx2
      rw [pure_bind] at hx2
      exact hx2
    · cases h
theorem res_many {P : Program} {W : World} {d : S Value} {a : Act} (hg : Good W d) (hs : SlR d a) : ∀ (rs : List ResultVar) (us : List (U Unit)), resUs P (erS d).sl (look (erS d).ob) rs = some us →
    ∃ us' vals, (∀ g, RdG a g → (rs.mapM g).run P W = .ok vals W) ∧ us'.map erU = us ∧ All2 UR us' vals ∧ ∀ u ∈ us', ∀ l ∈ leavesU u, l ∈ tops d ∧ noOs l = true
  | [], us, h => by cases h; exact ⟨[], [], fun _ _ => rfl, rfl, .nil, by simp⟩
  | r :: rs, us, h => by
    simp only [resUs] at h
    obtain ⟨u, hu, h⟩ := bind_some h
    split at h
    · rename_i hno
      rw [Option.map_eq_some_iff] at h
      obtain ⟨us1, h1, rfl⟩ := h
      obtain ⟨u', x, h2, rfl, h3, h4⟩ := res_one hg hs hu
      obtain ⟨us', vals, h5, h6, h7, h8⟩ := res_many hg hs rs us1 h1
      refine ⟨u' :: us', x :: vals, ?_, by simp [h6], .cons h3 h7, fun w hw => ?_⟩
      · intro g hg
        rw [List.mapM_cons, Sem.run_bind, h2 g hg]
        simp only [Result.andThen_ok]
        rw [Sem.run_bind, h5 g hg]
        rfl
      · rcases List.mem_cons.1 hw with rfl | hw
        · rw [noOsU_er] at hno
          simp only [noOsU, List.all_eq_true] at hno
          exact fun l hl => ⟨h4 l hl, hno l hl⟩
        · exact h8 w hw
    · cases h
theorem all2_of_get {α β : Type} {R : α → β → Prop} : ∀ {xs : List α} {ys : List β}, xs.length = ys.length → (∀ (i : Nat) x y, xs[i]? = some x → ys[i]? = some y → R x y) → All2 R xs ys
  | [], [], _, _ => .nil
  | [], y :: ys, h, _ => by simp at h
  | x :: xs, [], h, _ => by simp at h
  | x :: xs, y :: ys, h, hg => .cons (hg 0 x y rfl rfl) (all2_of_get (by simpa using h) fun i a b ha hb => hg (i + 1) a b (by simpa using ha) (by simpa using hb))
def tupV : List Value → Value
  | [v] => v
  | vs => .tuple vs.toArray
theorem run_results {P : Program} {W : World} {d : S Value} {a : Act} (hg : Good W d) (hs : SlR d a) {fn : Func} {us : List (U Unit)} (h : resUs P (erS d).sl (look (erS d).ob) fn.results.toList = some us) :
    ∃ us' vals, (results fn a.tmps).run P W = .ok (tupV vals) W ∧ us'.map erU = us ∧ All2 UR us' vals ∧ ∀ u ∈ us', ∀ l ∈ leavesU u, l ∈ tops d ∧ noOs l = true := by
  obtain ⟨us', vals, h1, h2, h3, h4⟩ := res_many hg hs _ _ h
  refine ⟨us', vals, ?_, h2, h3, h4⟩
  unfold results
  rw [Sem.run_bind, Array.mapM_eq_mapM_toList, Sem.run_map, h1 _ ⟨fun _ => rfl, fun _ _ => rfl⟩]
  simp only [Result.andThen_ok, Sem.run_pure]
  congr 1
  match vals with
  | [] => rfl
  | [v] => rfl
  | v :: u :: vs => rfl
/-- Results as one value. -/
def resRV : List (U Value) → V Value
  | [u] => .u u
  | us => .tup us
theorem resRV_leaves (us : List (U Value)) : leavesV (resRV us) = us.flatMap leavesU := by
  match us with
  | [] => rfl
  | [u] => simp [resRV, leavesV]
  | u :: v :: us => rfl
theorem resRV_er (us : List (U Value)) : erV (resRV us) = resR (us.map erU) := by
  match us with
  | [] => rfl
  | [u] => rfl
  | u :: v :: us => rfl
theorem resRV_VR {us : List (U Value)} {vals : List Value} (h : All2 UR us vals) : VR (resRV us) (tupV vals) := by
  match us, vals, h with
  | [], [], .nil => exact ⟨[], rfl, rfl, by simp⟩
  | [u], [v], .cons hu .nil => exact hu
  | u :: u2 :: us, v :: v2 :: vs, h => exact ⟨_, rfl, (all2_len h).symm, fun i a b ha hb => all2_get h i a b ha hb⟩
theorem sim_of_wp {P : Program} {f : FuncId} {fn : Func} {c : Code} (hf : P.funcs[f]? = some fn) (hb : fn.body = some c) {args : List (U Unit)} {obs obs' : List (Ob Unit)} {r : V Unit} (hn : args.length ≤ fn.ntmps)
    {rs : List ResultVar} (hrs : fn.results.toList = rs) {k : Nat} (hk : fn.ntmps - args.length = k) (hw : ∀ B, B.n0 = obs.length → Wp (P := P) B c (RetQ P B rs obs r obs') ⟨args.map .u ++ List.replicate k .ud, keyed obs, obs.length⟩) : Sim P f args obs r obs' := by
  subst hrs hk
  intro W d us vals hsl hus hall hob hg hids
  have hlen : us.length = args.length := by rw [← hus, List.length_map]
  have hlen2 : us.length = vals.length := all2_len hall
  have hkeys : d.ob.map (·.1) = List.range obs.length := by
    have h1 : (erS d).ob.map (·.1) = d.ob.map (·.1) := by simp [erS, mapS]
    rw [← h1, hob]
    exact keyed_keys obs
  let B : Bd := ⟨W, fun b => ∃ p ∈ ownS d, p.1 = b, fun b => ∃ q ∈ immS d, q.2 ≠ [] ∧ q.1.block = b, obs.length, fun i => match look d.ob i with | some o => o.h | none => undef⟩
  let d0 : S Value := ⟨d.sl ++ List.replicate (fn.ntmps - args.length) .ud, d.ob, obs.length⟩
  have hrep : ∀ {β : Type} (g : V Value → List β), g .ud = [] → (List.replicate (fn.ntmps - args.length) (V.ud : V Value)).flatMap g = [] := fun g hg => by
    rw [List.flatMap_eq_nil_iff]
    intro x hx
    rw [List.eq_of_mem_replicate hx, hg]
  have htops : tops d0 = tops d := by
    simp only [tops, d0, List.flatMap_append, hrep leavesV rfl, List.append_nil]
  have hown : ownS d0 = ownS d := by simp only [ownS, htops, d0]
  have himm : immS d0 = immS d := by simp only [immS, htops]
  have hknow : ∀ i, Knows d0 i → i < obs.length := by
    rintro i (⟨l, hl, hi⟩ | hi)
    · rw [htops] at hl; exact hids l hl i hi
    · have : i ∈ d.ob.map (·.1) := hi
      rw [hkeys] at this
      simpa using this
  have hinv : Inv B W d0 := {
    good := hg.part rfl (fun l hl => by rw [htops] at hl; exact hg.wf l hl) (by rw [hown]; exact List.Sublist.refl _) (fun p hp => .of_mem (by rwa [himm] at hp))
    fr := ⟨Nat.le_refl _, fun _ _ _ => rfl, Same.refl W⟩
    mine := fun p hp => .inl ⟨p, by rwa [hown] at hp, rfl⟩
    seen := fun p hp hne => .inl ⟨p, by rwa [himm] at hp, hne, rfl⟩
    hdr := fun p hp _ => by
      show p.2.h = match look d.ob p.1 with | some o => o.h | none => undef
      rw [look_mem hg.ids (show (p.1, p.2) ∈ d.ob from hp)] }
  have hslr : SlR d0 { tmps := vals.toArray ++ Array.replicate (fn.ntmps - vals.toArray.size) undef, defers := [] } := by
    refine ⟨by simp [d0, hsl]; omega, fun i v hv => ?_⟩
    simp only [d0, hsl] at hv
    by_cases hi : i < us.length
    · rw [List.getElem?_append_left (by simpa using hi), List.getElem?_map, Option.map_eq_some_iff] at hv
      obtain ⟨u, hu, rfl⟩ := hv
      have hi2 : i < vals.length := by omega
      have := all2_get hall i u _ hu (List.getElem?_eq_getElem hi2)
      rw [Array.getD_eq_getD_getElem?, Array.getElem?_append_left (by simpa using hi2)]
      simp [hi2]
      exact this
    · rw [List.getElem?_append_right (by simpa using hi)] at hv
      have := List.eq_of_mem_replicate (List.mem_of_getElem? hv)
      subst this
      show _ = undef
      rw [Array.getD_eq_getD_getElem?, Array.getElem?_append_right (by simp; omega)]
      simp only [List.size_toArray]
      by_cases h2 : i - vals.length < fn.ntmps - vals.length
      · simp [Array.getElem?_replicate, h2]
      · simp [Array.getElem?_replicate, h2]
  have hrel : Rel B ⟨args.map .u ++ List.replicate (fn.ntmps - args.length) .ud, keyed obs, obs.length⟩ { tmps := vals.toArray ++ Array.replicate (fn.ntmps - vals.toArray.size) undef, defers := [] } W := by
    refine ⟨d0, ?_, hinv, hslr, rfl, hknow, Nat.le_refl _⟩
    have h1 : (erS d0).ob = keyed obs := hob
    have h2 : (erS d0).sl = args.map .u ++ List.replicate (fn.ntmps - args.length) .ud := by
      simp [erS, mapS, d0, hsl, ← hus, erV, mapV]
    have : erS d0 = ⟨(erS d0).sl, (erS d0).ob, (erS d0).nx⟩ := rfl
    rw [this, h1, h2]
    rfl
  refine calls_of_wp hf hb (wp_mono (hw B rfl _ W hrel) fun e a' W' hpost => ?_)
  obtain ⟨s1, hr1, he, us2, hres, us3, nx2, hgh, hrr, hshape, hlen3, hkn, hkn2⟩ := hpost
  obtain ⟨d1, rfl, hi1, hs1, hdef1, hk1, hn1⟩ := hr1
  obtain ⟨us0, vals0, hrun, hus0, hall0, hleaf0⟩ := run_results (P := P) (W := W') hi1.good hs1 hres
  -- the state of the results alone
  have hrel1 : Rel B ⟨us2.map .u, (erS d1).ob, (erS d1).nx⟩ { tmps := vals0.toArray, defers := [] } W' := by
    let d1' : S Value := ⟨us0.map .u, d1.ob, d1.nx⟩
    have htop1 : ∀ l ∈ tops d1', l ∈ tops d1 := fun l hl => by
      rcases mem_tops.1 hl with ⟨v, hv, hl2⟩ | hl2
      · obtain ⟨u, hu, rfl⟩ := List.mem_map.1 hv
        exact (hleaf0 u hu l hl2).1
      · exact mem_tops.2 (.inr hl2)
    have hno : ((us0.map V.u).flatMap leavesV).flatMap ownL = [] := List.flatMap_eq_nil_iff.2 fun l hl => by
      obtain ⟨v, hv, hl⟩ := List.mem_flatMap.1 hl
      obtain ⟨u, hu, rfl⟩ := List.mem_map.1 hv
      exact ownL_noOs (hleaf0 u hu l hl).2
    have hown1 : (ownS d1').Sublist (ownS d1) := by
      simp only [ownS, tops, d1', List.flatMap_append, hno, List.nil_append]
      exact (List.Sublist.refl _).append (List.sublist_append_right _ _)
    refine ⟨d1', by simp [erS, mapS, d1', ← hus0, erV, mapV], ?_, ⟨by simp [d1', all2_len hall0], fun i v hv => ?_⟩, rfl, fun i hi => hk1 i ?_, hn1⟩
    · exact hi1.step (Nat.le_refl _) (Same.refl _) (fun _ _ _ => rfl) (fun l hl => hi1.good.wf l (htop1 l hl)) hi1.good.obs hi1.good.ids (fun p hp => ⟨hi1.good.own p (hown1.subset hp), .inl ⟨p, hown1.subset hp, rfl⟩⟩) (hi1.good.nodup.sublist (hown1.map _))
        (fun p hp => by
          obtain ⟨l, hl, hp⟩ := List.mem_flatMap.1 hp
          exact .of_mem (List.mem_flatMap.2 ⟨l, htop1 l hl, hp⟩)) hi1.hdr
    · simp only [d1', List.getElem?_map, Option.map_eq_some_iff] at hv
      obtain ⟨u, hu, rfl⟩ := hv
      have hlt : i < vals0.length := by rw [← all2_len hall0]; exact (List.getElem?_eq_some_iff.1 hu).1
      have := all2_get hall0 i u _ hu (List.getElem?_eq_getElem hlt)
      simp only [Array.getD_eq_getD_getElem?, List.getElem?_toArray, List.getElem?_eq_getElem hlt, Option.getD_some]
      exact this
    · rcases hi with ⟨l, hl, h⟩ | h
      · exact .inl ⟨l, htop1 l hl, h⟩
      · exact .inr h
  obtain ⟨d3, he2, hi3, hs3, hdef2, hk2, hn2⟩ := hgh _ W' hrel1
  obtain ⟨us4, hus4, hus5⟩ : ∃ us4 : List (U Value), d3.sl = us4.map .u ∧ us4.map erU = us3 := by
    have h1 : d3.sl.map erV = us3.map .u := congrArg S.sl he2
    generalize d3.sl = sl at h1
    clear he2 hgh hkn hrr
    induction sl generalizing us3 with
    | nil => cases us3 with
      | nil => exact ⟨[], rfl, rfl⟩
      | cons u us => simp at h1
    | cons v sl ih => cases us3 with
      | nil => simp at h1
      | cons u us =>
        simp only [List.map_cons, List.cons.injEq] at h1
        obtain ⟨us4, h2, h3⟩ := ih us h1.2
        cases v with
        | u x =>
          have hx : erU x = u := by simpa [erV, mapV] using h1.1
          exact ⟨x :: us4, by simp [h2], by simp [h3, hx]⟩
        | _ => exact absurd h1.1 (by simp [mapV])
  have hall4 : All2 UR us4 vals0 := by
    have hlen : us4.length = vals0.length := by
      have h1 := hs3.1
      rw [hus4] at h1
      simpa using h1.symm
    have hget : ∀ i u v, us4[i]? = some u → vals0[i]? = some v → UR u v := fun i u v hu hv => by
      have h1 : UR u (vals0.toArray.getD i undef) := hs3.2 i (.u u) (by rw [hus4, List.getElem?_map, hu]; rfl)
      rw [Array.getD_eq_getD_getElem?, List.getElem?_toArray, hv] at h1
      exact h1
    exact all2_of_get hlen hget
  let d2 : S Value := ⟨[resRV us4], d3.ob, d3.nx⟩
  have htop2 : tops d2 = tops d3 := by
    simp only [tops, d2, hus4, List.flatMap_cons, List.flatMap_nil, List.append_nil, resRV_leaves, List.flatMap_map]
    rfl
  have hown2 : ownS d2 = ownS d3 := by simp only [ownS, htop2]; rfl
  have himm2 : immS d2 = immS d3 := by simp only [immS, htop2]
  have hi2 : Inv B W' d2 := {
    good := hi3.good.part rfl (fun l hl => by rw [htop2] at hl; exact hi3.good.wf l hl) (by rw [hown2]; exact List.Sublist.refl _) (fun p hp => .of_mem (by rwa [himm2] at hp))
    fr := hi3.fr
    mine := fun p hp => hi3.mine p (by rwa [hown2] at hp)
    seen := fun p hp hne => hi3.seen p (by rwa [himm2] at hp) hne
    hdr := hi3.hdr }
  obtain ⟨rv, hsl2, hrv⟩ : ∃ rv, d2.sl = [rv] ∧ erV rv = r := ⟨resRV us4, rfl, by rw [resRV_er, hus5, hrr]⟩
  have hvr : VR rv (tupV vals0) := by
    have : rv = resRV us4 := by
      have h1 : d2.sl = [resRV us4] := rfl
      rw [hsl2] at h1
      exact (List.cons.inj h1).1
    rw [this]
    exact resRV_VR hall4
  have hob2 : (erS d2).ob = keyed obs' := (show (erS d3).ob = _ from congrArg S.ob he2)
  have hlen2 : d2.ob.length = obs'.length := by
    have := congrArg List.length hob2
    simpa [erS, mapS, keyed] using this
  have hlend : d.ob.length = obs.length := by
    have := congrArg List.length hkeys
    simpa using this
  have hfin : EndOk W d W' d2 := by
    refine ⟨hi2.good, hi2.fr, hi2.mine, hi2.seen, ?_, ?_⟩
    · have hk3 : d2.ob.map (·.1) = List.range obs'.length := by
        have h1 : (erS d2).ob.map (·.1) = d2.ob.map (·.1) := by simp [erS, mapS]
        rw [← h1, hob2, keyed_keys]
      have e : ∀ dd : S Value, dd.ob.map (fun p => shape p.2) = (erS dd).ob.map (fun p => shape p.2) := fun dd => by simp [erS, mapS, shape, mapOb]
      have e2 : ∀ os : List (Ob Unit), (keyed os).map (fun p => shape p.2) = os.map shape := fun os => by
        rw [keyed, List.map_map]
        conv => rhs; rw [← List.zipIdx_map_fst 0 os, List.map_map]
        rfl
      have hsh2 : d2.ob.map (fun p => shape p.2) = obs'.map shape := by rw [e, hob2, e2]
      have hsh : d.ob.map (fun p => shape p.2) = obs.map shape := by rw [e, hob]; exact e2 obs
      apply List.ext_getElem?
      intro i
      simp only [List.getElem?_map, List.getElem?_take]
      by_cases hi : i < d.ob.length
      · rw [if_pos hi]
        obtain ⟨q, hq⟩ : ∃ q, d.ob[i]? = some q := ⟨_, List.getElem?_eq_getElem hi⟩
        obtain ⟨p, hp⟩ : ∃ p, d2.ob[i]? = some p := ⟨_, List.getElem?_eq_getElem (by omega)⟩
        have k1 : p.1 = i := by
          have := congrArg (fun l : List Nat => l[i]?) hk3
          simp only [List.getElem?_map, hp, Option.map_some] at this
          rw [List.getElem?_range (by omega)] at this
          exact Option.some.inj this
        have k2 : q.1 = i := by
          have := congrArg (fun l : List Nat => l[i]?) hkeys
          simp only [List.getElem?_map, hq, Option.map_some] at this
          rw [List.getElem?_range (by omega)] at this
          exact Option.some.inj this
        have k3 : shape p.2 = shape q.2 := by
          have h1 := congrArg (fun l : List (Nat × Nat) => l[i]?) hsh2
          have h2 := congrArg (fun l : List (Nat × Nat) => l[i]?) hsh
          have h3 := congrArg (fun l : List (Nat × Nat) => l[i]?) hshape
          simp only [List.getElem?_map, List.getElem?_take, hp, hq, Option.map_some] at h1 h2 h3
          rw [if_pos (by omega)] at h3
          rw [← h1, ← h2] at h3
          exact Option.some.inj h3
        rw [hp, hq]
        have hh := hi2.hdr p (List.mem_of_getElem? hp) (show p.1 < obs.length by omega)
        have hh2 : B.H0 p.1 = q.2.h := by
          show (match look d.ob p.1 with | some o => o.h | none => undef) = q.2.h
          rw [k1, ← k2, look_mem hg.ids (show (q.1, q.2) ∈ d.ob from List.mem_of_getElem? hq)]
        simp only [shape, Prod.mk.injEq] at k3
        simp only [Option.map_some, Option.some.injEq, Prod.mk.injEq]
        exact ⟨k1.trans k2.symm, hh.trans hh2, k3.1, k3.2⟩
      · rw [if_neg hi, List.getElem?_eq_none (by omega)]
    · intro l hl i hi
      rw [hlen2]
      rcases mem_tops.1 hl with ⟨v, hv, hl2⟩ | hl
      · rw [hsl2] at hv
        simp only [List.mem_singleton] at hv
        subst hv
        have h1 : d2.sl = [resRV us4] := rfl
        rw [hsl2] at h1
        rw [(List.cons.inj h1).1, resRV_leaves] at hl2
        obtain ⟨u, hu, hl2⟩ := List.mem_flatMap.1 hl2
        rw [← hus5] at hkn
        simp only [List.all_map, List.all_eq_true, Function.comp_def, leavesU_map] at hkn
        have := hkn u hu l hl2 i (by rw [idsL_er]; exact hi)
        simpa [Nat.blt, Nat.lt_iff_add_one_le] using this
      · obtain ⟨p, hp, r', hr', hlr⟩ := mem_obLeaves.1 hl
        have hp2 : (p.1, erOb p.2) ∈ (erS d2).ob := by
          simp only [erS, mapS]
          exact List.mem_map.2 ⟨p, hp, rfl⟩
        rw [hob2] at hp2
        simp only [keyed, List.mem_map] at hp2
        obtain ⟨q, hq, hq2⟩ := hp2
        simp only [Prod.mk.injEq] at hq2
        have hmem : q.1 ∈ obs' := (List.mem_zipIdx_iff_getElem?.1 (show (q.1, q.2) ∈ obs'.zipIdx from hq)) |> List.mem_of_getElem?
        rw [List.all_eq_true] at hkn2
        have := hkn2 q.1 hmem
        rw [hq2.2] at this
        simp only [knowsR, erOb, mapOb, List.all_map, List.all_eq_true, Function.comp_def] at this
        have := this r' hr' l hlr i (by rw [idsL_er]; exact hi)
        simpa [Nat.blt, Nat.lt_iff_add_one_le] using this
  rcases he with rfl | rfl
  · exact ⟨hdef1, _, hrun, _, d2, rv, rfl, hsl2, hrv, hob2, hvr, hfin⟩
  · exact ⟨hdef1, _, hrun, _, d2, rv, rfl, hsl2, hrv, hob2, hvr, hfin⟩
end Go.Proofs.Ytmckcjoacfekcaa.AM
