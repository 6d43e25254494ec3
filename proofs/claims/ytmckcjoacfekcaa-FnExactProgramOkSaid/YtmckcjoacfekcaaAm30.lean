import Derived.Test.YtmckcjoacfekcaaAm29
/-! The calculus, thirtieth part: loops, joins, the end of a function; states seen anew, as they are written down. -/
namespace Go.Proofs.Ytmckcjoacfekcaa.AM
open Go

/-- Rounds of a loop: a state goes on, or something comes of it. -/
def iterO {σ ρ : Type} (body : σ → Option (σ ⊕ ρ)) : Nat → σ → Option ρ
  | 0, _ => none
  | n + 1, s => match body s with
    | none => none
    | some (.inl s') => iterO body n s'
    | some (.inr r) => some r
theorem iterO_mono {σ ρ : Type} {body : σ → Option (σ ⊕ ρ)} : ∀ {n m : Nat} {s : σ} {r : ρ}, n ≤ m → iterO body n s = some r → iterO body m s = some r
  | 0, _, _, _, _, h => by cases h
  | n + 1, 0, _, _, hle, _ => by omega
  | n + 1, m + 1, s, r, hle, h => by
    simp only [iterO] at h ⊢
    split at h
    · cases h
    · exact iterO_mono (by omega) h
    · exact h
open Classical in
/-- What comes of a loop in the end. -/
noncomputable def loopO {σ ρ : Type} (body : σ → Option (σ ⊕ ρ)) (s : σ) : Option ρ := if h : ∃ r n, iterO body n s = some r then some h.choose else none
theorem loopO_iff {σ ρ : Type} {body : σ → Option (σ ⊕ ρ)} {s : σ} {r : ρ} : loopO body s = some r ↔ ∃ n, iterO body n s = some r := by
  unfold loopO
  constructor
  · intro h
    split at h
    · rename_i hx
      cases h
      exact hx.choose_spec
    · cases h
  · rintro ⟨n, h⟩
    have hx : ∃ r n, iterO body n s = some r := ⟨r, n, h⟩
    rw [dif_pos hx]
    obtain ⟨m, hm⟩ := hx.choose_spec
    have h1 := iterO_mono (Nat.le_max_left n m) h
    have h2 := iterO_mono (Nat.le_max_right n m) hm
    rw [h1] at h2
    exact h2.symm
theorem loopO_step {σ ρ : Type} (body : σ → Option (σ ⊕ ρ)) (s : σ) : loopO body s = (body s).bind fun x => match x with | .inl s' => loopO body s' | .inr r => some r := by
  cases hb : body s with
  | none =>
    cases h : loopO body s with
    | none => rfl
    | some r =>
      obtain ⟨n, hn⟩ := loopO_iff.1 h
      cases n with
      | zero => cases hn
      | succ n => simp [iterO, hb] at hn
  | some x =>
    cases x with
    | inr r =>
      exact loopO_iff.2 ⟨1, by simp [iterO, hb]⟩
    | inl s' =>
      simp only [Option.bind_some]
      cases h : loopO body s' with
      | some r =>
        obtain ⟨n, hn⟩ := loopO_iff.1 h
        exact loopO_iff.2 ⟨n + 1, by simp [iterO, hb, hn]⟩
      | none =>
        cases h2 : loopO body s with
        | none => rfl
        | some r =>
          obtain ⟨n, hn⟩ := loopO_iff.1 h2
          cases n with
          | zero => cases hn
          | succ n =>
            simp only [iterO, hb] at hn
            rw [loopO_iff.2 ⟨n, hn⟩] at h
            cases h
/-- What holds of a loop, by what stays true, and a number that falls. -/
theorem loopO_inv {σ ρ : Type} {body : σ → Option (σ ⊕ ρ)} (I : σ → Prop) (m : σ → Nat) (Post : ρ → Prop) (h : ∀ s, I s → ∃ x, body s = some x ∧ match x with | .inl s' => I s' ∧ m s' < m s | .inr r => Post r) :
    ∀ s, I s → ∃ r, loopO body s = some r ∧ Post r := by
  intro s
  generalize hn : m s = n
  induction n using Nat.strongRecOn generalizing s with
  | _ n ih =>
    intro hI
    obtain ⟨x, hb, hx⟩ := h s hI
    rw [loopO_step, hb, Option.bind_some]
    cases x with
    | inr r => exact ⟨r, rfl, hx⟩
    | inl s' =>
      subst hn
      exact ih (m s') hx.2 s' rfl hx.1

theorem of_bind {α β : Type} {x : Option α} {f : α → Option β} {r : β} (h : x.bind f = some r) : ∃ a, x = some a ∧ f a = some r := bind_some h
theorem of_ite {c : Prop} [Decidable c] {β : Type} {x : Option β} {r : β} (h : (if c then x else none) = some r) : c ∧ x = some r := by
  by_cases hc : c
  · rw [if_pos hc] at h; exact ⟨hc, h⟩
  · rw [if_neg hc] at h; cases h

section
variable {P : Program} {B : Bd}
theorem Wp.ghb {c : Code} {Q : Exit → S Unit → Prop} {s : S Unit} (s' : S Unit) (hg : GhB B s s') (h : Wp (P := P) B c Q s') : Wp (P := P) B c Q s := fun a W hr => h a W (hg a W hr)
/-- Where ways meet again. -/
def jn (B : Bd) (sJ : S Unit) (Q : Exit → S Unit → Prop) : Exit → S Unit → Prop
  | .normal, s => GhB B s sJ
  | e, s => Q e s
theorem c_cut {c : Code} {Q : Exit → S Unit → Prop} {s : S Unit} (sJ : S Unit) (h1 : Wp (P := P) B c (jn B sJ Q) s) (h2 : Q .normal sJ) : Wp (P := P) B c Q s := fun a W hr =>
  wp_mono (h1 a W hr) fun e a' W' ⟨s', hr', hq⟩ => by
    cases e with
    | normal => exact ⟨sJ, hq a' W' hr', h2⟩
    | _ => exact ⟨s', hr', hq⟩
/-- A loop. -/
theorem c_loop {c : Code} {Q : Exit → S Unit → Prop} {s : S Unit} {σ ρ : Type} {body : σ → Option (σ ⊕ ρ)} {st0 : σ} {r : ρ} (hl : loopO body st0 = some r) (S' : σ → S Unit) (R : ρ → Exit × S Unit) (h0 : GhB B s (S' st0))
    (round : ∀ st x, body st = some x → Wp (P := P) B c (fun e s' => match x with | .inl st' => e = .normal ∧ GhB B s' (S' st') | .inr r' => e = (R r').1 ∧ GhB B s' (R r').2) (S' st))
    (hx : ∀ y, (R y).1 ≠ .normal) (hQ : Q (R r).1 (R r).2) : Wp (P := P) B (.loop c) Q s := by
  obtain ⟨n, hn⟩ := loopO_iff.1 hl
  refine Wp.ghb (S' st0) h0 ?_
  clear h0
  have key : ∀ (n : Nat) (st : σ), iterO body n st = some r → ∀ a W, Rel B (S' st) a W → ∀ b k cs, ∃ e a' w', (∃ s', Rel B s' a' w' ∧ Q e s') ∧ Arrives P (lone (b.at a (.code c :: .inLoop c :: k)) cs W) b k cs e a' w' := by
    intro n
    induction n with
    | zero => intro st h; cases h
    | succ n ih =>
      intro st h a W hr b k cs
      simp only [iterO] at h
      split at h
      · cases h
      · rename_i st' hb
        obtain ⟨e, a₁, w₁, ⟨s₁, hr₁, he, hg⟩, harr⟩ := round st _ hb a W hr b (.inLoop c :: k) cs
        subst he
        obtain ⟨e₂, a₂, w₂, hq₂, harr₂⟩ := ih st' h a₁ w₁ (hg a₁ w₁ hr₁) b k cs
        exact ⟨e₂, a₂, w₂, hq₂, .of_steps (Steps.trans harr (.one step_inLoop)) harr₂⟩
      · rename_i r' hb
        cases h
        obtain ⟨e, a₁, w₁, ⟨s₁, hr₁, he, hg⟩, harr⟩ := round st _ hb a W hr b (.inLoop c :: k) cs
        have hq : ∃ s', Rel B s' a₁ w₁ ∧ Q e s' := ⟨_, hg a₁ w₁ hr₁, he ▸ hQ⟩
        have hx := hx r
        rw [← he] at hx
        cases e with
        | normal => exact absurd rfl hx
        | exit id => exact ⟨_, a₁, w₁, hq, .pass (x := .inLoop c) rfl (fun _ _ => .inl (by simp)) harr⟩
        | goto l => exact ⟨_, a₁, w₁, hq, .pass (x := .inLoop c) rfl (fun _ _ => .inl (by simp)) harr⟩
        | ret => exact ⟨_, a₁, w₁, hq, .pass (x := .inLoop c) rfl (fun _ _ => .inl (by simp)) harr⟩
        | panic ch => exact ⟨_, a₁, w₁, hq, .pass (x := .inLoop c) rfl (fun _ _ => .inl (by simp)) harr⟩
        | outgrown => exact ⟨_, a₁, w₁, hq, .pass (x := .inLoop c) rfl (fun _ _ => .inl (by simp)) harr⟩
  intro a W hr b k cs
  obtain ⟨e, a', w', hq, harr⟩ := key n st0 hn a W hr b k cs
  exact ⟨e, a', w', hq, .of_steps (.one step_loop) harr⟩

-- a state seen anew
/-- An element's cells name no object. -/
class EncO {α : Type} (enc : α → List (L Unit)) : Prop where
  h : ∀ x, (enc x).all nestL = true
/-- An element's cells are values, or rows to read. -/
class EncB {α : Type} (enc : α → List (L Unit)) : Prop where
  h : ∀ x, (enc x).all plainL = true
theorem plain_nest {δ : Type} {l : L δ} (h : plainL l = true) : nestL l = true := by cases l <;> simp_all [plainL, nestL]
instance {α : Type} (enc : α → List (L Unit)) [EncB enc] : EncO enc := ⟨fun x => by
  have := EncB.h (enc := enc) x
  rw [List.all_eq_true] at this ⊢
  exact fun l hl => plain_nest (this l hl)⟩
theorem encB_N {α : Type} (enc : α → List (L Unit)) [EncB enc] : encN enc := fun x => by
  have := EncB.h (enc := enc) x
  rw [List.all_eq_true] at this ⊢
  exact fun l hl => plain_noOs (this l hl)
theorem nest_ids {δ : Type} {l : L δ} (h : nestL l = true) : idsL l = [] := by cases l <;> simp_all [plainL, nestL, idsL]
theorem nest_ren {δ : Type} (g : Nat → Nat) {l : L δ} (h : nestL l = true) : renL g l = l := by cases l <;> simp_all [plainL, nestL, renL]
theorem renOb_map {α : Type} {enc : α → List (L Unit)} [EncO enc] (g : Nat → Nat) (m : Nat) (xs : List α) : renOb g ⟨(), m, xs.map enc⟩ = ⟨(), m, xs.map enc⟩ := by
  simp only [renOb, List.map_map]
  congr 1
  refine List.map_congr_left fun x _ => ?_
  have := EncO.h (enc := enc) x
  rw [List.all_eq_true] at this
  simp only [Function.comp_apply]
  conv => rhs; rw [← List.map_id (enc x)]
  exact List.map_congr_left fun l hl => nest_ren g (this l hl)
/-- From new numbers to old ones. -/
def gOf (l : List Nat) (i : Nat) : Nat := l.getD i 0
inductive SubA (l : List Nat) (asg : Asg) : Asg → Prop
  | nil : SubA l asg []
  | cons {t : Nat} {v : V Unit} {r : Asg} (h : lkp asg t = some (renV (gOf l) v)) (hk : knowsV l.length v = true) (hr : SubA l asg r) : SubA l asg ((t, v) :: r)
inductive SubO (l : List Nat) (oa : OAsg) (nx : Nat) : OAsg → Prop
  | nil : SubO l oa nx []
  | lit {i : Nat} {o : Ob Unit} {r : OAsg} (h : lko oa nx (gOf l i) = some (renOb (gOf l) o)) (hk : knowsR l.length o.rows = true) (hr : SubO l oa nx r) : SubO l oa nx ((i, some o) :: r)
  | map {α : Type} {enc : α → List (L Unit)} [EncO enc] {i m : Nat} {xs : List α} {r : OAsg} (h : lko oa nx (gOf l i) = some ⟨(), m, xs.map enc⟩) (hr : SubO l oa nx r) : SubO l oa nx ((i, some ⟨(), m, xs.map enc⟩) :: r)
theorem SubA.get {l : List Nat} {asg asg' : Asg} (h : SubA l asg asg') {t : Nat} {v : V Unit} (hv : lkp asg' t = some v) : lkp asg t = some (renV (gOf l) v) ∧ knowsV l.length v = true := by
  induction h with
  | nil => cases hv
  | @cons t' v' r h hk hr ih =>
    by_cases ht : t' = t
    · subst ht
      rw [lkp_cons_self] at hv
      cases hv
      exact ⟨h, hk⟩
    · rw [lkp_cons_ne _ _ ht] at hv
      exact ih hv
theorem SubO.get {l : List Nat} {oa oa' : OAsg} {nx : Nat} (h : SubO l oa nx oa') {i : Nat} {o : Ob Unit} (hv : obAt oa' i = some o) : lko oa nx (gOf l i) = some (renOb (gOf l) o) ∧ knowsR l.length o.rows = true := by
  induction h with
  | nil => cases hv
  | @lit i' o' r h hk hr ih =>
    by_cases ht : i' = i
    · subst ht
      rw [obAt_self] at hv
      cases hv
      exact ⟨h, hk⟩
    · rw [obAt_ne _ _ ht] at hv
      exact ih hv
  | @map α enc _ i' m xs r h hr ih =>
    by_cases ht : i' = i
    · subst ht
      rw [obAt_self] at hv
      cases hv
      refine ⟨by rw [renOb_map]; exact h, ?_⟩
      simp only [knowsR, List.all_map, List.all_eq_true]
      intro x _
      have := EncO.h (enc := enc) x
      rw [List.all_eq_true] at this
      simp only [Function.comp_apply, List.all_eq_true]
      intro c hc i hi
      rw [nest_ids (this c hc)] at hi
      cases hi
    · rw [obAt_ne _ _ ht] at hv
      exact ih hv
theorem mem_obOf {oa : OAsg} {nx : Nat} {p : Nat × Ob Unit} (h : p ∈ obOf oa nx) : p.1 < nx ∧ obAt oa p.1 = some p.2 := by
  unfold obOf at h
  rw [List.mem_filterMap] at h
  obtain ⟨i, hi, h⟩ := h
  rw [Option.map_eq_some_iff] at h
  obtain ⟨o, ho, rfl⟩ := h
  exact ⟨by simpa using hi, ho⟩
theorem obOf_keys (oa : OAsg) (nx : Nat) : ((obOf oa nx).map (·.1)).Nodup := by
  have : (obOf oa nx).map (·.1) = (List.range nx).filter (fun i => (obAt oa i).isSome) := by
    unfold obOf
    rw [List.map_filterMap]
    rw [← List.filterMap_eq_filter]
    refine filterMap_congr' fun i _ => ?_
    cases h : obAt oa i <;> simp [Option.guard, h]
  rw [this]
  exact List.nodup_range.sublist List.filter_sublist
/-- A state seen anew: l: for each new number the old one. -/
theorem w_ (l : List Nat) {N nx : Nat} {asg asg' : Asg} {oa oa' : OAsg} (hA : SubA l asg asg') (hO : SubO l oa nx oa') (hn : l.Nodup) (hB : ∀ i, i < B.n0 → l[i]? = some i) : GhB B (St N asg oa nx) (St N asg' oa' l.length) := by
  have hgo : ∀ i, i < l.length → l[i]? = some (gOf l i) := fun i hi => by simp [gOf, hi]
  refine GhB.view (gOf l) (by simp [St, slotsOf]) (fun t v' hv => ?_) (fun p hp => ?_) (obOf_keys _ _) (fun i j hi hj e => ?_) (fun i hi => ?_) ?_ (fun i hi => ?_)
  · have ht : t < N := by
      have := (List.getElem?_eq_some_iff.1 hv).1
      simpa [St, slotsOf] using this
    have e : (St N asg' oa' l.length).sl[t]? = some (slotV asg' t) := slots_get ht
    rw [e] at hv
    cases hv
    cases h : lkp asg' t with
    | none => left; simp [slotV, h]
    | some v =>
      right
      have : slotV asg' t = v := by simp [slotV, h]
      rw [this]
      exact slots_lk ht (hA.get h).1
  · obtain ⟨h1, h2⟩ := mem_obOf hp
    exact lko_ok (N := N) (asg := asg) (hO.get h2).1
  · have h1 := hgo i hi
    have h2 := hgo j hj
    rw [← e] at h2
    exact (List.getElem?_inj hi hn).1 (h1.trans h2.symm)
  · show i < l.length
    rcases hi with ⟨c, hc, hi⟩ | hi
    · rcases mem_tops.1 hc with ⟨v, hv, hc⟩ | hc
      · simp only [St, slotsOf, List.mem_map, List.mem_range] at hv
        obtain ⟨t, ht, rfl⟩ := hv
        cases h : lkp asg' t with
        | none => simp [slotV, h, leavesV] at hc
        | some v =>
          have e : slotV asg' t = v := by simp [slotV, h]
          rw [e] at hc
          have := (hA.get h).2
          simp only [knowsV, List.all_eq_true] at this
          exact blt_lt (this c hc i hi)
      · obtain ⟨p, hp, r, hr, hcr⟩ := mem_obLeaves.1 hc
        obtain ⟨h1, h2⟩ := mem_obOf hp
        have := (hO.get h2).2
        simp only [knowsR, List.all_eq_true] at this
        exact blt_lt (this r hr c hcr i hi)
    · obtain ⟨p, hp, rfl⟩ := List.mem_map.1 hi
      exact (mem_obOf hp).1
  · show B.n0 ≤ l.length
    rcases Nat.lt_or_ge l.length B.n0 with h | h
    · have := hB l.length h
      simp at this
    · exact h
  · have := hB i hi
    simp [gOf, this]
theorem hB_0 {l : List Nat} (h : B.n0 = 0) : ∀ i, i < B.n0 → l[i]? = some i := fun i hi => by omega
theorem hB_n {l : List Nat} (n : Nat) (h : B.n0 = n) (hl : (List.range n).all (fun i => l[i]? == some i) = true) : ∀ i, i < B.n0 → l[i]? = some i := fun i hi => by
  rw [List.all_eq_true] at hl
  have := hl i (by rw [List.mem_range]; omega)
  simpa using this
end
end Go.Proofs.Ytmckcjoacfekcaa.AM
