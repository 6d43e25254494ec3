import Derived.Test.YtmckcjoacfekcaaAm24
/-! The calculus, twenty-fifth part: states as they are written down: what was set last, by number. -/
namespace Go.Proofs.Ytmckcjoacfekcaa.AM
open Go

def lkp {α : Type} : List (Nat × α) → Nat → Option α
  | [], _ => none
  | (k, v) :: l, t => match Nat.beq k t with
    | true => some v
    | false => lkp l t
theorem lkp_cons_self {α : Type} (l : List (Nat × α)) (k : Nat) (v : α) : lkp ((k, v) :: l) k = some v := by
  simp [lkp]
theorem lkp_cons_ne {α : Type} (l : List (Nat × α)) {k t : Nat} (v : α) (h : k ≠ t) : lkp ((k, v) :: l) t = lkp l t := by
  have : Nat.beq k t = false := by
    cases hb : Nat.beq k t
    · rfl
    · exact absurd (Nat.eq_of_beq_eq_true hb) h
  simp [lkp, this]
abbrev Asg := List (Nat × V Unit)
abbrev OAsg := List (Nat × Option (Ob Unit))
def slotV (asg : Asg) (t : Nat) : V Unit := (lkp asg t).getD .un
def slotsOf (N : Nat) (asg : Asg) : List (V Unit) := (List.range N).map (slotV asg)
def obAt (oa : OAsg) (i : Nat) : Option (Ob Unit) := (lkp oa i).bind id
def obOf (oa : OAsg) (nx : Nat) : List (Nat × Ob Unit) := (List.range nx).filterMap (fun i => (obAt oa i).map fun o => (i, o))
/-- A state: N slots; what was set (the latest first); objects (the latest first, none: gone); how many numbers are taken. -/
def St (N : Nat) (asg : Asg) (oa : OAsg) (nx : Nat) : S Unit := ⟨slotsOf N asg, obOf oa nx, nx⟩
def ev (N : Nat) (asg : Asg) : Operand → Option (V Unit)
  | .tmp t => match Nat.blt t N with
    | true => lkp asg t
    | false => none
  | .const v => (cst v).map .u
  | .func f => some (.u (.one (.fn () f [])))
  | .global _ => none
def lko (oa : OAsg) (nx id : Nat) : Option (Ob Unit) := match Nat.blt id nx with
  | true => obAt oa id
  | false => none
theorem blt_lt {a b : Nat} (h : Nat.blt a b = true) : a < b := by
  have : a + 1 ≤ b := by simpa [Nat.blt] using h
  omega
theorem slots_get {N : Nat} {asg : Asg} {t : Nat} (h : t < N) : (slotsOf N asg)[t]? = some (slotV asg t) := by
  simp [slotsOf, h]
theorem slots_lk {N : Nat} {asg : Asg} {t : Nat} {v : V Unit} (h : t < N) (hv : lkp asg t = some v) : (slotsOf N asg)[t]? = some v := by
  rw [slots_get h, slotV, hv]; rfl
theorem slots_set (N : Nat) (asg : Asg) (t : Nat) (v : V Unit) : slotsOf N ((t, v) :: asg) = (slotsOf N asg).set t v := by
  apply List.ext_getElem?
  intro j
  rw [List.getElem?_set]
  by_cases hj : j < N
  · rw [slots_get hj]
    by_cases hjt : t = j
    · subst hjt
      rw [if_pos rfl, if_pos (by simpa [slotsOf] using hj), slotV, lkp_cons_self]; rfl
    · rw [if_neg hjt, slots_get hj, slotV, lkp_cons_ne _ _ hjt, slotV]
  · have h1 : (slotsOf N ((t, v) :: asg))[j]? = none := by simp [slotsOf]; omega
    have h2 : (slotsOf N asg)[j]? = none := by simp [slotsOf]; omega
    rw [h1, h2]
    by_cases hjt : t = j
    · subst hjt
      rw [if_pos rfl, if_neg (by simpa [slotsOf] using hj)]
    · rw [if_neg hjt]
theorem ev_ok {N : Nat} {asg : Asg} {oa : OAsg} {nx : Nat} {x : Operand} {v : V Unit} (h : ev N asg x = some v) : evA (St N asg oa nx) x = some v := by
  cases x with
  | tmp t =>
    simp only [ev] at h
    split at h
    · rename_i hb
      exact slots_lk (blt_lt hb) h
    · cases h
  | const v => exact h
  | func f => exact h
  | global g => exact h
theorem look_map {l : List Nat} {g : Nat → Option (Ob Unit)} (id : Nat) : look (l.filterMap (fun i => (g i).map fun o => (i, o))) id = if id ∈ l then g id else none := by
  induction l with
  | nil => simp [look]
  | cons i l ih =>
    by_cases hi : i = id
    · subst hi
      cases hg : g i with
      | none =>
        rw [List.filterMap_cons_none (by simp [hg]), ih]
        simp [hg]
      | some o =>
        rw [List.filterMap_cons_some (by simp [hg]; rfl)]
        simp [look]
    · have : look ((i :: l).filterMap (fun i => (g i).map fun o => (i, o))) id = look (l.filterMap (fun i => (g i).map fun o => (i, o))) id := by
        cases hg : g i with
        | none => rw [List.filterMap_cons_none (by simp [hg])]
        | some o =>
          rw [List.filterMap_cons_some (by simp [hg]; rfl)]
          simp [look, hi]
      rw [this, ih]
      simp [Ne.symm hi]
theorem look_St {oa : OAsg} {nx id : Nat} : look (obOf oa nx) id = if id < nx then obAt oa id else none := by
  unfold obOf
  rw [look_map]
  simp
theorem lko_ok {N : Nat} {asg : Asg} {oa : OAsg} {nx id : Nat} {o : Ob Unit} (h : lko oa nx id = some o) : look (St N asg oa nx).ob id = some o := by
  unfold lko at h
  split at h
  · rename_i hb
    show look (obOf oa nx) id = _
    rw [look_St, if_pos (blt_lt hb), h]
  · cases h
theorem lko_lt {oa : OAsg} {nx id : Nat} {o : Ob Unit} (h : lko oa nx id = some o) : id < nx ∧ obAt oa id = some o := by
  unfold lko at h
  split at h
  · rename_i hb; exact ⟨blt_lt hb, h⟩
  · cases h
theorem obAt_self (oa : OAsg) (i : Nat) (o : Option (Ob Unit)) : obAt ((i, o) :: oa) i = o := by simp [obAt, lkp_cons_self]
theorem obAt_ne (oa : OAsg) {i j : Nat} (o : Option (Ob Unit)) (h : i ≠ j) : obAt ((i, o) :: oa) j = obAt oa j := by simp [obAt, lkp_cons_ne _ _ h]
theorem filterMap_congr' {α β : Type} {f g : α → Option β} {l : List α} (h : ∀ x ∈ l, f x = g x) : l.filterMap f = l.filterMap g := by
  induction l with
  | nil => rfl
  | cons a l ih =>
    have h1 := h a (by simp)
    have h2 := ih fun x hx => h x (List.mem_cons_of_mem _ hx)
    cases hg : g a with
    | none => rw [List.filterMap_cons_none (h1.trans hg), List.filterMap_cons_none hg, h2]
    | some b => rw [List.filterMap_cons_some (h1.trans hg), List.filterMap_cons_some hg, h2]
theorem obOf_new (oa : OAsg) (nx : Nat) (o : Ob Unit) : obOf ((nx, some o) :: oa) (nx + 1) = obOf oa nx ++ [(nx, o)] := by
  unfold obOf
  rw [List.range_succ, List.filterMap_append]
  congr 1
  · refine filterMap_congr' fun i hi => ?_
    rw [List.mem_range] at hi
    rw [obAt_ne _ _ (by omega)]
  · simp [obAt_self]
theorem obOf_upd {oa : OAsg} {nx id : Nat} {o : Ob Unit} (h : lko oa nx id = some o) (rows : List (List (L Unit))) : obOf ((id, some ⟨o.h, o.n, rows⟩) :: oa) nx = updOb (obOf oa nx) id rows := by
  obtain ⟨_, ho⟩ := lko_lt h
  unfold obOf updOb
  rw [List.map_filterMap]
  refine filterMap_congr' fun i _ => ?_
  by_cases hi : id = i
  · subst hi
    simp [obAt_self, ho]
  · rw [obAt_ne _ _ hi]
    cases hg : obAt oa i with
    | none => rfl
    | some o' => simp [Ne.symm hi]
theorem obOf_del {oa : OAsg} {nx id : Nat} : obOf ((id, none) :: oa) nx = (obOf oa nx).filter (fun p => !(p.1 == id)) := by
  unfold obOf
  rw [List.filter_filterMap]
  refine filterMap_congr' fun i _ => ?_
  by_cases hi : id = i
  · subst hi
    rw [obAt_self]
    cases hg : obAt oa id <;> simp [Option.filter]
  · rw [obAt_ne _ _ hi]
    cases hg : obAt oa i with
    | none => rfl
    | some o' => simp [Ne.symm hi, Option.filter]

theorem St_setSl (N : Nat) (asg : Asg) (oa : OAsg) (nx t : Nat) (v : V Unit) : setSl (St N asg oa nx) (some t) v = St N ((t, v) :: asg) oa nx := by
  simp only [St, setSl, slots_set]
theorem St_pure (N : Nat) (asg : Asg) (oa : OAsg) (nx nid t : Nat) (v : V Unit) (rd : List Nat) (hyp : Prop) : appE (St N asg oa nx) (some t) nid ⟨v, rd, [], [], [], hyp⟩ = St N ((t, v) :: asg) oa nx := by
  simp only [St, appE_p, slots_set]
theorem St_new (N : Nat) (asg : Asg) (oa : OAsg) (nx t : Nat) (v : V Unit) (rd : List Nat) (o : Ob Unit) (hyp : Prop) : appE (St N asg oa nx) (some t) nx ⟨v, rd, [o], [], [], hyp⟩ = St N ((t, v) :: asg) ((nx, some o) :: oa) (nx + 1) := by
  simp only [St, appE_n, slots_set, obOf_new]
theorem St_upd {N : Nat} {asg : Asg} {oa : OAsg} {nx nid id : Nat} {o : Ob Unit} (h : lko oa nx id = some o) (v : V Unit) (rd : List Nat) (rows : List (List (L Unit))) (hyp : Prop) :
    appE (St N asg oa nx) none nid ⟨v, rd, [], [(id, rows)], [], hyp⟩ = St N asg ((id, some ⟨o.h, o.n, rows⟩) :: oa) nx := by
  simp only [St, appE_u, obOf_upd h]
theorem app_del {δ : Type} (s : S δ) (dst : Option Nat) (nid : Nat) (v : V δ) (o : Ob δ) (id : Nat) : app s dst nid v [o] [] [id] = setSl ⟨s.sl, s.ob.filter (fun p => !(p.1 == id)) ++ [(nid, o)], s.nx + 1⟩ dst v := by
  simp [app, updP_nil]
  congr 3
theorem obOf_delnew {oa : OAsg} {nx id : Nat} (o : Ob Unit) : obOf ((nx, some o) :: (id, none) :: oa) (nx + 1) = (obOf oa nx).filter (fun p => !(p.1 == id)) ++ [(nx, o)] := by
  rw [obOf_new, obOf_del]
theorem St_del (N : Nat) (asg : Asg) (oa : OAsg) (nx t : Nat) (v : V Unit) (rd : List Nat) (o : Ob Unit) (id : Nat) (hyp : Prop) :
    appE (St N asg oa nx) (some t) nx ⟨v, rd, [o], [], [id], hyp⟩ = St N ((t, v) :: asg) ((nx, some o) :: (id, none) :: oa) (nx + 1) := by
  simp only [St, appE, app_del, setSl, slots_set, obOf_delnew]
end Go.Proofs.Ytmckcjoacfekcaa.AM
