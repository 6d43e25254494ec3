import Derived.Test.YtmckcjoacfekcaaAm27
/-! The calculus, twenty-eighth part: regions whose order is drawn. -/
namespace Go.Proofs.Ytmckcjoacfekcaa.AM
open Go

section
variable {P : Program}
/-- A system whose effects hang on what is looked at alone. -/
structure LocY (Y : Sys P) : Prop where
  op : ∀ {o : Oper} {s s' : S Unit} {nid : Nat} {e : Eff}, Y.E o s nid e → (∀ x ∈ o.op.operands, evA s' x = evA s x) → s'.ob = s.ob → Y.E o s' nid e
variable (Y : Sys P)
def guardB (ops : List Oper) (o : Oper) (s : S Unit) : Option Bool := match o.guard with
  | none => some true
  | some (j, want) => match dstOf ops j with
    | none => none
    | some t => match s.sl[t]? with
      | some (.u (.one (.bool b))) => some (b == want)
      | some .ud => some false
      | _ => none
def d1 (ops : List Oper) (o : Oper) (s : S Unit) (K : S Unit → Prop) : Prop := match guardB ops o s with
  | some true => ∃ e, Y.E o s s.nx e ∧ (e.hyp → K (appE s o.dst s.nx e))
  | some false => K (setSl s o.dst .ud)
  | none => False
def aAny (ops : List Oper) : Nat → Array Bool → S Unit → (S Unit → Prop) → Prop
  | 0, L, s, K => Region.ready .any ops.toArray L = [] ∧ K s
  | fuel + 1, L, s, K => (Region.ready .any ops.toArray L = [] → K s) ∧
      ∀ i ∈ Region.ready .any ops.toArray L, ∀ o, ops[i]? = some o → d1 Y ops o s (fun s' => aAny ops fuel (L.setIfInBounds i true) s' K)
variable {Y}
theorem guardB_wanted {ops : List Oper} {o : Oper} {d : S Value} {a : Act} (hs : SlR d a) {b : Bool} (h : guardB ops o (erS d) = some b) : Region.wanted o (yielded ops.toArray a.tmps) = b := by
  unfold guardB at h
  split at h
  · rename_i hg
    cases h
    exact wanted_none hg
  · rename_i j want hg
    split at h
    · cases h
    · rename_i t ht
      have ht' : ((ops.toArray)[j]?).bind (·.dst) = some t := by rw [List.getElem?_toArray]; exact ht
      split at h
      · rename_i b' hb
        cases h
        exact wanted_bool hg ht' (slot_bool hs hb)
      · rename_i hb
        cases h
        exact wanted_ud hg ht' (slot_ud hs hb)
      · cases h
theorem d1_sound {ops : List Oper} {o : Oper} {i : Nat} {s : S Unit} {a : Act} {W : World} {B : Bd} {K' : S Unit → Prop} {Kc : Act → World → Prop} {Q : Exit → Act → World → Prop} (hi : ops[i]? = some o) (h : d1 Y ops o s K') (hr : Rel B s a W)
    (hK : ∀ s a W, K' s → Rel B s a W → Kc a W) : wpOp P ops.toArray Q i Kc a W := by
  unfold wpOp
  rw [List.getElem?_toArray, hi]
  simp only
  unfold d1 at h
  split at h
  · rename_i hg
    have hr' := hr
    obtain ⟨d, rfl, hi', hs, _⟩ := hr'
    rw [guardB_wanted hs hg, if_pos rfl]
    obtain ⟨e, he, hK'⟩ := h
    obtain ⟨h1, h2⟩ := hr.step (Y.ok he)
    exact .inl (wp_any_post (Oper.wp_mono (fun a' W' hr' => hK _ a' W' (hK' h1) hr') h2))
  · rename_i hg
    have hr' := hr
    obtain ⟨d, rfl, hi', hs, _⟩ := hr'
    rw [guardB_wanted hs hg, if_neg (by simp)]
    exact hK _ _ _ h (hr.skip o.dst)
  · cases h
theorem aAny_sound {ops : List Oper} {B : Bd} {K : S Unit → Prop} {Q : Exit → Act → World → Prop} (hK : ∀ s a W, K s → Rel B s a W → Q .normal a W) : ∀ (fuel : Nat) (L : Array Bool) (s : S Unit) (a : Act) (W : World), aAny Y ops fuel L s K → Rel B s a W →
    wpAny P .any ops.toArray Q fuel L a W
  | 0, L, s, a, W, h, hr => ⟨h.1, hK s a W h.2 hr⟩
  | fuel + 1, L, s, a, W, h, hr => by
    refine ⟨fun h0 => hK s a W (h.1 h0) hr, fun i hi => ?_⟩
    obtain ⟨_, o, ho, _⟩ := mem_ready.1 hi
    rw [List.getElem?_toArray] at ho
    exact d1_sound ho (h.2 i hi o ho) hr fun s a W h hr => aAny_sound hK fuel _ s a W h hr
theorem Rel.keeps {B : Bd} {s : S Unit} {a : Act} {W W' : World} (h : Rel B s a W) (hk : Keeps W W') : Rel B s a W' := by
  obtain ⟨d, e, hi, h2⟩ := h
  exact ⟨d, e, hi.put hk none (v := .ud) rfl (by simp [leavesV]) (by simp [leavesV]), h2⟩
theorem c_drw {B : Bd} {id : Nat} {ops : List Oper} {Q : Exit → S Unit → Prop} {s : S Unit} (hm : P.follows .mixedOrders = true) (h : aAny Y ops ops.length (Array.replicate ops.length false) s (Q .normal)) : Wp (P := P) B (.region id ops.toArray true) Q s := by
  intro a W hr
  refine wp_region_any hm ?_
  have := aAny_sound (Y := Y) (B := B) (K := Q .normal) (Q := fun e a' W' => ∃ s', Rel B s' a' W' ∧ Q e s') (fun s a W h hr => ⟨s, hr, h⟩) ops.length (Array.replicate ops.length false) s a { W with drawn := W.drawn + 1 } h (hr.keeps (keeps_of_heap rfl))
  simpa using this

-- an operation that only sets a slot may be taken first
theorem evA_set {s : S Unit} {dst : Option Nat} {v : V Unit} {x : Operand} (h : ∀ d, dst = some d → x ≠ .tmp d) : evA (setSl s dst v) x = evA s x := by
  cases dst with
  | none => rfl
  | some d =>
    cases x with
    | tmp t =>
      have hne : d ≠ t := fun e => h d rfl (e ▸ rfl)
      simp only [evV, setSl, List.getElem?_set, if_neg hne]
    | _ => rfl
theorem looks_op {ops : List Oper} {o : Oper} {d : Nat} (h : d ∉ o.looksAt ops.toArray) : ∀ x ∈ o.op.operands, x ≠ .tmp d := fun x hx e => by
  subst e
  exact h (List.mem_append_left _ (List.mem_filterMap.2 ⟨.tmp d, by simpa using hx, rfl⟩))
theorem guardB_set {ops : List Oper} {o : Oper} {s : S Unit} {dst : Option Nat} {v : V Unit} (h : ∀ d, dst = some d → d ∉ o.looksAt ops.toArray) : guardB ops o (setSl s dst v) = guardB ops o s := by
  cases dst with
  | none => rfl
  | some d =>
    unfold guardB
    cases hg : o.guard with
    | none => rfl
    | some gw =>
      obtain ⟨j, want⟩ := gw
      simp only
      cases ht : dstOf ops j with
      | none => rfl
      | some t =>
        have hne : d ≠ t := fun e => h d rfl (by
          subst e
          have ht' : ((ops.toArray)[j]?).bind (·.dst) = some d := by rw [List.getElem?_toArray]; exact ht
          refine List.mem_append_right _ ?_
          simp only [hg, ht', Option.toList_some, List.mem_singleton])
        simp only [setSl, List.getElem?_set, if_neg hne]
theorem setSl_comm {δ : Type} (s : S δ) {x y : Option Nat} (v u : V δ) (h : ∀ d, x = some d → y ≠ some d) : setSl (setSl s x v) y u = setSl (setSl s y u) x v := by
  cases x with
  | none => rfl
  | some d =>
    cases y with
    | none => rfl
    | some e =>
      have hne : d ≠ e := fun he => h d rfl (he ▸ rfl)
      simp only [setSl, List.set_comm _ _ hne]
theorem appE_set (s : S Unit) {x y : Option Nat} (v : V Unit) (nid : Nat) (e : Eff) (h : ∀ d, x = some d → y ≠ some d) : appE (setSl s x v) y nid e = setSl (appE s y nid e) x v := by
  unfold appE app
  rw [← setSl_comm _ _ _ h]
  cases x <;> rfl
/-- What a plain operation makes, or that it is passed over. -/
def PY (ops : List Oper) (o : Oper) (s : S Unit) (v : V Unit) (rd : List Nat) : Prop :=
  (guardB ops o s = some true ∧ (∀ id ∈ rd, look s.ob id ≠ none) ∧ ∃ hyp, opF P o.op (evA s) (look s.ob) s.nx = some ⟨v, rd, [], [], [], hyp⟩) ∨ (guardB ops o s = some false ∧ v = .ud ∧ rd = [])
theorem look_news {ob : List (Nat × Ob Unit)} {news : List (Ob Unit)} {nid id : Nat} (h : look ob id ≠ none) : look (ob ++ (news.zipIdx nid).map (fun q => (q.2, q.1))) id = look ob id := by
  unfold look at h ⊢
  rw [List.find?_append]
  cases hf : ob.find? (fun p => p.1 == id) with
  | none => rw [hf] at h; exact absurd rfl h
  | some p => rfl
theorem quiet_ob {s : S Unit} {dst : Option Nat} {nid : Nat} {e : Eff} (hu : e.upd = []) (hd : e.del = []) {id : Nat} (h : look s.ob id ≠ none) : look (appE s dst nid e).ob id = look s.ob id := by
  unfold appE
  rw [hu, hd, app_many, setSl_ob]
  exact look_news h
theorem aAny_take [PlainY Y] (hY : LocY Y) {ops : List Oper} {i : Nat} {o : Oper} {v : V Unit} {rd : List Nat} {K : S Unit → Prop} (hi : ops[i]? = some o) : ∀ (fuel : Nat) (L : Array Bool) (s : S Unit),
    (∀ j oj, ops[j]? = some oj → j ≠ i → L.getD j true = false → (∀ e ∈ oj.after, Region.binds .any e = true → e.on ≠ i) → o.apart ops.toArray oj = true ∧ (rd = [] ∨ ∀ s nid e, Y.E oj s nid e → e.upd = [] ∧ e.del = [])) →
    i ∈ Region.ready .any ops.toArray L → PY (P := P) ops o s v rd → aAny Y ops fuel (L.setIfInBounds i true) (setSl s o.dst v) K → aAny Y ops (fuel + 1) L s K := by
  have self : ∀ (fuel : Nat) (L : Array Bool) (s : S Unit), PY (P := P) ops o s v rd → aAny Y ops fuel (L.setIfInBounds i true) (setSl s o.dst v) K → d1 Y ops o s (fun s' => aAny Y ops fuel (L.setIfInBounds i true) s' K) := by
    intro fuel L s hy H
    unfold d1
    rcases hy with ⟨hg, _, hyp, he⟩ | ⟨hg, hv, _⟩
    · rw [hg]
      refine ⟨_, PlainY.h he, fun _ => ?_⟩
      have : appE s o.dst s.nx ⟨v, rd, [], [], [], hyp⟩ = setSl s o.dst v := by
        unfold appE
        rw [app_many]
        simp
      rw [this]
      exact H
    · rw [hg]
      subst hv
      exact H
  intro fuel
  induction fuel with
  | zero =>
    intro L s _ hr hy H
    refine ⟨fun h => (by rw [h] at hr; cases hr), fun j hj oj hoj => ?_⟩
    by_cases hji : j = i
    · subst hji
      rw [hi] at hoj
      cases hoj
      exact self 0 L s hy H
    · have := ready_mono hj hji
      rw [H.1] at this
      cases this
  | succ fuel ih =>
    intro L s hfree hr hy H
    refine ⟨fun h => (by rw [h] at hr; cases hr), fun j hj oj hoj => ?_⟩
    by_cases hji : j = i
    · subst hji
      rw [hi] at hoj
      cases hoj
      exact self _ L s hy H
    · have h1 := H.2 j (ready_mono hj hji) oj hoj
      obtain ⟨hjun, oj', hoj', hall⟩ := mem_ready.1 hj
      rw [List.getElem?_toArray, hoj] at hoj'
      cases hoj'
      have hnot : ∀ e ∈ oj.after, Region.binds .any e = true → e.on ≠ i := fun e he hb heq => by
        have h1 := hall e he hb
        have h0 := (mem_ready.1 hr).1
        rw [heq] at h1
        rcases Nat.lt_or_ge i L.size with h' | h'
        · simp [h'] at h0 h1; rw [h0] at h1; cases h1
        · simp [Array.getElem?_eq_none h'] at h1
      obtain ⟨hap, hq⟩ := hfree j oj hoj hji hjun hnot
      obtain ⟨a1, a2, a3⟩ := Oper.apart_spec hap
      have hfree' : ∀ k ok, ops[k]? = some ok → k ≠ i → (L.setIfInBounds j true).getD k true = false → (∀ e ∈ ok.after, Region.binds .any e = true → e.on ≠ i) → o.apart ops.toArray ok = true ∧ (rd = [] ∨ ∀ s nid e, Y.E ok s nid e → e.upd = [] ∧ e.del = []) :=
        fun k ok hk hki hun hno => by
          refine hfree k ok hk hki ?_ hno
          by_cases hjk : j = k
          · subst hjk; exact hjun
          · rw [getD_set_ne true hjk] at hun; exact hun
      unfold d1 at h1 ⊢
      rw [guardB_set a1] at h1
      -- what stays of the operation's own
      have stay : ∀ s', (∀ x ∈ o.op.operands, evA s' x = evA s x) → guardB ops o s' = guardB ops o s → (∀ id ∈ rd, look s'.ob id = look s.ob id) → PY (P := P) ops o s' v rd := by
        intro s' e1 e2 e3
        rcases hy with ⟨hg, hpr, hyp, he⟩ | ⟨hg, hv, hrd0⟩
        · refine .inl ⟨e2.trans hg, fun id hid => by rw [e3 id hid]; exact hpr id hid, hyp, ?_⟩
          rw [opF_ops e1]
          exact opF_loc he e3
        · exact .inr ⟨e2.trans hg, hv, hrd0⟩
      have hne : ∀ id ∈ rd, look s.ob id ≠ none := fun id hid => by
        rcases hy with ⟨_, hpr, _⟩ | ⟨_, _, h0⟩
        · exact hpr id hid
        · rw [h0] at hid; cases hid
      split at h1
      · rename_i hg
        obtain ⟨e, he, hK⟩ := h1
        have hnx : (setSl s o.dst v).nx = s.nx := setSl_nx _ _ _
        rw [hnx] at he hK
        have he' : Y.E oj s s.nx e := hY.op he (fun x hx => (evA_set fun d hd hxd => looks_op (a1 d hd) x hx hxd).symm) (setSl_ob _ _ _).symm
        refine ⟨e, he', fun hh => ?_⟩
        replace hK := hK hh
        rw [appE_set s v _ e (fun d hd => a2 d hd)] at hK
        rw [Array.setIfInBounds_comm _ _ (Ne.symm hji)] at hK
        have e1 : ∀ s0 : S Unit, appE s0 oj.dst s0.nx e = setSl { appE s0 none s0.nx e with sl := s0.sl } oj.dst e.v := fun s0 => by unfold appE app; rfl
        have e2 : ∀ x ∈ o.op.operands, evA (appE s oj.dst s.nx e) x = evA s x := fun x hx => by
          rw [e1, evA_set fun d hd hxd => looks_op (a3 d hd) x hx hxd]
        have e3 : guardB ops o (appE s oj.dst s.nx e) = guardB ops o s := by
          rw [e1, guardB_set a3]
          rfl
        refine ih (L.setIfInBounds j true) _ hfree' (ready_mono hr (Ne.symm hji)) (stay _ e2 e3 fun id hid => ?_) hK
        rcases hq with h0 | hq
        · rw [h0] at hid; cases hid
        · obtain ⟨hu, hd⟩ := hq _ _ _ he'
          exact quiet_ob hu hd (hne id hid)
      · rename_i hg
        rw [setSl_comm _ _ _ (fun d hd => a2 d hd), Array.setIfInBounds_comm _ _ (Ne.symm hji)] at h1
        refine ih (L.setIfInBounds j true) _ hfree' (ready_mono hr (Ne.symm hji)) (stay _ (fun x hx => evA_set fun d hd hxd => looks_op (a3 d hd) x hx hxd) (guardB_set a3) fun id _ => by rw [setSl_ob]) h1
      · cases h1

-- what the operations ask, and what they leave alone
/-- Operations that leave all objects as they are. -/
def quietB : Op → Bool
  | .store _ _ _ => false
  | .call c => match c.callee with
    | .builtin .append => false
    | _ => true
  | _ => true
def QE (x : Option Eff) : Prop := ∀ e, x = some e → e.upd = [] ∧ e.del = []
theorem QE.none : QE none := fun _ h => by cases h
theorem QE.mk {v : V Unit} {rd : List Nat} {news : List (Ob Unit)} {hyp : Prop} : QE (some ⟨v, rd, news, [], [], hyp⟩) := fun _ h => by cases h; exact ⟨rfl, rfl⟩
theorem QE.bind {α : Type} {x : Option α} {f : α → Option Eff} (h : ∀ a, QE (f a)) : QE (x.bind f) := fun e he => by
  obtain ⟨a, _, h2⟩ := bind_some he
  exact h a e h2
theorem QE.map {α : Type} {x : Option α} {f : α → Eff} (h : ∀ a, QE (some (f a))) : QE (x.map f) := fun e he => by
  rw [Option.map_eq_some_iff] at he
  obtain ⟨a, _, h2⟩ := he
  exact h a e (by rw [h2])
theorem QE.ite {c : Prop} [Decidable c] {x y : Option Eff} (h1 : QE x) (h2 : QE y) : QE (if c then x else y) := by split <;> assumption
theorem opF_quiet {op : Op} {ρ : Env} {lk : Lk} {nid : Nat} (hq : quietB op = true) : QE (opF P op ρ lk nid) := by
  have mv : ∀ x, QE (mvF x) := fun x => by unfold mvF; split <;> first | exact QE.none | exact QE.ite QE.mk QE.none
  cases op <;> simp only [opF]
  case store => cases hq
  case call c =>
    split
    · split
      · unfold lenF
        split
        · refine QE.bind fun _ => ?_
          split <;> first | exact QE.none | exact QE.mk | exact QE.bind fun _ => QE.mk
        · exact QE.none
      · exact QE.none
    · split
      · unfold mmF; split <;> first | exact QE.none | exact QE.mk
      · exact QE.none
    · split
      · unfold mmF; split <;> first | exact QE.none | exact QE.mk
      · exact QE.none
    · rename_i hc
      simp only [quietB, hc] at hq
      cases hq
    · exact QE.none
  case move => exact mv _
  case assign => exact mv _
  case pick => unfold pickF; split <;> first | exact mv _ | exact QE.none
  case alloc => exact QE.bind fun _ => QE.mk
  case box => unfold bxF; split <;> first | exact QE.ite QE.mk QE.none | exact QE.none
  case build => refine QE.bind fun _ => ?_; split <;> first | exact QE.none | exact QE.bind fun _ => QE.bind fun _ => QE.mk
  case buildSlice => refine QE.bind fun _ => ?_; split <;> first | exact QE.none | exact QE.bind fun _ => QE.ite (QE.bind fun _ => QE.bind fun _ => QE.mk) QE.none
  case load => refine QE.bind fun _ => ?_; split <;> first | exact QE.none | exact QE.bind fun _ => QE.bind fun _ => QE.bind fun _ => QE.ite QE.mk QE.none | exact QE.bind fun _ => QE.ite QE.mk QE.none
  case nilCheck => split <;> first | exact QE.none | exact QE.mk | exact QE.bind fun _ => QE.mk
  case binOp => unfold biE; split <;> first | exact QE.none | exact QE.map fun _ => QE.mk
  case unOp => unfold unE; split <;> first | exact QE.none | exact QE.map fun _ => QE.mk
  case convert => unfold cvE; split <;> first | exact QE.none | (split <;> first | exact QE.none | exact QE.mk)
  case makeFunc => unfold mfF; split <;> first | exact QE.none | exact QE.ite (QE.map fun _ => QE.mk) QE.none
  case makeSlice =>
    refine QE.bind fun _ => ?_
    split
    · refine QE.bind fun _ => ?_
      split
      · exact QE.ite (QE.ite QE.mk QE.none) QE.none
      · exact QE.none
    · exact QE.none
  case slice t x lo hi mx =>
    cases mx with
    | some m => exact QE.none
    | none =>
      simp only [slF]
      refine QE.bind fun _ => ?_
      split
      · split
        · exact QE.bind fun _ => QE.bind fun _ => QE.ite QE.mk QE.none
        · exact QE.none
      · refine QE.bind fun _ => ?_
        split
        · exact QE.bind fun _ => QE.bind fun _ => QE.ite (QE.ite QE.mk QE.none) QE.none
        · exact QE.bind fun _ => QE.bind fun _ => QE.bind fun _ => QE.ite (QE.ite QE.mk QE.none) QE.none
        · exact QE.none
      · exact QE.none
  case fieldAddr =>
    refine QE.bind fun _ => ?_
    split
    · refine QE.bind fun _ => QE.bind fun _ => QE.ite QE.none ?_
      split <;> first | exact QE.none | exact QE.mk | exact QE.bind fun _ => QE.mk
    · exact QE.none
  case field =>
    refine QE.bind fun _ => ?_
    split
    · refine QE.bind fun _ => QE.bind fun _ => ?_
      split <;> first | exact QE.none | exact QE.bind fun _ => QE.ite QE.mk QE.none
    · exact QE.none
  case indexAddr =>
    refine QE.bind fun _ => ?_
    split
    · refine QE.bind fun _ => ?_
      split
      · split
        · exact QE.ite (QE.ite (QE.bind fun _ => QE.mk) QE.none) QE.none
        · exact QE.bind fun _ => QE.ite (QE.ite QE.mk QE.none) QE.none
        · exact QE.none
      · exact QE.none
    · exact QE.none
  case index => refine QE.bind fun _ => ?_; split <;> first | exact QE.none | exact QE.ite (QE.bind fun _ => QE.mk) QE.none
  case extract => unfold exF; split <;> first | exact QE.none | exact QE.bind fun _ => QE.ite QE.mk QE.none
  all_goals exact QE.none
theorem argsE_ops {lk : Lk} {ρ ρ' : Env} : ∀ {xs : List Operand}, (∀ x ∈ xs, ρ' x = ρ x) → argsE lk ρ' xs = argsE lk ρ xs
  | [], _ => rfl
  | x :: xs, h => by
    simp only [argsE, h x (by simp), argsE_ops (xs := xs) fun y hy => h y (by simp [hy])]
theorem locC : LocY (sysC P) := ⟨fun {o s s' nid e} h hρ hob => by
  rcases h with h | ⟨c, f, caps, us, rd, cs, rd2, r, h1, h2, h3, h4, h5⟩
  · refine .inl ?_
    rw [hob, opF_ops hρ]; exact h
  · refine .inr ⟨c, f, caps, us, rd, cs, rd2, r, h1, ?_, ?_, by rw [hob]; exact h4, h5⟩
    · rw [h1] at hρ
      unfold calE at h2 ⊢
      split at h2
      · rename_i x hx
        rw [hρ x (by simp [Op.operands, Call.operands, hx])]
        exact h2
      · cases h2
    · rw [hob, argsE_ops fun x hx => hρ x (by rw [h1]; simp only [Op.operands, Call.operands, Array.mem_append]; exact .inr (by simpa using hx))]
      exact h3⟩
class QuietY (Y : Sys P) where
  q : Op → Bool
  ok : ∀ {o : Oper} {s : S Unit} {nid : Nat} {e : Eff}, q o.op = true → Y.E o s nid e → e.upd = [] ∧ e.del = []
  loc : LocY Y
  bare : ∀ {dst : Option Nat} {op : Op} {ty : TypeId} {pos : String} {aft : Array Edge} {g : Option (Nat × Bool)} {s : S Unit} {nid : Nat} {e : Eff}, Y.E ⟨dst, op, ty, pos, aft, none⟩ s nid e → Y.E ⟨dst, op, ty, pos, aft, g⟩ s nid e
instance : QuietY (sysC P) := ⟨quietB, fun {o s nid e} hq h => by
  rcases h with h | ⟨c, f, caps, us, rd, cs, rd2, r, h1, h2, h3, h4, h5, h6, h7, rfl⟩
  · exact opF_quiet hq e h
  · exact ⟨rfl, rfl⟩, locC, fun h => h⟩
/-- May the operation be taken first? pr = 1: it asks no object; 2: the others leave the objects as they are. -/
def takeB (q : Op → Bool) (pr : Nat) (ops : Array Oper) (L : Array Bool) (i : Nat) : Bool :=
  (Region.ready .any ops L).contains i && Region.free .any ops L i && (Nat.beq pr 1 || (List.range ops.size).all fun j => j == i || L.getD j true || match ops[j]? with
    | some oj => oj.after.any (fun e => Region.binds .any e && e.on == i) || q oj.op
    | none => true)
section
variable {Y : Sys P} [PlainY Y] [QuietY Y]
theorem take_core {ops : List Oper} {i pr fuel : Nat} {o : Oper} {v : V Unit} {rd : List Nat} {L : Array Bool} {s : S Unit} {K : S Unit → Prop} (hi : ops[i]? = some o) (hb : takeB (QuietY.q Y) pr ops.toArray L i = true) (hrd : pr = 1 → rd = [])
    (hy : PY (P := P) ops o s v rd) (H : aAny Y ops fuel (L.setIfInBounds i true) (setSl s o.dst v) K) : aAny Y ops (fuel + 1) L s K := by
  simp only [takeB, Bool.and_eq_true, Bool.or_eq_true] at hb
  obtain ⟨⟨h1, h2⟩, h3⟩ := hb
  have hi' : (ops.toArray)[i]? = some o := by rw [List.getElem?_toArray]; exact hi
  refine aAny_take QuietY.loc hi fuel L s (fun j oj hj hji hun hno => ⟨Region.free_spec hi' h2 j oj (by rw [List.getElem?_toArray]; exact hj) hji hun hno, ?_⟩) (by simpa using h1) hy H
  rcases h3 with h3 | h3
  · exact .inl (hrd (Nat.eq_of_beq_eq_true h3))
  · right
    intro s nid e he
    refine QuietY.ok (Y := Y) ?_ he
    rw [List.all_eq_true] at h3
    have hj' : (ops.toArray)[j]? = some oj := by rw [List.getElem?_toArray]; exact hj
    have := h3 j (by rw [List.mem_range]; exact (Array.getElem?_eq_some_iff.1 hj').1)
    simp only [hj', Bool.or_eq_true, beq_iff_eq, hji, hun, false_or, Bool.false_eq_true] at this
    rcases this with this | this
    · obtain ⟨e', he', hb⟩ := Array.any_eq_true'.1 this
      simp only [Bool.and_eq_true, beq_iff_eq] at hb
      exact absurd hb.2 (hno e' he' hb.1)
    · exact this
variable {N nx t fuel : Nat} {asg : Asg} {oa : OAsg} {K : S Unit → Prop} {ops : List Oper} {L : Array Bool} {dst : Option Nat} {op : Op} {ty : TypeId} {pos : String} {aft : Array Edge} {j : Nat} {want : Bool}
omit [PlainY Y] [QuietY Y] in
theorem aopK_pure {pr : Nat} {o : Oper} {s : S Unit} (hpr : pr ≠ 0) (h : aopK Y pr o s K) : ∃ v rd hyp, opF P o.op (evA s) (look s.ob) s.nx = some ⟨v, rd, [], [], [], hyp⟩ ∧ Rd pr s rd ∧ K (setSl s o.dst v) := by
  obtain ⟨⟨v, rd, news, upd, del, hyp⟩, h1, _, h2⟩ := h
  obtain ⟨e1, e2, e3, e4, e5⟩ := h1 hpr
  simp only at e2 e3 e4
  subst e2 e3 e4
  refine ⟨v, rd, hyp, e1, e5, ?_⟩
  have := h2 fun h => absurd h hpr
  have e : appE s o.dst s.nx ⟨v, rd, [], [], [], hyp⟩ = setSl s o.dst v := by
    unfold appE; rw [app_many]; simp
  rwa [e] at this
/-- An operation is taken. -/
theorem t_ (i pr : Nat) (hi : ops[i]? = some ⟨dst, op, ty, pos, aft, none⟩) (hb : takeB (QuietY.q Y) (pr + 1) ops.toArray L i = true)
    (h : aopK Y (pr + 1) ⟨dst, op, ty, pos, aft, none⟩ (St N asg oa nx) (fun s' => aAny Y ops fuel (L.setIfInBounds i true) s' K)) : aAny Y ops (fuel + 1) L (St N asg oa nx) K := by
  obtain ⟨v, rd, hyp, h1, h2, h3⟩ := aopK_pure (by omega) h
  exact take_core hi hb h2.no (.inl ⟨rfl, h2.is, hyp, h1⟩) h3
theorem guard_St {o : Oper} (hg : o.guard = some (j, want)) (ht : dstOf ops j = some t) (hN : Nat.blt t N = true) {b : Bool} (hv : lkp asg t = some (.u (.one (.bool b)))) : guardB ops o (St N asg oa nx) = some (b == want) := by
  simp only [guardB, hg, ht, St_get hN hv]
theorem t_g (i pr : Nat) (hi : ops[i]? = some ⟨dst, op, ty, pos, aft, some (j, want)⟩) (hb : takeB (QuietY.q Y) (pr + 1) ops.toArray L i = true) (ht : dstOf ops j = some t) (hN : Nat.blt t N = true) (hv : lkp asg t = some (.u (.one (.bool want))))
    (h : aopK Y (pr + 1) ⟨dst, op, ty, pos, aft, none⟩ (St N asg oa nx) (fun s' => aAny Y ops fuel (L.setIfInBounds i true) s' K)) : aAny Y ops (fuel + 1) L (St N asg oa nx) K := by
  obtain ⟨v, rd, hyp, h1, h2, h3⟩ := aopK_pure (by omega) h
  exact take_core hi hb h2.no (.inl ⟨by rw [guard_St rfl ht hN hv]; simp, h2.is, hyp, h1⟩) h3
theorem t_f {d : Nat} (i : Nat) (hi : ops[i]? = some ⟨some d, op, ty, pos, aft, some (j, want)⟩) (hb : takeB (QuietY.q Y) 1 ops.toArray L i = true) (ht : dstOf ops j = some t) (hN : Nat.blt t N = true) (hv : lkp asg t = some (.u (.one (.bool (!want)))))
    (h : aAny Y ops fuel (L.setIfInBounds i true) (St N ((d, .ud) :: asg) oa nx) K) : aAny Y ops (fuel + 1) L (St N asg oa nx) K := by
  refine take_core (pr := 1) (rd := []) hi hb (fun _ => rfl) (.inr ⟨?_, rfl, rfl⟩) (by rw [St_setSl]; exact h)
  rw [guard_St rfl ht hN hv]
  cases want <;> rfl
theorem t_u {d : Nat} (i : Nat) (hi : ops[i]? = some ⟨some d, op, ty, pos, aft, some (j, want)⟩) (hb : takeB (QuietY.q Y) 1 ops.toArray L i = true) (ht : dstOf ops j = some t) (hN : Nat.blt t N = true) (hv : lkp asg t = some .ud)
    (h : aAny Y ops fuel (L.setIfInBounds i true) (St N ((d, .ud) :: asg) oa nx) K) : aAny Y ops (fuel + 1) L (St N asg oa nx) K := by
  refine take_core (pr := 1) (rd := []) hi hb (fun _ => rfl) (.inr ⟨?_, rfl, rfl⟩) (by rw [St_setSl]; exact h)
  simp only [guardB, ht, St_get hN hv]
omit [PlainY Y] [QuietY Y] in
/-- A guard that is not known: both ways. -/
theorem t_s {b : Bool} {n : Nat} (t : Nat) (hN : Nat.blt t N = true) (hv : lkp asg t = some (.u (.one (.bool b))))
    (h1 : b = true → aAny Y ops n L (St N ((t, .u (.one (.bool true))) :: asg) oa nx) K) (h2 : b = false → aAny Y ops n L (St N ((t, .u (.one (.bool false))) :: asg) oa nx) K) : aAny Y ops n L (St N asg oa nx) K := by
  have key : ∀ c : Bool, b = c → St N ((t, .u (.one (.bool c))) :: asg) oa nx = St N asg oa nx := fun c hc => by
    subst hc
    rw [← stB_St]
    exact stB_self (St_get hN hv)
  cases b
  · have := h2 rfl
    rwa [key _ rfl] at this
  · have := h1 rfl
    rwa [key _ rfl] at this
/-- The one operation that can come next. -/
def onlyB (ops : Array Oper) (L : Array Bool) (i : Nat) : Bool := (Region.ready .any ops L) == [i]
omit [PlainY Y] [QuietY Y] in
theorem o_ (i : Nat) (hi : ops[i]? = some ⟨dst, op, ty, pos, aft, none⟩) (hb : onlyB ops.toArray L i = true)
    (h : aopK Y 0 ⟨dst, op, ty, pos, aft, none⟩ (St N asg oa nx) (fun s' => aAny Y ops fuel (L.setIfInBounds i true) s' K)) : aAny Y ops (fuel + 1) L (St N asg oa nx) K := by
  have hr : Region.ready .any ops.toArray L = [i] := by simpa [onlyB] using hb
  refine ⟨fun h0 => (by rw [h0] at hr; cases hr), fun k hk o ho => ?_⟩
  rw [hr, List.mem_singleton] at hk
  subst hk
  rw [hi] at ho
  cases ho
  obtain ⟨e, _, h1, h2⟩ := h
  exact ⟨e, h1, fun hh => h2 fun _ => hh⟩
omit [PlainY Y] in
theorem o_g (i : Nat) (hi : ops[i]? = some ⟨dst, op, ty, pos, aft, some (j, want)⟩) (hb : onlyB ops.toArray L i = true) (ht : dstOf ops j = some t) (hN : Nat.blt t N = true) (hv : lkp asg t = some (.u (.one (.bool want))))
    (h : aopK Y 0 ⟨dst, op, ty, pos, aft, none⟩ (St N asg oa nx) (fun s' => aAny Y ops fuel (L.setIfInBounds i true) s' K)) : aAny Y ops (fuel + 1) L (St N asg oa nx) K := by
  have hr : Region.ready .any ops.toArray L = [i] := by simpa [onlyB] using hb
  refine ⟨fun h0 => (by rw [h0] at hr; cases hr), fun k hk o ho => ?_⟩
  rw [hr, List.mem_singleton] at hk
  subst hk
  rw [hi] at ho
  cases ho
  obtain ⟨e, _, h1, h2⟩ := h
  unfold d1
  rw [guard_St rfl ht hN hv]
  simp only [beq_self_eq_true]
  exact ⟨e, QuietY.bare h1, fun hh => h2 fun _ => hh⟩
omit [PlainY Y] [QuietY Y] in
theorem a_nil (hb : (Region.ready .any ops.toArray L).isEmpty = true) {s : S Unit} (h : K s) : aAny Y ops 0 L s K := ⟨by simpa using hb, h⟩
end
end
end Go.Proofs.Ytmckcjoacfekcaa.AM
