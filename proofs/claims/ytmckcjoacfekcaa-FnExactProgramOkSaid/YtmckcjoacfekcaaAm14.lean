import Derived.Test.YtmckcjoacfekcaaAm13
/-! The calculus, fourteenth part: regions in order, and code. -/
namespace Go.Proofs.Ytmckcjoacfekcaa.AM
open Go

/-- A step of the machine, from all worlds that a state tells of. -/
def StepOk (P : Program) (o : Oper) (s : S Unit) (nid : Nat) (e : Eff) : Prop := ∀ B d a W, erS d = s → Inv B W d → SlR d a → Fresh B d nid e.news.length → a.defers = [] →
  e.hyp ∧ o.wp P a W (fun a' W' => ∃ d', erS d' = appE s o.dst nid e ∧ Inv B W' d' ∧ SlR d' a' ∧ a'.defers = [] ∧ ∀ i, Knows d' i → Knows d i ∨ (nid ≤ i ∧ i < nid + e.news.length)) (fun _ _ _ => False)
theorem stepOk_op {P : Program} {o : Oper} {s : S Unit} {nid : Nat} {e : Eff} (h : opF P o.op (evA s) (look s.ob) nid = some e) : StepOk P o s nid e := by
  intro B d a W hd hi hs hf hdef
  subst hd
  obtain ⟨hp, r, x, W', d', hr, hx, he, hi', hs', hk⟩ := op_ok hi hs hf h
  refine ⟨hp, ?_⟩
  unfold Oper.wp
  rw [hr]
  rcases hx with rfl | ⟨rfl, rfl⟩
  · exact ⟨d', he, hi', hs', by rw [put_defers']; exact hdef, hk⟩
  · exact ⟨d', he, hi', hs', by rw [put_defers']; exact hdef, hk⟩
/-- What operations make: those of the list above, and calls. -/
structure Sys (P : Program) where
  E : Oper → S Unit → Nat → Eff → Prop
  ok : ∀ {o s nid e}, E o s nid e → StepOk P o s nid e
def owp (x : Option Eff) (K : Eff → Prop) : Prop := ∃ e, x = some e ∧ K e
theorem owp_some (e : Eff) (K : Eff → Prop) : owp (some e) K = K e := by simp [owp]
theorem owp_none (K : Eff → Prop) : owp none K = False := by simp [owp]
theorem owp_ite (c : Prop) [Decidable c] (x : Option Eff) (K : Eff → Prop) : owp (if c then x else none) K = (c ∧ owp x K) := by
  by_cases h : c <;> simp [h, owp_none]
theorem bind_ite {α β : Type} (c : Prop) [Decidable c] (x : Option α) (f : α → Option β) : (if c then x else none).bind f = if c then x.bind f else none := by
  by_cases h : c <;> simp [h]

section
variable {P : Program} (Y : Sys P)
def aop (o : Oper) (s : S Unit) (K : Eff → Prop) : Prop := ∃ e, Y.E o s s.nx e ∧ (e.hyp → K e)
def stB (s : S Unit) (t : Nat) (b : Bool) : S Unit := setSl s (some t) (one1 (.bool b))
def awpOps (ops : List Oper) : List Oper → S Unit → (S Unit → Prop) → Prop
  | [], s, K => K s
  | o :: rest, s, K => match o.guard with
    | none => aop Y o s (fun e => awpOps ops rest (appE s o.dst s.nx e) K)
    | some (j, want) => match (ops[j]?).bind (·.dst) with
      | none => False
      | some t => match s.sl[t]? with
        | some (.u (.one (.bool b))) => (b = want → aop Y ⟨o.dst, o.op, o.type, o.pos, o.after, none⟩ (stB s t want) (fun e => awpOps ops rest (appE (stB s t want) o.dst s.nx e) K)) ∧ (b = !want → awpOps ops rest (setSl (stB s t (!want)) o.dst .ud) K)
        | some .ud => awpOps ops rest (setSl s o.dst .ud) K
        | _ => False
variable {Y}
theorem erS_slot {d : S Value} {t : Nat} {v : V Unit} (h : (erS d).sl[t]? = some v) : ∃ v', d.sl[t]? = some v' ∧ erV v' = v := by
  simp only [erS, mapS, List.getElem?_map, Option.map_eq_some_iff] at h
  exact h
theorem stB_self {s : S Unit} {t : Nat} {b : Bool} (h : s.sl[t]? = some (.u (.one (.bool b)))) : stB s t b = s := by
  unfold stB setSl one1
  have : s.sl.set t (.u (.one (.bool b))) = s.sl := by
    apply List.ext_getElem?
    intro j
    rw [List.getElem?_set]
    split
    · rename_i hj
      subst hj
      rw [if_pos (List.getElem?_eq_some_iff.1 h).1, h]
    · rfl
  simp only [this]
theorem slot_bool {d : S Value} {a : Act} (hs : SlR d a) {t : Nat} {b : Bool} (h : (erS d).sl[t]? = some (.u (.one (.bool b)))) : a.tmps[t]? = some (.bool b) := by
  obtain ⟨v', h1, h2⟩ := erS_slot h
  have h3 := hs.2 t v' h1
  cases v' with
  | u x => cases x with
    | one l =>
      simp only [erV, mapV, mapU, V.u.injEq, U.one.injEq] at h2
      obtain rfl := er_bool h2
      have hlt : t < a.tmps.size := by rw [hs.1]; exact (List.getElem?_eq_some_iff.1 h1).1
      simp only [VR, UR, val] at h3
      rw [Array.getD_eq_getD_getElem?, Array.getElem?_eq_getElem hlt] at h3
      rw [Array.getElem?_eq_getElem hlt]
      simpa using h3
    | agg ls => cases h2
  | tup xs => cases h2
  | un => cases h2
  | ud => cases h2
theorem slot_ud {d : S Value} {a : Act} (hs : SlR d a) {t : Nat} (h : (erS d).sl[t]? = some .ud) : a.tmps[t]? = some undef := by
  obtain ⟨v', h1, h2⟩ := erS_slot h
  have h3 := hs.2 t v' h1
  cases v' with
  | ud =>
    have hlt : t < a.tmps.size := by rw [hs.1]; exact (List.getElem?_eq_some_iff.1 h1).1
    simp only [VR] at h3
    rw [Array.getD_eq_getD_getElem?, Array.getElem?_eq_getElem hlt] at h3
    rw [Array.getElem?_eq_getElem hlt]
    simpa using h3
  | u x => cases h2
  | tup xs => cases h2
  | un => cases h2
theorem wanted_bool {ops : Array Oper} {o : Oper} {a : Act} {j : Nat} {want b : Bool} {t : Nat} (hg : o.guard = some (j, want)) (hj : (ops[j]?).bind (·.dst) = some t) (ht : a.tmps[t]? = some (.bool b)) :
    Region.wanted o (yielded ops a.tmps) = (b == want) := by
  simp only [Region.wanted, hg, yielded, hj, Option.bind_some, ht]
  cases b <;> cases want <;> rfl
theorem wanted_ud {ops : Array Oper} {o : Oper} {a : Act} {j : Nat} {want : Bool} {t : Nat} (hg : o.guard = some (j, want)) (hj : (ops[j]?).bind (·.dst) = some t) (ht : a.tmps[t]? = some undef) :
    Region.wanted o (yielded ops a.tmps) = false := by
  simp only [Region.wanted, hg, yielded, hj, Option.bind_some, ht, undef]
  cases want <;> rfl
theorem wanted_none {o : Oper} {f : Nat → Option Bool} (hg : o.guard = none) : Region.wanted o f = true := by simp [Region.wanted, hg]
theorem Rel.skip {B : Bd} {s : S Unit} {a : Act} {W : World} (h : Rel B s a W) (dst : Option Nat) : Rel B (setSl s dst .ud) (a.put dst undef) W := by
  obtain ⟨d, rfl, hi, hs, hdef, hk, hn⟩ := h
  refine ⟨setSl d dst .ud, by rw [erS_setSl]; rfl, hi.put (Keeps.refl W) dst rfl (by simp [leavesV]) (by simp [leavesV]), hs.put dst rfl, by rw [put_defers']; exact hdef, fun i hi => ?_, by rw [setSl_nx]; exact hn⟩
  rw [setSl_nx]
  exact hk i (knows_put (by simp [leavesV]) hi)
theorem Rel.step {B : Bd} {s : S Unit} {a : Act} {W : World} (h : Rel B s a W) {o : Oper} {e : Eff} (he : StepOk P o s s.nx e) : e.hyp ∧ o.wp P a W (fun a' W' => Rel B (appE s o.dst s.nx e) a' W') (fun _ _ _ => False) := by
  obtain ⟨d, rfl, hi, hs, hdef, hk, hn0⟩ := h
  have hnx : (erS d).nx = d.nx := rfl
  obtain ⟨h1, h2⟩ := he B d a W rfl hi hs ⟨fun i hi => .inl (by rw [hnx]; exact hk i hi), by rw [hnx]; exact hn0⟩ hdef
  refine ⟨h1, Oper.wp_mono (fun a' W' h => ?_) h2⟩
  obtain ⟨d', e1, e2, e3, e4, e5⟩ := h
  have hn : d'.nx = (erS d).nx + e.news.length := by
    have : (erS d').nx = (appE (erS d) o.dst (erS d).nx e).nx := by rw [e1]
    rw [appE, app, setSl_nx] at this
    exact this
  refine ⟨d', e1, e2, e3, e4, fun i hi => ?_, by omega⟩
  rcases e5 i hi with h | ⟨_, h⟩
  · have := hk i h
    omega
  · omega
theorem wp_any_post {o : Oper} {a : Act} {W : World} {K : Act → World → Prop} {Q : Exit → Act → World → Prop} (h : o.wp P a W K (fun _ _ _ => False)) : o.wp P a W K Q := by
  unfold Oper.wp at *
  generalize (execOp a.eval o).run P W = r at *
  cases r with
  | ok n w' =>
    cases n <;> simp only [Oper.upon] at h ⊢ <;> first | exact h | skip
    refine Calls.mono h fun e w'' he => ?_
    cases e with
    | returned v => exact he
    | panicked c => exact he.elim
    | outgrown => obtain ⟨_, _, h⟩ := he; exact h.elim
  | halt x w' => cases x <;> simp only [Oper.upon] at h
theorem awpOps_sound {ops : Array Oper} {B : Bd} {Q : Exit → Act → World → Prop} {K : S Unit → Prop} (hK : ∀ s a W, K s → Rel B s a W → Q .normal a W) :
    ∀ (rest : List Oper) (s : S Unit) (a : Act) (W : World), awpOps Y ops.toList rest s K → Rel B s a W → wpList P ops Q rest a W
  | [], s, a, W, h, hr => hK s a W h hr
  | o :: rest, s, a, W, h, hr => by
    have run : ∀ s a W, aop Y o s (fun e => awpOps Y ops.toList rest (appE s o.dst s.nx e) K) → Rel B s a W → o.wp P a W (wpList P ops Q rest) Q := by
      intro s a W h hr
      obtain ⟨e, he, h⟩ := h
      obtain ⟨h1, h2⟩ := hr.step (Y.ok he)
      exact wp_any_post (Oper.wp_mono (fun a' W' hr' => awpOps_sound hK rest _ a' W' (h h1) hr') h2)
    have run2 : ∀ s a W, aop Y ⟨o.dst, o.op, o.type, o.pos, o.after, none⟩ s (fun e => awpOps Y ops.toList rest (appE s o.dst s.nx e) K) → Rel B s a W → o.wp P a W (wpList P ops Q rest) Q := by
      intro s a W h hr
      obtain ⟨e, he, h⟩ := h
      obtain ⟨h1, h2⟩ := hr.step (Y.ok he)
      have h3 : o.wp P a W (fun a' W' => Rel B (appE s o.dst s.nx e) a' W') (fun _ _ _ => False) := h2
      exact wp_any_post (Oper.wp_mono (fun a' W' hr' => awpOps_sound hK rest _ a' W' (h h1) hr') h3)
    simp only [awpOps] at h
    simp only [wpList]
    split at h
    · rename_i hg
      rw [wanted_none hg, if_pos rfl]
      exact .inl (run s a W h hr)
    · rename_i j want hg
      split at h
      · cases h
      · rename_i t hj
        rw [Array.getElem?_toList] at hj
        split at h
        · rename_i b hb
          obtain ⟨d, rfl, hi, hs, hdef, hk⟩ := hr
          have hw := wanted_bool hg hj (slot_bool hs hb)
          rw [hw]
          by_cases hbw : b = want
          · subst hbw
            simp only [beq_self_eq_true, if_true]
            have h1 := h.1 rfl
            rw [stB_self hb] at h1
            exact .inl (run2 _ a W h1 ⟨d, rfl, hi, hs, hdef, hk⟩)
          · have hbn : b = !want := by cases b <;> cases want <;> simp_all
            have : (b == want) = false := by simpa using hbw
            rw [this, if_neg (by simp)]
            subst hbn
            have h2 := h.2 rfl
            rw [stB_self hb] at h2
            exact awpOps_sound hK rest _ _ _ h2 (Rel.skip ⟨d, rfl, hi, hs, hdef, hk⟩ o.dst)
        · rename_i hb
          obtain ⟨d, rfl, hi, hs, hdef, hk⟩ := hr
          have hw := wanted_ud hg hj (slot_ud hs hb)
          rw [hw, if_neg (by simp)]
          exact awpOps_sound hK rest _ _ _ h (Rel.skip ⟨d, rfl, hi, hs, hdef, hk⟩ o.dst)
        · cases h

/-- What is true of code, from all worlds that a state tells of. -/
def Wp (B : Bd) (c : Code) (Q : Exit → S Unit → Prop) (s : S Unit) : Prop := ∀ a W, Rel B s a W → c.wp P (fun e a' W' => ∃ s', Rel B s' a' W' ∧ Q e s') a W
/-- A step that only says less, or the same in other words. -/
def Gh (s s' : S Unit) : Prop := ∀ B a W, Rel B s a W → Rel B s' a W
theorem Gh.refl (s : S Unit) : Gh s s := fun _ _ _ h => h
theorem Gh.trans {s s' s'' : S Unit} (h : Gh s s') (h' : Gh s' s'') : Gh s s'' := fun B a W hr => h' B a W (h B a W hr)
theorem Wp.gh {B : Bd} {c : Code} {Q : Exit → S Unit → Prop} {s s' : S Unit} (h : Wp (P := P) B c Q s') (hg : Gh s s') : Wp (P := P) B c Q s := fun a W hr => h a W (hg B a W hr)
theorem Wp.mono {B : Bd} {c : Code} {Q Q' : Exit → S Unit → Prop} {s : S Unit} (h : Wp (P := P) B c Q s) (hq : ∀ e s, Q e s → Q' e s) : Wp (P := P) B c Q' s :=
  fun a W hr => wp_mono (h a W hr) fun e a W ⟨s', h1, h2⟩ => ⟨s', h1, hq e s' h2⟩
def sq (K : S Unit → Prop) (Q : Exit → S Unit → Prop) : Exit → S Unit → Prop
  | .normal, s => K s
  | e, s => Q e s
def bk (id : Nat) (Q : Exit → S Unit → Prop) : Exit → S Unit → Prop
  | .exit i, s => if i = id then Q .normal s else Q (.exit i) s
  | e, s => Q e s
theorem Wp.seq {B : Bd} {x y : Code} {Q : Exit → S Unit → Prop} {s : S Unit} (h : Wp (P := P) B x (sq (Wp (P := P) B y Q) Q) s) : Wp (P := P) B (.seq x y) Q s := fun a W hr =>
  wp_seq (wp_mono (h a W hr) fun e a' W' ⟨s', h1, h2⟩ => by
    cases e with
    | normal => exact h2 a' W' h1
    | _ => exact ⟨s', h1, h2⟩)
theorem Wp.block {B : Bd} {id : Nat} {c : Code} {Q : Exit → S Unit → Prop} {s : S Unit} (h : Wp (P := P) B c (bk id Q) s) : Wp (P := P) B (.block id c) Q s := fun a W hr =>
  wp_block (wp_mono (h a W hr) fun e a' W' ⟨s', h1, h2⟩ => by
    cases e with
    | exit i =>
      simp only [bk] at h2
      simp only [Exit.inBlock]
      split
      · rename_i hi
        rw [if_pos hi] at h2
        exact ⟨s', h1, h2⟩
      · rename_i hi
        rw [if_neg hi] at h2
        exact ⟨s', h1, h2⟩
    | _ => exact ⟨s', h1, h2⟩)
/-- A loop: what stays true, with a number that falls. -/
theorem Wp.loop {B : Bd} {c : Code} {Q : Exit → S Unit → Prop} {s : S Unit} (I : Nat → S Unit → Prop) (h0 : ∃ n s', Gh s s' ∧ I n s')
    (round : ∀ n s, I n s → Wp (P := P) B c (sq (fun s' => ∃ m s'', m < n ∧ Gh s' s'' ∧ I m s'') Q) s) : Wp (P := P) B (.loop c) Q s := by
  intro a W hr b k cs
  obtain ⟨n, s0, hg0, hI0⟩ := h0
  have key : ∀ n s a W, Rel B s a W → I n s → ∃ e a' w', (∃ s', Rel B s' a' w' ∧ Q e s') ∧ Arrives P (lone (b.at a (.code c :: .inLoop c :: k)) cs W) b k cs e a' w' := by
    intro n
    induction n using Nat.strongRecOn with
    | _ n ih =>
      intro s a W hr hI
      obtain ⟨e, a₁, w₁, ⟨s₁, hr₁, hq⟩, harr⟩ := round n s hI a W hr b (.inLoop c :: k) cs
      cases e with
      | normal =>
        obtain ⟨m, s₂, hlt, hg, hI₂⟩ := hq
        obtain ⟨e₂, a₂, w₂, hq₂, harr₂⟩ := ih m hlt s₂ a₁ w₁ (hg B a₁ w₁ hr₁) hI₂
        exact ⟨e₂, a₂, w₂, hq₂, .of_steps (Steps.trans harr (.one step_inLoop)) harr₂⟩
      | exit id => exact ⟨_, a₁, w₁, ⟨s₁, hr₁, hq⟩, .pass (x := .inLoop c) rfl (fun _ _ => .inl (by simp)) harr⟩
      | goto l => exact ⟨_, a₁, w₁, ⟨s₁, hr₁, hq⟩, .pass (x := .inLoop c) rfl (fun _ _ => .inl (by simp)) harr⟩
      | ret => exact ⟨_, a₁, w₁, ⟨s₁, hr₁, hq⟩, .pass (x := .inLoop c) rfl (fun _ _ => .inl (by simp)) harr⟩
      | panic ch => exact ⟨_, a₁, w₁, ⟨s₁, hr₁, hq⟩, .pass (x := .inLoop c) rfl (fun _ _ => .inl (by simp)) harr⟩
      | outgrown => exact ⟨_, a₁, w₁, ⟨s₁, hr₁, hq⟩, .pass (x := .inLoop c) rfl (fun _ _ => .inl (by simp)) harr⟩
  obtain ⟨e, a', w', hq, harr⟩ := key n s0 a W (hg0 B a W hr) hI0
  exact ⟨e, a', w', hq, .of_steps (.one step_loop) harr⟩

variable (Y)
/-- The condition of code, reckoned. Loops and regions whose order is drawn are left to be told. -/
def awp (B : Bd) : Code → (Exit → S Unit → Prop) → S Unit → Prop
  | .skip, Q, s => Q .normal s
  | .label _, Q, s => Q .normal s
  | .exit id, Q, s => Q (.exit id) s
  | .ret, Q, s => Q .ret s
  | .region id ops false, Q, s => awpOps Y ops.toList ops.toList s (Q .normal)
  | .seq x y, Q, s => awp B x (sq (awp B y Q) Q) s
  | .block id c, Q, s => awp B c (bk id Q) s
  | .cond c x y, Q, s => match c with
    | .tmp t => (match s.sl[t]? with
      | some (.u (.one (.bool b))) => (b = true → awp B x Q (stB s t true)) ∧ (b = false → awp B y Q (stB s t false))
      | _ => False)
    | .const (.bool b) => if b then awp B x Q s else awp B y Q s
    | _ => False
  | c, Q, s => Wp (P := P) B c Q s
variable {Y}
theorem aop_mono {o : Oper} {s : S Unit} {K K' : Eff → Prop} (hk : ∀ e, K e → K' e) (h : aop Y o s K) : aop Y o s K' := by
  obtain ⟨e, h1, h2⟩ := h
  exact ⟨e, h1, fun hp => hk e (h2 hp)⟩
theorem awpOps_mono {ops : List Oper} {K K' : S Unit → Prop} (hk : ∀ s, K s → K' s) : ∀ (rest : List Oper) (s : S Unit), awpOps Y ops rest s K → awpOps Y ops rest s K'
  | [], s, h => hk s h
  | o :: rest, s, h => by
    simp only [awpOps] at h ⊢
    split at h
    · rename_i hg
      try simp only [hg]
      exact aop_mono (fun e => awpOps_mono hk rest _) h
    · rename_i j want hg
      try simp only [hg]
      split at h
      · cases h
      · rename_i t hj
        try simp only [hj]
        split at h
        · rename_i b hb
          try simp only [hb]
          exact ⟨fun hbw => aop_mono (fun e => awpOps_mono hk rest _) (h.1 hbw), fun hbw => awpOps_mono hk rest _ (h.2 hbw)⟩
        · rename_i hb
          try simp only [hb]
          exact awpOps_mono hk rest _ h
        · cases h
theorem awp_mono {B : Bd} : ∀ (c : Code) {Q Q' : Exit → S Unit → Prop} {s : S Unit}, (∀ e s, Q e s → Q' e s) → awp Y B c Q s → awp Y B c Q' s := by
  intro c
  induction c with
  | skip => exact fun hq h => hq _ _ h
  | label l => exact fun hq h => hq _ _ h
  | exit id => exact fun hq h => hq _ _ h
  | ret => exact fun hq h => hq _ _ h
  | region id ops draw =>
    intro Q Q' s hq h
    cases draw with
    | true => exact Wp.mono h hq
    | false => exact awpOps_mono (hq _) _ _ h
  | seq x y ihx ihy =>
    intro Q Q' s hq h
    refine ihx (fun e s h => ?_) h
    cases e with
    | normal => exact ihy hq h
    | _ => exact hq _ _ h
  | block id c ih =>
    intro Q Q' s hq h
    refine ih (fun e s h => ?_) h
    cases e with
    | exit i =>
      simp only [bk] at h ⊢
      split
      · rename_i hi; rw [if_pos hi] at h; exact hq _ _ h
      · rename_i hi; rw [if_neg hi] at h; exact hq _ _ h
    | _ => exact hq _ _ h
  | cond c x y ihx ihy =>
    intro Q Q' s hq h
    simp only [awp] at h ⊢
    split at h
    · split at h
      · rename_i hb
        try simp only [hb]
        exact ⟨fun hbw => ihx hq (h.1 hbw), fun hbw => ihy hq (h.2 hbw)⟩
      · cases h
    · rename_i b
      cases b
      · exact ihy hq (by simpa using h)
      · exact ihx hq (by simpa using h)
    · cases h
  | loop c => exact fun hq h => Wp.mono h hq
  | rangeFunc f p x y => exact fun hq h => Wp.mono h hq
  | scope c => exact fun hq h => Wp.mono h hq
  | goto l => exact fun hq h => Wp.mono h hq
  | refuse w => exact fun hq h => Wp.mono h hq
theorem awp_sound {B : Bd} : ∀ (c : Code) {Q : Exit → S Unit → Prop} {s : S Unit}, awp Y B c Q s → Wp (P := P) B c Q s := by
  intro c
  induction c with
  | skip => exact fun h a W hr => wp_skip ⟨_, hr, h⟩
  | label l => exact fun h a W hr => wp_label ⟨_, hr, h⟩
  | exit id => exact fun h a W hr => wp_exit ⟨_, hr, h⟩
  | ret => exact fun h a W hr => wp_ret ⟨_, hr, h⟩
  | region id ops draw =>
    intro Q s h
    cases draw with
    | true => exact h
    | false =>
      intro a W hr
      exact wp_region_list (awpOps_sound (Y := Y) (K := Q .normal) (fun s a W h hr => ⟨s, hr, h⟩) ops.toList s a W h hr)
  | seq x y ihx ihy =>
    intro Q s h
    refine Wp.seq (Wp.mono (ihx h) fun e s h => ?_)
    cases e with
    | normal => exact ihy h
    | _ => exact h
  | block id c ih => exact fun h => Wp.block (ih h)
  | cond c x y ihx ihy =>
    intro Q s h
    simp only [awp] at h
    split at h
    · rename_i t
      split at h
      · rename_i b hb
        intro a W hr
        obtain ⟨d, rfl, hi, hs, hdef, hk⟩ := hr
        have hv := slot_bool hs hb
        have he : a.eval (.tmp t) = .bool b := by simp [Act.eval, hv]
        refine wp_cond_split he (fun hb' => ?_) (fun hb' => ?_)
        · subst hb'
          have h1 := h.1 rfl
          rw [stB_self hb] at h1
          exact ihx h1 a W ⟨d, rfl, hi, hs, hdef, hk⟩
        · subst hb'
          have h1 := h.2 rfl
          rw [stB_self hb] at h1
          exact ihy h1 a W ⟨d, rfl, hi, hs, hdef, hk⟩
      · cases h
    · rename_i b
      intro a W hr
      refine wp_cond_split (t := b) rfl (fun hb' => ?_) (fun hb' => ?_)
      · subst hb'; exact ihx (by simpa using h) a W hr
      · subst hb'; exact ihy (by simpa using h) a W hr
    · cases h
  | loop c => exact fun h => h
  | rangeFunc f p x y => exact fun h => h
  | scope c => exact fun h => h
  | goto l => exact fun h => h
  | refuse w => exact fun h => h
end
end Go.Proofs.Ytmckcjoacfekcaa.AM
