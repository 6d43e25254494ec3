import Derived.Test.YtmckcjoacfekcaaAm26
/-! The calculus, twenty-seventh part: control; regions whose order is drawn. -/
namespace Go.Proofs.Ytmckcjoacfekcaa.AM
open Go

section
variable {P : Program} {Y : Sys P} {B : Bd} {Q : Exit → S Unit → Prop} {s : S Unit}
theorem c_reg {id : Nat} {ops : List Oper} (h : awpOps Y ops ops s (Q .normal)) : Wp (P := P) B (.region id ops.toArray false) Q s := awp_sound (Y := Y) _ (by rw [awp_region]; exact h)
theorem c_skip (h : Q .normal s) : Wp (P := P) B .skip Q s := fun _ _ hr => wp_skip ⟨_, hr, h⟩
theorem c_ret (h : Q .ret s) : Wp (P := P) B .ret Q s := fun _ _ hr => wp_ret ⟨_, hr, h⟩
theorem c_exit {id : Nat} (h : Q (.exit id) s) : Wp (P := P) B (.exit id) Q s := fun _ _ hr => wp_exit ⟨_, hr, h⟩
theorem z_ {ops : List Oper} {K : S Unit → Prop} (h : K s) : awpOps Y ops [] s K := h
end
section
variable {P : Program} {Y : Sys P} {B : Bd} {Q : Exit → S Unit → Prop} {N nx : Nat} {asg : Asg} {oa : OAsg} {K : S Unit → Prop}
theorem St_get {t : Nat} {v : V Unit} (hN : Nat.blt t N = true) (h : lkp asg t = some v) : (St N asg oa nx).sl[t]? = some v := slots_lk (blt_lt hN) h
theorem stB_St (t : Nat) (b : Bool) : stB (St N asg oa nx) t b = St N ((t, .u (.one (.bool b))) :: asg) oa nx := St_setSl ..
variable {ops rest : List Oper} {op : Op} {ty : TypeId} {pos : String} {aft : Array Edge} {j t : Nat} {want : Bool}
theorem g_t {dst : Option Nat} (ht : dstOf ops j = some t) (hN : Nat.blt t N = true) (hv : lkp asg t = some (.u (.one (.bool want)))) (h : awpOps Y ops (⟨dst, op, ty, pos, aft, none⟩ :: rest) (St N asg oa nx) K) :
    awpOps Y ops (⟨dst, op, ty, pos, aft, some (j, want)⟩ :: rest) (St N asg oa nx) K := by
  refine ops_w ht ?_
  have hg := St_get (oa := oa) (nx := nx) hN hv
  rw [hg]
  cases want
  · rw [gdv_f]; exact ⟨fun h => (by cases h), fun _ => by rw [stB_self hg]; exact h⟩
  · rw [gdv_t]; exact ⟨fun _ => by rw [stB_self hg]; exact h, fun h => (by cases h)⟩
theorem g_f {d : Nat} (ht : dstOf ops j = some t) (hN : Nat.blt t N = true) (hv : lkp asg t = some (.u (.one (.bool (!want))))) (h : awpOps Y ops rest (St N ((d, .ud) :: asg) oa nx) K) :
    awpOps Y ops (⟨some d, op, ty, pos, aft, some (j, want)⟩ :: rest) (St N asg oa nx) K := by
  refine ops_w ht ?_
  have hg := St_get (oa := oa) (nx := nx) hN hv
  rw [hg]
  cases want
  · rw [gdv_f]; exact ⟨fun _ => by have := stB_self hg; simp only [Bool.not_false] at this; rw [this, St_setSl]; exact h, fun h => (by cases h)⟩
  · rw [gdv_t]; exact ⟨fun h => (by cases h), fun _ => by have := stB_self hg; simp only [Bool.not_true] at this; rw [this, St_setSl]; exact h⟩
theorem g_fn (ht : dstOf ops j = some t) (hN : Nat.blt t N = true) (hv : lkp asg t = some (.u (.one (.bool (!want))))) (h : awpOps Y ops rest (St N asg oa nx) K) :
    awpOps Y ops (⟨none, op, ty, pos, aft, some (j, want)⟩ :: rest) (St N asg oa nx) K := by
  refine ops_w ht ?_
  have hg := St_get (oa := oa) (nx := nx) hN hv
  rw [hg]
  cases want
  · rw [gdv_f]; exact ⟨fun _ => by have := stB_self hg; simp only [Bool.not_false] at this; rw [this]; exact h, fun h => (by cases h)⟩
  · rw [gdv_t]; exact ⟨fun h => (by cases h), fun _ => by have := stB_self hg; simp only [Bool.not_true] at this; rw [this]; exact h⟩
theorem g_u {d : Nat} (ht : dstOf ops j = some t) (hN : Nat.blt t N = true) (hv : lkp asg t = some .ud) (h : awpOps Y ops rest (St N ((d, .ud) :: asg) oa nx) K) :
    awpOps Y ops (⟨some d, op, ty, pos, aft, some (j, want)⟩ :: rest) (St N asg oa nx) K := by
  refine ops_w ht ?_
  rw [St_get (oa := oa) (nx := nx) hN hv, gdv_u, St_setSl]; exact h
theorem g_un (ht : dstOf ops j = some t) (hN : Nat.blt t N = true) (hv : lkp asg t = some .ud) (h : awpOps Y ops rest (St N asg oa nx) K) :
    awpOps Y ops (⟨none, op, ty, pos, aft, some (j, want)⟩ :: rest) (St N asg oa nx) K := by
  refine ops_w ht ?_
  rw [St_get (oa := oa) (nx := nx) hN hv, gdv_u]; exact h
/-- A guard that is not known: both ways. -/
theorem g_s {b : Bool} {dst : Option Nat} (ht : dstOf ops j = some t) (hN : Nat.blt t N = true) (hv : lkp asg t = some (.u (.one (.bool b))))
    (h1 : b = want → awpOps Y ops (⟨dst, op, ty, pos, aft, some (j, want)⟩ :: rest) (St N ((t, .u (.one (.bool want))) :: asg) oa nx) K)
    (h2 : b = (!want) → awpOps Y ops (⟨dst, op, ty, pos, aft, some (j, want)⟩ :: rest) (St N ((t, .u (.one (.bool (!want)))) :: asg) oa nx) K) :
    awpOps Y ops (⟨dst, op, ty, pos, aft, some (j, want)⟩ :: rest) (St N asg oa nx) K := by
  have key : ∀ c : Bool, b = c → St N ((t, .u (.one (.bool c))) :: asg) oa nx = St N asg oa nx := fun c hc => by
    subst hc
    rw [← stB_St]
    exact stB_self (St_get hN hv)
  by_cases hb : b = want
  · have := h1 hb
    rwa [key _ hb] at this
  · have hb' : b = (!want) := by cases b <;> cases want <;> simp_all
    have := h2 hb'
    rwa [key _ hb'] at this
theorem c_s {b : Bool} {x y : Code} (hN : Nat.blt t N = true) (hv : lkp asg t = some (.u (.one (.bool b)))) (h1 : b = true → Wp (P := P) B x Q (St N ((t, .u (.one (.bool true))) :: asg) oa nx))
    (h2 : b = false → Wp (P := P) B y Q (St N ((t, .u (.one (.bool false))) :: asg) oa nx)) : Wp (P := P) B (.cond (.tmp t) x y) Q (St N asg oa nx) := by
  intro a W hr
  have hr' := hr
  obtain ⟨d, he, hi, hs, hdef, hk⟩ := hr'
  have hb : (erS d).sl[t]? = some (.u (.one (.bool b))) := by rw [he]; exact St_get hN hv
  have hv2 := slot_bool hs hb
  have he2 : a.eval (.tmp t) = .bool b := by simp [Act.eval, hv2]
  have key : ∀ c : Bool, b = c → St N ((t, .u (.one (.bool c))) :: asg) oa nx = St N asg oa nx := fun c hc => by
    subst hc
    rw [← stB_St]
    exact stB_self (St_get hN hv)
  refine wp_cond_split he2 (fun hb' => ?_) (fun hb' => ?_)
  · have := h1 hb'; rw [key _ hb'] at this; exact this a W hr
  · have := h2 hb'; rw [key _ hb'] at this; exact this a W hr
theorem c_t {x y : Code} (hN : Nat.blt t N = true) (hv : lkp asg t = some (.u (.one (.bool true)))) (h1 : Wp (P := P) B x Q (St N asg oa nx)) : Wp (P := P) B (.cond (.tmp t) x y) Q (St N asg oa nx) := by
  have hg := stB_self (St_get (oa := oa) (nx := nx) hN hv)
  rw [stB_St] at hg
  exact c_s hN hv (fun _ => by rw [hg]; exact h1) (fun h => by cases h)
theorem c_f {x y : Code} (hN : Nat.blt t N = true) (hv : lkp asg t = some (.u (.one (.bool false)))) (h1 : Wp (P := P) B y Q (St N asg oa nx)) : Wp (P := P) B (.cond (.tmp t) x y) Q (St N asg oa nx) := by
  have hg := stB_self (St_get (oa := oa) (nx := nx) hN hv)
  rw [stB_St] at hg
  exact c_s hN hv (fun h => by cases h) (fun _ => by rw [hg]; exact h1)
end

-- what an operation's effect hangs on
section
variable {P : Program}
theorem partsE_ops {ρ ρ' : Env} : ∀ {ps : List (Nat × Operand)}, (∀ x ∈ ps.map (·.2), ρ' x = ρ x) → partsE ρ' ps = partsE ρ ps
  | [], _ => rfl
  | (i, x) :: ps, h => by
    simp only [partsE, h x (by simp), partsE_ops (ps := ps) fun y hy => h y (by simp at hy ⊢; exact .inr hy)]
theorem capsE_ops {ρ ρ' : Env} : ∀ {xs : List Operand}, (∀ x ∈ xs, ρ' x = ρ x) → capsE ρ' xs = capsE ρ xs
  | [], _ => rfl
  | x :: xs, h => by
    simp only [capsE, h x (by simp), capsE_ops (xs := xs) fun y hy => h y (by simp [hy])]
theorem bdE_ops {ρ ρ' : Env} {x : Option Operand} {k : Nat} (h : ∀ y ∈ x, ρ' y = ρ y) : bdE ρ' x k = bdE ρ x k := by
  cases x with
  | none => rfl
  | some y => simp only [bdE, h y (by simp)]
/-- An effect hangs on the operands. -/
theorem opF_ops {op : Op} {ρ ρ' : Env} {lk : Lk} {nid : Nat} (hρ : ∀ x ∈ op.operands, ρ' x = ρ x) : opF P op ρ' lk nid = opF P op ρ lk nid := by
  cases op <;> simp only [Op.operands] at hρ <;> simp only [opF]
  case build t ps => simp only [buF, partsE_ops (ps := ps.toList) fun x hx => hρ x (by simpa using hx)]
  case buildSlice t l ps => simp only [bsF, partsE_ops (ps := ps.toList) fun x hx => hρ x (by simpa using hx)]
  case makeFunc f a c =>
    unfold mfF
    split
    · rw [capsE_ops (xs := c.toList) fun x hx => hρ x (by simp at hx ⊢; exact .inr hx)]
    · rfl
  case slice t x lo hi mx =>
    cases mx with
    | none => simp only [slF, hρ x (by simp), bdE_ops (ρ := ρ) (ρ' := ρ') (x := lo) fun y hy => hρ y (by simp at hy; simp [hy]), bdE_ops (ρ := ρ) (ρ' := ρ') (x := hi) fun y hy => hρ y (by simp at hy; simp [hy])]
    | some m => rfl
  case call c =>
    obtain ⟨callee, args, tys⟩ := c
    obtain ⟨args⟩ := args
    cases callee with
    | value f => rfl
    | invoke r m => rfl
    | builtin b =>
      have : ∀ x ∈ args, ρ' x = ρ x := fun x hx => hρ x (by simp [Call.operands, hx])
      cases b <;> simp only
      all_goals first
        | rfl
        | (match args, this with
           | [], _ => rfl
           | [x], this => simp only [this x (by simp)]
           | [x, y], this => simp only [this x (by simp), this y (by simp)]
           | x :: y :: z :: l, _ => rfl)
  all_goals first
    | rfl
    | (simp at hρ; simp [pickF, unE, biE, cvE, mvF, hρ]; done)
/-- An effect that only sets a slot hangs on the operands, and on the objects that it asks. -/
theorem opF_loc {op : Op} {ρ : Env} {lk lk' : Lk} {nid nid' : Nat} {v : V Unit} {rd : List Nat} {hyp : Prop}
    (h : opF P op ρ lk nid = some ⟨v, rd, [], [], [], hyp⟩) (hlk : ∀ id ∈ rd, lk' id = lk id) : opF P op ρ lk' nid' = some ⟨v, rd, [], [], [], hyp⟩ := by
  have bindE : ∀ {α : Type} {x : Option α} {f g : α → Option Eff}, x.bind f = some ⟨v, rd, [], [], [], hyp⟩ → (∀ a, x = some a → f a = some ⟨v, rd, [], [], [], hyp⟩ → g a = some ⟨v, rd, [], [], [], hyp⟩) → x.bind g = some ⟨v, rd, [], [], [], hyp⟩ := by
    intro α x f g h1 h2
    obtain ⟨a, ha, h1⟩ := bind_some h1
    rw [ha, Option.bind_some]
    exact h2 a ha h1
  have key : ∀ {id : Nat} {f : Ob Unit → Option Eff}, (lk id).bind f = some ⟨v, rd, [], [], [], hyp⟩ → id ∈ rd → (lk' id).bind f = some ⟨v, rd, [], [], [], hyp⟩ := by
    intro id f h1 h2
    rw [hlk id h2]; exact h1
  cases op <;> simp only [opF] at h ⊢ <;> try exact h
  case alloc t =>
    obtain ⟨i, _, h⟩ := bind_some h
    cases h
  case box t x =>
    unfold bxF at h
    split at h
    · split at h <;> cases h
    · cases h
  case buildSlice t l ps =>
    unfold bsF at h
    obtain ⟨i, _, h⟩ := bind_some h
    split at h
    · obtain ⟨ie, _, h⟩ := bind_some h
      split at h
      · obtain ⟨us, _, h⟩ := bind_some h
        obtain ⟨rows, _, h⟩ := bind_some h
        cases h
      · cases h
    · cases h
  case load t x =>
    unfold ldF at h ⊢
    refine bindE h fun i _ h => ?_
    split at h
    · refine key h ?_
      obtain ⟨o, _, h⟩ := bind_some h
      obtain ⟨r, _, h⟩ := bind_some h
      obtain ⟨u, _, h⟩ := bind_some h
      split at h
      · injection h with h; injection h with _ h2; rw [← h2]; exact List.mem_singleton.2 rfl
      · cases h
    · exact h
    · cases h
  case store t x y =>
    unfold stF at h
    obtain ⟨i, _, h⟩ := bind_some h
    split at h
    · obtain ⟨o, _, h⟩ := bind_some h
      obtain ⟨r, _, h⟩ := bind_some h
      split at h
      · split at h
        · split at h <;> cases h
        · cases h
      · cases h
    · cases h
  case nilCheck x =>
    split at h
    · refine key h ?_
      obtain ⟨o, _, h⟩ := bind_some h
      injection h with h; injection h with _ h2; rw [← h2]; exact List.mem_singleton.2 rfl
    · exact h
    · cases h
  case makeSlice t x y =>
    unfold mkF at h
    obtain ⟨i, _, h⟩ := bind_some h
    split at h
    · obtain ⟨ie, _, h⟩ := bind_some h
      split at h
      · split at h
        · split at h <;> cases h
        · cases h
      · cases h
    · cases h
  case slice t x lo hi mx =>
    cases mx with
    | some m => exact h
    | none =>
      simp only [slF] at h ⊢
      refine bindE h fun i _ h => ?_
      split at h
      · exact h
      · refine bindE h fun ie _ h => ?_
        split at h
        · exact h
        · refine key h ?_
          obtain ⟨o, _, h⟩ := bind_some h
          obtain ⟨l, _, h⟩ := bind_some h
          obtain ⟨u, _, h⟩ := bind_some h
          split at h
          · split at h
            · injection h with h; injection h with _ h2; rw [← h2]; exact List.mem_singleton.2 rfl
            · cases h
          · cases h
        · cases h
      · cases h
  case fieldAddr t x f =>
    unfold faF at h ⊢
    refine bindE h fun i _ h => ?_
    split at h
    · refine bindE h fun p _ h => ?_
      refine bindE h fun k _ h => ?_
      split at h
      · cases h
      · rename_i hs
        rw [if_neg hs]
        split at h
        · refine key h ?_
          obtain ⟨o, _, h⟩ := bind_some h
          injection h with h; injection h with _ h2; rw [← h2]; exact List.mem_singleton.2 rfl
        · exact h
        · cases h
    · cases h
  case indexAddr t x y =>
    unfold ixF at h ⊢
    refine bindE h fun i _ h => ?_
    split at h
    · refine bindE h fun ie _ h => ?_
      split at h
      · split at h
        · exact h
        · refine key h ?_
          obtain ⟨o, _, h⟩ := bind_some h
          split at h
          · split at h
            · injection h with h; injection h with _ h2; rw [← h2]; exact List.mem_singleton.2 rfl
            · cases h
          · cases h
        · cases h
      · cases h
    · cases h
  case call c =>
    split at h
    · split at h
      · unfold lenF at h ⊢
        split at h
        · refine bindE h fun i _ h => ?_
          split at h
          · exact h
          · exact h
          · exact h
          · refine key h ?_
            obtain ⟨o, _, h⟩ := bind_some h
            injection h with h; injection h with _ h2; rw [← h2]; exact List.mem_singleton.2 rfl
          · cases h
        · cases h
      · cases h
    · exact h
    · exact h
    · split at h
      · unfold apF at h
        split at h
        · obtain ⟨i, _, h⟩ := bind_some h
          obtain ⟨i2, _, h⟩ := bind_some h
          split at h
          · obtain ⟨ie, _, h⟩ := bind_some h
            split at h
            · split at h
              · obtain ⟨q, _, h⟩ := bind_some h
                split at h
                · split at h <;> cases h
                · cases h
              · obtain ⟨p, _, h⟩ := bind_some h
                obtain ⟨q, _, h⟩ := bind_some h
                split at h
                · split at h <;> cases h
                · cases h
              · cases h
            · cases h
          · cases h
        · cases h
      · cases h
    · cases h
end
end Go.Proofs.Ytmckcjoacfekcaa.AM
