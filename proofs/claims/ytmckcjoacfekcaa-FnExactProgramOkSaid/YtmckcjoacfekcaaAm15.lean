import Derived.Test.YtmckcjoacfekcaaAm14
/-! The calculus, fifteenth part: calls. -/
namespace Go.Proofs.Ytmckcjoacfekcaa.AM
open Go

/-- What a call leaves. 'd': what it was handed. -/
structure EndOk (W : World) (d : S Value) (W' : World) (d' : S Value) : Prop where
  good : Good W' d'
  fr : Fr W W' (fun b => ∃ p ∈ ownS d, p.1 = b)
  mine : ∀ p ∈ ownS d', (∃ q ∈ ownS d, q.1 = p.1) ∨ W.heap.size ≤ p.1
  seen : ∀ p ∈ immS d', p.2 ≠ [] → (∃ q ∈ immS d, q.2 ≠ [] ∧ q.1.block = p.1.block) ∨ (∃ q ∈ ownS d, q.1 = p.1.block) ∨ W.heap.size ≤ p.1.block
  hdr : (d'.ob.take d.ob.length).map (fun p => (p.1, p.2.h, p.2.n, p.2.rows.length)) = d.ob.map (fun p => (p.1, p.2.h, p.2.n, p.2.rows.length))
  known : ∀ l ∈ tops d', ∀ i ∈ idsL l, i < d'.ob.length
/-- A function: what it makes of its arguments and of the objects that they name. -/
def Sim (P : Program) (f : FuncId) (args : List (U Unit)) (obs : List (Ob Unit)) (r : V Unit) (obs' : List (Ob Unit)) : Prop :=
  ∀ W (d : S Value) (us : List (U Value)) (vals : List Value), d.sl = us.map .u → us.map erU = args → All2 UR us vals → (erS d).ob = obs.zipIdx.map (fun q => (q.2, q.1)) → Good W d →
    (∀ l ∈ tops d, ∀ i ∈ idsL l, i < obs.length) →
    Calls P f vals.toArray W fun e W' => ∃ x d' rv, e = .returned x ∧ d'.sl = [rv] ∧ erV rv = r ∧ (erS d').ob = obs'.zipIdx.map (fun q => (q.2, q.1)) ∧ VR rv x ∧ EndOk W d W' d'

theorem call_core {B : Bd} {W W' : World} {d dc d' d1 : S Value} (h : Inv B W d) {rest : List OwnE} (hperm : (ownS d).Perm (ownS dc ++ rest))
    (himm : (∀ q ∈ immS dc, q.2 ≠ [] → ∃ q' ∈ immS d, q'.2 ≠ [] ∧ q'.1.block = q.1.block) ∨ immS d' = []) (he : EndOk W dc W' d')
    (hperm1 : (ownS d1).Perm (ownS d' ++ rest)) (himm1 : ∀ p ∈ immS d1, SubIn p (immS d) ∨ p ∈ immS d')
    (hwf : ∀ l ∈ tops d1, wfL false l ∧ refOk d1.ob l)
    (hobs : ∀ p ∈ d1.ob, ((p.2.h = .slice none 0 0 ∧ p.2.rows = []) ∨ ∃ b x c, p.2.h = .slice (some ⟨b, x, none⟩) 0 c ∧ p.2.rows.length ≤ c ∧ p.2.rows.length ≤ LIM) ∧ ∀ r ∈ p.2.rows, r.length = p.2.n)
    (hids : (d1.ob.map (·.1)).Nodup) (hhdr : ∀ p ∈ d1.ob, p.1 < B.n0 → p.2.h = B.H0 p.1) : Inv B W' d1 := by
  have hnd := (hperm.map (·.1)).nodup_iff.1 h.good.nodup
  rw [List.map_append, List.nodup_append] at hnd
  have hdc : ∀ p ∈ ownS dc, p ∈ ownS d := fun p hp => hperm.mem_iff.2 (List.mem_append_left _ hp)
  have hrd : ∀ p ∈ rest, p ∈ ownS d := fun p hp => hperm.mem_iff.2 (List.mem_append_right _ hp)
  have happ : ∀ p ∈ rest, ∀ q ∈ ownS dc, q.1 ≠ p.1 := fun p hp q hq => hnd.2.2 q.1 (List.mem_map.2 ⟨q, hq, rfl⟩) p.1 (List.mem_map.2 ⟨p, hp, rfl⟩)
  have hrest : ∀ p ∈ rest, OwnFact W' p := fun p hp => by
    have hf := h.good.own p (hrd p hp)
    refine hf.same (he.fr.2 _ hf.lt ?_)
    rintro ⟨q, hq, e⟩
    exact happ p hp q hq e
  have hd'rest : ∀ p ∈ rest, ∀ q ∈ ownS d', q.1 ≠ p.1 := fun p hp q hq e => by
    rcases he.mine q hq with ⟨r, hr, e2⟩ | hge
    · exact happ p hp r hr (e2.trans e)
    · have := (h.good.own p (hrd p hp)).lt
      omega
  have hold : ∀ q ∈ immS d, q.2 ≠ [] → ImmFact W' q ∧ ∀ r ∈ ownS d1, r.1 ≠ q.1.block := fun q hq hne => by
    obtain ⟨h1, h2⟩ := h.good.imm q hq hne
    have hlt := h1.lt hne
    refine ⟨h1.same (he.fr.2 _ hlt ?_), fun r hr e => ?_⟩
    · rintro ⟨p, hp, e⟩
      exact h2 p (hdc p hp) e
    · rcases List.mem_append.1 (hperm1.mem_iff.1 hr) with hr | hr
      · rcases he.mine r hr with ⟨p, hp, e2⟩ | hge
        · exact h2 p (hdc p hp) (e2.trans e)
        · omega
      · exact h2 r (hrd r hr) e
  have hnew : ∀ p ∈ immS d', p.2 ≠ [] → (∃ q ∈ immS d, q.2 ≠ [] ∧ q.1.block = p.1.block) ∨ (∃ q ∈ ownS dc, q.1 = p.1.block) ∨ W.heap.size ≤ p.1.block := fun p hp hne => by
    rcases he.seen p hp hne with ⟨q, hq, hq2, hq3⟩ | h1 | h1
    · rcases himm with himm | himm
      · obtain ⟨q', h1, h2, h3⟩ := himm q hq hq2
        exact .inl ⟨q', h1, h2, h3.trans hq3⟩
      · rw [himm] at hp; cases hp
    · exact .inr (.inl h1)
    · exact .inr (.inr h1)
  constructor
  · refine ⟨hwf, hobs, hids, fun p hp => ?_, ?_, fun p hp hne => ?_⟩
    · rcases List.mem_append.1 (hperm1.mem_iff.1 hp) with hp | hp
      · exact he.good.own p hp
      · exact hrest p hp
    · rw [(hperm1.map (·.1)).nodup_iff, List.map_append, List.nodup_append]
      refine ⟨he.good.nodup, hnd.2.1, fun i hi j hj e => ?_⟩
      obtain ⟨q, hq, rfl⟩ := List.mem_map.1 hi
      obtain ⟨p, hp, rfl⟩ := List.mem_map.1 hj
      exact hd'rest p hp q hq e
    · rcases himm1 p hp with hs | hp'
      · rcases hs with h0 | ⟨q, hq, hs⟩
        · exact absurd h0 hne
        · obtain ⟨h1, h2⟩ := hold q hq (hs.ne hne)
          exact ⟨hs.fact h1, fun r hr => by rw [hs.1]; exact h2 r hr⟩
      · obtain ⟨h1, h2⟩ := he.good.imm p hp' hne
        refine ⟨h1, fun r hr => ?_⟩
        rcases List.mem_append.1 (hperm1.mem_iff.1 hr) with hr | hr
        · exact h2 r hr
        · intro e
          rcases hnew p hp' hne with ⟨q, hq, hq2, hq3⟩ | ⟨q, hq, hq2⟩ | hge
          · exact (h.good.imm q hq hq2).2 r (hrd r hr) (e.trans hq3.symm)
          · exact happ r hr q hq (hq2.trans e.symm)
          · have := (h.good.own r (hrd r hr)).lt
            omega
  · refine ⟨Nat.le_trans h.fr.1 he.fr.1, fun b hb hm => ?_, h.fr.3.trans he.fr.3⟩
    refine (he.fr.2 b (Nat.lt_of_lt_of_le hb h.fr.1) ?_).trans (h.fr.2 b hb hm)
    rintro ⟨p, hp, rfl⟩
    rcases h.mine p (hdc p hp) with h1 | h1
    · exact hm h1
    · omega
  · intro p hp
    rcases List.mem_append.1 (hperm1.mem_iff.1 hp) with hp | hp
    · rcases he.mine p hp with ⟨q, hq, e⟩ | hge
      · rw [← e]; exact h.mine q (hdc q hq)
      · exact .inr (Nat.le_trans h.fr.1 hge)
    · exact h.mine p (hrd p hp)
  · intro p hp hne
    rcases himm1 p hp with hs | hp'
    · rcases hs with h0 | ⟨q, hq, hs⟩
      · exact absurd h0 hne
      · rw [hs.1]; exact h.seen q hq (hs.ne hne)
    · rcases hnew p hp' hne with ⟨q, hq, hq2, hq3⟩ | ⟨q, hq, hq2⟩ | hge
      · rw [← hq3]; exact h.seen q hq hq2
      · rw [← hq2]
        rcases h.mine q (hdc q hq) with h1 | h1
        · exact .inr (.inl h1)
        · exact .inr (.inr h1)
      · exact .inr (.inr (Nat.le_trans h.fr.1 hge))
  · exact hhdr
end Go.Proofs.Ytmckcjoacfekcaa.AM
