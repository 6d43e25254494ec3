import Derived.Test.YtmckcjoacfekcaaAm21
/-! The calculus, twenty-second part: steps of the mind: what is no longer looked at is let go. -/
namespace Go.Proofs.Ytmckcjoacfekcaa.AM
open Go

/-- Objects are let go. -/
theorem Gh.drop (s : S Unit) (f : Nat → Bool) : Gh s ⟨s.sl, s.ob.filter (fun p => f p.1), s.nx⟩ := by
  rintro B a W ⟨d, rfl, hi, hs, hdef, hk, hn⟩
  let d' : S Value := ⟨d.sl, d.ob.filter (fun p => f p.1), d.nx⟩
  have hsub : (d.ob.filter (fun p => f p.1)).Sublist d.ob := List.filter_sublist
  have htop : ∀ l ∈ tops d', l ∈ tops d := fun l hl => by
    rcases mem_tops.1 hl with hl | hl
    · exact mem_tops.2 (.inl hl)
    · obtain ⟨p, hp, r, hr, hlr⟩ := mem_obLeaves.1 hl
      exact mem_tops.2 (.inr (mem_obLeaves.2 ⟨p, hsub.subset hp, r, hr, hlr⟩))
  have hsubo : (ownS d').Sublist (ownS d) := by
    have e : obLeaves d'.ob = (d.ob.filter (fun p => f p.1)).flatMap (fun p => p.2.rows.flatten) := rfl
    have e2 : obLeaves d.ob = d.ob.flatMap (fun p => p.2.rows.flatten) := rfl
    simp only [ownS, tops, List.flatMap_append, e, e2, List.flatMap_assoc]
    exact (sub_flatMap hsub _).append ((List.Sublist.refl _).append (sub_flatMap hsub _))
  refine ⟨d', by simp [erS, mapS, d', List.filter_map, Function.comp_def], ?_, hs, hdef, fun i hi2 => hk i ?_, hn⟩
  · exact hi.step (Nat.le_refl _) (Same.refl _) (fun _ _ _ => rfl) (fun l hl => ⟨(hi.good.wf l (htop l hl)).1, refOk_mono (fun i _ => look_filter) (hi.good.wf l (htop l hl)).2⟩) (fun p hp => hi.good.obs p (hsub.subset hp)) (hi.good.ids.sublist (hsub.map _))
      (fun p hp => ⟨hi.good.own p (hsubo.subset hp), .inl ⟨p, hsubo.subset hp, rfl⟩⟩) (hi.good.nodup.sublist (hsubo.map _)) (fun p hp => by
        obtain ⟨l, hl, hp⟩ := List.mem_flatMap.1 hp
        exact .of_mem (List.mem_flatMap.2 ⟨l, htop l hl, hp⟩)) (fun p hp => hi.hdr p (hsub.subset hp))
  · rcases hi2 with ⟨l, hl, h⟩ | h
    · exact .inl ⟨l, htop l hl, h⟩
    · exact .inr ((hsub.map _).subset h)
end Go.Proofs.Ytmckcjoacfekcaa.AM
