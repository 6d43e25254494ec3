import Derived.Test.YtghdhjgoicnbcaaMn5
set_option linter.unusedVariables false
set_option linter.unusedSimpArgs false
namespace Go.Proofs.Ytghdhjgoicnbcaa.AM
open Go
set_option linter.unusedSimpArgs false
set_option linter.unusedVariables false

theorem loop_all' {β : Type} [Inhabited β] {body : Int → Option (Int ⊕ (Unit ⊕ Unit))} {L : Option (Unit ⊕ Unit)} (hB : loopO body 0 = L) (xs : List β) (c : β → Bool)
    (h1 : ∀ k : Nat, k < xs.length → body (k : Int) = some (if c (at_ xs k) = true then .inl ((k : Int) + 1) else .inr (.inl ()))) (h2 : body (xs.length : Int) = some (.inr (.inr ()))) : L = some (if xs.all c = true then .inr () else .inl ()) := by
  have K := loop_any' hB xs (fun x => !c x) (fun _ => ()) (by
    intro k hk
    rw [h1 k hk]
    rcases Bool.eq_false_or_eq_true (c (at_ xs (k : Int))) with hA | hA <;> simp [hA]) h2
  rw [any_not] at K
  rcases K with ⟨k1, k, _, rfl⟩ | ⟨k1, rfl⟩
  · have : xs.all c = false := by simpa using k1
    rw [this]; rfl
  · have : xs.all c = true := by simpa using k1
    rw [this]; rfl
noncomputable def funcB (f : GFunc) (funcs : Int) : Bool := decide (f.params.length ≤ 4) && (wB f.ret && (iB f.blocks.length 1 10 && (f.params.all wB && (decide (cnt f ≤ 60) && f.blocks.all (blkB f funcs)))))
theorem func_impl {f : GFunc} {funcs : Int} (h : bndF f) (h2 : inI (funcs - 1)) : impl_isFunc_m f funcs = some (funcB f funcs) := by
  unfold impl_isFunc_m funcB
  have hc := h.cnt_le
  have hp := h.params
  rw [indexFunc_int_ok f.params (fun z0 => some (impl_isFunc_1_m z0)) (fun x => !wB x) (fun x _ => rfl) (by omega), any_not, implCount h]
  simp only [obs]
  generalize hB : loopO _ _ = L
  have K := blk_impl h h2 L hB
  by_cases e1 : f.params.length ≤ 4
  · rw [if_neg (by simp; omega)]
    rcases Bool.eq_false_or_eq_true (wB f.ret) with e2 | e2
    · have e2' : impl_WidthOk_m f.ret = true := e2
      rcases Bool.eq_false_or_eq_true (iB f.blocks.length 1 10) with e3 | e3
      · have e3' : impl_within_m (f.blocks.length : Int) 1 10 = true := e3
        rcases Bool.eq_false_or_eq_true (f.params.all wB) with e4 | e4
        · by_cases e5 : cnt f ≤ 60
          · have e5' : ¬((cnt f : Int) > 60) := by omega
            rcases K with ⟨k1, rfl⟩ | ⟨k1, rfl⟩ <;> simp [e1, e2, e2', e3, e3', e4, e5, e5', k1]
          · have e5' : ((cnt f : Int) > 60) := by omega
            simp [e1, e2, e2', e3, e3', e4, e5, e5']
        · simp [e1, e2, e2', e3, e3', e4]
      · have e3' : impl_within_m (f.blocks.length : Int) 1 10 = false := e3
        simp [e1, e2, e2', e3, e3']
    · have e2' : impl_WidthOk_m f.ret = false := e2
      simp [e1, e2, e2']
  · rw [if_pos (by simp; omega)]
    simp [e1]
theorem func_spec {f : GFunc} {funcs : Int} (h : bndF f) (h2 : inI (funcs - 1)) : spec_l2Func_m f funcs = some (funcB f funcs) := by
  unfold spec_l2Func_m funcB
  have hc := h.cnt_le
  have hp := h.params
  have hb := h.blocks
  have h1 : inI ((cnt f : Int) - 1) := inI_le (by omega) (by omega)
  have h3 : inI ((f.blocks.length : Int) - 1) := inI_le (by omega) (by omega)
  rw [specCount h, obs]
  simp only [spec_w, spec_in]
  generalize hB : loopO _ _ = L
  have K := loop_all' hB f.params wB (by
    intro k hk
    have h0 : 0 ≤ (k : Int) ∧ (k : Int) < (f.params.length : Int) := by omega
    rw [if_pos (by simpa using hk), if_pos h0, if_pos (inI_le (by omega) (by omega))]
    rcases Bool.eq_false_or_eq_true (wB (at_ f.params (k : Int))) with hA | hA <;> simp [hA]) (by rw [if_neg (by simp)])
  subst K
  by_cases e1 : f.params.length ≤ 4
  · have e1' : ¬((f.params.length : Int) > 4) := by omega
    rcases Bool.eq_false_or_eq_true (wB f.ret) with e2 | e2
    · rcases Bool.eq_false_or_eq_true (iB f.blocks.length 1 10) with e3 | e3
      · by_cases e5 : cnt f ≤ 60
        · have e5' : ¬((cnt f : Int) > 60) := by omega
          rcases Bool.eq_false_or_eq_true (f.params.all wB) with e4 | e4
          · simp only [e1, e1', e2, e3, e4, e5, e5', decide_true, decide_false, Bool.not_true, Bool.true_and, Bool.false_eq_true, if_false, if_true, obs]
            generalize hC : loopO _ _ = M
            have K := loop_all' hC f.blocks (blkB f funcs) (by
              intro k hk
              have h0 : 0 ≤ (k : Int) ∧ (k : Int) < (f.blocks.length : Int) := by omega
              have hm := at_mem h0
              have hr := h.rows _ hm
              have hi := h.ins _ hm
              have ha := h.args _ hm
              simp only [blkB]
              generalize at_ f.blocks (k : Int) = b at hm hr hi ha ⊢
              rw [if_pos (by simpa using hk), if_pos h0]
              generalize hD : loopO _ _ = P
              have K := loop_all' hD b.phis (fun p => phiB p (cnt f)) (by
                intro j hj
                have j0 : 0 ≤ (j : Int) ∧ (j : Int) < (b.phis.length : Int) := by omega
                have jm := at_mem j0
                have ji := hi _ jm
                simp only [phiB]
                rw [if_pos (by simpa using hj), if_pos j0, if_pos j0, if_pos (show inI ((j : Int) + 1) from inI_le (by omega) (by omega))]
                generalize at_ b.phis (j : Int) = p at jm ji ⊢
                rcases Bool.eq_false_or_eq_true (wB p.w) with g1 | g1
                · by_cases g2 : p.ins.length ≤ 10
                  · have g2' : ¬((p.ins.length : Int) > 10) := by omega
                    simp only [g1, g2, g2', decide_true, decide_false, Bool.not_true, Bool.true_and, Bool.false_eq_true, if_false, obs]
                    generalize hE : loopO _ _ = Q
                    have K := loop_all' hE p.ins (fun x => iB x 0 ((cnt f : Int) - 1)) (by
                      intro i hi
                      have i0 : 0 ≤ (i : Int) ∧ (i : Int) < (p.ins.length : Int) := by omega
                      rw [if_pos j0, if_pos (by simpa using hi), if_pos j0, if_pos i0, if_pos h1, if_pos (inI_le (by omega) (by omega))]
                      rcases Bool.eq_false_or_eq_true (iB (at_ p.ins (i : Int)) 0 ((cnt f : Int) - 1)) with hA | hA <;> simp [hA]) (by rw [if_pos j0, if_neg (by simp)])
                    subst K
                    rcases Bool.eq_false_or_eq_true (p.ins.all (fun x => iB x 0 ((cnt f : Int) - 1))) with hA | hA <;> simp [hA]
                  · have g2' : ((p.ins.length : Int) > 10) := by omega
                    simp [g1, g2, g2']
                · simp [g1]) (by rw [if_neg (by simp)])
              subst K
              rcases Bool.eq_false_or_eq_true (b.phis.all (fun p => phiB p (cnt f))) with g1 | g1
              · simp only [g1, if_true, obs, Bool.true_and]
                generalize hE : loopO _ _ = Q
                have K := loop_all' hE b.insts (fun i => instB i (cnt f) funcs) (by
                  intro j hj
                  have j0 : 0 ≤ (j : Int) ∧ (j : Int) < (b.insts.length : Int) := by omega
                  have jm := at_mem j0
                  rw [if_pos (by simpa using hj), if_pos j0, inst_spec (ha _ jm) h1 h2, obs, if_pos (show inI ((j : Int) + 1) from inI_le (by omega) (by omega))]
                  rcases Bool.eq_false_or_eq_true (instB (at_ b.insts (j : Int)) (cnt f) funcs) with hA | hA <;> simp [hA]) (by rw [if_neg (by simp)])
                subst K
                rcases Bool.eq_false_or_eq_true (b.insts.all (fun i => instB i (cnt f) funcs)) with g2 | g2
                · simp only [g2, if_true, obs, Bool.true_and]
                  rw [term_spec h1 h3, obs, if_pos (show inI ((k : Int) + 1) from inI_le (by omega) (by omega))]
                  rcases Bool.eq_false_or_eq_true (termB f b.term (cnt f)) with hA | hA <;> simp [hA]
                · simp [g2]
              · simp [g1]) (by rw [if_neg (by simp)])
            subst K
            rcases Bool.eq_false_or_eq_true (f.blocks.all (blkB f funcs)) with hA | hA <;> simp [hA]
          · simp [e1, e1', e2, e3, e4, e5, e5']
        · have e5' : ((cnt f : Int) > 60) := by omega
          simp [e1, e1', e2, e3, e5, e5']
      · simp [e1, e1', e2, e3]
    · simp [e1, e1', e2]
  · have e1' : ((f.params.length : Int) > 4) := by omega
    simp [e1, e1']
theorem func_true {f : GFunc} {funcs : Int} (h : bndF f) (h2 : inI (funcs - 1)) (hf : fmF f funcs) : funcB f funcs = true := by
  have hc := h.cnt_le
  have hb := h.blocks
  have h1 : inI ((cnt f : Int) - 1) := inI_le (by omega) (by omega)
  have h3 : inI ((f.blocks.length : Int) - 1) := inI_le (by omega) (by omega)
  simp only [funcB, Bool.and_eq_true, decide_eq_true_eq, List.all_eq_true, blkB]
  have hb := hf.blocks
  exact ⟨hf.params, wB_iff.2 hf.ret, iB_iff.2 (by omega), fun w hw => wB_iff.2 (hf.pw w hw), hf.cnt, fun b hm => ⟨fun p hp => phi_true (hf.phis b hm p hp), fun i hi => inst_true h1 h2 (hf.insts b hm i hi), term_true h1 h3 (hf.terms b hm)⟩⟩
/-- What is drawn is in its form. -/
theorem okF.fm {f : GFunc} (h : okF f) : fmF f 3 := by
  have hp := h.ok.params
  have hn := h.ok.ne
  refine ⟨h.ok.params, h.ok.pw, h.ok.ret, ⟨hn, h.nb⟩, h.nv, fun b hb p hp => ?_, fun b hb i hi => ?_, fun b hb => ?_⟩
  · have k := (h.ok.okbs b hb).1.ps p hp
    exact ⟨k.2.2, k.2.1, k.1⟩
  · have k := (h.ok.okbs b hb).1.is i hi
    obtain ⟨a1, a2, a3, a4, a5, a6, a7, a8, a9, a10, a11, a12⟩ := k.2.2.2
    exact ⟨a1, a2, a3, k.2.1, a4, a5, a6, a7, a8, a9, fun e => by
      have e1 := a10 e
      rw [valB, wB_iff.2 (a8 (by omega)), iB_iff.2 e1]
      rfl, a11, a12⟩
  · have k := (h.ok.okbs b hb).2
    have x := h.ok.tg b hb
    have z := k.2
    refine ⟨?_, k.1, fun e => by have := x.1 e; omega, fun e => by have := x.2 e; omega, fun e => ?_, fun e => ?_, fun e => ?_⟩
    · rcases z with z | z | z | z <;> omega
    · rcases z with z | z | z | z <;> omega
    · rcases z with z | z | z | z <;> omega
    · rcases z with z | z | z | z <;> omega
theorem okF.formed {f : GFunc} (h : okF f) : funcB f 3 = true := func_true h.ok.bnd (inI_le (by omega) (by omega)) h.fm
end Go.Proofs.Ytghdhjgoicnbcaa.AM

namespace Go.Proofs.Ytghdhjgoicnbcaa.AM
open Go
set_option linter.unusedSimpArgs false
set_option linter.unusedVariables false

theorem pl_at : ∀ (xs : List GBlock) (b k j : Nat) (hk : k < xs.length), j < sz xs[k] → pl xs b (sumz (xs.take k) + j) = some (b + k, j)
  | [], _, _, _, hk, _ => by simp at hk
  | x :: xs, b, 0, j, hk, hj => by
    have hj : j < sz x := hj
    simp [pl, sumz, hj]
  | x :: xs, b, k + 1, j, hk, hj => by
    have hk' : k < xs.length := by simpa using hk
    have ih := pl_at xs (b + 1) k j hk' (by simpa using hj)
    unfold pl
    have e : sumz ((x :: xs).take (k + 1)) = sz x + sumz (xs.take k) := by simp [sumz]
    rw [e, if_neg (by omega), show sz x + sumz (xs.take k) + j - sz x = sumz (xs.take k) + j from by omega, ih]
    simp only [Option.some.injEq, Prod.mk.injEq, and_true]
    omega
theorem pl_inv : ∀ (xs : List GBlock) (b n c a : Nat), pl xs b n = some (c, a) → b ≤ c ∧ n = sumz (xs.take (c - b)) + a
  | [], _, _, _, _, h => by simp [pl] at h
  | x :: xs, b, n, c, a, h => by
    unfold pl at h
    by_cases hn : n < sz x
    · rw [if_pos hn] at h
      simp only [Option.some.injEq, Prod.mk.injEq] at h
      obtain ⟨rfl, rfl⟩ := h
      exact ⟨Nat.le_refl _, by simp [sumz]⟩
    · rw [if_neg hn] at h
      obtain ⟨h1, h2⟩ := pl_inv xs _ _ _ _ h
      refine ⟨by omega, ?_⟩
      rw [show c - b = (c - (b + 1)) + 1 from by omega]
      have e : sumz ((x :: xs).take (c - (b + 1) + 1)) = sz x + sumz (xs.take (c - (b + 1))) := by simp [sumz]
      omega
theorem place_at {f : GFunc} {k j : Nat} (hk : k < f.blocks.length) (hj : j < sz (at_ f.blocks (k : Int))) : placeOf f ((pre f k : Int) + j) = ((k : Int), (j : Int)) := by
  unfold placeOf
  rw [if_neg (by omega), if_neg (by unfold pre; omega)]
  have e : ((pre f k : Int) + j - (f.params.length : Int)).toNat = sumz (f.blocks.take k) + j := by unfold pre; omega
  rw [e, pl_at f.blocks 0 k j hk (by rw [at_nat hk] at hj; exact hj)]
  simp [plI]
theorem place_inv {f : GFunc} {id : Int} (h : 0 ≤ (placeOf f id).1) : id = (pre f (placeOf f id).1.toNat : Int) + (placeOf f id).2 := by
  unfold placeOf at h ⊢
  by_cases h0 : id < 0
  · rw [if_pos h0] at h; simp at h
  · rw [if_neg h0] at h ⊢
    by_cases hp : id < (f.params.length : Int)
    · rw [if_pos hp] at h; simp at h
    · rw [if_neg hp] at h ⊢
      cases e : pl f.blocks 0 (id - (f.params.length : Int)).toNat with
      | none => rw [e] at h; simp [plI] at h
      | some x =>
        obtain ⟨c, a⟩ := x
        have := (pl_inv _ _ _ _ _ e).2
        simp only [plI, pre, Nat.sub_zero, Int.toNat_natCast] at this ⊢
        omega
/-- The instruction of an id. -/
noncomputable def instF (f : GFunc) (id : Int) : Option GInst :=
  if (placeOf f id).1 < 0 then none else
  if (placeOf f id).2 < ((at_ f.blocks (placeOf f id).1).phis.length : Int) then none else
  some (at_ (at_ f.blocks (placeOf f id).1).insts ((placeOf f id).2 - ((at_ f.blocks (placeOf f id).1).phis.length : Int)))
theorem instF_at {f : GFunc} {k i : Nat} (hk : k < f.blocks.length) (hi : i < (at_ f.blocks (k : Int)).insts.length) : instF f ((pre f k : Int) + (at_ f.blocks (k : Int)).phis.length + i) = some (at_ (at_ f.blocks (k : Int)).insts (i : Int)) := by
  have e := place_at (f := f) (k := k) (j := (at_ f.blocks (k : Int)).phis.length + i) hk (by unfold sz; omega)
  have e2 : ((pre f k : Int) + (((at_ f.blocks (k : Int)).phis.length + i : Nat) : Int)) = (pre f k : Int) + (at_ f.blocks (k : Int)).phis.length + i := by omega
  rw [e2] at e
  unfold instF
  rw [e]
  simp only
  rw [if_neg (by omega), if_neg (by omega)]
  congr 2
  omega
theorem instF_some {f : GFunc} {id : Int} {x : GInst} (h : instF f id = some x) : ∃ k i : Nat, k < f.blocks.length ∧ i < (at_ f.blocks (k : Int)).insts.length ∧ id = (pre f k : Int) + (at_ f.blocks (k : Int)).phis.length + i ∧ x = at_ (at_ f.blocks (k : Int)).insts (i : Int) := by
  unfold instF at h
  by_cases h0 : (placeOf f id).1 < 0
  · rw [if_pos h0] at h; cases h
  · rw [if_neg h0] at h
    have hi := place_inv (f := f) (id := id) (by omega)
    rcases placeOf_cases f id with hp | ⟨hp, h1, h2⟩ | ⟨h1, h2, h3⟩
    · rw [hp] at h0; simp at h0
    · rw [hp] at h0; simp at h0
    · generalize placeOf f id = p at h h0 hi h1 h2 h3
      obtain ⟨p1, p2⟩ := p
      simp only at h h0 hi h1 h2 h3
      obtain ⟨k, rfl⟩ := Int.eq_ofNat_of_zero_le h1.1
      by_cases hq : p2 < ((at_ f.blocks (k : Int)).phis.length : Int)
      · rw [if_pos hq] at h; cases h
      · rw [if_neg hq] at h
        cases h
        unfold sz at h3
        simp only [Int.toNat_natCast] at hi
        refine ⟨k, (p2 - ((at_ f.blocks (k : Int)).phis.length : Int)).toNat, by omega, by omega, by omega, ?_⟩
        congr 1
        omega
def noI : GInst := { op_ := 0, w := 0, a := 0, b := 0, c := 0, imm := 0, args := [] }
def orI : Option GInst → GInst × Bool
  | some i => (i, true)
  | none => (noI, false)
theorem impl_inst {f : GFunc} (h : bndF f) (id : Int) : impl_instOf_m f id = some (orI (instF f id)) := by
  unfold impl_instOf_m instF
  rw [implPlace h]
  simp only [obs]
  rcases placeOf_cases f id with hp | ⟨hp, h1, h2⟩ | ⟨h1, h2, h3⟩
  · rw [hp]; rfl
  · rw [hp]; rfl
  · generalize placeOf f id = p at h1 h2 h3 ⊢
    have hb := h.rows _ (at_mem h1)
    unfold sz at h3
    have e5 : decide (p.1 < 0) = false := by simp; omega
    simp only [e5, Bool.false_eq_true, if_false, if_pos h1, obs]
    rw [if_neg (show ¬ p.1 < 0 by omega)]
    by_cases hq : p.2 < ((at_ f.blocks p.1).phis.length : Int)
    · rw [if_pos (by simpa using hq), if_pos hq]
      rfl
    · have hz : 0 ≤ p.2 - ((at_ f.blocks p.1).phis.length : Int) ∧ p.2 - ((at_ f.blocks p.1).phis.length : Int) < ((at_ f.blocks p.1).insts.length : Int) := by omega
      rw [if_neg (by simpa using hq), if_neg hq, wrap_in (by omega) (by omega), if_pos hz]
      rfl
theorem spec_inst {f : GFunc} (h : bndF f) {id : Int} (hid : id ≤ 9223372036854775807) : spec_l9Inst_m f id = some (orI (instF f id)) := by
  unfold spec_l9Inst_m instF
  rw [specPlace h hid]
  simp only [obs]
  rcases placeOf_cases f id with hp | ⟨hp, h1, h2⟩ | ⟨h1, h2, h3⟩
  · rw [hp]; rfl
  · rw [hp]; rfl
  · generalize placeOf f id = p at h1 h2 h3 ⊢
    have hb := h.rows _ (at_mem h1)
    unfold sz at h3
    have e5 : decide (p.1 < 0) = false := by simp; omega
    simp only [e5, Bool.false_eq_true, if_false, if_pos h1, obs]
    rw [if_neg (show ¬ p.1 < 0 by omega)]
    by_cases hq : p.2 < ((at_ f.blocks p.1).phis.length : Int)
    · rw [if_pos (by simpa using hq), if_pos hq]
      rfl
    · have hz : 0 ≤ p.2 - ((at_ f.blocks p.1).phis.length : Int) ∧ p.2 - ((at_ f.blocks p.1).phis.length : Int) < ((at_ f.blocks p.1).insts.length : Int) := by omega
      rw [if_neg (by simpa using hq), if_neg hq, if_pos (inI_le (by omega) (by omega)), if_pos hz]
      rfl
noncomputable def cstF (f : GFunc) (id : Int) : Int × Bool := if ((!(orI (instF f id)).2) || ((orI (instF f id)).1.op_ != 21)) = true then (0, false) else ((orI (instF f id)).1.imm, true)
theorem impl_const {f : GFunc} (h : bndF f) (id : Int) : impl_ConstOf_m f id = some (cstF f id) := by
  unfold impl_ConstOf_m cstF
  rw [impl_inst h, obs]
  split <;> rfl
theorem spec_const {f : GFunc} (h : bndF f) {id : Int} (hid : id ≤ 9223372036854775807) : spec_ConstOf_m f id = some (cstF f id) := by
  unfold spec_ConstOf_m cstF
  rw [spec_inst h hid, obs]
  split <;> rfl
noncomputable def rootB (f : GFunc) (i : GInst) : Bool := if iB i.op_ 4 7 = true then ((!(cstF f i.b).2) || ((cstF f i.b).1 == 0)) else iB i.op_ 23 26
theorem impl_root {f : GFunc} (h : bndF f) (i : GInst) : impl_isRoot_m f i = some (rootB f i) := by
  unfold impl_isRoot_m rootB impl_isDivision_m
  rw [impl_const h, obs]
  show (if iB i.op_ 4 7 = true then _ else some (iB i.op_ 23 26)) = _
  split <;> rfl
theorem spec_root {f : GFunc} (h : bndF f) {i : GInst} (hi : i.b ≤ 9223372036854775807) : spec_l10Root_m f i = some (rootB f i) := by
  unfold spec_l10Root_m rootB spec_l1Divides_m
  rw [spec_const h hi, obs]
  show (if iB i.op_ 4 7 = true then _ else some (iB i.op_ 23 26)) = _
  split <;> rfl
/-- What an id names. -/
noncomputable def namF (f : GFunc) (id : Int) : List Int :=
  if (placeOf f id).1 < 0 then [] else
  if (placeOf f id).2 < ((at_ f.blocks (placeOf f id).1).phis.length : Int) then (at_ (at_ f.blocks (placeOf f id).1).phis (placeOf f id).2).ins else
  opsI (at_ (at_ f.blocks (placeOf f id).1).insts ((placeOf f id).2 - ((at_ f.blocks (placeOf f id).1).phis.length : Int)))
theorem impl_names {f : GFunc} (h : bndF f) (id : Int) : impl_namesOf_m f id = some (namF f id) := by
  unfold impl_namesOf_m namF
  rw [implPlace h, impl_inst h]
  unfold instF
  simp only [obs]
  rcases placeOf_cases f id with hp | ⟨hp, h1, h2⟩ | ⟨h1, h2, h3⟩
  · rw [hp]; rfl
  · rw [hp]; rfl
  · generalize placeOf f id = p at h1 h2 h3 ⊢
    have hb := h.rows _ (at_mem h1)
    unfold sz at h3
    have e5 : decide (p.1 < 0) = false := by simp; omega
    simp only [e5, Bool.false_eq_true, if_false, if_pos h1, obs]
    rw [if_neg (show ¬ p.1 < 0 by omega), if_neg (show ¬ p.1 < 0 by omega)]
    by_cases hq : p.2 < ((at_ f.blocks p.1).phis.length : Int)
    · rw [if_pos (by simpa using hq), if_pos ⟨h2, hq⟩, if_pos hq]
    · have hz : 0 ≤ p.2 - ((at_ f.blocks p.1).phis.length : Int) ∧ p.2 - ((at_ f.blocks p.1).phis.length : Int) < ((at_ f.blocks p.1).insts.length : Int) := by omega
      rw [if_neg (by simpa using hq), if_neg hq, if_neg hq]
      simp only [orI]
      rw [implOps (h.args _ (at_mem h1) _ (at_mem hz)), obs]
/-- Is the instruction of an id a root? -/
noncomputable def isR (f : GFunc) (id : Int) : Bool := match instF f id with | some i => rootB f i | none => false
def isRoot (f : GFunc) (x : Int) : Prop := isR f x = true ∨ ∃ b ∈ f.blocks, x ∈ endL b.term
inductive Nd (f : GFunc) : Int → Prop
  | root {x : Int} : isRoot f x → Nd f x
  | step {a b : Int} : Nd f a → b ∈ namF f a → Nd f b
theorem pre_mono {f : GFunc} {k m : Nat} (h : k ≤ m) : pre f k ≤ pre f m := by
  induction m with
  | zero => simp only [Nat.le_zero] at h; subst h; exact Nat.le_refl _
  | succ m ih =>
    by_cases e : k = m + 1
    · subst e; exact Nat.le_refl _
    · refine Nat.le_trans (ih (by omega)) ?_
      by_cases hm : m < f.blocks.length
      · rw [pre_succ hm]; omega
      · unfold pre
        rw [List.take_of_length_le (by omega), List.take_of_length_le (by omega)]
        exact Nat.le_refl _
theorem isR_in {f : GFunc} {x : Int} (h : isR f x = true) : 0 ≤ x ∧ x < (cnt f : Int) := by
  unfold isR at h
  cases e : instF f x with
  | none => rw [e] at h; cases h
  | some i =>
    obtain ⟨k, j, h1, h2, rfl, _⟩ := instF_some e
    have h3 := pre_mono (f := f) (show k + 1 ≤ f.blocks.length from h1)
    rw [pre_all, pre_succ h1] at h3
    unfold sz at h3
    omega
theorem isRoot_in {f : GFunc} {n : Int} (hf : fmF f n) {x : Int} (h : isRoot f x) : 0 ≤ x ∧ x < (cnt f : Int) := by
  rcases h with h | ⟨b, hb, h⟩
  · exact isR_in h
  · unfold endL at h
    split at h
    · rename_i hk
      simp only [List.mem_singleton] at h
      subst h
      exact (hf.terms b hb).a hk
    · cases h
theorem nam_in {f : GFunc} {n : Int} (hf : fmF f n) (id : Int) : inN (cnt f) (namF f id) ∧ (namF f id).length ≤ 10 := by
  unfold namF
  rcases placeOf_cases f id with hp | ⟨hp, h1, h2⟩ | ⟨h1, h2, h3⟩
  · rw [hp]; exact ⟨by simp [inN], by simp⟩
  · rw [hp]; exact ⟨by simp [inN], by simp⟩
  · generalize placeOf f id = p at h1 h2 h3 ⊢
    unfold sz at h3
    rw [if_neg (show ¬ p.1 < 0 by omega)]
    split
    · rename_i hq
      have := hf.phis _ (at_mem h1) _ (at_mem ⟨h2, hq⟩)
      exact ⟨this.2.2, this.2.1⟩
    · have hz : 0 ≤ p.2 - ((at_ f.blocks p.1).phis.length : Int) ∧ p.2 - ((at_ f.blocks p.1).phis.length : Int) < ((at_ f.blocks p.1).insts.length : Int) := by omega
      have := hf.insts _ (at_mem h1) _ (at_mem hz)
      exact ⟨this.ids, ops_len (Nat.le_trans this.args (by decide))⟩
theorem Nd.lt {f : GFunc} {n : Int} (hf : fmF f n) {x : Int} (h : Nd f x) : 0 ≤ x ∧ x < (cnt f : Int) := by
  cases h with
  | root h => exact isRoot_in hf h
  | step _ h => exact (nam_in hf _).1 _ h
end Go.Proofs.Ytghdhjgoicnbcaa.AM

namespace Go.Proofs.Ytghdhjgoicnbcaa.AM
open Go
set_option linter.unusedSimpArgs false
set_option linter.unusedVariables false

theorem flat_ends_len {f : GFunc} (k : Nat) : ((f.blocks.take k).flatMap (fun b => endL b.term)).length ≤ f.blocks.length := by
  have := flat_take_len (f := fun b : GBlock => endL b.term) (xs := f.blocks) (n := 1) (fun b _ => end_len b.term) (Nat.le_refl _) k
  omega
theorem impl_needed_ok {f : GFunc} {n : Int} (h : bndF f) (hf : fmF f n) : ∃ out, impl_needed_m f = some out ∧ out.length = cnt f ∧ ∀ k : Nat, k < cnt f → (at_ out (k : Int) = true ↔ Nd f (k : Int)) := by
  have hLIM : LIM = 140737488355328 := rfl
  have n1 := hf.cnt
  have n2 := hf.blocks
  unfold impl_needed_m
  rw [implCount h, obs, if_pos (by omega), obs]
  generalize hB : loopO _ _ = L
  rw [loop_cnt hB (fun k => ((((List.range k).filter (fun j : Nat => isR f (j : Int))).map Int.ofNat), (k : Int))) (cnt f) (((List.range (cnt f)).filter (fun j : Nat => isR f (j : Int))).map Int.ofNat) ?_ ?_ ?_, obs]
  rotate_left
  · simp
  · intro k hk
    have hl : ((List.range k).filter (fun j : Nat => isR f (j : Int))).length ≤ k := by
      have := List.length_filter_le (fun j : Nat => isR f (j : Int)) (List.range k)
      rw [List.length_range] at this
      exact this
    simp only
    rw [if_pos (by simp; omega), impl_inst h, obs]
    have e : (if (orI (instF f (k : Int))).2 = true then (Option.bind (impl_isRoot_m f (orI (instF f (k : Int))).1) fun x13 => some x13) else some false) = some (isR f (k : Int)) := by
      unfold isR
      cases instF f (k : Int) with
      | none => rfl
      | some i => simp only [orI, if_true]; rw [impl_root h]; rfl
    rw [e, obs, List.range_succ, List.filter_append, List.map_append]
    rcases Bool.eq_false_or_eq_true (isR f (k : Int)) with hA | hA
    · rw [if_pos hA, if_pos (by simp only [List.length_map, List.length_singleton]; omega), if_pos (inI_le (by omega) (by omega))]
      simp [hA]
    · rw [if_neg (by simp [hA]), if_pos (inI_le (by omega) (by omega))]
      simp [hA]
  · simp only
    rw [if_neg (by simp)]
  have hl : ((List.range (cnt f)).filter (fun j : Nat => isR f (j : Int))).length ≤ cnt f := by
    have := List.length_filter_le (fun j : Nat => isR f (j : Int)) (List.range (cnt f))
    rw [List.length_range] at this
    exact this
  have hmR : ∀ x, x ∈ (((List.range (cnt f)).filter (fun j : Nat => isR f (j : Int))).map Int.ofNat) ↔ isR f x = true := by
    intro x
    simp only [List.mem_map, List.mem_filter, List.mem_range]
    constructor
    · rintro ⟨j, ⟨_, h2⟩, rfl⟩; exact h2
    · intro hx
      have := isR_in hx
      obtain ⟨m, rfl⟩ := Int.eq_ofNat_of_zero_le this.1
      exact ⟨m, ⟨by omega, hx⟩, rfl⟩
  have hlW : (((List.range (cnt f)).filter (fun j : Nat => isR f (j : Int))).map Int.ofNat).length ≤ cnt f := by rw [List.length_map]; exact hl
  generalize (((List.range (cnt f)).filter (fun j : Nat => isR f (j : Int))).map Int.ofNat) = W at hmR hlW
  generalize hB2 : loopO _ _ = L2
  rw [loop_cnt hB2 (fun k => (W ++ (f.blocks.take k).flatMap (fun b => endL b.term), (k : Int))) f.blocks.length (W ++ f.blocks.flatMap (fun b => endL b.term)) ?_ ?_ ?_, obs]
  rotate_left
  · simp
  · intro k hk
    have h0 : 0 ≤ (k : Int) ∧ (k : Int) < (f.blocks.length : Int) := by omega
    have h1 := flat_ends_len (f := f) k
    have h2 := end_len (at_ f.blocks (k : Int)).term
    simp only [end_names]
    rw [if_pos (by simp; omega), if_pos h0, if_pos (by simp only [List.length_append]; omega), if_pos (inI_le (by omega) (by omega)), take_flat _ _ hk, List.append_assoc]
    simp
  · simp only
    rw [if_neg (by simp), List.take_length]
  have h1 := flat_ends_len (f := f) f.blocks.length
  rw [List.take_length] at h1
  have hm : ∀ x, x ∈ W ++ f.blocks.flatMap (fun b => endL b.term) ↔ isRoot f x := by
    intro x
    simp only [List.mem_append, List.mem_flatMap, hmR, isRoot]
  have hlw2 : (W ++ f.blocks.flatMap (fun b => endL b.term)).length ≤ 70 := by
    simp only [List.length_append]; omega
  generalize W ++ f.blocks.flatMap (fun b => endL b.term) = work at hm hlw2
  generalize hB3 : loopO _ _ = L3
  obtain ⟨out, rfl, g1, g2, g3, g4⟩ := loop_wf hB3
    (fun s => s.1.length = cnt f ∧ (∀ x ∈ s.2, Nd f x) ∧ (∀ k : Nat, k < cnt f → at_ s.1 (k : Int) = true → Nd f (k : Int)) ∧
      (∀ k : Nat, k < cnt f → at_ s.1 (k : Int) = true → ∀ b ∈ namF f (k : Int), at_ s.1 b = true ∨ b ∈ s.2) ∧ (∀ x, isRoot f x → at_ s.1 x = true ∨ x ∈ s.2) ∧ s.2.length + 11 * s.1.count false ≤ 730)
    (fun s => s.2.length + 11 * s.1.count false)
    (fun out => out.length = cnt f ∧ (∀ k : Nat, k < cnt f → at_ out (k : Int) = true → Nd f (k : Int)) ∧
      (∀ k : Nat, k < cnt f → at_ out (k : Int) = true → ∀ b ∈ namF f (k : Int), at_ out b = true) ∧ (∀ x, isRoot f x → at_ out x = true)) (by
    rintro ⟨out, left⟩ ⟨h1, h2, h4, h5, h6, h7⟩
    simp only at h1 h2 h4 h5 h6 h7
    cases left with
    | nil =>
      right
      rw [if_neg (by simp)]
      exact ⟨_, rfl, h1, h4, fun k hk hm b hb => (h5 k hk hm b hb).resolve_right (by simp), fun x h => (h6 x h).resolve_right (by simp)⟩
    | cons b left =>
      left
      have hat : at_ (b :: left) (0 : Int) = b := rfl
      have hrm := h2 b (by simp)
      have hbn := hrm.lt hf
      obtain ⟨m, rfl⟩ := Int.eq_ofNat_of_zero_le hbn.1
      have hm : m < cnt f := by omega
      simp only [hat, List.length_cons, List.drop_succ_cons, List.drop_zero]
      rw [if_pos (by simp only [gt_iff_lt, decide_eq_true_eq]; omega), if_pos (by omega), if_pos (by omega), if_pos (by omega)]
      by_cases hjt : at_ out (m : Int) = true
      · rw [if_neg (by simp [hjt])]
        refine ⟨_, rfl, ⟨h1, fun x hx => h2 x (by simp [hx]), h4, fun k hk hmk b hb => ?_, fun x h => ?_, ?_⟩, ?_⟩
        · rcases h5 k hk hmk b hb with h | h
          · exact .inl h
          · rcases List.mem_cons.1 h with rfl | h
            · exact .inl hjt
            · exact .inr h
        · rcases h6 x h with h' | h'
          · exact .inl h'
          · rcases List.mem_cons.1 h' with e | h'
            · exact .inl (e ▸ hjt)
            · exact .inr h'
        · simp only [List.length_cons] at h7 ⊢; omega
        · simp only [List.length_cons]; omega
      · have hnm : at_ out (m : Int) = false := by simpa using hjt
        rw [if_pos (by simp [hnm]), if_pos (by omega), impl_names h, obs]
        have hs := (nam_in hf (m : Int)).2
        have hcnt : (out.set m true).count false + 1 = out.count false := by
          have hm2 : m < out.length := by omega
          have hget : out[m] = false := by rw [← at_nat hm2]; exact hnm
          have := List.count_set (l := out) (a := true) (b := false) (i := m) hm2
          have hp : 0 < out.count false := List.count_pos_iff.2 (hget ▸ List.getElem_mem hm2)
          simp [hget] at this
          omega
        rw [if_pos (by simp only [List.length_cons] at h7; omega)]
        have hat2 : ∀ k : Nat, k < cnt f → at_ (out.set m true) (k : Int) = if k = m then true else at_ out (k : Int) := fun k hk => by
          rw [at_nat (by simpa [h1] using hk), at_nat (by omega), List.getElem_set]
          by_cases hkm : m = k
          · subst hkm; simp
          · rw [if_neg hkm, if_neg (fun h => hkm h.symm)]
        have hat3 : ∀ b : Int, 0 ≤ b ∧ b < (cnt f : Int) → at_ out b = true → at_ (out.set m true) b = true := fun b hb hmk => by
          obtain ⟨k, rfl⟩ := Int.eq_ofNat_of_zero_le hb.1
          rw [hat2 k (by omega)]
          split
          · rfl
          · exact hmk
        simp only [Int.toNat_natCast]
        refine ⟨_, rfl, ⟨by simpa using h1, fun x hx => ?_, fun k hk hmk => ?_, fun k hk hmk b hb => ?_, fun x h => ?_, ?_⟩, ?_⟩
        · rcases List.mem_append.1 hx with hx | hx
          · exact h2 x (by simp [hx])
          · exact .step hrm hx
        · rw [hat2 k hk] at hmk
          by_cases hkm : k = m
          · subst hkm; exact hrm
          · rw [if_neg hkm] at hmk; exact h4 k hk hmk
        · have hbl := (nam_in hf (k : Int)).1 b hb
          rw [hat2 k hk] at hmk
          by_cases hkm : k = m
          · subst hkm; exact .inr (List.mem_append_right _ hb)
          · rw [if_neg hkm] at hmk
            rcases h5 k hk hmk b hb with h | h
            · exact .inl (hat3 b hbl h)
            · rcases List.mem_cons.1 h with rfl | h
              · left; rw [hat2 m hm]; simp
              · exact .inr (List.mem_append_left _ h)
        · rcases h6 x h with h' | h'
          · exact .inl (hat3 x (isRoot_in hf h) h')
          · rcases List.mem_cons.1 h' with e | h'
            · left; rw [e, hat2 m hm]; simp
            · exact .inr (List.mem_append_left _ h')
        · simp only [List.length_append, List.length_cons] at h7 ⊢; omega
        · simp only [List.length_append, List.length_cons]; omega) (by
    refine ⟨by simp, fun x hx => .root ((hm x).1 hx), fun k hk hmk => ?_, fun k hk hmk => ?_, fun x hx => .inr ((hm x).2 hx), ?_⟩
    · rw [at_nat (by simpa using hk)] at hmk; simp at hmk
    · rw [at_nat (by simpa using hk)] at hmk; simp at hmk
    · have := List.count_le_length (a := false) (l := List.replicate (cnt f : Int).toNat false)
      simp at this ⊢
      omega)
  refine ⟨out, rfl, g1, fun k hk => ⟨g2 k hk, fun hr => ?_⟩⟩
  have key : ∀ b : Int, Nd f b → at_ out b = true := fun b hr => by
    induction hr with
    | root hx => exact g4 _ hx
    | step ha hb ih =>
      have hl := ha.lt hf
      obtain ⟨k, rfl⟩ := Int.eq_ofNat_of_zero_le hl.1
      exact g3 k (by omega) ih _ hb
  exact key _ hr
theorem impl_Needed_ok {f : GFunc} {n : Int} (h : bndF f) (hf : fmF f n) (h3 : funcB f 3 = true) : ∃ out, impl_Needed_m f = some out ∧ Rising out ∧ out.length ≤ 60 ∧ ∀ b, b ∈ out ↔ Nd f b := by
  have hLIM : LIM = 140737488355328 := rfl
  obtain ⟨nd, e, e1, e2⟩ := impl_needed_ok h hf
  have n1 := hf.cnt
  unfold impl_Needed_m impl_isFormed_m
  rw [func_impl h (inI_le (by omega) (by omega)), obs, obs, if_neg (by simp [h3]), e, obs]
  have hl : ∀ k, ((List.range k).filter (fun j : Nat => at_ nd (j : Int))).length ≤ k := fun k => by
    have := List.length_filter_le (fun j : Nat => at_ nd (j : Int)) (List.range k)
    rw [List.length_range] at this
    exact this
  generalize hB : loopO _ _ = L
  rw [loop_cnt hB (fun k => ((((List.range k).filter (fun j : Nat => at_ nd (j : Int))).map Int.ofNat), (k : Int))) (cnt f) (((List.range (cnt f)).filter (fun j : Nat => at_ nd (j : Int))).map Int.ofNat) ?_ ?_ ?_, obs]
  rotate_left
  · simp
  · intro k hk
    have hlk := hl k
    simp only
    rw [if_pos (by simp; omega), if_pos (by omega), List.range_succ, List.filter_append, List.map_append]
    rcases Bool.eq_false_or_eq_true (at_ nd (k : Int)) with hA | hA
    · rw [if_pos hA, if_pos (by simp only [List.length_map, List.length_singleton]; omega), if_pos (inI_le (by omega) (by omega))]
      simp [hA]
    · rw [if_neg (by simp [hA]), if_pos (inI_le (by omega) (by omega))]
      simp [hA]
  · simp only
    rw [if_neg (by simp [e1])]
  have hlc := hl (cnt f)
  refine ⟨_, rfl, rising_filter _ _, by simp only [List.length_map]; omega, fun x => ?_⟩
  simp only [List.mem_map, List.mem_filter, List.mem_range]
  constructor
  · rintro ⟨j, ⟨h1, h2⟩, rfl⟩; exact (e2 j h1).1 h2
  · intro hx
    have := hx.lt hf
    obtain ⟨m, rfl⟩ := Int.eq_ofNat_of_zero_le this.1
    exact ⟨m, ⟨by omega, (e2 m (by omega)).2 hx⟩, rfl⟩
end Go.Proofs.Ytghdhjgoicnbcaa.AM

namespace Go.Proofs.Ytghdhjgoicnbcaa.AM
open Go
set_option linter.unusedSimpArgs false
set_option linter.unusedVariables false

/-- The roots among the first instructions of a block. -/
noncomputable def rin (f : GFunc) (k j : Nat) : List Int := ((List.range j).filter (fun i : Nat => rootB f (at_ (at_ f.blocks (k : Int)).insts (i : Int)))).map (fun i : Nat => (pre f k : Int) + ((at_ f.blocks (k : Int)).phis.length : Int) + (i : Int))
noncomputable def swork (f : GFunc) (k : Nat) : List Int := (List.range k).flatMap (fun b => rin f b (at_ f.blocks (b : Int)).insts.length ++ endL (at_ f.blocks (b : Int)).term)
theorem rin_len (f : GFunc) (k j : Nat) : (rin f k j).length ≤ j := by
  have := List.length_filter_le (fun i : Nat => rootB f (at_ (at_ f.blocks (k : Int)).insts (i : Int))) (List.range j)
  rw [List.length_range] at this
  unfold rin
  rw [List.length_map]
  exact this
theorem swork_succ (f : GFunc) (k : Nat) : swork f (k + 1) = swork f k ++ (rin f k (at_ f.blocks (k : Int)).insts.length ++ endL (at_ f.blocks (k : Int)).term) := by
  unfold swork
  rw [List.range_succ, List.flatMap_append]
  simp
theorem sz_le {f : GFunc} {k : Nat} (hk : k < f.blocks.length) : pre f k + sz (at_ f.blocks (k : Int)) ≤ cnt f := by
  have h3 := pre_mono (f := f) (show k + 1 ≤ f.blocks.length from hk)
  rw [pre_all, pre_succ hk] at h3
  exact h3
theorem swork_len {f : GFunc} (h : cnt f ≤ 60) : ∀ {k : Nat}, k ≤ f.blocks.length → (swork f k).length ≤ 61 * k
  | 0, _ => by simp [swork]
  | k + 1, hk => by
    have ih := swork_len h (k := k) (by omega)
    have h1 := rin_len f k (at_ f.blocks (k : Int)).insts.length
    have h2 := end_len (at_ f.blocks (k : Int)).term
    have h3 := sz_le (f := f) (k := k) (by omega)
    unfold sz at h3
    rw [swork_succ]
    simp only [List.length_append]
    omega
theorem mem_swork {f : GFunc} {x : Int} : x ∈ swork f f.blocks.length ↔ isRoot f x := by
  unfold swork isRoot
  simp only [List.mem_flatMap, List.mem_range, List.mem_append]
  constructor
  · rintro ⟨k, hk, hx | hx⟩
    · left
      simp only [rin, List.mem_map, List.mem_filter, List.mem_range] at hx
      obtain ⟨i, ⟨h1, h2⟩, rfl⟩ := hx
      unfold isR
      rw [instF_at hk h1]
      exact h2
    · exact .inr ⟨_, at_mem (by omega), hx⟩
  · rintro (hx | ⟨b, hb, hx⟩)
    · unfold isR at hx
      cases e : instF f x with
      | none => rw [e] at hx; cases hx
      | some i =>
        rw [e] at hx
        obtain ⟨k, j, h1, h2, rfl, rfl⟩ := instF_some e
        refine ⟨k, h1, .inl ?_⟩
        simp only [rin, List.mem_map, List.mem_filter, List.mem_range]
        exact ⟨j, ⟨h2, hx⟩, rfl⟩
    · obtain ⟨k, hk, rfl⟩ := List.getElem_of_mem hb
      exact ⟨k, hk, .inr (by rw [at_nat hk]; exact hx)⟩
theorem spec_needed_ok {f : GFunc} {n : Int} (h : bndF f) (hf : fmF f n) : ∃ out, spec_l10Needed_m f = some out ∧ Rising out ∧ out.length ≤ 60 ∧ ∀ b, b ∈ out ↔ Nd f b := by
  have hLIM : LIM = 140737488355328 := rfl
  have n1 := hf.cnt
  have n2 := hf.blocks
  unfold spec_l10Needed_m
  generalize hB : loopO _ _ = L
  rw [loop_cnt hB (fun k => (swork f k, (pre f k : Int), (k : Int))) f.blocks.length (swork f f.blocks.length) ?_ ?_ ?_, obs]
  rotate_left
  · simp [swork, pre, sumz]
  · intro k hk
    have h0 : 0 ≤ (k : Int) ∧ (k : Int) < (f.blocks.length : Int) := by omega
    have hs := sz_le hk
    have hs2 := hs
    unfold sz at hs2
    have hw := swork_len n1 (k := k) (by omega)
    have hb := hf.insts _ (at_mem h0)
    simp only
    rw [if_pos (by simp; omega), if_pos h0, if_pos (inI_le (by omega) (by omega))]
    generalize hC : loopO _ _ = M
    rw [loop_cnt hC (fun j => (swork f k ++ rin f k j, (pre f k : Int) + ((at_ f.blocks (k : Int)).phis.length : Int) + (j : Int), (j : Int))) (at_ f.blocks (k : Int)).insts.length (swork f k ++ rin f k (at_ f.blocks (k : Int)).insts.length, (pre f (k + 1) : Int)) ?_ ?_ ?_, obs]
    rotate_left
    · simp [rin]
    · intro j hj
      have j0 : 0 ≤ (j : Int) ∧ (j : Int) < ((at_ f.blocks (k : Int)).insts.length : Int) := by omega
      have hr := rin_len f k j
      have hi := (hb _ (at_mem j0))
      have hib : (at_ (at_ f.blocks (k : Int)).insts (j : Int)).b ≤ 9223372036854775807 := by
        by_cases e2 : (if (at_ (at_ f.blocks (k : Int)).insts (j : Int)).op_ = 26 then 0 else (opsI (at_ (at_ f.blocks (k : Int)).insts (j : Int))).length) < 2
        · rw [hi.zerob e2]; omega
        · have hm : (at_ (at_ f.blocks (k : Int)).insts (j : Int)).b ∈ opsI (at_ (at_ f.blocks (k : Int)).insts (j : Int)) := by
            generalize at_ (at_ f.blocks (k : Int)).insts (j : Int) = i at e2 ⊢
            by_cases e3 : i.op_ = 26
            · rw [if_pos e3] at e2; omega
            · rw [if_neg e3] at e2
              unfold opsI at e2 ⊢
              split at e2
              · rename_i c; rw [if_pos c]; simp
              · rename_i c
                split at e2
                · simp at e2
                · rename_i c2
                  split at e2
                  · rename_i c3; rw [if_neg c, if_neg c2, if_pos c3]; simp
                  · simp at e2
          have := (hi.ids _ hm).2
          omega
      simp only
      rw [if_pos (by simp; omega), if_pos j0, spec_root h hib, obs]
      have er : rin f k (j + 1) = rin f k j ++ (if rootB f (at_ (at_ f.blocks (k : Int)).insts (j : Int)) = true then [(pre f k : Int) + ((at_ f.blocks (k : Int)).phis.length : Int) + (j : Int)] else []) := by
        unfold rin
        rw [List.range_succ, List.filter_append, List.map_append]
        rcases Bool.eq_false_or_eq_true (rootB f (at_ (at_ f.blocks (k : Int)).insts (j : Int))) with hA | hA <;> simp [hA]
      rw [er]
      rcases Bool.eq_false_or_eq_true (rootB f (at_ (at_ f.blocks (k : Int)).insts (j : Int))) with hA | hA
      · rw [if_pos hA, if_pos (by simp only [List.length_append, List.length_singleton]; omega), if_pos (inI_le (by omega) (by omega)), if_pos (inI_le (by omega) (by omega)), if_pos hA, List.append_assoc]
        simp [Int.add_assoc]
      · rw [if_neg (by simp [hA]), if_pos (inI_le (by omega) (by omega)), if_pos (inI_le (by omega) (by omega)), if_neg (by simp [hA])]
        simp [Int.add_assoc]
    · simp only
      rw [if_neg (by simp), pre_succ hk]
      unfold sz
      congr 3
      omega
    have hr := rin_len f k (at_ f.blocks (k : Int)).insts.length
    simp only
    rw [swork_succ]
    unfold endL
    by_cases k1 : (at_ f.blocks (k : Int)).term.kind = 1 ∨ (at_ f.blocks (k : Int)).term.kind = 3
    · rw [if_pos (by rcases k1 with k1 | k1 <;> simp [k1]), if_pos (by simp only [List.length_append, List.length_singleton]; omega), if_pos (inI_le (by omega) (by omega)), if_pos k1, List.append_assoc]
      simp
    · rw [if_neg (by
        rw [not_or] at k1
        simp [k1.1, k1.2]), if_pos (inI_le (by omega) (by omega)), if_neg k1]
      simp
  · simp only
    rw [if_neg (by simp)]
  have hlw := swork_len n1 (Nat.le_refl f.blocks.length)
  have hm : ∀ x, x ∈ swork f f.blocks.length ↔ isRoot f x := fun x => mem_swork
  generalize swork f f.blocks.length = work at hm hlw
  generalize hB3 : loopO _ _ = L3
  obtain ⟨out, rfl, h1, h2, h3, h4⟩ := loop_wf hB3
    (fun s => (∀ x ∈ s.1, Nd f x) ∧ Rising s.2 ∧ (∀ x ∈ s.2, Nd f x) ∧
      (∀ x ∈ s.2, ∀ b ∈ namF f x, b ∈ s.2 ∨ b ∈ s.1) ∧ (∀ x, isRoot f x → x ∈ s.2 ∨ x ∈ s.1) ∧ s.1.length + 11 * (cnt f - s.2.length) ≤ 1300)
    (fun s => s.1.length + 11 * (cnt f - s.2.length))
    (fun out => Rising out ∧ (∀ x ∈ out, Nd f x) ∧ (∀ x ∈ out, ∀ b ∈ namF f x, b ∈ out) ∧ (∀ x, isRoot f x → x ∈ out)) (by
    rintro ⟨work, out⟩ ⟨h2, h3, h4, h5, h6, h7⟩
    simp only at h2 h3 h4 h5 h6 h7
    have hol : out.length ≤ cnt f := by
      have := rising_len (lo := 0) (hi := (cnt f : Int)) h3 (fun x hx => (h4 x hx).lt hf)
      omega
    cases work with
    | nil =>
      right
      rw [if_neg (by simp)]
      exact ⟨_, rfl, h3, h4, fun x hx b hb => (h5 x hx b hb).resolve_right (by simp), fun x hx => (h6 x hx).resolve_right (by simp)⟩
    | cons b work =>
      left
      have hat : at_ (b :: work) (0 : Int) = b := rfl
      have hrm := h2 b (by simp)
      have hbn := hrm.lt hf
      simp only [hat, List.length_cons, List.drop_succ_cons, List.drop_zero]
      simp only [List.length_cons] at h7
      rw [if_pos (by simp only [gt_iff_lt, decide_eq_true_eq]; omega), if_pos (by omega), if_pos (by omega), l1Copy_ok _ (by omega), obs, l1Has_ok _ _ (by omega), obs]
      by_cases hjt : b ∈ out
      · rw [if_pos (by simpa using hjt)]
        refine ⟨_, rfl, ⟨fun x hx => h2 x (by simp [hx]), h3, h4, fun x hx y hy => ?_, fun x hx => ?_, ?_⟩, ?_⟩
        · rcases h5 x hx y hy with h | h
          · exact .inl h
          · rcases List.mem_cons.1 h with rfl | h
            · exact .inl hjt
            · exact .inr h
        · rcases h6 x hx with h' | h'
          · exact .inl h'
          · rcases List.mem_cons.1 h' with e | h'
            · exact .inl (e ▸ hjt)
            · exact .inr h'
        · simp only; omega
        · simp only; omega
      · rw [if_neg (by simpa using hjt)]
        obtain ⟨out2, e2, p1, p2, p3, _⟩ := put_ok out b h3 (by omega)
        have p3 := p3 hjt
        have hol2 : out2.length ≤ cnt f := by
          have := rising_len (lo := 0) (hi := (cnt f : Int)) p1 (fun x hx => by
            rcases (p2 x).1 hx with rfl | hx
            · exact hbn
            · exact (h4 x hx).lt hf)
          omega
        have hs := (nam_in hf b).2
        have fin : ∃ s', (some (Sum.inl (work ++ namF f b, out2)) : Option ((List Int × List Int) ⊕ List Int)) = some (Sum.inl s') ∧ ((∀ x ∈ s'.1, Nd f x) ∧ Rising s'.2 ∧ (∀ x ∈ s'.2, Nd f x) ∧
            (∀ x ∈ s'.2, ∀ b ∈ namF f x, b ∈ s'.2 ∨ b ∈ s'.1) ∧ (∀ x, isRoot f x → x ∈ s'.2 ∨ x ∈ s'.1) ∧ s'.1.length + 11 * (cnt f - s'.2.length) ≤ 1300) ∧ s'.1.length + 11 * (cnt f - s'.2.length) < work.length + 1 + 11 * (cnt f - out.length) := by
          refine ⟨_, rfl, ⟨fun x hx => ?_, p1, fun x hx => ?_, fun x hx y hy => ?_, fun x hx => ?_, ?_⟩, ?_⟩
          · rcases List.mem_append.1 hx with hx | hx
            · exact h2 x (by simp [hx])
            · exact .step hrm hx
          · rcases (p2 x).1 hx with rfl | hx
            · exact hrm
            · exact h4 x hx
          · rcases (p2 x).1 hx with rfl | hx
            · exact .inr (List.mem_append_right _ hy)
            · rcases h5 x hx y hy with h | h
              · exact .inl ((p2 y).2 (.inr h))
              · rcases List.mem_cons.1 h with rfl | h
                · exact .inl ((p2 y).2 (.inl rfl))
                · exact .inr (List.mem_append_left _ h)
          · rcases h6 x hx with h | h
            · exact .inl ((p2 x).2 (.inr h))
            · rcases List.mem_cons.1 h with e | h
              · exact .inl ((p2 x).2 (.inl e))
              · exact .inr (List.mem_append_left _ h)
          · simp only [List.length_append]; omega
          · simp only [List.length_append]; omega
        rw [e2, obs, specPlace h (by omega), obs]
        have hnam : namF f b = (if (placeOf f b).1 < 0 then [] else
            if (placeOf f b).2 < ((at_ f.blocks (placeOf f b).1).phis.length : Int) then (at_ (at_ f.blocks (placeOf f b).1).phis (placeOf f b).2).ins else
            opsI (at_ (at_ f.blocks (placeOf f b).1).insts ((placeOf f b).2 - ((at_ f.blocks (placeOf f b).1).phis.length : Int)))) := rfl
        rcases placeOf_cases f b with hp | ⟨hp, q1, q2⟩ | ⟨q1, q2, q3⟩
        · rw [hp] at hnam ⊢
          rw [if_pos (by decide)] at hnam
          rw [hnam, List.append_nil] at fin
          exact fin
        · rw [hp] at hnam ⊢
          rw [if_pos (by simp)] at hnam
          rw [hnam, List.append_nil] at fin
          exact fin
        · generalize placeOf f b = p at q1 q2 q3 hnam ⊢
          unfold sz at q3
          have hbr := h.rows _ (at_mem q1)
          have e5 : decide (p.1 < 0) = false := by simp; omega
          simp only [e5, Bool.false_eq_true, if_false, if_pos q1]
          rw [if_neg (show ¬ p.1 < 0 by omega)] at hnam
          by_cases hq : p.2 < ((at_ f.blocks p.1).phis.length : Int)
          · rw [if_pos hq] at hnam
            rw [if_pos (by simpa using hq), if_pos ⟨q2, hq⟩, ← hnam, if_pos (by omega)]
            exact fin
          · have hz : 0 ≤ p.2 - ((at_ f.blocks p.1).phis.length : Int) ∧ p.2 - ((at_ f.blocks p.1).phis.length : Int) < ((at_ f.blocks p.1).insts.length : Int) := by omega
            rw [if_neg hq] at hnam
            rw [if_neg (by simpa using hq), if_pos (inI_le (by omega) (by omega)), if_pos hz, specOps (h.args _ (at_mem q1) _ (at_mem hz)), obs, ← hnam, if_pos (by omega)]
            exact fin) (by
    refine ⟨fun x hx => .root ((hm x).1 hx), .nil, fun x hx => absurd hx (by simp), fun x hx => absurd hx (by simp), fun x hx => .inr ((hm x).2 hx), ?_⟩
    simp only [List.length_nil]; omega)
  refine ⟨out, rfl, h1, ?_, fun b => ⟨h2 b, fun hr => ?_⟩⟩
  · have := rising_len (lo := 0) (hi := (cnt f : Int)) h1 (fun x hx => (h2 x hx).lt hf)
    omega
  · induction hr with
    | root hx => exact h4 _ hx
    | step ha hb ih => exact h3 _ ih _ hb
theorem spec_Needed_ok {f : GFunc} {n : Int} (h : bndF f) (hf : fmF f n) (h3 : funcB f 3 = true) : ∃ out, spec_Needed_m f = some out ∧ Rising out ∧ out.length ≤ 60 ∧ ∀ b, b ∈ out ↔ Nd f b := by
  obtain ⟨out, e, h1⟩ := spec_needed_ok h hf
  refine ⟨out, ?_, h1⟩
  unfold spec_Needed_m
  rw [func_spec h (inI_le (by omega) (by omega)), obs, if_neg (by simp [h3]), e]
  rfl
end Go.Proofs.Ytghdhjgoicnbcaa.AM

namespace Go.Proofs.Ytghdhjgoicnbcaa.AM
open Go
set_option linter.unusedSimpArgs false
set_option linter.unusedVariables false

theorem drawNeeded_run {code : List Int} (hl : code.length ≤ 140737488355328) (hb : ∀ x ∈ code, 0 ≤ x ∧ x ≤ 255) : Run (spec_DrawNeeded_m code) (fun f => okF f) := by
  unfold spec_DrawNeeded_m spec_DrawCountOf_m
  refine Run.bind (R := fun f => okF f) (Run.bind (module_run (open_ok hl hb)) ?_) (fun f hf => Run.mk hf)
  rintro ⟨m, r⟩ ⟨h1, h2, h3, h4⟩
  simp only at h1 h2 h3 h4 ⊢
  have h0 : (0 : Int) ≤ 0 ∧ 0 < (m.funcs.length : Int) := by omega
  exact Run.yes h0 (Run.mk (h4 _ (at_mem h0)))
theorem law_FnNeeded (code : List Int) (hl : code.length ≤ 140737488355328) (hb : ∀ x ∈ code, 0 ≤ x ∧ x ≤ 255) : laws_FnNeeded_m code = some true := by
  have hLIM : LIM = 140737488355328 := rfl
  unfold laws_FnNeeded_m
  by_cases hbig : laws_big_m code = true
  · rw [if_pos hbig]
  · rw [if_neg hbig]
    obtain ⟨f, e, hF⟩ := drawNeeded_run hl hb
    have h := hF.ok.bnd
    have hf := hF.fm
    have n1 := hf.cnt
    obtain ⟨l, e1, r1, l1, m1⟩ := impl_Needed_ok h hf hF.formed
    obtain ⟨l', e2, r2, l2, m2⟩ := spec_Needed_ok h hf hF.formed
    obtain rfl : l = l' := rising_ext r1 r2 (fun x => (m1 x).trans (m2 x).symm)
    rw [e, obs, e1, obs, e2, obs, sameInts_ok _ (by omega), obs, if_neg (by simp), rising_ok _ (by omega) r1, obs, obs, if_neg (by simp)]
    generalize hB : loopO _ _ = L
    have hin : ∀ x ∈ l, 0 ≤ x ∧ x < (cnt f : Int) := fun x hx => ((m1 x).1 hx).lt hf
    obtain ⟨r, rfl, hr⟩ := loop_wf hB (fun s => (f.params.length : Int) ≤ s ∧ s ≤ (cnt f : Int)) (fun s => ((cnt f : Int) - s).toNat) (fun r => r = .inr ()) (by
      rintro id ⟨h1, h2⟩
      rw [implCount h, obs]
      by_cases hid : id < (cnt f : Int)
      · left
        refine ⟨id + 1, ?_, ⟨by omega, by omega⟩, by omega⟩
        have hnx : (if inI (id + 1) then (some (Sum.inl (id + 1)) : Option (Int ⊕ (Unit ⊕ Unit))) else none) = some (Sum.inl (id + 1)) := if_pos (inI_le (by omega) (by omega))
        rw [if_pos (by simpa using hid), implPlace h, obs]
        have hnam : namF f id = (if (placeOf f id).1 < 0 then [] else
            if (placeOf f id).2 < ((at_ f.blocks (placeOf f id).1).phis.length : Int) then (at_ (at_ f.blocks (placeOf f id).1).phis (placeOf f id).2).ins else
            opsI (at_ (at_ f.blocks (placeOf f id).1).insts ((placeOf f id).2 - ((at_ f.blocks (placeOf f id).1).phis.length : Int)))) := rfl
        have hinst : instF f id = (if (placeOf f id).1 < 0 then none else
            if (placeOf f id).2 < ((at_ f.blocks (placeOf f id).1).phis.length : Int) then none else
            some (at_ (at_ f.blocks (placeOf f id).1).insts ((placeOf f id).2 - ((at_ f.blocks (placeOf f id).1).phis.length : Int)))) := rfl
        have hns := nam_in hf id
        have hsub : id ∈ l → ∀ x ∈ namF f id, x ∈ l := fun hi x hx => (m1 x).2 (.step ((m1 id).1 hi) hx)
        have hroot : isR f id = true → id ∈ l := fun hi => (m1 id).2 (.root (.inl hi))
        have hp2 : placeOf f id ≠ (-2, 0) := by
          unfold placeOf
          rw [if_neg (by omega), if_neg (by omega)]
          have hc : (cnt f : Int) = f.params.length + sumz f.blocks := by unfold cnt; omega
          obtain ⟨c, a, e⟩ := pl_some f.blocks 0 (id - (f.params.length : Int)).toNat (by omega)
          rw [e]
          simp only [plI, ne_eq, Prod.mk.injEq]
          omega
        unfold isR at hroot
        rcases placeOf_cases f id with hp | ⟨hp, q1, q2⟩ | ⟨q1, q2, q3⟩
        · exact absurd hp hp2
        · omega
        · generalize placeOf f id = p at q1 q2 q3 hnam hinst ⊢
          unfold sz at q3
          have hbr := h.rows _ (at_mem q1)
          rw [if_neg (show ¬ p.1 < 0 by omega)] at hnam hinst
          simp only [if_pos q1, has_ok l id (by omega), obs]
          by_cases hq : p.2 < ((at_ f.blocks p.1).phis.length : Int)
          · rw [if_pos hq] at hnam
            rw [if_pos (by simpa using hq)]
            by_cases hi : id ∈ l
            · rw [if_pos (by simpa using hi), if_pos (show 0 ≤ p.2 ∧ p.2 < ((at_ f.blocks p.1).phis.length : Int) from ⟨q2, hq⟩), ← hnam, within_ok _ _ (by omega) (by omega) (hsub hi), obs, obs, if_neg (by simp)]
              exact hnx
            · rw [if_neg (by simpa using hi), obs, if_neg (by simp)]
              exact hnx
          · have hz : 0 ≤ p.2 - ((at_ f.blocks p.1).phis.length : Int) ∧ p.2 - ((at_ f.blocks p.1).phis.length : Int) < ((at_ f.blocks p.1).insts.length : Int) := by omega
            rw [if_neg hq] at hnam hinst
            rw [if_neg (by simpa using hq), if_pos (inI_le (by omega) (by omega)), if_pos hz, implOps (h.args _ (at_mem q1) _ (at_mem hz)), obs, ← hnam]
            generalize at_ (at_ f.blocks p.1).insts (p.2 - ((at_ f.blocks p.1).phis.length : Int)) = i at hinst ⊢
            rw [hinst] at hroot
            simp only at hroot
            by_cases hi : id ∈ l
            · rw [if_pos (by simpa using hi), within_ok _ _ (by omega) (by omega) (hsub hi), obs, if_neg (by simp)]
              have e9 : (decide (id ∈ l)) = true := by simpa using hi
              rw [e9]
              simp only [Bool.not_true, ite_self, obs, Bool.false_eq_true, if_false]
              exact hnx
            · rw [if_neg (by simpa using hi)]
              have hno : ¬ (i.op_ ≥ 23 ∧ i.op_ ≤ 26) := by
                rintro ⟨o1, o2⟩
                refine hi (hroot ?_)
                unfold rootB
                rw [if_neg (by rw [iB_iff]; omega), iB_iff.2 (by omega)]
              by_cases o1 : i.op_ ≥ 23
              · rw [if_pos (by simpa using o1), if_neg (by simp; omega), obs, if_neg (by simp)]
                exact hnx
              · rw [if_neg (by simpa using o1), obs, if_neg (by simp)]
                exact hnx
      · right
        rw [if_neg (by simpa using hid)]
        exact ⟨_, rfl, rfl⟩) ⟨Int.le_refl _, by unfold cnt; omega⟩
    subst hr
    rfl
end Go.Proofs.Ytghdhjgoicnbcaa.AM
