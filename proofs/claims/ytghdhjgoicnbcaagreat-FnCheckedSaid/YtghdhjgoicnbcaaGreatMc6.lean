import Derived.Test.YtghdhjgoicnbcaaGreatMc5
set_option linter.unusedVariables false
set_option linter.unusedSimpArgs false
namespace Go.Proofs.YtghdhjgoicnbcaaGreat.AM
open Go
section
structure bndF (f : GFunc) : Prop where
 params : f.params.length ≤ 1000000000000
 blocks : f.blocks.length ≤ 2000000
 rows : ∀ b ∈ f.blocks, b.phis.length ≤ 2000000 ∧ b.insts.length ≤ 2000000
 ins : ∀ b ∈ f.blocks, ∀ p ∈ b.phis, p.ins.length ≤ 1000000000000
 args : ∀ b ∈ f.blocks, ∀ i ∈ b.insts, i.args.length ≤ 1000000000000
theorem okFn.bnd {f : GFunc} (h : okFn f) : bndF f :=
 ⟨Nat.le_trans h.params (by decide), Nat.le_trans h.blocks (by decide), fun b hb => ⟨Nat.le_trans (h.rows b hb).1 (by decide), Nat.le_trans (h.rows b hb).2 (by decide)⟩, fun b hb p hp => Nat.le_trans ((h.okbs b hb).1.ps p hp).2.1 (by decide), fun b hb i hi => Nat.le_trans ((h.okbs b hb).1.is i hi).2.2.1 (by decide)⟩
theorem bndF.szle {f : GFunc} (h : bndF f) : ∀ b ∈ f.blocks, sz b ≤ 4000000 := fun b hb => by
 have := h.rows b hb
 unfold sz
 omega
theorem bndF.pre_le {f : GFunc} (h : bndF f) (k : Nat) : pre f k ≤ 10000000000000 := by
 have h1 := W1w (bs := f.blocks.take k) (n := 4000000) (fun b hb => h.szle b (List.mem_of_mem_take hb))
 have h2 := h.blocks
 have h3 := h.params
 have h4 : (f.blocks.take k).length ≤ 2000000 := by rw [List.length_take]; omega
 have h5 : (f.blocks.take k).length * 4000000 ≤ 2000000 * 4000000 := Nat.mul_le_mul_right _ h4
 unfold pre
 omega
theorem bndF.cnt_le {f : GFunc} (h : bndF f) : cnt f ≤ 10000000000000 := by rw [← X3d]; exact h.pre_le _
theorem W2b {f : GFunc} (h : bndF f) : Z1c f = some (cnt f : Int) := by
 unfold Z1c
 generalize hB : Y6 _ _ = L
 have hb := h.blocks
 rw [Y3n hB (fun k => ((pre f k : Int), (k : Int))) f.blocks.length (cnt f : Int) ?_ ?_ ?_]
 ·rfl
 ·simp [pre, sumz]
 ·intro k hk
  have h0 : 0 ≤ (k : Int) ∧ (k : Int) < (f.blocks.length : Int) := by omega
  have h1 := h.rows _ (X5 h0)
  have h2 := h.pre_le k
  have e : ((at_ f.blocks (k : Int)).phis.length : Int) + ((at_ f.blocks (k : Int)).insts.length : Int) = (sz (at_ f.blocks (k : Int)) : Int) := by simp [sz]
  have h3 := h.szle _ (X5 h0)
  simp only
  rw [if_pos (by simp; omega), if_pos h0, if_pos h0, if_pos (Y5 (by omega) (by omega)), e, Z6r (n := (sz _ : Int)) (by omega) (by omega), Z6r (by omega) (by omega), Y4x hk]
  simp
 ·simp only
  rw [if_neg (by simp), X3d]
theorem Y5s {f : GFunc} (h : bndF f) : Z1e f = some (cnt f : Int) := by
 unfold Z1e
 generalize hB : Y6 _ _ = L
 have hb := h.blocks
 rw [Y3n hB (fun k => ((k : Int), (pre f k : Int))) f.blocks.length (cnt f : Int) ?_ ?_ ?_]
 ·rfl
 ·simp [pre, sumz]
 ·intro k hk
  have h0 : 0 ≤ (k : Int) ∧ (k : Int) < (f.blocks.length : Int) := by omega
  have h1 := h.rows _ (X5 h0)
  have h2 := h.pre_le k
  have e : ((at_ f.blocks (k : Int)).phis.length : Int) + ((at_ f.blocks (k : Int)).insts.length : Int) = (sz (at_ f.blocks (k : Int)) : Int) := by simp [sz]
  have h3 := h.szle _ (X5 h0)
  simp only
  rw [if_pos (by simp; omega), if_pos h0, e, if_pos (Y5 (by omega) (by omega)), if_pos (Y5 (by omega) (by omega)), Y4x hk]
  simp
 ·simp only
  rw [if_neg (by simp), X3d]
theorem X0k {f : GFunc} (h : bndF f) (id : Int) : Z2g f id = some (W1 f id) := by
  have hc := h.cnt_le
  unfold Z2g Y1s Z3
  rw [Y5s h]
  simp only [obs]
  rw [if_pos (Y5 (by omega) (by omega))]
  simp only [obs]
  by_cases h0 : id < 0 ∨ (cnt f : Int) ≤ id
  · rw [if_pos (by simp; omega), Y7m h0]
  · rw [if_neg (by simp; omega)]
    by_cases hp : id < (f.params.length : Int)
    · rw [if_pos (by simpa using hp)]
      unfold W1
      rw [if_neg (by omega), if_pos hp]
    · rw [if_neg (by simpa using hp)]
      unfold W1
      rw [if_neg (by omega), if_neg hp]
      have key : ∀ m k, k + m = f.blocks.length → (pre f k : Int) ≤ id → Y6 (fun (st7 : Int × Int) =>
              ((if decide (st7.1 < ((List.length f.blocks : Int))) = true then
                  (if 0 ≤ st7.1 ∧ st7.1 < (List.length f.blocks : Int) then
                    (if inI (st7.2 + (((List.length ((at_ f.blocks st7.1).phis) : Int)) + ((List.length ((at_ f.blocks st7.1).insts) : Int)))) then
                      (if decide (id < (st7.2 + (((List.length ((at_ f.blocks st7.1).phis) : Int)) + ((List.length ((at_ f.blocks st7.1).insts) : Int))))) = true then
                        (some (Sum.inr ((Sum.inl ((st7.1, IntKind.i64.wrap (id - st7.2)))))))
                        else
                        (if inI (st7.2 + (((List.length ((at_ f.blocks st7.1).phis) : Int)) + ((List.length ((at_ f.blocks st7.1).insts) : Int)))) then
                        (if inI (st7.1 + 1) then
                        (some (Sum.inl ((st7.1 + 1, st7.2 + (((List.length ((at_ f.blocks st7.1).phis) : Int)) + ((List.length ((at_ f.blocks st7.1).insts) : Int)))))))
                        else none)
                        else none))
                      else none)
                    else none)
                  else
                  (some (Sum.inr ((Sum.inr (())))))) : Option ((Int × Int) ⊕ ((Int × Int) ⊕ Unit)))) ((k : Int), (pre f k : Int))
              = some (match pl (f.blocks.drop k) k (id - pre f k).toNat with | some x => Sum.inl ((x.1 : Int), (x.2 : Int)) | none => Sum.inr ()) := by
        intro m
        induction m with
        | zero =>
          intro k hk hle
          rw [Z1w]
          simp only
          rw [if_neg (by simp; omega), List.drop_of_length_le (by omega)]
          rfl
        | succ m ih =>
          intro k hk hle
          have hk' : k < f.blocks.length := by omega
          have h0 : 0 ≤ (k : Int) ∧ (k : Int) < (f.blocks.length : Int) := by omega
          have h1 := h.rows _ (X5 h0)
          have h2 := h.pre_le k
          have e : ((at_ f.blocks (k : Int)).phis.length : Int) + ((at_ f.blocks (k : Int)).insts.length : Int) = (sz (at_ f.blocks (k : Int)) : Int) := by simp [sz]
          have h3 := h.szle _ (X5 h0)
          have h4 := Y4x hk'
          have h5 := h.blocks
          rw [Z1w, W4g hk']
          simp only [e, pl]
          rw [if_pos (by simp; omega), if_pos h0, if_pos (Y5 (by omega) (by omega))]
          by_cases hn : (id - (pre f k : Int)).toNat < sz (at_ f.blocks (k : Int))
          · rw [if_pos (by simp; omega), if_pos hn, Z6r (by omega) (by omega), obs]
            simp only
            rw [show ((id - (pre f k : Int)).toNat : Int) = id - (pre f k : Int) from by omega]
          · rw [if_neg (by simp; omega), if_pos (Y5 (by omega) (by omega)), if_neg hn]
            have := ih (k + 1) (by omega) (by omega)
            rw [if_pos (Y5 (by omega) (by omega)), obs]
            simp only
            rw [show ((k : Int) + 1) = ((k + 1 : Nat) : Int) from by omega, show (pre f k : Int) + (sz (at_ f.blocks (k : Int)) : Int) = ((pre f (k + 1) : Nat) : Int) from by omega, show (id - (pre f k : Int)).toNat - sz (at_ f.blocks (k : Int)) = (id - (pre f (k + 1) : Int)).toNat from by omega]
            exact this
      have k0 := key f.blocks.length 0 (by omega) (by simp [pre, sumz]; omega)
      have e0 : (pre f 0 : Int) = (f.params.length : Int) := by simp [pre, sumz]
      rw [e0] at k0
      rw [show ((0 : Nat) : Int) = (0 : Int) from rfl] at k0
      rw [k0]
      simp only [obs, List.drop_zero]
      cases pl f.blocks 0 (id - (f.params.length : Int)).toNat with
      | none => rfl
      | some x => rfl
theorem X4z {f : GFunc} (h : bndF f) {id : Int} (hi : id ≤ 9223372036854775807) : Z4a f id = some (W1 f id) := by
  have hc := h.cnt_le
  unfold Z4a
  by_cases h0 : id < 0
  · rw [if_pos (by simpa using h0), Y7m (.inl h0)]
  · rw [if_neg (by simpa using h0)]
    by_cases hp : id < (f.params.length : Int)
    · rw [if_pos (by simpa using hp)]
      unfold W1
      rw [if_neg (by omega), if_pos hp]
    · rw [if_neg (by simpa using hp), if_pos (Y5 (by omega) (by omega))]
      unfold W1
      rw [if_neg (by omega), if_neg hp]
      obtain ⟨n, hn⟩ := Int.eq_ofNat_of_zero_le (show 0 ≤ id - (f.params.length : Int) by omega)
      have hn' : (n : Int) ≤ 9223372036854775807 := by omega
      rw [hn]
      have key : ∀ m k (n : Nat), k + m = f.blocks.length → (n : Int) ≤ 9223372036854775807 → Y6 (fun (st6 : Int × Int) =>
              ((if decide (st6.2 < ((List.length f.blocks : Int))) = true then
                  (if 0 ≤ st6.2 ∧ st6.2 < (List.length f.blocks : Int) then
                    (if 0 ≤ st6.2 ∧ st6.2 < (List.length f.blocks : Int) then
                      (if decide (st6.1 < (IntKind.i64.wrap (((List.length ((at_ f.blocks st6.2).phis) : Int)) + ((List.length ((at_ f.blocks st6.2).insts) : Int))))) = true then
                        (some (Sum.inr ((Sum.inl ((st6.2, st6.1))))))
                        else
                        (if inI (st6.2 + 1) then
                        (some (Sum.inl ((IntKind.i64.wrap (st6.1 - (IntKind.i64.wrap (((List.length ((at_ f.blocks st6.2).phis) : Int)) + ((List.length ((at_ f.blocks st6.2).insts) : Int))))), st6.2 + 1))))
                        else none))
                      else none)
                    else none)
                  else
                  (some (Sum.inr ((Sum.inr (())))))) : Option ((Int × Int) ⊕ ((Int × Int) ⊕ Unit)))) ((n : Int), (k : Int))
              = some (match pl (f.blocks.drop k) k n with | some x => Sum.inl ((x.1 : Int), (x.2 : Int)) | none => Sum.inr ()) := by
        intro m
        induction m with
        | zero =>
          intro k n hk hle
          rw [Z1w]
          simp only
          rw [if_neg (by simp; omega), List.drop_of_length_le (by omega)]
          rfl
        | succ m ih =>
          intro k n hk hle
          have hk' : k < f.blocks.length := by omega
          have h0 : 0 ≤ (k : Int) ∧ (k : Int) < (f.blocks.length : Int) := by omega
          have h1 := h.rows _ (X5 h0)
          have e : ((at_ f.blocks (k : Int)).phis.length : Int) + ((at_ f.blocks (k : Int)).insts.length : Int) = (sz (at_ f.blocks (k : Int)) : Int) := by simp [sz]
          have h3 := h.szle _ (X5 h0)
          have h5 := h.blocks
          rw [Z1w, W4g hk']
          simp only [e, pl]
          rw [if_pos (by simp; omega), if_pos h0, if_pos h0, Z6r (n := (sz _ : Int)) (by omega) (by omega)]
          by_cases hn : n < sz (at_ f.blocks (k : Int))
          · rw [if_pos (by simp; omega), if_pos hn, obs]
          · rw [if_neg (by simp; omega), if_neg hn, if_pos (Y5 (by omega) (by omega)), Z6r (by omega) (by omega), obs]
            have := ih (k + 1) (n - sz (at_ f.blocks (k : Int))) (by omega) (by omega)
            simp only
            rw [show ((k : Int) + 1) = ((k + 1 : Nat) : Int) from by omega, show (n : Int) - (sz (at_ f.blocks (k : Int)) : Int) = ((n - sz (at_ f.blocks (k : Int)) : Nat) : Int) from by omega]
            exact this
      have k0 := key f.blocks.length 0 n (by omega) hn'
      rw [show ((0 : Nat) : Int) = (0 : Int) from rfl] at k0
      rw [k0]
      simp only [obs, List.drop_zero]
      rw [show ((n : Int)).toNat = n from by omega]
      cases pl f.blocks 0 n with
      | none => rfl
      | some x => rfl
end
section
theorem Z0u (s : List Int) (f : Int → Option Bool) (c : Int → Bool) (h : ∀ x ∈ s, f x = some (c x)) (hl : s.length ≤ 140737488355328) : Z8 s f = some (s.any c) := by
 unfold Z8 K2
 generalize hB : Y6 _ (0 : Int) = L
 have K := Z5y hB s c (fun k : Nat => (k : Int)) (by
  intro k hk
  rw [if_pos (by simpa using hk), if_pos (by omega), h _ (X5 (by omega))]
  simp only [Option.bind_some]
  cases c (at_ s (k : Int))
  ·rw [if_neg (by simp), if_pos (Y5 (by omega) (by omega)), if_neg (by simp)]
  ·rw [if_pos rfl, if_pos rfl]) (by rw [if_neg (by simp)])
 rcases K with ⟨h1, k, h2, rfl⟩ | ⟨h1, rfl⟩
 ·rw [h1]; simp
 ·rw [h1]; simp
theorem Y5i (s : List GBlock) (f : GBlock → Option Bool) (c : GBlock → Bool) (h : ∀ x ∈ s, f x = some (c x)) (hl : s.length ≤ 140737488355328) : X8 s f = some (s.any c) := by
 unfold X8 V5
 generalize hB : Y6 _ (0 : Int) = L
 have K := Z5y hB s c (fun k : Nat => (k : Int)) (by
  intro k hk
  rw [if_pos (by simpa using hk), if_pos (by omega), h _ (X5 (by omega))]
  simp only [Option.bind_some]
  cases c (at_ s (k : Int))
  ·rw [if_neg (by simp), if_pos (Y5 (by omega) (by omega)), if_neg (by simp)]
  ·rw [if_pos rfl, if_pos rfl]) (by rw [if_neg (by simp)])
 rcases K with ⟨h1, k, h2, rfl⟩ | ⟨h1, rfl⟩
 ·rw [h1]; simp
 ·rw [h1]; simp
theorem X0w (s : List Int) (v : Int) (hl : s.length ≤ 140737488355328) : J1 s v = some (s.any (fun x => v == x)) := by
 unfold J1 Z0c
 generalize hB : Y6 _ (0 : Int) = L
 have K := Z5y hB s (fun x => v == x) (fun k : Nat => (k : Int)) (by
  intro k hk
  rw [if_pos (by simpa using hk), if_pos (by omega)]
  cases (v == at_ s (k : Int))
  ·rw [if_neg (by simp), if_pos (Y5 (by omega) (by omega)), if_neg (by simp)]
  ·rw [if_pos rfl, if_pos rfl]) (by rw [if_neg (by simp)])
 rcases K with ⟨h1, k, h2, rfl⟩ | ⟨h1, rfl⟩
 ·rw [h1]; simp
 ·rw [h1]; simp
theorem W1d {l : List Int} {n : Int} : l.any (fun x => x == n) = decide (n ∈ l) := by
 rw [Bool.eq_iff_iff]
 simp [List.any_eq_true]
theorem X7t {l : List Int} {n : Int} : l.any (fun x => n == x) = decide (n ∈ l) := by
 rw [Bool.eq_iff_iff]
 simp [List.any_eq_true]
theorem Y5g (l : List Int) (n : Int) (hl : l.length ≤ 140737488355328) : Z1a l n = some (decide (n ∈ l)) := by
 unfold Z1a
 generalize hB : Y6 _ (0 : Int) = L
 have K := Z5y hB l (fun x => x == n) (fun _ => ()) (by
  intro k hk
  rw [if_pos (by simpa using hk), if_pos (by omega)]
  cases (at_ l (k : Int) == n)
  ·rw [if_neg (by simp), if_pos (Y5 (by omega) (by omega)), if_neg (by simp)]
  ·rw [if_pos rfl, if_pos rfl]) (by rw [if_neg (by simp)])
 rw [W1d] at K
 rcases K with ⟨h1, k, h2, rfl⟩ | ⟨h1, rfl⟩
 ·rw [h1]; rfl
 ·rw [h1]; rfl
abbrev X2p (l : List Int) : Prop := l.Pairwise (· < ·)
theorem Y3j : ∀ {l : List Int} {lo hi : Int}, X2p l → (∀ x ∈ l, lo ≤ x ∧ x < hi) → l.length ≤ (hi - lo).toNat
 | [], lo, hi, _, _ => Nat.zero_le _
 | x :: l, lo, hi, h, hb => by
  have h1 := hb x (by simp)
  have h2 := Y3j (l := l) (lo := x + 1) (hi := hi) (List.pairwise_cons.1 h).2 (fun y hy => ⟨by have := (List.pairwise_cons.1 h).1 y hy; omega, (hb y (by simp [hy])).2⟩)
  simp only [List.length_cons]
  omega
theorem put_ok (l : List Int) (n : Int) (h : X2p l) (hl : l.length * 8 + 8 ≤ 140737488355328) : ∃ l', Z8i l n = some l' ∧ X2p l' ∧ (∀ x, x ∈ l' ↔ x = n ∨ x ∈ l) ∧ (n ∉ l → l'.length = l.length + 1) ∧ (n ∈ l → l' = l) := by
 have hLIM : LIM = 140737488355328 := rfl
 unfold Z8i
 generalize hB : Y6 _ (0 : Int) = L
 obtain ⟨j, rfl, hj0, hjl, hj1, hj2⟩ := X0a hB (fun s => 0 ≤ s ∧ s ≤ (l.length : Int) ∧ ∀ k : Int, 0 ≤ k → k < s → at_ l k < n) (fun s => (l.length - s).toNat) (fun j => 0 ≤ j ∧ j ≤ (l.length : Int) ∧ (∀ k : Int, 0 ≤ k → k < j → at_ l k < n) ∧ (j < (l.length : Int) → n ≤ at_ l j)) (by
  rintro i ⟨h1, h2, h3⟩
  by_cases hi : i < (l.length : Int)
  ·rw [if_pos (by simpa using hi), if_pos ⟨h1, hi⟩]
   simp only [Option.bind_some]
   by_cases hlt : at_ l i < n
   ·left
    rw [if_pos (by simpa using hlt), if_pos (Y5 (by omega) (by omega))]
    refine ⟨_, rfl, ⟨by omega, by omega, fun k k1 k2 => ?_⟩, by omega⟩
    by_cases hk : k = i
    ·subst hk; exact hlt
    ·exact h3 k k1 (by omega)
   ·right
    rw [if_neg (by simpa using hlt)]
    exact ⟨_, rfl, h1, h2, h3, fun _ => by omega⟩
  ·right
   rw [if_neg (by simpa using hi)]
   simp only [Option.bind_some]
   rw [if_neg (by simp)]
   exact ⟨_, rfl, h1, h2, h3, fun h => absurd h hi⟩) ⟨by omega, by omega, fun k k1 k2 => by omega⟩
 simp only [Option.bind_some]
 obtain ⟨m, rfl⟩ := Int.eq_ofNat_of_zero_le hj0
 have hml : m ≤ l.length := by omega
 have htake : ∀ x ∈ l.take m, x < n := fun x hx => by
  obtain ⟨k, hk, rfl⟩ := List.getElem_of_mem hx
  simp only [List.length_take] at hk
  rw [List.getElem_take]
  have := hj1 (k : Int) (by omega) (by omega)
  rwa [Z5k (by omega)] at this
 have hdrop : ∀ x ∈ l.drop m, n ≤ x := fun x hx => by
  obtain ⟨k, hk, rfl⟩ := List.getElem_of_mem hx
  simp only [List.length_drop] at hk
  rw [List.getElem_drop]
  have h0 := hj2 (by omega)
  rw [Z5k (by omega)] at h0
  by_cases hk0 : k = 0
  ·subst hk0; exact h0
  ·have := List.pairwise_iff_getElem.1 h m (m + k) (by omega) (by omega) (by omega)
   omega
 have hin : n ∈ l → ∃ h : m < l.length, l[m] = n := fun hn => by
  rw [← List.take_append_drop m l] at hn
  rcases List.mem_append.1 hn with h1 | h1
  ·have := htake n h1; omega
  ·obtain ⟨k, hk, e⟩ := List.getElem_of_mem h1
   simp only [List.length_drop] at hk
   rw [List.getElem_drop] at e
   have h0 := hj2 (by omega)
   rw [Z5k (by omega)] at h0
   refine ⟨by omega, ?_⟩
   by_cases hk0 : k = 0
   ·subst hk0; exact e
   ·have := List.pairwise_iff_getElem.1 h m (m + k) (by omega) (by omega) (by omega)
    omega
 by_cases hn : n ∈ l
 ·obtain ⟨hm, e⟩ := hin hn
  rw [if_pos (by simpa using hm), if_pos (by omega), Z5k hm, e]
  simp only [Option.bind_some]
  rw [if_pos (by simp)]
  exact ⟨l, rfl, h, fun x => ⟨fun hx => .inr hx, fun hx => by rcases hx with rfl | hx <;> assumption⟩, fun h => absurd hn h, fun _ => rfl⟩
 ·have hb : ∃ b, (if decide ((m : Int) < (l.length : Int)) = true then (if 0 ≤ (m : Int) ∧ (m : Int) < (l.length : Int) then some (at_ l (m : Int) == n) else none) else some false) = some b ∧ b = false := by
   by_cases hm : m < l.length
   ·rw [if_pos (by simpa using hm), if_pos (by omega)]
    refine ⟨_, rfl, ?_⟩
    rw [Z5k hm]
    simp only [beq_eq_false_iff_ne, ne_eq]
    intro e
    exact hn (e ▸ List.getElem_mem hm)
   ·rw [if_neg (by simpa using hm)]
    exact ⟨_, rfl, rfl⟩
  obtain ⟨b, e, rfl⟩ := hb
  rw [e]
  simp only [Option.bind_some, Bool.false_eq_true, if_false, Int.toNat_natCast, Nat.sub_zero, List.drop_zero, List.nil_append]
  have e1 : (l.drop m).take (l.length - m) = l.drop m := List.take_of_length_le (by simp)
  rw [if_pos (by omega), if_pos (by simp only [List.length_nil, List.length_take]; omega), if_pos (by simp only [List.length_take, List.length_singleton]; omega), if_pos (by omega), e1,
   if_pos (by simp only [List.length_append, List.length_take, List.length_drop, List.length_singleton]; omega)]
  have hgt : ∀ x ∈ l.drop m, n < x := fun x hx => by
   have h1 := hdrop x hx
   by_cases hx2 : x = n
   ·subst hx2; exact absurd (List.mem_of_mem_drop hx) hn
   ·omega
  refine ⟨_, rfl, ?_, fun x => ?_, fun _ => ?_, fun h => absurd h hn⟩
  ·refine List.pairwise_append.2 ⟨List.pairwise_append.2 ⟨h.sublist (List.take_sublist _ _), by simp, fun a ha b hb => ?_⟩, h.sublist (List.drop_sublist _ _), fun a ha b hb => ?_⟩
   ·simp only [List.mem_singleton] at hb; subst hb; exact htake a ha
   ·rcases List.mem_append.1 ha with ha | ha
    ·have := htake a ha; have := hgt b hb; omega
    ·simp only [List.mem_singleton] at ha; subst ha; exact hgt b hb
  ·have hx : x ∈ l ↔ x ∈ l.take m ∨ x ∈ l.drop m := by rw [← List.mem_append, List.take_append_drop]
   simp only [List.mem_append, List.mem_singleton, hx]
   constructor
   ·rintro ((h | h) | h) <;> simp [h]
   ·rintro (h | h | h) <;> simp [h]
  ·simp only [List.length_append, List.length_take, List.length_drop, List.length_singleton]
   omega
theorem W3g (l : List Int) (hl : l.length * 8 ≤ 140737488355328) : Z3d l = some l := by
 have hLIM : LIM = 140737488355328 := rfl
 unfold Z3d
 rw [if_pos (by simp only [List.length_nil]; omega)]
 rfl
end
section
theorem W3p {i : GInst} (h : i.args.length ≤ 1000000000000) : Z1i i = some (opsI i) := by
 have hL := Y4c
 unfold Z1i opsI U3 Z5g Z3 Z0d
 by_cases h1 : (1 ≤ i.op_ ∧ i.op_ ≤ 17) ∨ i.op_ = 24
 ·rw [if_pos (by simpa using h1), if_pos h1]
 ·rw [if_neg (by simpa using h1), if_neg h1]
  by_cases h2 : (18 ≤ i.op_ ∧ i.op_ ≤ 20) ∨ i.op_ = 23 ∨ i.op_ = 25 ∨ i.op_ = 27
  ·rw [if_pos (by simpa using h2), if_pos h2]
  ·rw [if_neg (by simpa using h2), if_neg h2]
   by_cases h3 : i.op_ = 22
   ·rw [if_pos (by simpa using h3), if_pos h3]
   ·rw [if_neg (by simpa using h3), if_neg h3]
    by_cases h4 : i.op_ = 26
    ·rw [if_pos (by simpa using h4), if_pos h4, if_pos (by simp only [List.length_nil]; omega)]
     rfl
    ·rw [if_neg (by simpa using h4), if_neg h4]
theorem W2a {i : GInst} (h : i.args.length ≤ 1000000000000) : Z1f i = some (opsI i) := by
 have hL := Y4c
 unfold Z1f opsI Z7 Z3d
 by_cases h1 : (1 ≤ i.op_ ∧ i.op_ ≤ 17) ∨ i.op_ = 24
 ·rw [if_pos (by simpa using h1), if_pos h1]
 ·rw [if_neg (by simpa using h1), if_neg h1]
  by_cases h2 : (18 ≤ i.op_ ∧ i.op_ ≤ 20) ∨ i.op_ = 23 ∨ i.op_ = 25 ∨ i.op_ = 27
  ·rw [if_pos (by simpa using h2), if_pos h2]
  ·rw [if_neg (by simpa using h2), if_neg h2]
   by_cases h3 : i.op_ = 22
   ·rw [if_pos (by simpa using h3), if_pos h3]
   ·rw [if_neg (by simpa using h3), if_neg h3]
    by_cases h4 : i.op_ = 26
    ·rw [if_pos (by simpa using h4), if_pos h4, if_pos (by simp only [List.length_nil]; omega)]
     rfl
    ·rw [if_neg (by simpa using h4), if_neg h4]
theorem X8k {i : GInst} : (opsI i).length ≤ 3 ∨ (opsI i = i.args ∧ i.op_ = 26) := by
 unfold opsI
 split
 ·simp
 ·split
  ·simp
  ·split
   ·simp
   ·split
    ·exact .inr ⟨rfl, by assumption⟩
    ·simp
theorem Y3e (s : List GPhi) (f : GPhi → Option Bool) (c : GPhi → Bool) (h : ∀ x ∈ s, f x = some (c x)) (hl : s.length ≤ 140737488355328) : Y9 s f = some (s.any c) := by
 unfold Y9 U5
 generalize hB : Y6 _ (0 : Int) = L
 have K := Z5y hB s c (fun k : Nat => (k : Int)) (by
  intro k hk
  rw [if_pos (by simpa using hk), if_pos (by omega), h _ (X5 (by omega))]
  simp only [Option.bind_some]
  cases c (at_ s (k : Int))
  ·rw [if_neg (by simp), if_pos (Y5 (by omega) (by omega)), if_neg (by simp)]
  ·rw [if_pos rfl, if_pos rfl]) (by rw [if_neg (by simp)])
 rcases K with ⟨h1, k, h2, rfl⟩ | ⟨h1, rfl⟩
 ·rw [h1]; simp
 ·rw [h1]; simp
theorem Z8y (s : List GInst) (f : GInst → Option Bool) (c : GInst → Bool) (h : ∀ x ∈ s, f x = some (c x)) (hl : s.length ≤ 140737488355328) : Y2 s f = some (s.any c) := by
 unfold Y2 V9
 generalize hB : Y6 _ (0 : Int) = L
 have K := Z5y hB s c (fun k : Nat => (k : Int)) (by
  intro k hk
  rw [if_pos (by simpa using hk), if_pos (by omega), h _ (X5 (by omega))]
  simp only [Option.bind_some]
  cases c (at_ s (k : Int))
  ·rw [if_neg (by simp), if_pos (Y5 (by omega) (by omega)), if_neg (by simp)]
  ·rw [if_pos rfl, if_pos rfl]) (by rw [if_neg (by simp)])
 rcases K with ⟨h1, k, h2, rfl⟩ | ⟨h1, rfl⟩
 ·rw [h1]; simp
 ·rw [h1]; simp
noncomputable abbrev wB (w : Int) : Bool := X0 w
noncomputable abbrev iB (n lo hi : Int) : Bool := Z3 n lo hi
theorem iB_iff {n lo hi : Int} : iB n lo hi = true ↔ lo ≤ n ∧ n ≤ hi := by simp [iB, Z3]
theorem wB_iff {w : Int} : wB w = true ↔ isW w := by simp [wB, X0, isW]
theorem Y9m (n lo hi : Int) : Z7 n lo hi = iB n lo hi := rfl
theorem W1x (w : Int) : Y4 w = wB w := rfl
noncomputable def valB (w v : Int) : Bool := wB w && iB v 0 (topW w)
theorem W6c (w v : Int) : Z5z w v = some (valB w v) := by
 unfold Z5z valB
 by_cases h : isW w
 ·have e : X0 w = true := wB_iff.2 h
  simp only [e, if_true, wB, Bool.true_and]
  have hm : Y1r w = some (topW w) := by
   rcases h with rfl | rfl | rfl | rfl <;> decide +kernel
  rw [hm]
  rfl
 ·have e : X0 w = false := by
   cases hx : X0 w with
   | false => rfl
   | true => exact absurd (wB_iff.1 hx) h
  simp only [e, Bool.false_eq_true, if_false, wB, Bool.false_and]
  rfl
theorem W5i (w v : Int) : Z5t w v = some (valB w v) := by
 unfold Z5t valB
 by_cases h : isW w
 ·have e : X0 w = true := wB_iff.2 h
  rw [W1x]
  simp only [wB, e, if_true, Bool.true_and]
  have hm : Y0f w = some (topW w + 1) := by
   rcases h with rfl | rfl | rfl | rfl <;> decide +kernel
  rw [hm]
  simp only [obs]
  have ht : 1 ≤ topW w ∧ topW w ≤ 4294967295 := by rcases h with rfl | rfl | rfl | rfl <;> decide
  rw [if_pos (Y5 (by omega) (by omega)), show topW w + 1 - 1 = topW w from by omega]
  rfl
 ·have e : X0 w = false := by
   cases hx : X0 w with
   | false => rfl
   | true => exact absurd (wB_iff.1 hx) h
  rw [W1x]
  simp only [wB, e, Bool.false_eq_true, if_false, Bool.false_and]
  rfl
structure fmI (i : GInst) (ids funcs : Int) : Prop where
 op : 1 ≤ i.op_ ∧ i.op_ ≤ 27
 args : i.args.length ≤ 4
 noargs : i.op_ ≠ 26 → i.args = []
 ids : inN ids (opsI i)
 zero : (if i.op_ = 26 then 0 else (opsI i).length) < 1 → i.a = 0
 zerob : (if i.op_ = 26 then 0 else (opsI i).length) < 2 → i.b = 0
 zeroc : (if i.op_ = 26 then 0 else (opsI i).length) < 3 → i.c = 0
 w0 : i.op_ = 24 ∨ i.op_ = 25 → i.w = 0
 w1 : ¬ (i.op_ = 24 ∨ i.op_ = 25) → isW i.w
 w8 : i.op_ = 23 → i.w = 8
 const : i.op_ = 21 → valB i.w i.imm = true
 call : i.op_ = 26 → 0 ≤ i.imm ∧ i.imm < funcs
 imm : i.op_ ≠ 21 → i.op_ ≠ 26 → i.imm = 0
theorem X3v {i : GInst} {ids funcs : Int} (ha : i.args.length ≤ 1000000000000) (h1 : inI (ids - 1)) (h2 : inI (funcs - 1)) : ∃ b, Q6 i ids funcs = some b ∧ Z0j i ids funcs = some b ∧ (b = true ↔ fmI i ids funcs) := by
  by_cases hop : 1 ≤ i.op_ ∧ i.op_ ≤ 27
  rotate_left
  · refine ⟨false, ?_, ?_, by simp, fun h => absurd h.op hop⟩
    · unfold Q6
      rw [if_pos (by simp [Z3]; omega)]
    · unfold Z0j
      rw [if_pos (by simp [Z7]; omega)]
  have e1 : Z3 i.op_ 1 27 = true := iB_iff.2 hop
  have e1' : Z7 i.op_ 1 27 = true := iB_iff.2 hop
  by_cases hna : i.op_ = 26 ∨ i.args.length = 0
  rotate_left
  · refine ⟨false, ?_, ?_, by simp, fun h => absurd ((Classical.em (i.op_ = 26)).imp id (fun hn => by rw [h.noargs hn]; rfl)) hna⟩
    · unfold Q6
      rw [if_pos (by simp [e1]; omega)]
    · unfold Z0j
      rw [if_pos (by simp [e1']; omega)]
  have g0 : ((i.op_ != 26) && decide ((i.args.length : Int) > 0)) = false := by
    rcases hna with h | h
    · simp [h]
    · rw [h]; simp
  have g0' : (decide ((i.args.length : Int) > 0) && (i.op_ != 26)) = false := by rw [Bool.and_comm]; exact g0
  have hl : (opsI i).length ≤ 1000000000000 := by
    rcases X8k (i := i) with h | ⟨h, _⟩
    · omega
    · rw [h]; exact ha
  have HS : ∀ r, ((opsI i).any (fun x => !iB x 0 (ids - 1)) = true → r = some false) → ((opsI i).any (fun x => !iB x 0 (ids - 1)) = false →
      (if (if (!((((i.op_ == 24) || (i.op_ == 25))) == ((i.w == 0)))) = true then true else (if (!(((i.op_ == 24) || (i.op_ == 25)))) = true then ((!((Y4 i.w))) || decide (((List.length i.args : Int)) > 4)) else decide (((List.length i.args : Int)) > 4))) = true then some false
       else if (if decide (((if (i.op_ == 26) = true then 0 else (List.length (opsI i) : Int))) < 1) = true then (if (i.a != 0) = true then true else (if decide (((if (i.op_ == 26) = true then 0 else (List.length (opsI i) : Int))) < 2) = true then (if (i.b != 0) = true then true else (if decide (((if (i.op_ == 26) = true then 0 else (List.length (opsI i) : Int))) < 3) = true then (i.c != 0) else false)) else (if decide (((if (i.op_ == 26) = true then 0 else (List.length (opsI i) : Int))) < 3) = true then (i.c != 0) else false))) else (if decide (((if (i.op_ == 26) = true then 0 else (List.length (opsI i) : Int))) < 2) = true then (if (i.b != 0) = true then true else (if decide (((if (i.op_ == 26) = true then 0 else (List.length (opsI i) : Int))) < 3) = true then (i.c != 0) else false)) else (if decide (((if (i.op_ == 26) = true then 0 else (List.length (opsI i) : Int))) < 3) = true then (i.c != 0) else false))) = true then some false
       else if (i.op_ == 21) = true then some (valB i.w i.imm) else if (i.op_ == 26) = true then some (iB i.imm 0 (funcs - 1)) else if (i.op_ == 23) = true then some ((i.w == 8) && (i.imm == 0)) else some (i.imm == 0)) = r) → Z0j i ids funcs = r := by
    intro r r1 r2
    unfold Z0j
    rw [if_neg (by rw [e1', g0]; decide), W2a ha]
    simp only [obs]
    generalize hB : Y6 _ (0 : Int) = L
    have K := Z5y hB (opsI i) (fun x => !iB x 0 (ids - 1)) (fun _ => ()) (by
      intro k hk
      rw [if_pos (by simpa using hk), if_pos (by omega), if_pos h1, Y9m]
      cases iB (at_ (opsI i) (k : Int)) 0 (ids - 1)
      · rw [if_pos (by rfl), if_pos (by rfl)]
      · rw [if_neg (by simp), if_pos (Y5 (by omega) (by omega)), if_neg (by simp)]) (by rw [if_neg (by simp)])
    rcases K with ⟨k1, k, k2, rfl⟩ | ⟨k1, rfl⟩
    · rw [r1 k1]; rfl
    · rw [← r2 k1]
      simp only [obs, W5i, if_pos h2, Y9m]
  by_cases h4 : i.args.length ≤ 4
  rotate_left
  · refine ⟨false, ?_, HS _ (fun _ => rfl) (fun _ => ?_), by simp, fun h => absurd h.args h4⟩
    · unfold Q6
      rw [if_pos (by simp [e1]; omega)]
    · rw [if_pos]
      have : decide ((i.args.length : Int) > 4) = true := by simp; omega
      simp [this]
  have HI : Q6 i ids funcs = if (opsI i).any (fun x => !iB x 0 (ids - 1)) = true then some false else
      if (List.drop (if i.op_ = 26 then ([] : List Int) else opsI i).length [i.a, i.b, i.c]).any (fun n => n != 0) = true then some false else
      if Z4d i = true then (if (i.op_ == 21) = true then some (valB i.w i.imm) else if (i.op_ == 26) = true then some (iB i.imm 0 (funcs - 1)) else some (i.imm == 0)) else some false := by
    unfold Q6
    rw [if_neg (by rw [e1, g0', show decide ((i.args.length : Int) > 4) = false from by simp; omega]; decide), W3p ha]
    simp only [obs]
    rw [Z0u _ _ (fun x => !iB x 0 (ids - 1)) (fun x _ => by unfold Z4t; rw [if_pos h1]) (by omega)]
    simp only [obs]
    have hj : (if (i.op_ == 26) = true then some ([] : List Int) else some (opsI i)) = some (if i.op_ = 26 then ([] : List Int) else opsI i) := by
      by_cases h : i.op_ = 26 <;> simp [h]
    have hn : (if i.op_ = 26 then ([] : List Int) else opsI i).length ≤ 3 := by
      by_cases h : i.op_ = 26
      · simp [h]
      · rcases X8k (i := i) with h' | ⟨_, h'⟩
        · simpa [h] using h'
        · exact absurd h' h
    by_cases hA : (opsI i).any (fun x => !iB x 0 (ids - 1)) = true
    · rw [if_pos hA, if_pos hA]
    · rw [if_neg hA, if_neg hA, hj]
      simp only [obs]
      generalize (if i.op_ = 26 then ([] : List Int) else opsI i) = J at hn ⊢
      simp only [Int.toNat_natCast]
      rw [if_pos (by simp; omega), Z0u _ (fun z0 => some (Z2t z0)) (fun n => n != 0) (fun x _ => rfl) (by simp; omega)]
      simp only [obs]
      have him : Z8m i funcs = (if (i.op_ == 21) = true then some (valB i.w i.imm) else if (i.op_ == 26) = true then some (iB i.imm 0 (funcs - 1)) else some (i.imm == 0)) := by
        unfold Z8m
        rw [W6c, if_pos h2]
        rfl
      rw [him]
      split
      · rfl
      · split
        · split
          · rfl
          · split <;> rfl
        · rfl
  have hA : (opsI i).any (fun x => !iB x 0 (ids - 1)) = false ↔ inN ids (opsI i) := by
    simp only [List.any_eq_false, Bool.not_eq_true, Bool.not_eq_false', iB_iff, inN]
    exact ⟨fun h x hx => by have := h x hx; omega, fun h x hx => by have := h x hx; omega⟩
  by_cases hin : inN ids (opsI i)
  rotate_left
  · have : (opsI i).any (fun x => !iB x 0 (ids - 1)) = true := by
      cases hx : (opsI i).any (fun x => !iB x 0 (ids - 1)) with
      | true => rfl
      | false => exact absurd (hA.1 hx) hin
    exact ⟨false, by rw [HI, if_pos this], HS _ (fun _ => rfl) (fun h => by rw [h] at this; cases this), by simp, fun h => absurd h.ids hin⟩
  have hany := hA.2 hin
  rw [hany] at HI HS
  rw [if_neg (by simp)] at HI
  have hz : (List.drop (if i.op_ = 26 then ([] : List Int) else opsI i).length [i.a, i.b, i.c]).any (fun n => n != 0) = false ↔
      (((if i.op_ = 26 then 0 else (opsI i).length) < 1 → i.a = 0) ∧ ((if i.op_ = 26 then 0 else (opsI i).length) < 2 → i.b = 0) ∧ ((if i.op_ = 26 then 0 else (opsI i).length) < 3 → i.c = 0)) := by
    have e : (if i.op_ = 26 then ([] : List Int) else opsI i).length = (if i.op_ = 26 then 0 else (opsI i).length) := by split <;> rfl
    rw [e]
    generalize (if i.op_ = 26 then 0 else (opsI i).length) = n
    match n with
    | 0 => simp
    | 1 => simp
    | 2 => simp
    | n + 3 => simp; omega
  have hz2 : (if decide (((if (i.op_ == 26) = true then 0 else (List.length (opsI i) : Int))) < 1) = true then (if (i.a != 0) = true then true else (if decide (((if (i.op_ == 26) = true then 0 else (List.length (opsI i) : Int))) < 2) = true then (if (i.b != 0) = true then true else (if decide (((if (i.op_ == 26) = true then 0 else (List.length (opsI i) : Int))) < 3) = true then (i.c != 0) else false)) else (if decide (((if (i.op_ == 26) = true then 0 else (List.length (opsI i) : Int))) < 3) = true then (i.c != 0) else false))) else (if decide (((if (i.op_ == 26) = true then 0 else (List.length (opsI i) : Int))) < 2) = true then (if (i.b != 0) = true then true else (if decide (((if (i.op_ == 26) = true then 0 else (List.length (opsI i) : Int))) < 3) = true then (i.c != 0) else false)) else (if decide (((if (i.op_ == 26) = true then 0 else (List.length (opsI i) : Int))) < 3) = true then (i.c != 0) else false))) = false ↔
      (((if i.op_ = 26 then 0 else (opsI i).length) < 1 → i.a = 0) ∧ ((if i.op_ = 26 then 0 else (opsI i).length) < 2 → i.b = 0) ∧ ((if i.op_ = 26 then 0 else (opsI i).length) < 3 → i.c = 0)) := by
    have e : (if (i.op_ == 26) = true then 0 else (List.length (opsI i) : Int)) = (((if i.op_ = 26 then 0 else (opsI i).length) : Nat) : Int) := by by_cases h : i.op_ = 26 <;> simp [h]
    rw [e]
    generalize (if i.op_ = 26 then 0 else (opsI i).length) = n
    match n with
    | 0 => by_cases ha : i.a = 0 <;> by_cases hb : i.b = 0 <;> by_cases hc : i.c = 0 <;> simp [ha, hb, hc]
    | 1 => by_cases hb : i.b = 0 <;> by_cases hc : i.c = 0 <;> simp [hb, hc]
    | 2 => by_cases hc : i.c = 0 <;> simp [hc]
    | n + 3 =>
      have g1 : decide (((n + 3 : Nat) : Int) < 1) = false := by simp; omega
      have g2 : decide (((n + 3 : Nat) : Int) < 2) = false := by simp; omega
      have g3 : decide (((n + 3 : Nat) : Int) < 3) = false := by simp; omega
      rw [g1, g2, g3]
      simp; omega
  have h4' : decide ((i.args.length : Int) > 4) = false := by simp; omega
  by_cases hzz : (((if i.op_ = 26 then 0 else (opsI i).length) < 1 → i.a = 0) ∧ ((if i.op_ = 26 then 0 else (opsI i).length) < 2 → i.b = 0) ∧ ((if i.op_ = 26 then 0 else (opsI i).length) < 3 → i.c = 0))
  rotate_left
  · refine ⟨false, ?_, HS _ (fun h => by cases h) (fun _ => ?_), by simp, fun h => absurd ⟨h.zero, h.zerob, h.zeroc⟩ hzz⟩
    · rw [HI, if_pos]
      cases hx : (List.drop (if i.op_ = 26 then ([] : List Int) else opsI i).length [i.a, i.b, i.c]).any (fun n => n != 0) with
      | true => rfl
      | false => exact absurd (hz.1 hx) hzz
    · have hC3 : ¬ _ := fun hx => hzz (hz2.1 hx)
      rw [Bool.not_eq_false] at hC3
      rw [hC3]
      simp only [if_true, ite_self]
  rw [if_neg (by rw [hz.2 hzz]; simp)] at HI
  have HS2 : ∀ r, (if (if (!((((i.op_ == 24) || (i.op_ == 25))) == ((i.w == 0)))) = true then true else (if (!(((i.op_ == 24) || (i.op_ == 25)))) = true then ((!((Y4 i.w))) || decide (((List.length i.args : Int)) > 4)) else decide (((List.length i.args : Int)) > 4))) = true then some false
       else if (i.op_ == 21) = true then some (valB i.w i.imm) else if (i.op_ == 26) = true then some (iB i.imm 0 (funcs - 1)) else if (i.op_ == 23) = true then some ((i.w == 8) && (i.imm == 0)) else some (i.imm == 0)) = r → Z0j i ids funcs = r := fun r hr => by
    refine HS _ (fun h => by cases h) (fun _ => ?_)
    rw [if_neg (c := (if decide _ = true then _ else _) = true) (by rw [hz2.2 hzz]; simp)]
    exact hr
  have hna' : i.op_ ≠ 26 → i.args = [] := fun h => List.eq_nil_of_length_eq_zero (hna.resolve_left h)
  rw [h4'] at HS2
  unfold Z4d at HI
  by_cases hv : i.op_ = 24 ∨ i.op_ = 25
  · have ev : ((i.op_ == 24) || (i.op_ == 25)) = true := by rcases hv with h | h <;> simp [h]
    have n1 : (i.op_ == 21) = false := by rcases hv with h | h <;> simp [h]
    have n2 : (i.op_ == 26) = false := by rcases hv with h | h <;> simp [h]
    have n3 : (i.op_ == 23) = false := by rcases hv with h | h <;> simp [h]
    simp only [ev, n1, n2, n3, if_true, Bool.false_eq_true, if_false, Bool.not_true] at HI HS2
    by_cases hw : i.w = 0
    · simp only [hw, BEq.rfl, if_true] at HI HS2
      refine ⟨_, HI, HS2 _ (by simp), fun h => ⟨hop, h4, hna', hin, hzz.1, hzz.2.1, hzz.2.2, fun _ => hw, fun h' => absurd hv h', fun h' => by omega, fun h' => by omega, fun h' => by omega, fun _ _ => by simpa using h⟩, fun h => by simpa using h.imm (by omega) (by omega)⟩
    · have : (i.w == 0) = false := by simpa using hw
      simp only [this, Bool.false_eq_true, if_false] at HI HS2
      exact ⟨false, HI, HS2 _ (by simp), by simp, fun h => absurd (h.w0 hv) hw⟩
  · have ev : ((i.op_ == 24) || (i.op_ == 25)) = false := by
      simp; omega
    simp only [ev, Bool.false_eq_true, if_false, Bool.not_false, if_true, Bool.or_false] at HI HS2
    by_cases hr : i.op_ = 23
    · have n1 : (i.op_ == 21) = false := by simp [hr]
      have n2 : (i.op_ == 26) = false := by simp [hr]
      simp only [hr, n1, n2, BEq.rfl, if_true, Bool.false_eq_true, if_false] at HI HS2
      by_cases hw : i.w = 8
      · simp only [hw, BEq.rfl, if_true, Bool.true_and] at HI HS2
        have : Y4 8 = true := rfl
        refine ⟨_, HI, HS2 _ (by simp [this]), fun h => ⟨hop, h4, hna', hin, hzz.1, hzz.2.1, hzz.2.2, fun h' => absurd h' hv, fun _ => .inr (.inl hw), fun _ => hw, fun h' => by omega, fun h' => by omega, fun _ _ => by simpa using h⟩, fun h => by simpa using h.imm (by omega) (by omega)⟩
      · have e8 : (i.w == 8) = false := by simpa using hw
        simp only [e8, Bool.false_eq_true, if_false, Bool.false_and] at HI HS2
        refine ⟨false, HI, HS2 _ ?_, by simp, fun h => absurd (h.w8 hr) hw⟩
        cases Y4 i.w <;> cases (i.w == 0) <;> simp
    · have n3 : (i.op_ == 23) = false := by simpa using hr
      simp only [n3, Bool.false_eq_true, if_false] at HI HS2
      by_cases hw : isW i.w
      · have e8 : X0 i.w = true := wB_iff.2 hw
        have e9 : Y4 i.w = true := wB_iff.2 hw
        have ez : (i.w == 0) = false := by rcases hw with h | h | h | h <;> simp [h]
        simp only [e8, e9, ez, if_true, Bool.not_true, BEq.rfl, Bool.false_eq_true, if_false] at HI HS2
        have hval : ∃ b, (if (i.op_ == 21) = true then some (valB i.w i.imm) else if (i.op_ == 26) = true then some (iB i.imm 0 (funcs - 1)) else some (i.imm == 0)) = some b := by
          split
          · exact ⟨_, rfl⟩
          · split <;> exact ⟨_, rfl⟩
        obtain ⟨b, hb⟩ := hval
        refine ⟨b, HI.trans hb, HS2 _ (by first | exact hb | simpa using hb), fun hbt => ⟨hop, h4, hna', hin, hzz.1, hzz.2.1, hzz.2.2, fun h' => absurd h' hv, fun _ => hw, fun h' => absurd h' hr, fun h' => ?_, fun h' => ?_, fun h' h'' => ?_⟩, fun h => ?_⟩
        · rw [if_pos (by simpa using h')] at hb
          rw [← hbt]; exact Option.some.inj hb
        · rw [if_neg (by simp [h']), if_pos (by simpa using h')] at hb
          have := Option.some.inj hb
          rw [hbt, iB_iff] at this
          omega
        · rw [if_neg (by simpa using h'), if_neg (by simpa using h'')] at hb
          have := Option.some.inj hb
          rw [hbt] at this
          simpa using this
        · have hb := Option.some.inj (show some b = some true from ?_)
          · exact hb
          rw [← hb]
          by_cases k1 : i.op_ = 21
          · rw [if_pos (by simpa using k1), h.const k1]
          · rw [if_neg (by simpa using k1)]
            by_cases k2 : i.op_ = 26
            · rw [if_pos (by simpa using k2), iB_iff.2 (by have := h.call k2; omega)]
            · rw [if_neg (by simpa using k2), h.imm k1 k2]
              rfl
      · have e8 : X0 i.w = false := by
          cases hx : X0 i.w with
          | false => rfl
          | true => exact absurd (wB_iff.1 hx) hw
        have e9 : Y4 i.w = false := e8
        simp only [e8, e9, Bool.not_false, Bool.true_or, if_true, Bool.false_eq_true, if_false] at HI HS2
        refine ⟨false, HI, HS2 _ ?_, by simp, fun h => absurd (h.w1 hv) hw⟩
        cases (i.w == 0) <;> rfl
structure fmT (t : GTerm) (ids blocks : Int) : Prop where
 kind : t.kind = 1 ∨ t.kind = 2 ∨ t.kind = 3 ∨ t.kind = 4
 a : t.kind = 1 ∨ t.kind = 3 → 0 ≤ t.a ∧ t.a < ids
 x : t.kind = 2 ∨ t.kind = 3 → 0 ≤ t.x ∧ t.x < blocks
 y : t.kind = 3 → 0 ≤ t.y ∧ t.y < blocks ∧ t.x ≠ t.y
 z1 : t.kind = 1 → t.x = 0 ∧ t.y = 0
 z2 : t.kind = 2 → t.a = 0 ∧ t.y = 0
 z4 : t.kind = 4 → t.a = 0 ∧ t.x = 0 ∧ t.y = 0
theorem X2r {f : GFunc} {t : GTerm} {ids : Int} (h1 : inI (ids - 1)) (h2 : inI ((f.blocks.length : Int) - 1)) : ∃ b, Z2b f t ids = some b ∧ Z5a t ids (f.blocks.length : Int) = some b ∧ (b = true ↔ fmT t ids (f.blocks.length : Int)) := by
 unfold Z2b Z5a J5
 have hi := fun a b : Int => @iB_iff a 0 b
 simp only [if_pos h1, if_pos h2, Y9m, iB] at hi ⊢
 by_cases k1 : t.kind = 1
 ·simp only [k1, BEq.rfl, if_true]
  rcases Bool.eq_false_or_eq_true (Z3 t.a 0 (ids - 1)) with hA | hA
  rotate_left
  ·exact ⟨false, by simp [hA], by simp [hA], by simp, fun h => by have := h.a (.inl k1); rw [(hi _ _).2 (by omega)] at hA; cases hA⟩
  ·refine ⟨(t.x == 0) && (t.y == 0), ?_, ?_, fun h => ⟨.inl k1, fun _ => by have := (hi _ _).1 hA; omega, fun h => by omega, fun h => by omega, fun _ => by simpa using h, fun h => by omega, fun h => by omega⟩, fun h => by simpa using h.z1 k1⟩
   ·cases (t.x == 0) <;> simp [hA]
   ·cases (t.x == 0) <;> simp [hA]
 ·have e1 : (t.kind == 1) = false := by simpa using k1
  simp only [e1, Bool.false_eq_true, if_false]
  by_cases k2 : t.kind = 2
  ·simp only [k2, BEq.rfl, if_true]
   refine ⟨(t.a == 0) && (Z3 t.x 0 ((f.blocks.length : Int) - 1) && (t.y == 0)), rfl, ?_, fun h => ⟨.inr (.inl k2), fun h => by omega, fun _ => ?_, fun h => by omega, fun h => by omega, fun _ => ?_, fun h => by omega⟩, fun h => ?_⟩
   ·cases (t.a == 0) <;> rcases Bool.eq_false_or_eq_true (Z3 t.x 0 ((f.blocks.length : Int) - 1)) with hX | hX <;> simp [hX]
   ·simp only [Bool.and_eq_true] at h
    have := (hi _ _).1 h.2.1
    omega
   ·simp only [Bool.and_eq_true] at h
    exact ⟨by simpa using h.1, by simpa using h.2.2⟩
   ·have g1 := h.z2 k2
    have g2 := h.x (.inl k2)
    rw [(hi _ _).2 (by omega), g1.1, g1.2]
    rfl
  ·have e2 : (t.kind == 2) = false := by simpa using k2
   simp only [e2, Bool.false_eq_true, if_false]
   by_cases k3 : t.kind = 3
   ·simp only [k3, BEq.rfl, if_true]
    refine ⟨Z3 t.a 0 (ids - 1) && (Z3 t.x 0 ((f.blocks.length : Int) - 1) && (Z3 t.y 0 ((f.blocks.length : Int) - 1) && (t.x != t.y))), ?_, ?_, fun h => ?_, fun h => ?_⟩
    ·show (Option.bind (if Z3 t.a 0 (ids - 1) = true then (if Z3 t.x 0 ((f.blocks.length : Int) - 1) = true then (if Z3 t.y 0 ((f.blocks.length : Int) - 1) = true then some (t.x != t.y) else some false) else some false) else some false) fun j => some j) = _
     rcases Bool.eq_false_or_eq_true (Z3 t.a 0 (ids - 1)) with hA | hA <;> rcases Bool.eq_false_or_eq_true (Z3 t.x 0 ((f.blocks.length : Int) - 1)) with hX | hX <;> rcases Bool.eq_false_or_eq_true (Z3 t.y 0 ((f.blocks.length : Int) - 1)) with hY | hY <;> simp [hA, hX, hY]
    ·rcases Bool.eq_false_or_eq_true (Z3 t.a 0 (ids - 1)) with hA | hA <;> rcases Bool.eq_false_or_eq_true (Z3 t.x 0 ((f.blocks.length : Int) - 1)) with hX | hX <;> rcases Bool.eq_false_or_eq_true (Z3 t.y 0 ((f.blocks.length : Int) - 1)) with hY | hY <;> simp [hA, hX, hY]
    ·simp only [Bool.and_eq_true] at h
     have g1 := (hi _ _).1 h.1
     have g2 := (hi _ _).1 h.2.1
     have g3 := (hi _ _).1 h.2.2.1
     have g4 := h.2.2.2
     exact ⟨.inr (.inr (.inl k3)), fun _ => by omega, fun _ => by omega, fun _ => ⟨by omega, by omega, by simpa using g4⟩, fun h => by omega, fun h => by omega, fun h => by omega⟩
    ·have g1 := h.a (.inr k3)
     have g2 := h.x (.inr k3)
     have g3 := h.y k3
     rw [(hi _ _).2 (by omega), (hi _ _).2 (by omega), (hi _ _).2 (by omega)]
     simpa using g3.2.2
   ·have e3 : (t.kind == 3) = false := by simpa using k3
    simp only [e3, Bool.false_eq_true, if_false]
    refine ⟨(t.kind == 4) && ((t.a == 0) && ((t.x == 0) && (t.y == 0))), ?_, rfl, fun h => ?_, fun h => ?_⟩
    ·cases (t.kind == 4) <;> simp
    ·simp only [Bool.and_eq_true] at h
     have : t.kind = 4 := by simpa using h.1
     exact ⟨.inr (.inr (.inr this)), fun h => by omega, fun h => by omega, fun h => by omega, fun h => by omega, fun h => by omega, fun _ => ⟨by simpa using h.2.1, by simpa using h.2.2.1, by simpa using h.2.2.2⟩⟩
    ·have k4 : t.kind = 4 := by
      have := h.kind
      omega
     have g := h.z4 k4
     rw [k4, g.1, g.2.1, g.2.2]
     rfl
structure fmF (f : GFunc) (funcs : Int) : Prop where
 params : f.params.length ≤ 4
 pw : ∀ w ∈ f.params, isW w
 ret : isW f.ret
 blocks : 1 ≤ f.blocks.length ∧ f.blocks.length ≤ 10
 cnt : cnt f ≤ 60
 phis : ∀ b ∈ f.blocks, ∀ p ∈ b.phis, isW p.w ∧ p.ins.length ≤ 10 ∧ inN (AM.cnt f) p.ins
 insts : ∀ b ∈ f.blocks, ∀ i ∈ b.insts, fmI i (AM.cnt f) funcs
 terms : ∀ b ∈ f.blocks, fmT b.term (AM.cnt f) f.blocks.length
noncomputable def phiB (p : GPhi) (n : Int) : Bool := wB p.w && (decide (p.ins.length ≤ 10) && p.ins.all fun x => iB x 0 (n - 1))
theorem W5w {p : GPhi} {n : Int} (h1 : inI (n - 1)) (hl : p.ins.length ≤ 1000000000000) : Z1n p n = some (!phiB p n) := by
 unfold Z1n phiB
 cases hw : X0 p.w
 ·simp [wB, hw]
 ·by_cases h : p.ins.length ≤ 10
  ·rw [if_neg (by simp), if_neg (by simp; omega), Z0u _ _ (fun x => !iB x 0 (n - 1)) (fun x _ => by unfold Z2v; rw [if_pos h1]) (by omega)]
   simp only [obs, wB, hw, Bool.true_and, h, decide_true]
   congr 1
   rw [List.all_eq_not_any_not, Bool.not_not]
  ·rw [if_neg (by simp), if_pos (by simp; omega)]
   simp [wB, hw, h]
noncomputable def Y5h (i : GInst) (n funcs : Int) : Bool := (Q6 i n funcs).getD false
noncomputable def Y9e (f : GFunc) (t : GTerm) (n : Int) : Bool := (Z2b f t n).getD false
theorem W3j {i : GInst} {n funcs : Int} (ha : i.args.length ≤ 1000000000000) (h1 : inI (n - 1)) (h2 : inI (funcs - 1)) : Q6 i n funcs = some (Y5h i n funcs) := by
 obtain ⟨b, e, _, _⟩ := X3v ha h1 h2
 rw [Y5h, e]; rfl
theorem W3i {i : GInst} {n funcs : Int} (ha : i.args.length ≤ 1000000000000) (h1 : inI (n - 1)) (h2 : inI (funcs - 1)) : Z0j i n funcs = some (Y5h i n funcs) := by
 obtain ⟨b, e, e2, _⟩ := X3v ha h1 h2
 rw [Y5h, e, e2]; rfl
theorem inst_fm {i : GInst} {n funcs : Int} (ha : i.args.length ≤ 1000000000000) (h1 : inI (n - 1)) (h2 : inI (funcs - 1)) (h : Y5h i n funcs = true) : fmI i n funcs := by
 obtain ⟨b, e, _, e3⟩ := X3v ha h1 h2
 rw [Y5h, e] at h
 exact e3.1 h
theorem W3h {i : GInst} {n funcs : Int} (h1 : inI (n - 1)) (h2 : inI (funcs - 1)) (h : fmI i n funcs) : Y5h i n funcs = true := by
 obtain ⟨b, e, _, e3⟩ := X3v (Nat.le_trans h.args (by decide)) h1 h2
 rw [Y5h, e]
 exact e3.2 h
theorem W1u {f : GFunc} {t : GTerm} {n : Int} (h1 : inI (n - 1)) (h2 : inI ((f.blocks.length : Int) - 1)) : Z2b f t n = some (Y9e f t n) := by
 obtain ⟨b, e, _, _⟩ := X2r (t := t) h1 h2
 rw [Y9e, e]; rfl
theorem W1t {f : GFunc} {t : GTerm} {n : Int} (h1 : inI (n - 1)) (h2 : inI ((f.blocks.length : Int) - 1)) : Z5a t n (f.blocks.length : Int) = some (Y9e f t n) := by
 obtain ⟨b, e, e2, _⟩ := X2r (t := t) h1 h2
 rw [Y9e, e, e2]; rfl
theorem term_fm {f : GFunc} {t : GTerm} {n : Int} (h1 : inI (n - 1)) (h2 : inI ((f.blocks.length : Int) - 1)) (h : Y9e f t n = true) : fmT t n f.blocks.length := by
 obtain ⟨b, e, _, e3⟩ := X2r (t := t) h1 h2
 rw [Y9e, e] at h
 exact e3.1 h
theorem W1s {f : GFunc} {t : GTerm} {n : Int} (h1 : inI (n - 1)) (h2 : inI ((f.blocks.length : Int) - 1)) (h : fmT t n f.blocks.length) : Y9e f t n = true := by
 obtain ⟨b, e, _, e3⟩ := X2r (t := t) h1 h2
 rw [Y9e, e]
 exact e3.2 h
theorem phi_fm {p : GPhi} {n : Int} (h : phiB p n = true) : isW p.w ∧ p.ins.length ≤ 10 ∧ inN n p.ins := by
 simp only [phiB, Bool.and_eq_true, decide_eq_true_eq, List.all_eq_true] at h
 exact ⟨wB_iff.1 h.1, h.2.1, fun x hx => by have := iB_iff.1 (h.2.2 x hx); omega⟩
theorem W5v {p : GPhi} {n : Int} (h : isW p.w ∧ p.ins.length ≤ 10 ∧ inN n p.ins) : phiB p n = true := by
 simp only [phiB, Bool.and_eq_true, decide_eq_true_eq, List.all_eq_true]
 exact ⟨wB_iff.2 h.1, h.2.1, fun x hx => iB_iff.2 (by have := h.2.2 x hx; omega)⟩
noncomputable def blkB (f : GFunc) (funcs : Int) (b : GBlock) : Bool := b.phis.all (fun p => phiB p (cnt f)) && (b.insts.all (fun i => Y5h i (cnt f) funcs) && Y9e f b.term (cnt f))
theorem Y4p {α : Type} (l : List α) (c : α → Bool) : l.any (fun x => !c x) = !l.all c := by rw [List.all_eq_not_any_not, Bool.not_not]
theorem W6x {f : GFunc} {funcs : Int} (h : bndF f) (h2 : inI (funcs - 1)) : ∀ L, Y6 (fun (st15 : Int) =>
 ((if decide (st15 < ((List.length f.blocks : Int))) = true then
 (if 0 ≤ st15 ∧ st15 < (List.length f.blocks : Int) then
 (Option.bind (Y9 ((at_ f.blocks st15).phis) ((fun z0 => Z1n z0 (cnt f : Int)))) fun x20 =>
 (if x20 = true then
 (some (Sum.inr ((Sum.inl (())))))
 else
 (Option.bind ((Option.bind (Y2 ((at_ f.blocks st15).insts) ((fun z0 => Z2u z0 (cnt f : Int) funcs))) fun x24 =>
 (if x24 = true then
 (some true)
 else
 (Option.bind (Z2b f (((at_ f.blocks st15).term)) (cnt f : Int)) fun x27 =>
 (some ((!x27))))))) fun (j23 : Bool) =>
 (if j23 = true then
 (some (Sum.inr ((Sum.inl (())))))
 else
 (if inI (st15 + 1) then
 (some (Sum.inl (st15 + 1)))
 else none)))))
 else none)
 else
 (some (Sum.inr ((Sum.inr (())))))) : Option ((Int) ⊕ (Unit ⊕ Unit)))) 0 = L → (f.blocks.all (blkB f funcs) = false ∧ L = some (.inl ())) ∨ (f.blocks.all (blkB f funcs) = true ∧ L = some (.inr ())) := by
  intro L hB
  have hc := h.cnt_le
  have hb := h.blocks
  have h1 : inI ((cnt f : Int) - 1) := Y5 (by omega) (by omega)
  have h3 : inI ((f.blocks.length : Int) - 1) := Y5 (by omega) (by omega)
  have K := Z5y hB f.blocks (fun b => !blkB f funcs b) (fun _ => ()) (by
    intro k hk
    have h0 : 0 ≤ (k : Int) ∧ (k : Int) < (f.blocks.length : Int) := by omega
    have hm := X5 h0
    have hr := h.rows _ hm
    rw [if_pos (by simpa using hk), if_pos h0, Y3e _ _ (fun p => !phiB p (cnt f)) (fun p hp => W5w h1 (h.ins _ hm p hp)) (by omega), Y4p, obs]
    rw [Z8y _ _ (fun i => !Y5h i (cnt f) funcs) (fun i hi => by unfold Z2u; rw [W3j (h.args _ hm i hi) h1 h2]; rfl) (by omega), Y4p, obs, W1u h1 h3, obs]
    simp only [blkB]
    rcases Bool.eq_false_or_eq_true ((at_ f.blocks (k : Int)).phis.all (fun p => phiB p (cnt f))) with hA | hA
    · rcases Bool.eq_false_or_eq_true ((at_ f.blocks (k : Int)).insts.all (fun i => Y5h i (cnt f) funcs)) with hB2 | hB2
      · rcases Bool.eq_false_or_eq_true (Y9e f (at_ f.blocks (k : Int)).term (cnt f)) with hC | hC
        · simp only [hA, hB2, hC, Bool.not_true, Bool.false_eq_true, if_false, obs, Bool.and_self]
          rw [if_pos (Y5 (by omega) (by omega))]
        · simp [hA, hB2, hC]
      · simp [hA, hB2]
    · simp [hA]) (by rw [if_neg (by simp)])
  rw [Y4p] at K
  rcases K with ⟨k1, k, _, rfl⟩ | ⟨k1, rfl⟩
  · exact .inl ⟨by simpa using k1, rfl⟩
  · exact .inr ⟨by simpa using k1, rfl⟩
end
section
theorem Y3a {β : Type} [Inhabited β] {body : Int → Option (Int ⊕ (Unit ⊕ Unit))} {L : Option (Unit ⊕ Unit)} (hB : Y6 body 0 = L) (xs : List β) (c : β → Bool)
  (h1 : ∀ k : Nat, k < xs.length → body (k : Int) = some (if c (at_ xs k) = true then .inl ((k : Int) + 1) else .inr (.inl ()))) (h2 : body (xs.length : Int) = some (.inr (.inr ()))) : L = some (if xs.all c = true then .inr () else .inl ()) := by
 have K := Z5y hB xs (fun x => !c x) (fun _ => ()) (by
  intro k hk
  rw [h1 k hk]
  rcases Bool.eq_false_or_eq_true (c (at_ xs (k : Int))) with hA | hA <;> simp [hA]) h2
 rw [Y4p] at K
 rcases K with ⟨k1, k, _, rfl⟩ | ⟨k1, rfl⟩
 ·have : xs.all c = false := by simpa using k1
  rw [this]; rfl
 ·have : xs.all c = true := by simpa using k1
  rw [this]; rfl
noncomputable def X0p (f : GFunc) (funcs : Int) : Bool := decide (f.params.length ≤ 4) && (wB f.ret && (iB f.blocks.length 1 10 && (f.params.all wB && (decide (cnt f ≤ 60) && f.blocks.all (blkB f funcs)))))
theorem W3x {f : GFunc} {funcs : Int} (h : bndF f) (h2 : inI (funcs - 1)) : Z7m f funcs = some (X0p f funcs) := by
 unfold Z7m X0p
 have hc := h.cnt_le
 have hp := h.params
 rw [Z0u f.params (fun z0 => some (Z2w z0)) (fun x => !wB x) (fun x _ => rfl) (by omega), Y4p, Y5s h]
 simp only [obs]
 generalize hB : Y6 _ _ = L
 have K := W6x h h2 L hB
 by_cases e1 : f.params.length ≤ 4
 ·rw [if_neg (by simp; omega)]
  rcases Bool.eq_false_or_eq_true (wB f.ret) with e2 | e2
  ·have e2' : X0 f.ret = true := e2
   rcases Bool.eq_false_or_eq_true (iB f.blocks.length 1 10) with e3 | e3
   ·have e3' : Z3 (f.blocks.length : Int) 1 10 = true := e3
    rcases Bool.eq_false_or_eq_true (f.params.all wB) with e4 | e4
    ·by_cases e5 : cnt f ≤ 60
     ·have e5' : ¬((cnt f : Int) > 60) := by omega
      rcases K with ⟨k1, rfl⟩ | ⟨k1, rfl⟩ <;> simp [e1, e2, e2', e3, e3', e4, e5, e5', k1]
     ·have e5' : ((cnt f : Int) > 60) := by omega
      simp [e1, e2, e2', e3, e3', e4, e5, e5']
    ·simp [e1, e2, e2', e3, e3', e4]
   ·have e3' : Z3 (f.blocks.length : Int) 1 10 = false := e3
    simp [e1, e2, e2', e3, e3']
  ·have e2' : X0 f.ret = false := e2
   simp [e1, e2, e2']
 ·rw [if_pos (by simp; omega)]
  simp [e1]
theorem W3w {f : GFunc} {funcs : Int} (h : bndF f) (h2 : inI (funcs - 1)) : Z7f f funcs = some (X0p f funcs) := by
 unfold Z7f X0p
 have hc := h.cnt_le
 have hp := h.params
 have hb := h.blocks
 have h1 : inI ((cnt f : Int) - 1) := Y5 (by omega) (by omega)
 have h3 : inI ((f.blocks.length : Int) - 1) := Y5 (by omega) (by omega)
 rw [W2b h, obs]
 simp only [W1x, Y9m]
 generalize hB : Y6 _ _ = L
 have K := Y3a hB f.params wB (by
  intro k hk
  have h0 : 0 ≤ (k : Int) ∧ (k : Int) < (f.params.length : Int) := by omega
  rw [if_pos (by simpa using hk), if_pos h0, if_pos (Y5 (by omega) (by omega))]
  rcases Bool.eq_false_or_eq_true (wB (at_ f.params (k : Int))) with hA | hA <;> simp [hA]) (by rw [if_neg (by simp)])
 subst K
 by_cases e1 : f.params.length ≤ 4
 ·have e1' : ¬((f.params.length : Int) > 4) := by omega
  rcases Bool.eq_false_or_eq_true (wB f.ret) with e2 | e2
  ·rcases Bool.eq_false_or_eq_true (iB f.blocks.length 1 10) with e3 | e3
   ·by_cases e5 : cnt f ≤ 60
    ·have e5' : ¬((cnt f : Int) > 60) := by omega
     rcases Bool.eq_false_or_eq_true (f.params.all wB) with e4 | e4
     ·simp only [e1, e1', e2, e3, e4, e5, e5', decide_true, decide_false, Bool.not_true, Bool.true_and, Bool.false_eq_true, if_false, if_true, obs]
      generalize hC : Y6 _ _ = M
      have K := Y3a hC f.blocks (blkB f funcs) (by
       intro k hk
       have h0 : 0 ≤ (k : Int) ∧ (k : Int) < (f.blocks.length : Int) := by omega
       have hm := X5 h0
       have hr := h.rows _ hm
       have hi := h.ins _ hm
       have ha := h.args _ hm
       simp only [blkB]
       generalize at_ f.blocks (k : Int) = b at hm hr hi ha ⊢
       rw [if_pos (by simpa using hk), if_pos h0]
       generalize hD : Y6 _ _ = P
       have K := Y3a hD b.phis (fun p => phiB p (cnt f)) (by
        intro j hj
        have j0 : 0 ≤ (j : Int) ∧ (j : Int) < (b.phis.length : Int) := by omega
        have jm := X5 j0
        have ji := hi _ jm
        simp only [phiB]
        rw [if_pos (by simpa using hj), if_pos j0, if_pos j0, if_pos (show inI ((j : Int) + 1) from Y5 (by omega) (by omega))]
        generalize at_ b.phis (j : Int) = p at jm ji ⊢
        rcases Bool.eq_false_or_eq_true (wB p.w) with g1 | g1
        ·by_cases g2 : p.ins.length ≤ 10
         ·have g2' : ¬((p.ins.length : Int) > 10) := by omega
          simp only [g1, g2, g2', decide_true, decide_false, Bool.not_true, Bool.true_and, Bool.false_eq_true, if_false, obs]
          generalize hE : Y6 _ _ = Q
          have K := Y3a hE p.ins (fun x => iB x 0 ((cnt f : Int) - 1)) (by
           intro i hi
           have i0 : 0 ≤ (i : Int) ∧ (i : Int) < (p.ins.length : Int) := by omega
           rw [if_pos j0, if_pos (by simpa using hi), if_pos j0, if_pos i0, if_pos h1, if_pos (Y5 (by omega) (by omega))]
           rcases Bool.eq_false_or_eq_true (iB (at_ p.ins (i : Int)) 0 ((cnt f : Int) - 1)) with hA | hA <;> simp [hA]) (by rw [if_pos j0, if_neg (by simp)])
          subst K
          rcases Bool.eq_false_or_eq_true (p.ins.all (fun x => iB x 0 ((cnt f : Int) - 1))) with hA | hA <;> simp [hA]
         ·have g2' : ((p.ins.length : Int) > 10) := by omega
          simp [g1, g2, g2']
        ·simp [g1]) (by rw [if_neg (by simp)])
       subst K
       rcases Bool.eq_false_or_eq_true (b.phis.all (fun p => phiB p (cnt f))) with g1 | g1
       ·simp only [g1, if_true, obs, Bool.true_and]
        generalize hE : Y6 _ _ = Q
        have K := Y3a hE b.insts (fun i => Y5h i (cnt f) funcs) (by
         intro j hj
         have j0 : 0 ≤ (j : Int) ∧ (j : Int) < (b.insts.length : Int) := by omega
         have jm := X5 j0
         rw [if_pos (by simpa using hj), if_pos j0, W3i (ha _ jm) h1 h2, obs, if_pos (show inI ((j : Int) + 1) from Y5 (by omega) (by omega))]
         rcases Bool.eq_false_or_eq_true (Y5h (at_ b.insts (j : Int)) (cnt f) funcs) with hA | hA <;> simp [hA]) (by rw [if_neg (by simp)])
        subst K
        rcases Bool.eq_false_or_eq_true (b.insts.all (fun i => Y5h i (cnt f) funcs)) with g2 | g2
        ·simp only [g2, if_true, obs, Bool.true_and]
         rw [W1t h1 h3, obs, if_pos (show inI ((k : Int) + 1) from Y5 (by omega) (by omega))]
         rcases Bool.eq_false_or_eq_true (Y9e f b.term (cnt f)) with hA | hA <;> simp [hA]
        ·simp [g2]
       ·simp [g1]) (by rw [if_neg (by simp)])
      subst K
      rcases Bool.eq_false_or_eq_true (f.blocks.all (blkB f funcs)) with hA | hA <;> simp [hA]
     ·simp [e1, e1', e2, e3, e4, e5, e5']
    ·have e5' : ((cnt f : Int) > 60) := by omega
     simp [e1, e1', e2, e3, e5, e5']
   ·simp [e1, e1', e2, e3]
  ·simp [e1, e1', e2]
 ·have e1' : ((f.params.length : Int) > 4) := by omega
  simp [e1, e1']
theorem func_fm {f : GFunc} {funcs : Int} (h : bndF f) (h2 : inI (funcs - 1)) (hf : X0p f funcs = true) : fmF f funcs := by
 have hc := h.cnt_le
 have hb := h.blocks
 have h1 : inI ((cnt f : Int) - 1) := Y5 (by omega) (by omega)
 have h3 : inI ((f.blocks.length : Int) - 1) := Y5 (by omega) (by omega)
 simp only [X0p, Bool.and_eq_true, decide_eq_true_eq, List.all_eq_true, blkB] at hf
 obtain ⟨g1, g2, g3, g4, g5, g6⟩ := hf
 have g3' := iB_iff.1 g3
 exact ⟨g1, fun w hw => wB_iff.1 (g4 w hw), wB_iff.1 g2, by omega, g5, fun b hm p hp => phi_fm ((g6 b hm).1 p hp), fun b hm i hi => inst_fm (h.args b hm i hi) h1 h2 ((g6 b hm).2.1 i hi), fun b hm => term_fm h1 h3 (g6 b hm).2.2⟩
theorem W3v {f : GFunc} {funcs : Int} (h : bndF f) (h2 : inI (funcs - 1)) (hf : fmF f funcs) : X0p f funcs = true := by
 have hc := h.cnt_le
 have hb := h.blocks
 have h1 : inI ((cnt f : Int) - 1) := Y5 (by omega) (by omega)
 have h3 : inI ((f.blocks.length : Int) - 1) := Y5 (by omega) (by omega)
 simp only [X0p, Bool.and_eq_true, decide_eq_true_eq, List.all_eq_true, blkB]
 have hb := hf.blocks
 exact ⟨hf.params, wB_iff.2 hf.ret, iB_iff.2 (by omega), fun w hw => wB_iff.2 (hf.pw w hw), hf.cnt, fun b hm => ⟨fun p hp => W5v (hf.phis b hm p hp), fun i hi => W3h h1 h2 (hf.insts b hm i hi), W1s h1 h3 (hf.terms b hm)⟩⟩
end
section
theorem pl_inv : ∀ (xs : List GBlock) (b n c a : Nat), pl xs b n = some (c, a) → b ≤ c ∧ n = sumz (xs.take (c - b)) + a
 | [], _, _, _, _, h => by simp [pl] at h
 | x :: xs, b, n, c, a, h => by
  unfold pl at h
  by_cases hn : n < sz x
  ·rw [if_pos hn] at h
   simp only [Option.some.injEq, Prod.mk.injEq] at h
   obtain ⟨rfl, rfl⟩ := h
   exact ⟨Nat.le_refl _, by simp [sumz]⟩
  ·rw [if_neg hn] at h
   obtain ⟨h1, h2⟩ := pl_inv xs _ _ _ _ h
   refine ⟨by omega, ?_⟩
   rw [show c - b = (c - (b + 1)) + 1 from by omega]
   have e : sumz ((x :: xs).take (c - (b + 1) + 1)) = sz x + sumz (xs.take (c - (b + 1))) := by simp [sumz]
   omega
theorem W2q {f : GFunc} {id : Int} (h : 0 ≤ (W1 f id).1) : id = (pre f (W1 f id).1.toNat : Int) + (W1 f id).2 := by
 unfold W1 at h ⊢
 by_cases h0 : id < 0
 ·rw [if_pos h0] at h; simp at h
 ·rw [if_neg h0] at h ⊢
  by_cases hp : id < (f.params.length : Int)
  ·rw [if_pos hp] at h; simp at h
  ·rw [if_neg hp] at h ⊢
   cases e : pl f.blocks 0 (id - (f.params.length : Int)).toNat with
   | none => rw [e] at h; simp [plI] at h
   | some x =>
    obtain ⟨c, a⟩ := x
    have := (pl_inv _ _ _ _ _ e).2
    simp only [plI, pre, Nat.sub_zero, Int.toNat_natCast] at this ⊢
    omega
noncomputable def instF (f : GFunc) (id : Int) : Option GInst :=
 if (W1 f id).1 < 0 then none else
 if (W1 f id).2 < ((at_ f.blocks (W1 f id).1).phis.length : Int) then none else
 some (at_ (at_ f.blocks (W1 f id).1).insts ((W1 f id).2 - ((at_ f.blocks (W1 f id).1).phis.length : Int)))
def noI : GInst := { op_ := 0, w := 0, a := 0, b := 0, c := 0, imm := 0, args := [] }
def orI : Option GInst → GInst × Bool
 | some i => (i, true)
 | none => (noI, false)
theorem W3m {f : GFunc} (h : bndF f) (id : Int) : Z7p f id = some (orI (instF f id)) := by
 unfold Z7p instF
 rw [X0k h]
 simp only [obs]
 rcases Z5d f id with hp | ⟨hp, h1, h2⟩ | ⟨h1, h2, h3⟩
 ·rw [hp]; rfl
 ·rw [hp]; rfl
 ·generalize W1 f id = p at h1 h2 h3 ⊢
  have hb := h.rows _ (X5 h1)
  unfold sz at h3
  have e5 : decide (p.1 < 0) = false := by simp; omega
  simp only [e5, Bool.false_eq_true, if_false, if_pos h1, obs]
  rw [if_neg (show ¬ p.1 < 0 by omega)]
  by_cases hq : p.2 < ((at_ f.blocks p.1).phis.length : Int)
  ·rw [if_pos (by simpa using hq), if_pos hq]
   rfl
  ·have hz : 0 ≤ p.2 - ((at_ f.blocks p.1).phis.length : Int) ∧ p.2 - ((at_ f.blocks p.1).phis.length : Int) < ((at_ f.blocks p.1).insts.length : Int) := by omega
   rw [if_neg (by simpa using hq), if_neg hq, Z6r (by omega) (by omega), if_pos hz]
   rfl
end
section
noncomputable def Y0q (f : GFunc) (b : Int) : List Int := W9 (at_ f.blocks b).term
def GraphOk (f : GFunc) : Prop := 1 ≤ f.blocks.length ∧ f.blocks.length ≤ 10 ∧ ∀ b ∈ f.blocks, ∀ x ∈ W9 b.term, 0 ≤ x ∧ x < (f.blocks.length : Int)
theorem Z9x (t : GTerm) : (W9 t).length ≤ 2 := by
 unfold W9
 split
 ·simp
 ·split <;> simp
theorem W0q (f : GFunc) (hl : f.blocks.length ≤ 140737488355328) : ∃ g, Z6a f = some g ∧ (g = true ↔ GraphOk f) := by
 unfold Z6a
 by_cases hn : 1 ≤ f.blocks.length ∧ f.blocks.length ≤ 10
 ·rw [if_pos (by simp [Z3]; omega), Y5i f.blocks _ (fun b => (W9 b.term).any fun x => !Z3 x 0 ((f.blocks.length : Int) - 1)) (fun b hb => by
   unfold Z3s
   rw [Z0u _ _ (fun x => !Z3 x 0 ((f.blocks.length : Int) - 1)) (fun x hx => by
    unfold Z2c
    rw [if_pos (Y5 (by omega) (by omega))]) (by have := Z9x b.term; omega)]
   rfl) hl]
  refine ⟨_, rfl, ?_⟩
  simp only [Bool.not_eq_true', List.any_eq_false, Bool.not_eq_true, List.any_eq_true, not_exists, not_and, GraphOk, Z3]
  constructor
  ·intro h
   refine ⟨hn.1, hn.2, fun b hb x hx => ?_⟩
   have := h b hb
   simp only [Bool.not_eq_false, List.any_eq_false, Bool.not_eq_true', Bool.and_eq_true, decide_eq_true_eq] at this
   have := this x hx
   omega
  ·rintro ⟨_, _, h⟩ b hb
   intro x hx
   have := h b hb x hx
   simp
   omega
 ·rw [if_neg (by simp [Z3]; omega)]
  exact ⟨false, rfl, by simp [GraphOk]; omega⟩
theorem X2c (f : GFunc) (b : Int) (h : 0 ≤ b ∧ b < (f.blocks.length : Int)) : Z3z f b = some (Y0q f b) := by
 unfold Z3z Y0q W9
 rw [if_pos h]
 split
 ·rfl
 ·split <;> rfl
theorem GraphOk.succ {f : GFunc} (h : GraphOk f) {a b : Int} (ha : 0 ≤ a ∧ a < (f.blocks.length : Int)) (hb : b ∈ Y0q f a) : 0 ≤ b ∧ b < (f.blocks.length : Int) := h.2.2 _ (X5 ha) b hb
inductive Rch (f : GFunc) (w : Int) : Int → Prop
 | zero : (0 : Int) ≠ w → Rch f w 0
 | step {a b : Int} : Rch f w a → b ∈ Y0q f a → b ≠ w → Rch f w b
theorem Rch.lt {f : GFunc} (h : GraphOk f) {w b : Int} (hr : Rch f w b) : 0 ≤ b ∧ b < (f.blocks.length : Int) := by
 induction hr with
 | zero _ => have := h.1; omega
 | step _ hb _ ih => exact h.succ ih hb
theorem X3b {f : GFunc} (h : GraphOk f) (w : Int) : ∃ out, Z4s f w = some out ∧ out.length = f.blocks.length ∧ ∀ k : Nat, k < f.blocks.length → (at_ out (k : Int) = true ↔ Rch f w (k : Int)) := by
 have hLIM : LIM = 140737488355328 := rfl
 have hg := h
 obtain ⟨n1, n2, _⟩ := h
 unfold Z4s
 rw [if_pos (by omega)]
 generalize hB : Y6 _ _ = L
 obtain ⟨out, rfl, h1, h2, h3, h4⟩ := X0a hB
  (fun s => s.1.length = f.blocks.length ∧ (∀ x ∈ s.2, 0 ≤ x ∧ x < (f.blocks.length : Int)) ∧ (∀ x ∈ s.2, x ≠ w → Rch f w x) ∧ (∀ k : Nat, k < f.blocks.length → at_ s.1 (k : Int) = true → Rch f w (k : Int)) ∧
   (∀ k : Nat, k < f.blocks.length → at_ s.1 (k : Int) = true → ∀ b ∈ Y0q f (k : Int), b ≠ w → at_ s.1 b = true ∨ b ∈ s.2) ∧ ((0 : Int) ≠ w → at_ s.1 (0 : Int) = true ∨ (0 : Int) ∈ s.2) ∧ s.2.length + 3 * s.1.count false ≤ 31)
  (fun s => s.2.length + 3 * s.1.count false)
  (fun out => out.length = f.blocks.length ∧ (∀ k : Nat, k < f.blocks.length → at_ out (k : Int) = true → Rch f w (k : Int)) ∧
   (∀ k : Nat, k < f.blocks.length → at_ out (k : Int) = true → ∀ b ∈ Y0q f (k : Int), b ≠ w → at_ out b = true) ∧ ((0 : Int) ≠ w → at_ out (0 : Int) = true)) (by
  rintro ⟨out, left⟩ ⟨h1, h2, h3, h4, h5, h6, h7⟩
  simp only at h1 h2 h3 h4 h5 h6 h7
  cases left with
  | nil =>
   right
   rw [if_neg (by simp)]
   exact ⟨_, rfl, h1, h4, fun k hk hm b hb hw => (h5 k hk hm b hb hw).resolve_right (by simp), fun h => (h6 h).resolve_right (by simp)⟩
  | cons b left =>
   left
   have hat : at_ (b :: left) (0 : Int) = b := rfl
   have hbn := h2 b (by simp)
   obtain ⟨m, rfl⟩ := Int.eq_ofNat_of_zero_le hbn.1
   have hm : m < f.blocks.length := by omega
   simp only [hat, List.length_cons, List.drop_succ_cons, List.drop_zero]
   rw [if_pos (by simp only [gt_iff_lt, decide_eq_true_eq]; omega), if_pos (by omega), if_pos (by omega)]
   have e : ∃ j, (if ((m : Int) == w) = true then some true else (if 0 ≤ (m : Int) ∧ (m : Int) < (out.length : Int) then some (at_ out (m : Int)) else none)) = some j ∧ (j = true ↔ (m : Int) = w ∨ at_ out (m : Int) = true) := by
    by_cases hw : (m : Int) = w
    ·rw [if_pos (by simpa using hw)]
     exact ⟨_, rfl, by simp [hw]⟩
    ·rw [if_neg (by simpa using hw), if_pos (by omega)]
     exact ⟨_, rfl, by simp [hw]⟩
   obtain ⟨j, e, hj⟩ := e
   rw [e]
   simp only [Option.bind_some]
   by_cases hjt : j = true
   ·rw [if_pos hjt]
    have hmw := hj.1 hjt
    refine ⟨_, rfl, ⟨h1, fun x hx => h2 x (by simp [hx]), fun x hx => h3 x (by simp [hx]), h4, fun k hk hmk b hb hw => ?_, fun h => ?_, ?_⟩, ?_⟩
    ·rcases h5 k hk hmk b hb hw with h | h
     ·exact .inl h
     ·rcases List.mem_cons.1 h with rfl | h
      ·rcases hmw with e | e
       ·exact absurd e hw
       ·exact .inl e
      ·exact .inr h
    ·rcases h6 h with h' | h'
     ·exact .inl h'
     ·rcases List.mem_cons.1 h' with e | h'
      ·rcases hmw with e2 | e2
       ·exact absurd (e.trans e2) h
       ·exact .inl (e ▸ e2)
      ·exact .inr h'
    ·simp only [List.length_cons] at h7 ⊢; omega
    ·simp only [List.length_cons]; omega
   ·rw [if_neg hjt]
    have hnw : (m : Int) ≠ w := fun e => hjt (hj.2 (.inl e))
    have hnm : at_ out (m : Int) = false := by cases hh : at_ out (m : Int) with | false => rfl | true => exact absurd (hj.2 (.inr hh)) hjt
    have hs : (W9 (at_ f.blocks (m : Int)).term).length ≤ 2 := Z9x _
    have hcnt : (out.set m true).count false + 1 = out.count false := by
     have hm2 : m < out.length := by omega
     have hget : out[m] = false := by rw [← Z5k hm2]; exact hnm
     have := List.count_set (l := out) (a := true) (b := false) (i := m) hm2
     have hp : 0 < out.count false := List.count_pos_iff.2 (hget ▸ List.getElem_mem hm2)
     simp [hget] at this
     omega
    rw [if_pos (by omega), if_pos (by omega), if_pos (by simp only [List.length_cons] at h7; omega)]
    have hrm : Rch f w (m : Int) := h3 _ (by simp) hnw
    have hat2 : ∀ k : Nat, k < f.blocks.length → at_ (out.set m true) (k : Int) = if k = m then true else at_ out (k : Int) := fun k hk => by
     rw [Z5k (by simpa [h1] using hk), Z5k (by omega), List.getElem_set]
     by_cases hkm : m = k
     ·subst hkm; simp
     ·rw [if_neg hkm, if_neg (fun h => hkm h.symm)]
    have hat3 : ∀ b : Int, 0 ≤ b ∧ b < (f.blocks.length : Int) → at_ out b = true → at_ (out.set m true) b = true := fun b hb hmk => by
     obtain ⟨k, rfl⟩ := Int.eq_ofNat_of_zero_le hb.1
     rw [hat2 k (by omega)]
     split
     ·rfl
     ·exact hmk
    simp only [Int.toNat_natCast]
    refine ⟨_, rfl, ⟨by simpa using h1, fun x hx => ?_, fun x hx hxw => ?_, fun k hk hmk => ?_, fun k hk hmk b hb hw => ?_, fun h => ?_, ?_⟩, ?_⟩
    ·rcases List.mem_append.1 hx with hx | hx
     ·exact h2 x (by simp [hx])
     ·exact hg.succ hbn hx
    ·rcases List.mem_append.1 hx with hx | hx
     ·exact h3 x (by simp [hx]) hxw
     ·exact .step hrm hx hxw
    ·rw [hat2 k hk] at hmk
     by_cases hkm : k = m
     ·subst hkm; exact hrm
     ·rw [if_neg hkm] at hmk; exact h4 k hk hmk
    ·have hbl := hg.succ (by omega : 0 ≤ (k : Int) ∧ (k : Int) < (f.blocks.length : Int)) hb
     rw [hat2 k hk] at hmk
     by_cases hkm : k = m
     ·subst hkm; exact .inr (List.mem_append_right _ hb)
     ·rw [if_neg hkm] at hmk
      rcases h5 k hk hmk b hb hw with h | h
      ·exact .inl (hat3 b hbl h)
      ·rcases List.mem_cons.1 h with rfl | h
       ·left; rw [hat2 m hm]; simp
       ·exact .inr (List.mem_append_left _ h)
    ·rcases h6 h with h | h
     ·exact .inl (hat3 0 (by omega) h)
     ·rcases List.mem_cons.1 h with e | h
      ·left; rw [e, hat2 m hm]; simp
      ·exact .inr (List.mem_append_left _ h)
    ·simp only [List.length_append, List.length_cons] at h7 ⊢; omega
    ·simp only [List.length_append, List.length_cons]; omega) (by
  refine ⟨by simp, fun x hx => ?_, fun x hx hw => ?_, fun k hk hm => ?_, fun k hk hm => ?_, fun _ => .inr (by simp), ?_⟩
  ·simp only [List.mem_singleton] at hx; omega
  ·simp only [List.mem_singleton] at hx; subst hx; exact .zero hw
  ·rw [Z5k (by simpa using hk)] at hm; simp at hm
  ·rw [Z5k (by simpa using hk)] at hm; simp at hm
  ·simp only [List.length_singleton]
   have := List.count_le_length (a := false) (l := List.replicate (f.blocks.length : Int).toNat false)
   simp at this ⊢
   omega)
 refine ⟨out, rfl, h1, fun k hk => ⟨h2 k hk, fun hr => ?_⟩⟩
 have key : ∀ b : Int, Rch f w b → at_ out b = true := fun b hr => by
  induction hr with
  | zero hw => exact h4 hw
  | step ha hb hw ih =>
   have hl := ha.lt hg
   obtain ⟨k, rfl⟩ := Int.eq_ofNat_of_zero_le hl.1
   exact h3 k (by omega) ih _ hb hw
 exact key _ hr
theorem Y6q {f : GFunc} (h : GraphOk f) (w : Int) : ∃ out, Z2e f w = some out ∧ X2p out ∧ out.length ≤ 10 ∧ ∀ b, b ∈ out ↔ Rch f w b := by
 have hLIM : LIM = 140737488355328 := rfl
 have hg := h
 obtain ⟨n1, n2, _⟩ := h
 unfold Z2e
 by_cases hw0 : w = 0
 ·rw [if_pos (by simpa using hw0)]
  refine ⟨[], rfl, .nil, by simp, fun b => ?_⟩
  simp only [List.not_mem_nil, false_iff]
  intro hr
  induction hr with
  | zero hw => exact hw hw0.symm
  | step _ _ _ ih => exact ih
 rw [if_neg (by simpa using hw0)]
 generalize hB : Y6 _ _ = L
 obtain ⟨out, rfl, h1, h2, h3, h4⟩ := X0a hB
  (fun s => (∀ x ∈ s.1, 0 ≤ x ∧ x < (f.blocks.length : Int)) ∧ (∀ x ∈ s.1, x ≠ w → Rch f w x) ∧ X2p s.2 ∧ (∀ x ∈ s.2, Rch f w x) ∧
   (∀ x ∈ s.2, ∀ b ∈ Y0q f x, b ≠ w → b ∈ s.2 ∨ b ∈ s.1) ∧ ((0 : Int) ∈ s.2 ∨ (0 : Int) ∈ s.1) ∧ s.1.length + 3 * (f.blocks.length - s.2.length) ≤ 31)
  (fun s => s.1.length + 3 * (f.blocks.length - s.2.length))
  (fun out => X2p out ∧ (∀ x ∈ out, Rch f w x) ∧ (∀ x ∈ out, ∀ b ∈ Y0q f x, b ≠ w → b ∈ out) ∧ (0 : Int) ∈ out) (by
  rintro ⟨work, out⟩ ⟨h1, h2, h3, h4, h5, h6, h7⟩
  simp only at h1 h2 h3 h4 h5 h6 h7
  have hol : out.length ≤ f.blocks.length := by
   have := Y3j (lo := 0) (hi := (f.blocks.length : Int)) h3 (fun x hx => (h4 x hx).lt hg)
   omega
  cases work with
  | nil =>
   right
   rw [if_neg (by simp)]
   exact ⟨_, rfl, h3, h4, fun x hx b hb hw => (h5 x hx b hb hw).resolve_right (by simp), h6.resolve_right (by simp)⟩
  | cons b work =>
   left
   have hat : at_ (b :: work) (0 : Int) = b := rfl
   have hbn := h1 b (by simp)
   simp only [hat, List.length_cons, List.drop_succ_cons, List.drop_zero]
   simp only [List.length_cons] at h7
   rw [if_pos (by simp only [gt_iff_lt, decide_eq_true_eq]; omega), if_pos (by omega), if_pos (by omega), W3g _ (by omega)]
   simp only [Option.bind_some]
   have e : ∃ j, (if (b == w) = true then some true else (Option.bind (Z1a out b) fun x => some x)) = some j ∧ (j = true ↔ b = w ∨ b ∈ out) := by
    by_cases hw : b = w
    ·rw [if_pos (by simpa using hw)]
     exact ⟨_, rfl, by simp [hw]⟩
    ·rw [if_neg (by simpa using hw), Y5g _ _ (by omega)]
     exact ⟨_, rfl, by simp [hw]⟩
   obtain ⟨j, e, hj⟩ := e
   rw [e]
   simp only [Option.bind_some]
   by_cases hjt : j = true
   ·rw [if_pos hjt]
    have hmw := hj.1 hjt
    refine ⟨_, rfl, ⟨fun x hx => h1 x (by simp [hx]), fun x hx => h2 x (by simp [hx]), h3, h4, fun x hx y hy hw => ?_, ?_, ?_⟩, ?_⟩
    ·rcases h5 x hx y hy hw with h | h
     ·exact .inl h
     ·rcases List.mem_cons.1 h with rfl | h
      ·rcases hmw with e | e
       ·exact absurd e hw
       ·exact .inl e
      ·exact .inr h
    ·rcases h6 with h' | h'
     ·exact .inl h'
     ·rcases List.mem_cons.1 h' with e | h'
      ·rcases hmw with e2 | e2
       ·exact absurd (e.trans e2).symm hw0
       ·exact .inl (e ▸ e2)
      ·exact .inr h'
    ·simp only; omega
    ·simp only; omega
   ·rw [if_neg hjt]
    have hnw : b ≠ w := fun e => hjt (hj.2 (.inl e))
    have hno : b ∉ out := fun e => hjt (hj.2 (.inr e))
    have hrm : Rch f w b := h2 _ (by simp) hnw
    obtain ⟨out2, e2, p1, p2, p3, _⟩ := put_ok out b h3 (by omega)
    have p3 := p3 hno
    have hol2 : out2.length ≤ f.blocks.length := by
     have := Y3j (lo := 0) (hi := (f.blocks.length : Int)) p1 (fun x hx => by
      rcases (p2 x).1 hx with rfl | hx
      ·exact hbn
      ·exact (h4 x hx).lt hg)
     omega
    have hs : (Y0q f b).length ≤ 2 := Z9x _
    rw [e2]
    simp only [Option.bind_some]
    rw [X2c f b hbn]
    simp only [Option.bind_some]
    rw [if_pos (by omega)]
    refine ⟨_, rfl, ⟨fun x hx => ?_, fun x hx hxw => ?_, p1, fun x hx => ?_, fun x hx y hy hw => ?_, ?_, ?_⟩, ?_⟩
    ·rcases List.mem_append.1 hx with hx | hx
     ·exact h1 x (by simp [hx])
     ·exact hg.succ hbn hx
    ·rcases List.mem_append.1 hx with hx | hx
     ·exact h2 x (by simp [hx]) hxw
     ·exact .step hrm hx hxw
    ·rcases (p2 x).1 hx with rfl | hx
     ·exact hrm
     ·exact h4 x hx
    ·rcases (p2 x).1 hx with rfl | hx
     ·exact .inr (List.mem_append_right _ hy)
     ·rcases h5 x hx y hy hw with h | h
      ·exact .inl ((p2 y).2 (.inr h))
      ·rcases List.mem_cons.1 h with rfl | h
       ·exact .inl ((p2 y).2 (.inl rfl))
       ·exact .inr (List.mem_append_left _ h)
    ·rcases h6 with h | h
     ·exact .inl ((p2 0).2 (.inr h))
     ·rcases List.mem_cons.1 h with e | h
      ·exact .inl ((p2 0).2 (.inl e))
      ·exact .inr (List.mem_append_left _ h)
    ·simp only [List.length_append]; omega
    ·simp only [List.length_append]; omega) (by
  refine ⟨fun x hx => ?_, fun x hx hw => ?_, .nil, fun x hx => absurd hx (by simp), fun x hx => absurd hx (by simp), .inr (by simp), ?_⟩
  ·simp only [List.mem_singleton] at hx; omega
  ·simp only [List.mem_singleton] at hx; subst hx; exact .zero hw
  ·simp only [List.length_singleton, List.length_nil]; omega)
 refine ⟨out, rfl, h1, ?_, fun b => ⟨h2 b, fun hr => ?_⟩⟩
 ·have := Y3j (lo := 0) (hi := (f.blocks.length : Int)) h1 (fun x hx => (h2 x hx).lt hg)
  omega
 ·induction hr with
  | zero hw => exact h4
  | step ha hb hw ih => exact h3 _ ih _ hb hw
end
section
noncomputable def pB (P : Prop) : Bool := @decide P (Classical.propDecidable P)
theorem pB_t {P : Prop} (h : P) : pB P = true := by unfold pB; exact @decide_eq_true P (Classical.propDecidable P) h
theorem pB_f {P : Prop} (h : ¬ P) : pB P = false := by unfold pB; exact @decide_eq_false P (Classical.propDecidable P) h
theorem pB_iff {P : Prop} : pB P = true ↔ P := by
 by_cases h : P
 ·exact ⟨fun _ => h, fun _ => pB_t h⟩
 ·exact ⟨fun k => absurd k (by rw [pB_f h]; decide), fun k => absurd k h⟩
theorem Z7h {P Q : Prop} (h : P ↔ Q) : pB P = pB Q := by rw [propext h]
theorem X1j {P : Prop} {b : Bool} (h : b = true ↔ P) : b = pB P := by
 rw [Bool.eq_iff_iff, h, pB_iff]
theorem X8j {P : Prop} : (!pB P) = pB (¬ P) := by
 by_cases h : P
 ·rw [pB_t h, pB_f (fun k => k h)]; rfl
 ·rw [pB_f h, pB_t h]; rfl
theorem W6w {a b : Bool} (h : a = true ↔ b = true) : a = b := Bool.eq_iff_iff.2 h
theorem Z8v {body : Int → Option (Int ⊕ (Unit ⊕ Unit))} {L : Option (Unit ⊕ Unit)} (hB : Y6 body 0 = L) (n : Nat) (P : Nat → Prop)
  (h1 : ∀ k : Nat, k < n → body (k : Int) = some (if pB (P k) = true then .inl ((k : Int) + 1) else .inr (.inl ()))) (h2 : body (n : Int) = some (.inr (.inr ()))) : L = some (if pB (∀ k, k < n → P k) = true then .inr () else .inl ()) := by
 have K := X1z hB n (fun k => !pB (P k)) (fun _ => ()) (by
  intro k hk
  rw [h1 k hk]
  rcases Bool.eq_false_or_eq_true (pB (P k)) with hA | hA <;> simp [hA]) h2
 rcases K with ⟨k, hk, k1, _, rfl⟩ | ⟨k1, rfl⟩
 ·rw [pB_f]
  ·rfl
  ·intro h
   rw [pB_t (h k hk)] at k1
   cases k1
 ·rw [pB_t]
  ·rfl
  ·intro x hx
   have := k1 x hx
   simpa [pB_iff] using this
theorem end_pB {P : Prop} : (Option.bind (some (if pB P = true then (Sum.inr () : Unit ⊕ Unit) else .inl ())) fun y => match y with | .inl _ => some false | .inr _ => some true) = some (pB P) := by
 by_cases h : P
 ·rw [pB_t h]; rfl
 ·rw [pB_f h]; rfl
theorem all_at {α : Type} [Inhabited α] {xs : List α} {P : α → Prop} : (∀ k : Nat, k < xs.length → P (at_ xs (k : Int))) ↔ ∀ x ∈ xs, P x := by
 constructor
 ·intro h x hx
  obtain ⟨k, hk, rfl⟩ := List.getElem_of_mem hx
  have := h k hk
  rwa [Z5k hk] at this
 ·intro h k hk
  exact h _ (X5 ⟨by omega, by omega⟩)
theorem Z4q {β : Type} [Inhabited β] {body : Int → Option (Int ⊕ (Unit ⊕ Unit))} {L : Option (Unit ⊕ Unit)} (hB : Y6 body 0 = L) (xs : List β) (P : β → Prop)
  (h1 : ∀ k : Nat, k < xs.length → body (k : Int) = some (if pB (P (at_ xs (k : Int))) = true then .inl ((k : Int) + 1) else .inr (.inl ()))) (h2 : body (xs.length : Int) = some (.inr (.inr ()))) : L = some (if pB (∀ x ∈ xs, P x) = true then .inr () else .inl ()) := by
 rw [Z8v hB xs.length (fun k => P (at_ xs (k : Int))) h1 h2, Z7h all_at]
theorem X4p {α : Type} {xs : List α} {P : α → Prop} : xs.any (fun x => !pB (P x)) = !pB (∀ x ∈ xs, P x) := by
 rw [X8j]
 refine X1j ?_
 simp only [List.any_eq_true, Bool.not_eq_true', ← Bool.not_eq_true, pB_iff]
 constructor
 ·rintro ⟨x, h1, h2⟩ h; exact h2 (h x h1)
 ·intro h
  refine Classical.byContradiction fun hn => h fun x hx => Classical.byContradiction fun hp => hn ⟨x, hx, hp⟩
noncomputable def Z0h (f : GFunc) (b : Int) : List Int := ((List.range f.blocks.length).filter (fun i : Nat => decide (b ∈ Y0q f (i : Int)))).map Int.ofNat
theorem X1v (f : GFunc) (b : Int) (k : Nat) : ((List.range (k + 1)).filter (fun i : Nat => decide (b ∈ Y0q f (i : Int)))).map Int.ofNat = ((List.range k).filter (fun i : Nat => decide (b ∈ Y0q f (i : Int)))).map Int.ofNat ++ (if b ∈ Y0q f (k : Int) then [(k : Int)] else []) := by
 rw [List.range_succ, List.filter_append, List.map_append]
 congr 1
 by_cases hh : b ∈ Y0q f (k : Int) <;> simp [hh]
theorem Y9u (f : GFunc) (b : Int) (k : Nat) : (((List.range k).filter (fun i : Nat => decide (b ∈ Y0q f (i : Int)))).map Int.ofNat).length ≤ k := by
 rw [List.length_map]
 exact Nat.le_trans (List.length_filter_le _ _) (by simp)
theorem Y3p {f : GFunc} (hl : f.blocks.length ≤ 2000000) (b : Int) : Z1d f b = some (Z0h f b) := by
 have hLIM : LIM = 140737488355328 := rfl
 unfold Z1d
 generalize hB : Y6 _ _ = L
 have K := Y3n hB (fun k => (((List.range k).filter (fun i : Nat => decide (b ∈ Y0q f (i : Int)))).map Int.ofNat, (k : Int))) f.blocks.length (Z0h f b) rfl (by
  intro k hk
  have hlk := Y9u f b k
  have hs : (W9 (at_ f.blocks (k : Int)).term).length ≤ 2 := Z9x _
  simp only
  rw [if_pos (by simpa using hk), if_pos (by omega), X0w _ _ (by omega), X7t]
  simp only [obs]
  rw [X1v]
  by_cases hh : b ∈ Y0q f (k : Int)
  ·rw [if_pos hh, if_pos (decide_eq_true (by exact hh)), if_pos (by simp only [List.length_singleton]; omega), if_pos (Y5 (by omega) (by omega))]
   rfl
  ·rw [if_neg hh, if_neg (by rw [decide_eq_true_eq]; exact hh), if_pos (Y5 (by omega) (by omega)), List.append_nil]
   rfl) (by
  simp only
  rw [if_neg (by simp)]
  rfl)
 rw [K]
 rfl
theorem Y6d {f : GFunc} (hl : f.blocks.length ≤ 2000000) (b : Int) : Z0y f b = some (Z0h f b) := by
 have hLIM : LIM = 140737488355328 := rfl
 unfold Z0y
 generalize hB : Y6 _ _ = L
 have K := Y3n hB (fun k => (((List.range k).filter (fun i : Nat => decide (b ∈ Y0q f (i : Int)))).map Int.ofNat, (k : Int))) f.blocks.length (Z0h f b) rfl (by
  intro k hk
  have hlk := Y9u f b k
  have hs : (Y0q f (k : Int)).length ≤ 2 := Z9x _
  simp only
  rw [if_pos (by simpa using hk), X2c f (k : Int) (by omega), obs, Y5g _ _ (by omega)]
  simp only [obs]
  rw [X1v]
  by_cases hh : b ∈ Y0q f (k : Int)
  ·rw [if_pos hh, if_pos (decide_eq_true (by exact hh)), if_pos (by simp only [List.length_singleton]; omega), if_pos (Y5 (by omega) (by omega))]
   rfl
  ·rw [if_neg hh, if_neg (by rw [decide_eq_true_eq]; exact hh), if_pos (Y5 (by omega) (by omega)), List.append_nil]
   rfl) (by
  simp only
  rw [if_neg (by simp)]
  rfl)
 rw [K]
 rfl
theorem mem_predL {f : GFunc} {a b : Int} : a ∈ Z0h f b ↔ (0 ≤ a ∧ a < (f.blocks.length : Int)) ∧ b ∈ Y0q f a := by
 unfold Z0h
 simp only [List.mem_map, List.mem_filter, List.mem_range, decide_eq_true_eq]
 constructor
 ·rintro ⟨k, ⟨hk, hm⟩, rfl⟩
  exact ⟨⟨by simp, by simpa using hk⟩, hm⟩
 ·rintro ⟨ha, hm⟩
  obtain ⟨k, rfl⟩ := Int.eq_ofNat_of_zero_le ha.1
  exact ⟨k, ⟨by omega, hm⟩, rfl⟩
theorem W2p (f : GFunc) (b : Int) : (Z0h f b).length ≤ f.blocks.length := Y9u f b _
theorem fmI.ok {i : GInst} {n m : Int} (h : fmI i n m) : okI i := by
 by_cases e : i.op_ = 24 ∨ i.op_ = 25
 ·exact .inl (h.w0 e)
 ·exact .inr ⟨fun k => e (.inl k), fun k => e (.inr k)⟩
theorem fmF.okI {f : GFunc} {n : Int} (h : fmF f n) : ∀ b ∈ f.blocks, ∀ i ∈ b.insts, AM.okI i := fun b hb i hi => (h.insts b hb i hi).ok
theorem Y3q {f : GFunc} (h : bndF f) (ho : ∀ b ∈ f.blocks, ∀ i ∈ b.insts, okI i) (id : Int) : K6 f id = some (typ f id) := by
 unfold K6 typ
 rw [X0k h, W3m h]
 simp only [obs]
 unfold instF
 rcases Z5d f id with hp | ⟨hp, h1, h2⟩ | ⟨h1, h2, h3⟩
 ·rw [hp]; rfl
 ·rw [hp]
  simp only
  rw [if_neg (by decide), if_pos (by decide), if_pos ⟨h1, h2⟩, if_neg (by decide)]
  simp only [if_true]
 ·generalize W1 f id = p at h1 h2 h3 ⊢
  have hb := h.rows _ (X5 h1)
  have hi := ho _ (X5 h1)
  unfold sz at h3
  have e1 : (p.1 == (-2)) = false := by simp; omega
  have e2 : (p.1 == (-1)) = false := by simp; omega
  have e3 : ¬ p.1 = -2 := by omega
  have e4 : ¬ p.1 = -1 := by omega
  have e5 : ¬ p.1 < 0 := by omega
  simp only [e1, e2, e3, e4, e5, Bool.false_eq_true, if_false, if_pos h1]
  by_cases hq : p.2 < ((at_ f.blocks p.1).phis.length : Int)
  ·simp only [hq, decide_true, if_true]
   rw [if_pos ⟨h2, trivial⟩]
  ·have hz : 0 ≤ p.2 - ((at_ f.blocks p.1).phis.length : Int) ∧ p.2 - ((at_ f.blocks p.1).phis.length : Int) < ((at_ f.blocks p.1).insts.length : Int) := by omega
   simp only [hq, decide_false, Bool.false_eq_true, if_false, orI]
   exact congrArg some (W5d (hi _ (X5 hz)))
theorem Y1g {f : GFunc} (h : bndF f) {id : Int} (hid : id ≤ 9223372036854775807) : V7 f id = some (typ f id) := by
 unfold V7 typ
 rw [X4z h hid]
 simp only [obs]
 rcases Z5d f id with hp | ⟨hp, h1, h2⟩ | ⟨h1, h2, h3⟩
 ·rw [hp]; rfl
 ·rw [hp]
  simp only
  rw [if_neg (by decide), if_pos (by decide), if_pos ⟨h1, h2⟩, if_neg (by decide)]
  simp only [if_true]
 ·generalize W1 f id = p at h1 h2 h3 ⊢
  have hb := h.rows _ (X5 h1)
  unfold sz at h3
  have e1 : (p.1 == (-2)) = false := by simp; omega
  have e2 : (p.1 == (-1)) = false := by simp; omega
  have e3 : ¬ p.1 = -2 := by omega
  have e4 : ¬ p.1 = -1 := by omega
  simp only [e1, e2, e3, e4, Bool.false_eq_true, if_false, if_pos h1]
  by_cases hq : p.2 < ((at_ f.blocks p.1).phis.length : Int)
  ·simp only [hq, decide_true, if_true]
   rw [if_pos ⟨h2, trivial⟩]
  ·have hz : 0 ≤ p.2 - ((at_ f.blocks p.1).phis.length : Int) ∧ p.2 - ((at_ f.blocks p.1).phis.length : Int) < ((at_ f.blocks p.1).insts.length : Int) := by omega
   simp only [hq, decide_false, Bool.false_eq_true, if_false]
   rw [if_pos (Y5 (by omega) (by omega)), if_pos hz]
end
section
theorem fmI.le {i : GInst} {n m : Int} (h : fmI i n m) (hn : n ≤ 9223372036854775807) : i.a ≤ 9223372036854775807 ∧ i.b ≤ 9223372036854775807 ∧ i.c ≤ 9223372036854775807 := by
 have h1 := h.ids
 have z1 := h.zero
 have z2 := h.zerob
 have z3 := h.zeroc
 unfold opsI at h1 z1 z2 z3
 by_cases c1 : (1 ≤ i.op_ ∧ i.op_ ≤ 17) ∨ i.op_ = 24
 ·have n26 : i.op_ ≠ 26 := by omega
  simp only [c1, if_true, n26, if_false, List.length_cons, List.length_nil] at h1 z3
  have a := h1 i.a (by simp)
  have b := h1 i.b (by simp)
  have c := z3 (by omega)
  omega
 ·by_cases c2 : (18 ≤ i.op_ ∧ i.op_ ≤ 20) ∨ i.op_ = 23 ∨ i.op_ = 25 ∨ i.op_ = 27
  ·have n26 : i.op_ ≠ 26 := by omega
   simp only [c1, c2, if_true, n26, if_false, List.length_cons, List.length_nil] at h1 z2 z3
   have a := h1 i.a (by simp)
   have b := z2 (by omega)
   have c := z3 (by omega)
   omega
  ·by_cases c3 : i.op_ = 22
   ·simp only [c1, c2, c3, if_true, if_false] at h1
    have a := h1 i.a (by simp)
    have b := h1 i.b (by simp)
    have c := h1 i.c (by simp)
    omega
   ·by_cases c4 : i.op_ = 26
    ·simp only [c4, if_true] at z1 z2 z3
     have a := z1 (by omega)
     have b := z2 (by omega)
     have c := z3 (by omega)
     omega
    ·simp only [c1, c2, c3, c4, if_false, List.length_nil] at z1 z2 z3
     have a := z1 (by omega)
     have b := z2 (by omega)
     have c := z3 (by omega)
     omega
theorem X3h {f : GFunc} {id : Int} (h : 0 ≤ id ∧ id < (cnt f : Int)) : (W1 f id).1 ≠ -2 := by
 unfold W1
 rw [if_neg (by omega)]
 by_cases hp : id < (f.params.length : Int)
 ·rw [if_pos hp]; simp
 ·rw [if_neg hp]
  unfold cnt at h
  obtain ⟨c, a, e⟩ := W2r f.blocks 0 (id - (f.params.length : Int)).toNat (by omega)
  rw [e]
  simp [plI]
theorem W5c {f : GFunc} {n : Int} (hf : fmF f n) {id : Int} (h : 0 ≤ id ∧ id < (cnt f : Int)) : 0 ≤ typ f id := by
 unfold typ
 rw [if_neg (X3h h)]
 have hw : ∀ w, isW w → 0 ≤ w := fun w hw => by rcases hw with rfl | rfl | rfl | rfl <;> decide
 rcases Z5d f id with hp | ⟨hp, h1, h2⟩ | ⟨h1, h2, h3⟩
 ·exact absurd (by rw [hp]) (X3h h)
 ·rw [hp]
  simp only [if_true]
  exact hw _ (hf.pw _ (X5 ⟨h1, h2⟩))
 ·generalize W1 f id = p at h1 h2 h3 ⊢
  unfold sz at h3
  rw [if_neg (by omega)]
  by_cases hq : p.2 < ((at_ f.blocks p.1).phis.length : Int)
  ·rw [if_pos hq]
   exact hw _ (hf.phis _ (X5 h1) _ (X5 ⟨h2, hq⟩)).1
  ·rw [if_neg hq]
   have hz : 0 ≤ p.2 - ((at_ f.blocks p.1).phis.length : Int) ∧ p.2 - ((at_ f.blocks p.1).phis.length : Int) < ((at_ f.blocks p.1).insts.length : Int) := by omega
   have hi := hf.insts _ (X5 h1) _ (X5 hz)
   generalize at_ (at_ f.blocks p.1).insts (p.2 - ((at_ f.blocks p.1).phis.length : Int)) = i at hi
   have hw0 : 0 ≤ i.w := by
    by_cases e : i.op_ = 24 ∨ i.op_ = 25
    ·rw [hi.w0 e]; decide
    ·exact hw _ (hi.w1 e)
   unfold W3 W6
   repeat' split
   all_goals first | exact hw0 | decide
noncomputable def tyIB (f : GFunc) (i : GInst) : Bool :=
 if iB i.op_ 1 17 = true then (typ f i.a == i.w && typ f i.b == i.w) else
 if (i.op_ == 27) = true then typ f i.a == i.w else
 if ((i.op_ == 18) || (i.op_ == 19)) = true then ((typ f i.a != 0) && decide (typ f i.a < i.w)) else
 if (i.op_ == 20) = true then decide (typ f i.a > i.w) else
 if (i.op_ == 22) = true then (typ f i.a == 1 && (typ f i.b == i.w && typ f i.c == i.w)) else
 if (i.op_ == 23) = true then typ f i.a == 32 else
 if (i.op_ == 24) = true then (typ f i.a == 32 && typ f i.b == 8) else
 if (i.op_ == 25) = true then typ f i.a != 0 else true
theorem W0t {f : GFunc} (h : bndF f) (ho : ∀ b ∈ f.blocks, ∀ i ∈ b.insts, okI i) (i : GInst) : Z4v f i = some (tyIB f i) := by
 have e1 : ∀ id w, V1 id w f = some (typ f id == w) := fun id w => by
  unfold V1
  rw [Y3q h ho, obs]
 unfold Z4v tyIB
 rw [Y3q h ho, obs]
 have e2 : U3 i.op_ = iB i.op_ 1 17 := rfl
 rw [e2]
 simp only [e1, obs]
 by_cases c1 : iB i.op_ 1 17 = true
 ·rw [if_pos c1, if_pos c1]
  cases (typ f i.a == i.w) <;> simp
 rw [if_neg c1, if_neg c1]
 by_cases c2 : (i.op_ == 27) = true
 ·rw [if_pos c2, if_pos c2]
 rw [if_neg c2, if_neg c2]
 by_cases c3 : ((i.op_ == 18) || (i.op_ == 19)) = true
 ·rw [if_pos c3, if_pos c3]
 rw [if_neg c3, if_neg c3]
 by_cases c4 : (i.op_ == 20) = true
 ·rw [if_pos c4, if_pos c4]
 rw [if_neg c4, if_neg c4]
 by_cases c5 : (i.op_ == 22) = true
 ·rw [if_pos c5, if_pos c5]
  cases (typ f i.a == 1) <;> cases (typ f i.b == i.w) <;> simp
 rw [if_neg c5, if_neg c5]
 by_cases c6 : (i.op_ == 23) = true
 ·rw [if_pos c6, if_pos c6]
 rw [if_neg c6, if_neg c6]
 by_cases c7 : (i.op_ == 24) = true
 ·rw [if_pos c7, if_pos c7]
  cases (typ f i.a == 32) <;> simp
 rw [if_neg c7, if_neg c7]
 by_cases c8 : (i.op_ == 25) = true
 ·rw [if_pos c8, if_pos c8]
 rw [if_neg c8, if_neg c8]
theorem W0e {f : GFunc} {n m : Int} (h : bndF f) (hf : fmF f n) {i : GInst} (hi : fmI i (cnt f) m) : Z7e f i = some (tyIB f i) := by
 have hc := h.cnt_le
 obtain ⟨l1, l2, l3⟩ := hi.le (by omega)
 have nn : (i.op_ = 18 ∨ i.op_ = 19 ∨ i.op_ = 25) → 0 ≤ typ f i.a := fun e => by
  refine W5c hf (hi.ids _ ?_)
  unfold opsI
  rw [if_neg (by omega), if_pos (by omega)]
  simp
 have pos : ∀ z : Int, 0 ≤ z → decide (z > 0) = (z != 0) := fun z hz => by
  refine W6w ?_
  simp
  omega
 unfold Z7e tyIB
 rw [Y1g h l1, Y1g h l2, Y1g h l3]
 simp only [obs, Y9m]
 by_cases c1 : iB i.op_ 1 17 = true
 ·rw [if_pos c1, if_pos c1]
  cases (typ f i.a == i.w) <;> simp
 rw [if_neg c1, if_neg c1]
 by_cases c3 : ((i.op_ == 18) || (i.op_ == 19)) = true
 ·have c3' : i.op_ = 18 ∨ i.op_ = 19 := by simpa using c3
  rw [if_pos c3, if_neg (show ¬ (i.op_ == 27) = true by simp; omega), if_pos c3, pos _ (nn (by omega))]
 rw [if_neg c3]
 have c3' : ¬ (i.op_ = 18 ∨ i.op_ = 19) := by simpa using c3
 by_cases c4 : (i.op_ == 20) = true
 ·have c4' : i.op_ = 20 := by simpa using c4
  rw [if_pos c4, if_neg (show ¬ (i.op_ == 27) = true by simp; omega), if_neg c3, if_pos c4]
 rw [if_neg c4]
 by_cases c5 : (i.op_ == 22) = true
 ·have c5' : i.op_ = 22 := by simpa using c5
  rw [if_pos c5, if_neg (show ¬ (i.op_ == 27) = true by simp; omega), if_neg c3, if_neg c4, if_pos c5]
  cases (typ f i.a == 1) <;> cases (typ f i.b == i.w) <;> simp
 rw [if_neg c5]
 by_cases c6 : (i.op_ == 23) = true
 ·have c6' : i.op_ = 23 := by simpa using c6
  rw [if_pos c6, if_neg (show ¬ (i.op_ == 27) = true by simp; omega), if_neg c3, if_neg c4, if_neg c5, if_pos c6]
 rw [if_neg c6]
 by_cases c7 : (i.op_ == 24) = true
 ·have c7' : i.op_ = 24 := by simpa using c7
  rw [if_pos c7, if_neg (show ¬ (i.op_ == 27) = true by simp; omega), if_neg c3, if_neg c4, if_neg c5, if_neg c6, if_pos c7]
  cases (typ f i.a == 32) <;> simp
 rw [if_neg c7]
 by_cases c8 : (i.op_ == 25) = true
 ·have c8' : i.op_ = 25 := by simpa using c8
  rw [if_pos c8, if_neg (show ¬ (i.op_ == 27) = true by simp; omega), if_neg c3, if_neg c4, if_neg c5, if_neg c6, if_neg c7, if_pos c8, pos _ (nn (by omega))]
 rw [if_neg c8]
 by_cases c2 : (i.op_ == 27) = true
 ·rw [if_pos c2, if_pos c2]
 ·rw [if_neg c2, if_neg c2, if_neg c3, if_neg c4, if_neg c5, if_neg c6, if_neg c7, if_neg c8]
noncomputable def tyT (f : GFunc) (t : GTerm) : Bool := if (t.kind == 1) = true then (if (typ f t.a != f.ret) = true then true else if (t.kind == 3) = true then typ f t.a != 1 else false) else if (t.kind == 3) = true then typ f t.a != 1 else false
def tyP (f : GFunc) : Prop := ∀ b ∈ f.blocks, (∀ p ∈ b.phis, ∀ x ∈ p.ins, typ f x = p.w) ∧ (∀ i ∈ b.insts, tyIB f i = true) ∧ tyT f b.term = false
theorem W0s {f : GFunc} {n : Int} (h : bndF f) (hf : fmF f n) : Z4u f = some (pB (tyP f)) := by
 have ho := hf.okI
 have hb := h.blocks
 unfold Z4u
 generalize hB : Y6 _ _ = L
 have K := Z4q hB f.blocks (fun b => (∀ p ∈ b.phis, ∀ x ∈ p.ins, typ f x = p.w) ∧ (∀ i ∈ b.insts, tyIB f i = true) ∧ tyT f b.term = false) (by
  intro k hk
  have h0 : 0 ≤ (k : Int) ∧ (k : Int) < (f.blocks.length : Int) := by omega
  have hm := X5 h0
  have hr := h.rows _ hm
  have hi := h.ins _ hm
  rw [if_pos (by simpa using hk), if_pos h0]
  generalize at_ f.blocks (k : Int) = b at hm hr hi ⊢
  generalize hC : Y6 _ _ = M
  have K := Z4q hC b.phis (fun p => ∀ x ∈ p.ins, typ f x = p.w) (by
   intro j hj
   have h1 : 0 ≤ (j : Int) ∧ (j : Int) < (b.phis.length : Int) := by omega
   have hp := X5 h1
   rw [if_pos (by simpa using hj), if_pos h1]
   generalize at_ b.phis (j : Int) = p at hp ⊢
   rw [Z0u p.ins _ (fun x => !pB (typ f x = p.w)) (fun x _ => by
    unfold Z2y
    rw [Y3q h ho, obs]
    congr 1
    rw [X8j]
    exact X1j (by simp)) (by have := hi p hp; omega), obs, X4p]
   by_cases e : ∀ x ∈ p.ins, typ f x = p.w
   ·rw [if_neg (by rw [pB_t e]; decide), if_pos (Y5 (by omega) (by omega)), if_pos (pB_t e)]
   ·rw [if_pos (by rw [pB_f e]; decide), if_neg (by rw [pB_f e]; decide)]) (by rw [if_neg (by simp)])
  rw [K]
  by_cases e1 : ∀ p ∈ b.phis, ∀ x ∈ p.ins, typ f x = p.w
  ·rw [if_pos (pB_t e1), obs]
   simp only
   rw [Z8y b.insts _ (fun i => !tyIB f i) (fun i _ => by
    unfold Z2x
    rw [W0t h ho, obs]) (by omega), obs, Y4p]
   by_cases e2 : b.insts.all (tyIB f) = true
   ·have e2' : ∀ i ∈ b.insts, tyIB f i = true := by simpa using e2
    rw [if_neg (by rw [e2]; decide), Y3q h ho]
    simp only [obs]
    have et : (if (b.term.kind == 1) = true then (if (typ f b.term.a != f.ret) = true then some true else if (b.term.kind == 3) = true then some (typ f b.term.a != 1) else some false) else if (b.term.kind == 3) = true then some (typ f b.term.a != 1) else some false) = some (tyT f b.term) := by
     unfold tyT
     repeat' split
     all_goals rfl
    rw [et, obs]
    by_cases e3 : tyT f b.term = true
    ·rw [if_pos e3, if_neg (by rw [pB_iff]; rintro ⟨_, _, k⟩; rw [e3] at k; cases k)]
    ·have e3' : tyT f b.term = false := by simpa using e3
     rw [if_neg e3, if_pos (Y5 (by omega) (by omega)), if_pos (pB_t ⟨e1, e2', e3'⟩)]
   ·rw [if_pos (by simpa using e2), if_neg (by rw [pB_iff]; rintro ⟨_, k, _⟩; exact e2 (by simpa using k))]
  ·rw [if_neg (by rw [pB_f e1]; decide), obs]
   simp only
   rw [if_neg (by rw [pB_iff]; rintro ⟨k, _⟩; exact e1 k)]) (by rw [if_neg (by simp)])
 rw [K]
 exact end_pB
end
section
theorem phi_le {f : GFunc} {n : Int} (h : bndF f) (hf : fmF f n) {b : GBlock} (hb : b ∈ f.blocks) {p : GPhi} (hp : p ∈ b.phis) {x : Int} (hx : x ∈ p.ins) : 0 ≤ x ∧ x < (cnt f : Int) ∧ x ≤ 9223372036854775807 := by
 have h1 := (hf.phis b hb p hp).2.2 x hx
 have hc := h.cnt_le
 omega
theorem fmT.le {t : GTerm} {n m : Int} (h : fmT t n m) (hn : n ≤ 9223372036854775807) : t.kind = 1 ∨ t.kind = 3 → t.a ≤ 9223372036854775807 := fun e => by
 have := h.a e
 omega
theorem W5f {f : GFunc} {n m : Int} (h : bndF f) {t : GTerm} (ht : fmT t (cnt f) m) :
  (if (t.kind == 1) = true then (Option.bind (V7 f t.a) fun x44 => (if (x44 != f.ret) = true then some true else (if (t.kind == 3) = true then (Option.bind (V7 f t.a) fun x48 => some (x48 != 1)) else some false)))
   else (if (t.kind == 3) = true then (Option.bind (V7 f t.a) fun x51 => some (x51 != 1)) else some false)) = some (tyT f t) := by
 have hc := h.cnt_le
 have hl := ht.le (by omega)
 unfold tyT
 by_cases c1 : (t.kind == 1) = true
 ·have k1 : t.kind = 1 := by simpa using c1
  have k3 : ¬ (t.kind == 3) = true := by simp; omega
  rw [if_pos c1, if_pos c1, Y1g h (hl (.inl k1)), obs, if_neg k3, if_neg k3]
  split <;> rfl
 ·rw [if_neg c1, if_neg c1]
  by_cases c3 : (t.kind == 3) = true
  ·have k3 : t.kind = 3 := by simpa using c3
   rw [if_pos c3, if_pos c3, Y1g h (hl (.inr k3)), obs]
  ·rw [if_neg c3, if_neg c3]
theorem W0d {f : GFunc} {n : Int} (h : bndF f) (hf : fmF f n) : Z5r f = some (pB (tyP f)) := by
 have hb := h.blocks
 unfold Z5r
 generalize hB : Y6 _ _ = L
 have K := Z4q hB f.blocks (fun b => (∀ p ∈ b.phis, ∀ x ∈ p.ins, typ f x = p.w) ∧ (∀ i ∈ b.insts, tyIB f i = true) ∧ tyT f b.term = false) (by
  intro k hk
  have h0 : 0 ≤ (k : Int) ∧ (k : Int) < (f.blocks.length : Int) := by omega
  have hm := X5 h0
  have hr := h.rows _ hm
  have hi := h.ins _ hm
  rw [if_pos (by simpa using hk), if_pos h0]
  generalize at_ f.blocks (k : Int) = b at hm hr hi ⊢
  generalize hC : Y6 _ _ = M
  have K := Z4q hC b.phis (fun p => ∀ x ∈ p.ins, typ f x = p.w) (by
   intro j hj
   have h1 : 0 ≤ (j : Int) ∧ (j : Int) < (b.phis.length : Int) := by omega
   have hp := X5 h1
   rw [if_pos (by simpa using hj)]
   simp only [if_pos h1]
   generalize at_ b.phis (j : Int) = p at hp ⊢
   have hpl := hi p hp
   generalize hD : Y6 _ _ = N
   have K := Z4q hD p.ins (fun x => typ f x = p.w) (by
    intro q hq
    have h2 : 0 ≤ (q : Int) ∧ (q : Int) < (p.ins.length : Int) := by omega
    have hx := phi_le h hf hm hp (X5 h2)
    rw [if_pos (by simpa using hq), if_pos h2, Y1g h hx.2.2, obs]
    generalize at_ p.ins (q : Int) = x
    by_cases e : typ f x = p.w
    ·rw [if_neg (by simpa using e), if_pos (Y5 (by omega) (by omega)), if_pos (pB_t e)]
    ·rw [if_pos (by simpa using e), if_neg (by rw [pB_f e]; decide)]) (by rw [if_neg (by simp)])
   rw [K, obs]
   by_cases e : ∀ x ∈ p.ins, typ f x = p.w
   ·rw [pB_t e]
    simp only [if_true]
    rw [if_pos (Y5 (by omega) (by omega))]
   ·rw [pB_f e]; rfl) (by rw [if_neg (by simp)])
  rw [K, obs]
  by_cases e1 : ∀ p ∈ b.phis, ∀ x ∈ p.ins, typ f x = p.w
  ·rw [if_pos (pB_t e1)]
   simp only
   generalize hE : Y6 _ _ = N
   have K := Z4q hE b.insts (fun i => tyIB f i = true) (by
    intro q hq
    have h2 : 0 ≤ (q : Int) ∧ (q : Int) < (b.insts.length : Int) := by omega
    have hx := hf.insts b hm _ (X5 h2)
    rw [if_pos (by simpa using hq), if_pos h2, W0e h hf hx, obs]
    generalize at_ b.insts (q : Int) = i
    by_cases e : tyIB f i = true
    ·rw [if_neg (by rw [e]; decide), if_pos (Y5 (by omega) (by omega)), if_pos (pB_t e)]
    ·rw [if_pos (by simpa using e), if_neg (by rw [pB_f e]; decide)]) (by rw [if_neg (by simp)])
   rw [K, obs]
   by_cases e2 : ∀ i ∈ b.insts, tyIB f i = true
   ·rw [if_pos (pB_t e2)]
    simp only
    rw [W5f (n := n) h (hf.terms b hm), obs]
    by_cases e3 : tyT f b.term = true
    ·rw [if_pos e3, if_neg (by rw [pB_iff]; rintro ⟨_, _, k⟩; rw [e3] at k; cases k)]
    ·have e3' : tyT f b.term = false := by simpa using e3
     rw [if_neg e3, if_pos (Y5 (by omega) (by omega)), if_pos (pB_t ⟨e1, e2, e3'⟩)]
   ·rw [if_neg (by rw [pB_f e2]; decide)]
    simp only
    rw [if_neg (by rw [pB_iff]; rintro ⟨_, k, _⟩; exact e2 k)]
  ·rw [if_neg (by rw [pB_f e1]; decide)]
   simp only
   rw [if_neg (by rw [pB_iff]; rintro ⟨k, _⟩; exact e1 k)]) (by rw [if_neg (by simp)])
 rw [K]
 exact end_pB
def phP (f : GFunc) : Prop := ∀ k : Nat, k < f.blocks.length → ∀ p ∈ (at_ f.blocks (k : Int)).phis, p.ins.length = (Z0h f (k : Int)).length
theorem W3k {f : GFunc} (h : bndF f) : Z6e f = some (pB (phP f)) := by
 have hb := h.blocks
 unfold Z6e
 generalize hB : Y6 _ _ = L
 have K := Z8v hB f.blocks.length (fun k => ∀ p ∈ (at_ f.blocks (k : Int)).phis, p.ins.length = (Z0h f (k : Int)).length) (by
  intro k hk
  have h0 : 0 ≤ (k : Int) ∧ (k : Int) < (f.blocks.length : Int) := by omega
  have hr := h.rows _ (X5 h0)
  rw [if_pos (by simpa using hk), if_pos h0, Y3p hb, obs]
  rw [Y3e _ _ (fun p => !pB (p.ins.length = (Z0h f (k : Int)).length)) (fun p _ => by
   unfold Z1x
   congr 1
   rw [X8j]
   exact X1j (by simp only [bne_iff_ne, ne_eq]; omega)) (by omega), obs, X4p]
  by_cases e : ∀ p ∈ (at_ f.blocks (k : Int)).phis, p.ins.length = (Z0h f (k : Int)).length
  ·rw [if_neg (by rw [pB_t e]; decide), if_pos (Y5 (by omega) (by omega)), if_pos (pB_t e)]
  ·rw [if_pos (by rw [pB_f e]; decide), if_neg (by rw [pB_f e]; decide)]) (by rw [if_neg (by simp)])
 rw [K]
 exact end_pB
theorem W1y {f : GFunc} (h : bndF f) : Z7c f = some (pB (phP f)) := by
 have hb := h.blocks
 unfold Z7c
 generalize hB : Y6 _ _ = L
 have K := Z8v hB f.blocks.length (fun k => ∀ p ∈ (at_ f.blocks (k : Int)).phis, p.ins.length = (Z0h f (k : Int)).length) (by
  intro k hk
  have h0 : 0 ≤ (k : Int) ∧ (k : Int) < (f.blocks.length : Int) := by omega
  have hr := h.rows _ (X5 h0)
  rw [if_pos (by simpa using hk), Y6d hb, obs]
  simp only [if_pos h0]
  generalize hC : Y6 _ _ = M
  have K := Z4q hC (at_ f.blocks (k : Int)).phis (fun p => p.ins.length = (Z0h f (k : Int)).length) (by
   intro j hj
   have h1 : 0 ≤ (j : Int) ∧ (j : Int) < ((at_ f.blocks (k : Int)).phis.length : Int) := by omega
   rw [if_pos (by simpa using hj), if_pos h1]
   by_cases e : (at_ (at_ f.blocks (k : Int)).phis (j : Int)).ins.length = (Z0h f (k : Int)).length
   ·rw [if_neg (by simp only [bne_iff_ne, ne_eq]; omega), if_pos (Y5 (by omega) (by omega)), if_pos (pB_t e)]
   ·rw [if_pos (by simp only [bne_iff_ne, ne_eq]; omega), if_neg (by rw [pB_f e]; decide)]) (by rw [if_neg (by simp)])
  rw [K, obs]
  by_cases e : ∀ p ∈ (at_ f.blocks (k : Int)).phis, p.ins.length = (Z0h f (k : Int)).length
  ·rw [pB_t e]
   simp only [if_true]
   rw [if_pos (Y5 (by omega) (by omega))]
  ·rw [pB_f e]; rfl) (by rw [if_neg (by simp)])
 rw [K]
 exact end_pB
def enP (f : GFunc) : Prop := (at_ f.blocks 0).phis = [] ∧ Z0h f 0 = []
theorem W0v {f : GFunc} (h : bndF f) (hn : 1 ≤ f.blocks.length) : Z6b f = some (pB (enP f)) := by
 have hb := h.blocks
 unfold Z6b
 rw [if_pos ⟨by decide, by omega⟩, Y3p hb]
 simp only [obs]
 by_cases e : (at_ f.blocks 0).phis = []
 ·rw [if_pos (by rw [e]; rfl), obs]
  congr 1
  refine X1j ?_
  unfold enP
  simp [e]
 ·rw [if_neg (by simpa using e), obs, pB_f (fun k => e k.1)]
theorem W0f {f : GFunc} (h : bndF f) (hn : 1 ≤ f.blocks.length) : (Option.bind (Z0y f 0) fun x2 => (if decide (((List.length x2 : Int)) > 0) = true then (some true) else (if (0 : Int) ≤ 0 ∧ 0 < (List.length f.blocks : Int) then (some (decide (((List.length ((at_ f.blocks 0).phis) : Int)) > 0))) else none))) = some (!pB (enP f)) := by
 have hb := h.blocks
 rw [Y6d hb, obs]
 unfold enP
 by_cases e : Z0h f 0 = []
 ·rw [if_neg (by simp [e]), if_pos ⟨by decide, by omega⟩]
  congr 1
  rw [X8j]
  refine X1j ?_
  simp [e, List.length_pos_iff]
 ·rw [if_pos (by simpa [List.length_pos_iff] using e), pB_f (fun k => e k.2)]
  rfl
def X4k (m : GModule) (f : GFunc) (i : GInst) : Prop := i.w = (at_ m.funcs i.imm).ret ∧ i.args.length = (at_ m.funcs i.imm).params.length ∧ ∀ k : Nat, k < i.args.length → typ f (at_ i.args (k : Int)) = at_ (at_ m.funcs i.imm).params (k : Int)
theorem W3n {m : GModule} {f : GFunc} (h : bndF f) (ho : ∀ b ∈ f.blocks, ∀ i ∈ b.insts, okI i) {i : GInst} (hl : i.args.length ≤ 1000000000000) (hi : 0 ≤ i.imm ∧ i.imm < (m.funcs.length : Int)) : Z7n m f i = some (pB (X4k m f i)) := by
 unfold Z7n
 rw [if_pos hi]
 by_cases e1 : i.w = (at_ m.funcs i.imm).ret
 ·by_cases e2 : i.args.length = (at_ m.funcs i.imm).params.length
  ·rw [if_neg (by simp [e1, e2])]
   generalize hB : Y6 _ _ = L
   have K := Z8v hB i.args.length (fun k => typ f (at_ i.args (k : Int)) = at_ (at_ m.funcs i.imm).params (k : Int)) (by
    intro k hk
    rw [if_pos (by simpa using hk), if_pos ⟨by omega, by omega⟩, if_pos ⟨by omega, by omega⟩, Y3q h ho, obs]
    by_cases e : typ f (at_ i.args (k : Int)) = at_ (at_ m.funcs i.imm).params (k : Int)
    ·rw [if_neg (by simpa using e), if_pos (Y5 (by omega) (by omega)), if_pos (pB_t e)]
    ·rw [if_pos (by simpa using e), if_neg (by rw [pB_f e]; decide)]) (by rw [if_neg (by simp)])
   rw [K]
   refine end_pB.trans ?_
   congr 1
   exact Z7h ⟨fun k => ⟨e1, e2, k⟩, fun k => k.2.2⟩
  ·rw [if_pos (by
   split
   ·rfl
   ·simp only [bne_iff_ne, ne_eq]; omega), pB_f (fun k => e2 k.2.1)]
 ·rw [if_pos (by simp [e1]), pB_f (fun k => e1 k.1)]
def clP (m : GModule) (f : GFunc) : Prop := ∀ b ∈ f.blocks, ∀ i ∈ b.insts, i.op_ = 26 → X4k m f i
theorem W0j {m : GModule} {f : GFunc} (h : bndF f) (hf : fmF f m.funcs.length) : Z5s m f = some (pB (clP m f)) := by
 have hb := h.blocks
 have hc := h.cnt_le
 unfold Z5s
 generalize hB : Y6 _ _ = L
 have K := Z4q hB f.blocks (fun b => ∀ i ∈ b.insts, i.op_ = 26 → X4k m f i) (by
  intro k hk
  have h0 : 0 ≤ (k : Int) ∧ (k : Int) < (f.blocks.length : Int) := by omega
  have hm := X5 h0
  have hr := h.rows _ hm
  rw [if_pos (by simpa using hk)]
  simp only [if_pos h0]
  generalize at_ f.blocks (k : Int) = b at hm hr ⊢
  generalize hC : Y6 _ _ = M
  have K := Z4q hC b.insts (fun i => i.op_ = 26 → X4k m f i) (by
   intro j hj
   have h1 : 0 ≤ (j : Int) ∧ (j : Int) < (b.insts.length : Int) := by omega
   have hx := hf.insts b hm _ (X5 h1)
   have hal := h.args b hm _ (X5 h1)
   rw [if_pos (by simpa using hj), if_pos h1]
   generalize at_ b.insts (j : Int) = i at hx hal ⊢
   by_cases e0 : i.op_ = 26
   ·rw [if_neg (by simpa using e0), if_pos (hx.call e0)]
    by_cases e1 : i.w = (at_ m.funcs i.imm).ret
    ·by_cases e2 : i.args.length = (at_ m.funcs i.imm).params.length
     ·rw [if_neg (by simp [e1, e2])]
      generalize hD : Y6 _ _ = N
      have K := Z8v hD i.args.length (fun k => typ f (at_ i.args (k : Int)) = at_ (at_ m.funcs i.imm).params (k : Int)) (by
       intro k hk
       have ha : at_ i.args (k : Int) ∈ opsI i := by
        unfold opsI
        rw [if_neg (by omega), if_neg (by omega), if_neg (by omega), if_pos e0]
        exact X5 ⟨by omega, by omega⟩
       have hin := hx.ids _ ha
       rw [if_pos (by simpa using hk), if_pos ⟨by omega, by omega⟩, if_pos ⟨by omega, by omega⟩, Y1g h (by omega), obs]
       by_cases e : typ f (at_ i.args (k : Int)) = at_ (at_ m.funcs i.imm).params (k : Int)
       ·rw [if_neg (by simpa using e), if_pos (Y5 (by omega) (by omega)), if_pos (pB_t e)]
       ·rw [if_pos (by simpa using e), if_neg (by rw [pB_f e]; decide)]) (by rw [if_neg (by simp)])
      rw [K, obs]
      by_cases e : ∀ k : Nat, k < i.args.length → typ f (at_ i.args (k : Int)) = at_ (at_ m.funcs i.imm).params (k : Int)
      ·rw [pB_t e, pB_t (fun _ => ⟨e1, e2, e⟩)]
       simp only [if_true]
       rw [if_pos (Y5 (by omega) (by omega))]
      ·rw [pB_f e, pB_f (fun k => e (k e0).2.2)]; rfl
     ·rw [if_pos (by
   split
   ·rfl
   ·simp only [bne_iff_ne, ne_eq]; omega), pB_f (fun k => e2 (k e0).2.1)]; rfl
    ·rw [if_pos (by simp [e1]), pB_f (fun k => e1 (k e0).1)]; rfl
   ·rw [if_pos (by simpa using e0), if_pos (Y5 (by omega) (by omega)), if_pos (pB_t fun k => absurd k e0)]) (by rw [if_neg (by simp)])
  rw [K, obs]
  by_cases e : ∀ i ∈ b.insts, i.op_ = 26 → X4k m f i
  ·rw [pB_t e]
   simp only [if_true]
   rw [if_pos (Y5 (by omega) (by omega))]
  ·rw [pB_f e]; rfl) (by rw [if_neg (by simp)])
 rw [K]
 exact end_pB
end
section
theorem fmF.graph {f : GFunc} {n : Int} (h : fmF f n) : GraphOk f := by
 refine ⟨h.blocks.1, h.blocks.2, fun b hb x hx => ?_⟩
 have ht := h.terms b hb
 unfold W9 at hx
 by_cases c2 : (b.term.kind == 2) = true
 ·have k2 : b.term.kind = 2 := by simpa using c2
  rw [if_pos c2] at hx
  simp only [List.mem_singleton] at hx
  have := ht.x (.inl k2)
  omega
 ·rw [if_neg c2] at hx
  by_cases c3 : (b.term.kind == 3) = true
  ·have k3 : b.term.kind = 3 := by simpa using c3
   rw [if_pos c3] at hx
   simp only [List.mem_cons, List.not_mem_nil, or_false] at hx
   have h1 := ht.x (.inr k3)
   have h2 := ht.y k3
   omega
  ·rw [if_neg c3] at hx
   cases hx
theorem W0u {f : GFunc} (h : bndF f) {b : Nat} (hb : b < f.blocks.length) : Z6c f (b : Int) = some (pre f b : Int) := by
 have hbl := h.blocks
 unfold Z6c
 rw [if_pos ⟨by omega, by omega, by simp only [Int.toNat_natCast]; omega⟩]
 simp only [Int.toNat_natCast, Nat.sub_zero, List.drop_zero]
 have hl : (f.blocks.take b).length = b := by rw [List.length_take]; omega
 generalize hB : Y6 _ _ = L
 have K := Y3n hB (fun k => ((k : Int), (pre f k : Int))) b (pre f b : Int) (by simp [pre, sumz]) (by
  intro k hk
  have hat : at_ (f.blocks.take b) (k : Int) = at_ f.blocks (k : Int) := by
   rw [Z5k (by omega), Z5k (by omega), List.getElem_take]
  have hr := h.rows _ (X5 (xs := f.blocks) (n := (k : Int)) ⟨by omega, by omega⟩)
  have hp := h.pre_le k
  simp only [hl, hat]
  rw [if_pos (by simpa using hk), if_pos ⟨by omega, by omega⟩, if_pos (Y5 (by omega) (by omega)), if_pos (Y5 (by omega) (by omega)), Y4x (by omega)]
  unfold sz
  simp) (by
  simp only [hl]
  rw [if_neg (by simp)])
 rw [K, obs]
theorem implDom {f : GFunc} (hg : GraphOk f) (a : Int) {b : Nat} (hb : b < f.blocks.length) : Z3u f a (b : Int) = some (pB (Rch f (-1) (b : Int) ∧ ¬ Rch f a (b : Int))) := by
 obtain ⟨o1, e1, l1, h1⟩ := X3b hg (-1)
 obtain ⟨o2, e2, l2, h2⟩ := X3b hg a
 unfold Z3u
 rw [e1, e2]
 simp only [obs]
 rw [if_pos (show 0 ≤ (b : Int) ∧ (b : Int) < (o1.length : Int) from ⟨by omega, by omega⟩), if_pos (show 0 ≤ (b : Int) ∧ (b : Int) < (o2.length : Int) from ⟨by omega, by omega⟩)]
 by_cases r1 : Rch f (-1) (b : Int)
 ·rw [if_pos ((h1 b hb).2 r1), obs]
  congr 1
  refine X1j ?_
  rw [Bool.not_eq_true', ← Bool.not_eq_true, h2 b hb]
  exact ⟨fun k => ⟨r1, k⟩, fun k => k.2⟩
 ·rw [if_neg (fun k => r1 ((h1 b hb).1 k)), obs, pB_f (fun k => r1 k.1)]
theorem specDom {f : GFunc} (hg : GraphOk f) (a b : Int) : Z8h f a b = some (pB (Rch f (-1) b ∧ ¬ Rch f a b)) := by
 obtain ⟨o1, e1, _, l1, h1⟩ := Y6q hg (-1)
 obtain ⟨o2, e2, _, l2, h2⟩ := Y6q hg a
 unfold Z8h
 rw [e1, e2]
 simp only [obs]
 rw [Y5g _ _ (by omega), Y5g _ _ (by omega)]
 simp only [obs]
 by_cases r1 : Rch f (-1) b
 ·rw [if_pos (decide_eq_true ((h1 b).2 r1)), obs]
  congr 1
  refine X1j ?_
  rw [Bool.not_eq_true', decide_eq_false_iff_not, h2 b]
  exact ⟨fun k => ⟨r1, k⟩, fun k => k.2⟩
 ·rw [if_neg (by rw [decide_eq_true_eq, h1 b]; exact r1), obs, pB_f (fun k => r1 k.1)]
def seeP (f : GFunc) (id b at' : Int) : Prop := (W1 f id).1 = -1 ∨ ((W1 f id).1 ≠ -1 ∧ (W1 f id).1 = b ∧ (W1 f id).2 < at') ∨ ((W1 f id).1 ≠ -1 ∧ (W1 f id).1 ≠ b ∧ Rch f (-1) b ∧ ¬ Rch f (W1 f id).1 b)
theorem X7c {f : GFunc} (h : bndF f) (hg : GraphOk f) {id : Int} {b : Nat} (hb : b < f.blocks.length) {ahead at' : Int} (ha : (W1 f id).1 = (b : Int) → (id < ahead ↔ (W1 f id).2 < at')) : Z3k f id (b : Int) ahead = some (pB (seeP f id b at')) := by
 unfold Z3k seeP
 rw [X0k h, obs]
 by_cases c1 : (W1 f id).1 = -1
 ·rw [if_pos (by simpa using c1), pB_t (.inl c1)]
 ·rw [if_neg (by simpa using c1)]
  by_cases c2 : (W1 f id).1 = (b : Int)
  ·rw [if_pos (by simpa using c2)]
   congr 1
   refine X1j ?_
   rw [decide_eq_true_eq, ha c2]
   constructor
   ·exact fun k => .inr (.inl ⟨c1, c2, k⟩)
   ·rintro (k | k | k)
    ·exact absurd k c1
    ·exact k.2.2
    ·exact absurd c2 k.2.1
  ·rw [if_neg (by simpa using c2), implDom hg _ hb, obs]
   congr 1
   refine Z7h ⟨fun k => .inr (.inr ⟨c1, c2, k⟩), ?_⟩
   rintro (k | k | k)
   ·exact absurd k c1
   ·exact absurd k.2.1 c2
   ·exact k.2.2
theorem X2t {f : GFunc} (h : bndF f) (hg : GraphOk f) {id : Int} (hid : 0 ≤ id ∧ id < (cnt f : Int)) (b at' : Int) : Z0i f id b at' = some (pB (seeP f id b at')) := by
 have hc := h.cnt_le
 unfold Z0i seeP
 rw [X4z h (by omega), obs]
 by_cases c1 : (W1 f id).1 = -1
 ·rw [if_pos (by simpa using c1), pB_t (.inl c1)]
 ·rw [if_neg (by simpa using c1)]
  by_cases c2 : (W1 f id).1 = b
  ·rw [if_pos (by simpa using c2)]
   congr 1
   refine X1j ?_
   rw [decide_eq_true_eq]
   constructor
   ·exact fun k => .inr (.inl ⟨c1, c2, k⟩)
   ·rintro (k | k | k)
    ·exact absurd k c1
    ·exact k.2.2
    ·exact absurd c2 k.2.1
  ·have c3 : (W1 f id).1 ≥ 0 := by
    have := X3h hid
    rcases Z5d f id with hp | ⟨hp, h1, h2⟩ | ⟨h1, h2, h3⟩
    ·exact absurd (by rw [hp]) this
    ·exact absurd (by rw [hp]) c1
    ·exact h1.1
   rw [if_neg (by simpa using c2), if_pos (by simpa using c3), specDom hg, obs, obs]
   congr 1
   refine Z7h ⟨fun k => .inr (.inr ⟨c1, c2, k⟩), ?_⟩
   rintro (k | k | k)
   ·exact absurd k c1
   ·exact absurd k.2.1 c2
   ·exact k.2.2
def X5b (f : GFunc) (b : Int) : Prop :=
 (∀ j : Nat, j < (at_ f.blocks b).phis.length → ∀ k : Nat, k < (Z0h f b).length → Rch f (-1) (at_ (Z0h f b) (k : Int)) → seeP f (at_ (at_ (at_ f.blocks b).phis (j : Int)).ins (k : Int)) (at_ (Z0h f b) (k : Int)) (sz (at_ f.blocks (at_ (Z0h f b) (k : Int))))) ∧
 (∀ i : Nat, i < (at_ f.blocks b).insts.length → ∀ x ∈ opsI (at_ (at_ f.blocks b).insts (i : Int)), seeP f x b (((at_ f.blocks b).phis.length : Int) + i)) ∧
 ((at_ f.blocks b).term.kind = 1 ∨ (at_ f.blocks b).term.kind = 3 → seeP f (at_ f.blocks b).term.a b (sz (at_ f.blocks b)))
theorem X3g {f : GFunc} {id b : Int} (hb : 0 ≤ b) (h : (W1 f id).1 = b) : (W1 f id).2 < (sz (at_ f.blocks b) : Int) ∧ id = (pre f b.toNat : Int) + (W1 f id).2 := by
 refine ⟨?_, by rw [← h]; exact W2q (by omega)⟩
 rcases Z5d f id with hp | ⟨hp, h1, h2⟩ | ⟨h1, h2, h3⟩
 ·rw [hp] at h; simp at h; omega
 ·rw [hp] at h; simp at h; omega
 ·rw [← h]; exact h3
theorem W6d {f : GFunc} {n : Int} (h : bndF f) (hf : fmF f n) (hp : phP f) {b : Nat} (hb : b < f.blocks.length) {R : List Bool} (hR : R.length = f.blocks.length) (hR2 : ∀ k : Nat, k < f.blocks.length → (at_ R (k : Int) = true ↔ Rch f (-1) (k : Int))) :
  Z6d f (b : Int) R = some (pB (X5b f (b : Int))) := by
 have hbl := h.blocks
 have hg := hf.graph
 have hc := h.cnt_le
 have h0 : 0 ≤ (b : Int) ∧ (b : Int) < (f.blocks.length : Int) := by omega
 have hm := X5 h0
 have hr := h.rows _ hm
 have hpb := hp b hb
 unfold Z6d
 rw [if_pos h0, Y3p hbl, obs]
 generalize hB : Y6 _ _ = L
 have K := Z8v hB (at_ f.blocks (b : Int)).phis.length (fun j => ∀ k : Nat, k < (Z0h f (b : Int)).length → Rch f (-1) (at_ (Z0h f (b : Int)) (k : Int)) → seeP f (at_ (at_ (at_ f.blocks (b : Int)).phis (j : Int)).ins (k : Int)) (at_ (Z0h f (b : Int)) (k : Int)) (sz (at_ f.blocks (at_ (Z0h f (b : Int)) (k : Int))))) (by
  intro j hj
  have h1 : 0 ≤ (j : Int) ∧ (j : Int) < ((at_ f.blocks (b : Int)).phis.length : Int) := by omega
  have hpm := X5 h1
  have hpl := hpb _ hpm
  have hpf := (hf.phis _ hm _ hpm)
  rw [if_pos (by simpa using hj), if_pos h1]
  generalize at_ (at_ f.blocks (b : Int)).phis (j : Int) = p at hpm hpl hpf ⊢
  generalize hC : Y6 _ _ = M
  have K := Z8v hC p.ins.length (fun k => Rch f (-1) (at_ (Z0h f (b : Int)) (k : Int)) → seeP f (at_ p.ins (k : Int)) (at_ (Z0h f (b : Int)) (k : Int)) (sz (at_ f.blocks (at_ (Z0h f (b : Int)) (k : Int))))) (by
   intro k hk
   have h2 : 0 ≤ (k : Int) ∧ (k : Int) < (p.ins.length : Int) := by omega
   have h3 : 0 ≤ (k : Int) ∧ (k : Int) < ((Z0h f (b : Int)).length : Int) := by omega
   have hq := (mem_predL.1 (X5 h3)).1
   have hid := hpf.2.2 _ (X5 h2)
   rw [if_pos (by simpa using hk), if_pos h2, if_pos h3]
   generalize at_ (Z0h f (b : Int)) (k : Int) = q at hq ⊢
   generalize at_ p.ins (k : Int) = x at hid ⊢
   obtain ⟨q', rfl⟩ := Int.eq_ofNat_of_zero_le hq.1
   rw [if_pos ⟨hq.1, by rw [hR]; exact hq.2⟩]
   by_cases r : Rch f (-1) (q' : Int)
   ·rw [if_pos ((hR2 q' (by omega)).2 r), if_pos h3, Y5s h, obs, X7c h hg (by omega) (at' := (sz (at_ f.blocks (q' : Int)) : Int)) (fun e => by
     have := X3g hq.1 e
     exact ⟨fun _ => this.1, fun _ => hid.2⟩), obs]
    by_cases e : seeP f x (q' : Int) (sz (at_ f.blocks (q' : Int)))
    ·rw [pB_t e, obs, if_neg (by decide), if_pos (Y5 (by omega) (by omega)), if_pos (pB_t fun _ => e)]
    ·rw [pB_f e, obs, if_pos (by decide), if_neg (by rw [pB_f (fun k => e (k r))]; decide)]
   ·rw [if_neg (fun k => r ((hR2 q' (by omega)).1 k)), obs, if_neg (by decide), if_pos (Y5 (by omega) (by omega)), if_pos (pB_t fun k => absurd k r)]) (by rw [if_neg (by simp)])
  rw [K, obs, hpl]
  by_cases e : ∀ k : Nat, k < (Z0h f (b : Int)).length → Rch f (-1) (at_ (Z0h f (b : Int)) (k : Int)) → seeP f (at_ p.ins (k : Int)) (at_ (Z0h f (b : Int)) (k : Int)) (sz (at_ f.blocks (at_ (Z0h f (b : Int)) (k : Int))))
  ·rw [pB_t e]
   simp only [if_true]
   rw [if_pos (Y5 (by omega) (by omega))]
  ·rw [pB_f e]; rfl) (by rw [if_neg (by simp)])
 rw [K, obs]
 unfold X5b
 generalize hP1 : (∀ j : Nat, j < (at_ f.blocks (b : Int)).phis.length → ∀ k : Nat, k < (Z0h f (b : Int)).length → Rch f (-1) (at_ (Z0h f (b : Int)) (k : Int)) → seeP f (at_ (at_ (at_ f.blocks (b : Int)).phis (j : Int)).ins (k : Int)) (at_ (Z0h f (b : Int)) (k : Int)) (sz (at_ f.blocks (at_ (Z0h f (b : Int)) (k : Int))))) = P1
 by_cases e1 : P1
 ·rw [if_pos (pB_t e1)]
  simp only
  have hpre := h.pre_le b
  rw [W0u h hb, obs, if_pos (Y5 (by omega) (by omega)), obs]
  generalize hD : Y6 _ _ = N
  have K := Z8v hD (at_ f.blocks (b : Int)).insts.length (fun i => ∀ x ∈ opsI (at_ (at_ f.blocks (b : Int)).insts (i : Int)), seeP f x (b : Int) (((at_ f.blocks (b : Int)).phis.length : Int) + i)) (by
   intro i hi
   have h1 : 0 ≤ (i : Int) ∧ (i : Int) < ((at_ f.blocks (b : Int)).insts.length : Int) := by omega
   have him := X5 h1
   have hal := h.args _ hm _ him
   have hfi := hf.insts _ hm _ him
   rw [if_pos (by simpa using hi), if_pos h1, W3p hal, obs]
   generalize at_ (at_ f.blocks (b : Int)).insts (i : Int) = x at him hal hfi ⊢
   have hol : (opsI x).length ≤ 140737488355328 := by
    rcases X8k (i := x) with o | ⟨o, _⟩
    ·omega
    ·rw [o]; omega
   rw [Z0u _ _ (fun z => !pB (seeP f z (b : Int) (((at_ f.blocks (b : Int)).phis.length : Int) + i))) (fun z hz => by
    unfold Z3w
    have hin := hfi.ids z hz
    rw [Z6r (by omega) (by omega), X7c h hg hb (at' := ((at_ f.blocks (b : Int)).phis.length : Int) + i) (fun e => by
     have := (X3g h0.1 e).2
     simp only [Int.toNat_natCast] at this
     omega), obs]) hol, obs, X4p]
   by_cases e : ∀ z ∈ opsI x, seeP f z (b : Int) (((at_ f.blocks (b : Int)).phis.length : Int) + i)
   ·rw [if_neg (by rw [pB_t e]; decide), if_pos (Y5 (by omega) (by omega)), if_pos (pB_t e)]
   ·rw [if_pos (by rw [pB_f e]; decide), if_neg (by rw [pB_f e]; decide)]) (by rw [if_neg (by simp)])
  rw [K, obs]
  generalize hP2 : (∀ i : Nat, i < (at_ f.blocks (b : Int)).insts.length → ∀ x ∈ opsI (at_ (at_ f.blocks (b : Int)).insts (i : Int)), seeP f x (b : Int) (((at_ f.blocks (b : Int)).phis.length : Int) + i)) = P2
  by_cases e2 : P2
  ·rw [if_pos (pB_t e2)]
   simp only
   have ht := hf.terms _ hm
   by_cases e3 : (at_ f.blocks (b : Int)).term.kind = 1 ∨ (at_ f.blocks (b : Int)).term.kind = 3
   ·have ha := ht.a e3
    rw [if_neg (by rcases e3 with e3 | e3 <;> simp [e3]), Y5s h, obs, X7c h hg hb (at' := (sz (at_ f.blocks (b : Int)) : Int)) (fun e => by
     have := X3g h0.1 e
     exact ⟨fun _ => this.1, fun _ => ha.2⟩), obs, obs]
    congr 1
    exact Z7h ⟨fun k => ⟨e1, e2, fun _ => k⟩, fun k => k.2.2 e3⟩
   ·rw [if_pos (by
     have k1 : ¬ (at_ f.blocks (b : Int)).term.kind = 1 := fun k => e3 (.inl k)
     have k3 : ¬ (at_ f.blocks (b : Int)).term.kind = 3 := fun k => e3 (.inr k)
     simp [k1, k3]), obs, pB_t ⟨e1, e2, fun k => absurd k e3⟩]
  ·rw [if_neg (by rw [pB_f e2]; decide)]
   simp only
   rw [pB_f (fun k => e2 k.2.1)]
 ·rw [if_neg (by rw [pB_f e1]; decide)]
  simp only
  rw [pB_f (fun k => e1 k.1)]
end
section
def domP (f : GFunc) : Prop := ∀ b, Rch f (-1) b → X5b f b
theorem W1z {f : GFunc} {n : Int} (h : bndF f) (hf : fmF f n) (hp : phP f) : Z7d f = some (pB (domP f)) := by
 have hbl := h.blocks
 have hg := hf.graph
 have hc := h.cnt_le
 obtain ⟨out, eo, _, lo, ho⟩ := Y6q hg (-1)
 unfold Z7d
 rw [eo, obs]
 generalize hB : Y6 _ _ = L
 have K := Z4q hB out (fun b => X5b f b) (by
  intro kk hkk
  have hk0 : 0 ≤ (kk : Int) ∧ (kk : Int) < (out.length : Int) := by omega
  have hbr := (ho _).1 (X5 hk0)
  have h0' := hbr.lt hg
  rw [if_pos (by simpa using hkk), if_pos hk0, if_pos h0']
  generalize hbb : at_ out (kk : Int) = bb at hbr h0' ⊢
  obtain ⟨b, rfl⟩ := Int.eq_ofNat_of_zero_le h0'.1
  have hb : b < f.blocks.length := by omega
  have h0 := h0'
  have hm := X5 h0
  have hr := h.rows _ hm
  have hpb := hp b hb
  rw [Y6d hbl, obs]
  generalize hC0 : Y6 _ _ = M0
  have K := Z8v hC0 (at_ f.blocks (b : Int)).phis.length (fun j => ∀ k : Nat, k < (Z0h f (b : Int)).length → Rch f (-1) (at_ (Z0h f (b : Int)) (k : Int)) → seeP f (at_ (at_ (at_ f.blocks (b : Int)).phis (j : Int)).ins (k : Int)) (at_ (Z0h f (b : Int)) (k : Int)) (sz (at_ f.blocks (at_ (Z0h f (b : Int)) (k : Int))))) (by
   intro j hj
   have h1 : 0 ≤ (j : Int) ∧ (j : Int) < ((at_ f.blocks (b : Int)).phis.length : Int) := by omega
   have hpm := X5 h1
   have hpl := hpb _ hpm
   have hpf := (hf.phis _ hm _ hpm)
   rw [if_pos (by simpa using hj)]
   simp only [if_pos h1]
   generalize at_ (at_ f.blocks (b : Int)).phis (j : Int) = p at hpm hpl hpf ⊢
   generalize hC : Y6 _ _ = M
   have K := Z8v hC (Z0h f (b : Int)).length (fun k => Rch f (-1) (at_ (Z0h f (b : Int)) (k : Int)) → seeP f (at_ p.ins (k : Int)) (at_ (Z0h f (b : Int)) (k : Int)) (sz (at_ f.blocks (at_ (Z0h f (b : Int)) (k : Int))))) (by
    intro k hk
    have h2 : 0 ≤ (k : Int) ∧ (k : Int) < (p.ins.length : Int) := by omega
    have h3 : 0 ≤ (k : Int) ∧ (k : Int) < ((Z0h f (b : Int)).length : Int) := by omega
    have hq := (mem_predL.1 (X5 h3)).1
    have hid := hpf.2.2 _ (X5 h2)
    have hpl2 := W2p f (b : Int)
    rw [if_pos (by simpa using hk)]
    simp only [if_pos h3, if_pos h2]
    rw [if_pos hq]
    generalize at_ (Z0h f (b : Int)) (k : Int) = q at hq ⊢
    generalize at_ p.ins (k : Int) = x at hid ⊢
    have hrq := h.rows _ (X5 hq)
    rw [Y5g _ _ (by omega), obs, Z6r (by omega) (by omega)]
    by_cases r : Rch f (-1) q
    ·rw [if_pos (decide_eq_true ((ho _).2 r)), X2t h hg hid]
     have es : (((at_ f.blocks q).phis.length : Int) + ((at_ f.blocks q).insts.length : Int)) = (sz (at_ f.blocks q) : Int) := by unfold sz; omega
     rw [es, obs]
     by_cases e : seeP f x q (sz (at_ f.blocks q))
     ·rw [pB_t e, obs, if_neg (by decide), if_pos (Y5 (by omega) (by omega)), if_pos (pB_t fun _ => e)]
     ·rw [pB_f e, obs, if_pos (by decide), if_neg (by rw [pB_f (fun k => e (k r))]; decide)]
    ·rw [if_neg (by rw [decide_eq_true_eq, ho]; exact r), obs, if_neg (by decide), if_pos (Y5 (by omega) (by omega)), if_pos (pB_t fun k => absurd k r)]) (by rw [if_neg (by simp)])
   rw [K, obs]
   by_cases e : ∀ k : Nat, k < (Z0h f (b : Int)).length → Rch f (-1) (at_ (Z0h f (b : Int)) (k : Int)) → seeP f (at_ p.ins (k : Int)) (at_ (Z0h f (b : Int)) (k : Int)) (sz (at_ f.blocks (at_ (Z0h f (b : Int)) (k : Int))))
   ·rw [pB_t e]
    simp only [if_true]
    rw [if_pos (Y5 (by omega) (by omega))]
   ·rw [pB_f e]; rfl) (by rw [if_neg (by simp)])
  rw [K, obs]
  unfold X5b
  generalize hP1 : (∀ j : Nat, j < (at_ f.blocks (b : Int)).phis.length → ∀ k : Nat, k < (Z0h f (b : Int)).length → Rch f (-1) (at_ (Z0h f (b : Int)) (k : Int)) → seeP f (at_ (at_ (at_ f.blocks (b : Int)).phis (j : Int)).ins (k : Int)) (at_ (Z0h f (b : Int)) (k : Int)) (sz (at_ f.blocks (at_ (Z0h f (b : Int)) (k : Int))))) = P1
  by_cases e1 : P1
  ·rw [if_pos (pB_t e1)]
   simp only
   generalize hD : Y6 _ _ = N
   have K := Z8v hD (at_ f.blocks (b : Int)).insts.length (fun i => ∀ x ∈ opsI (at_ (at_ f.blocks (b : Int)).insts (i : Int)), seeP f x (b : Int) (((at_ f.blocks (b : Int)).phis.length : Int) + i)) (by
    intro i hi
    have h1 : 0 ≤ (i : Int) ∧ (i : Int) < ((at_ f.blocks (b : Int)).insts.length : Int) := by omega
    have him := X5 h1
    have hal := h.args _ hm _ him
    have hfi := hf.insts _ hm _ him
    rw [if_pos (by simpa using hi), if_pos h1, W2a hal, obs]
    generalize at_ (at_ f.blocks (b : Int)).insts (i : Int) = x at him hal hfi ⊢
    have hol : (opsI x).length ≤ 1000000000000 := by
     rcases X8k (i := x) with o | ⟨o, _⟩
     ·omega
     ·rw [o]; omega
    generalize hE : Y6 _ _ = Q
    have K := Z4q hE (opsI x) (fun z => seeP f z (b : Int) (((at_ f.blocks (b : Int)).phis.length : Int) + i)) (by
     intro k hk
     have h2 : 0 ≤ (k : Int) ∧ (k : Int) < ((opsI x).length : Int) := by omega
     have hin := hfi.ids _ (X5 h2)
     rw [if_pos (by simpa using hk), if_pos h2, if_pos (Y5 (by omega) (by omega)), X2t h hg hin, obs]
     generalize at_ (opsI x) (k : Int) = z
     by_cases e : seeP f z (b : Int) (((at_ f.blocks (b : Int)).phis.length : Int) + i)
     ·rw [pB_t e, if_neg (by decide), if_pos (Y5 (by omega) (by omega)), if_pos rfl]
     ·rw [pB_f e, if_pos (by decide), if_neg (by decide)]) (by rw [if_neg (by simp)])
    rw [K, obs]
    by_cases e : ∀ z ∈ opsI x, seeP f z (b : Int) (((at_ f.blocks (b : Int)).phis.length : Int) + i)
    ·rw [pB_t e]
     simp only [if_true]
     rw [if_pos (Y5 (by omega) (by omega))]
    ·rw [pB_f e]; rfl) (by rw [if_neg (by simp)])
   rw [K, obs]
   generalize hP2 : (∀ i : Nat, i < (at_ f.blocks (b : Int)).insts.length → ∀ x ∈ opsI (at_ (at_ f.blocks (b : Int)).insts (i : Int)), seeP f x (b : Int) (((at_ f.blocks (b : Int)).phis.length : Int) + i)) = P2
   by_cases e2 : P2
   ·rw [if_pos (pB_t e2)]
    simp only
    have ht := hf.terms _ hm
    have es : (((at_ f.blocks (b : Int)).phis.length : Int) + ((at_ f.blocks (b : Int)).insts.length : Int)) = (sz (at_ f.blocks (b : Int)) : Int) := by unfold sz; omega
    simp only [es]
    have et : (if ((at_ f.blocks (b : Int)).term.kind == 1) = true then (Option.bind (Z0i f (at_ f.blocks (b : Int)).term.a (b : Int) (sz (at_ f.blocks (b : Int)))) fun x73 => some (!x73)) else (if ((at_ f.blocks (b : Int)).term.kind == 3) = true then (Option.bind (Z0i f (at_ f.blocks (b : Int)).term.a (b : Int) (sz (at_ f.blocks (b : Int)))) fun x76 => some (!x76)) else some false)) =
      some (!pB ((at_ f.blocks (b : Int)).term.kind = 1 ∨ (at_ f.blocks (b : Int)).term.kind = 3 → seeP f (at_ f.blocks (b : Int)).term.a (b : Int) (sz (at_ f.blocks (b : Int))))) := by
     by_cases c1 : ((at_ f.blocks (b : Int)).term.kind == 1) = true
     ·have k1 : (at_ f.blocks (b : Int)).term.kind = 1 := by simpa using c1
      rw [if_pos c1, X2t h hg (ht.a (.inl k1)), obs]
      congr 2
      exact Z7h ⟨fun k _ => k, fun k => k (.inl k1)⟩
     ·rw [if_neg c1]
      by_cases c3 : ((at_ f.blocks (b : Int)).term.kind == 3) = true
      ·have k3 : (at_ f.blocks (b : Int)).term.kind = 3 := by simpa using c3
       rw [if_pos c3, X2t h hg (ht.a (.inr k3)), obs]
       congr 2
       exact Z7h ⟨fun k _ => k, fun k => k (.inr k3)⟩
      ·rw [if_neg c3, pB_t (fun k => by
        rcases k with k | k
        ·exact absurd (by simpa using k) c1
        ·exact absurd (by simpa using k) c3)]
       rfl
    rw [et, obs]
    by_cases e3 : (at_ f.blocks (b : Int)).term.kind = 1 ∨ (at_ f.blocks (b : Int)).term.kind = 3 → seeP f (at_ f.blocks (b : Int)).term.a (b : Int) (sz (at_ f.blocks (b : Int)))
    ·rw [pB_t e3, if_neg (by decide), if_pos (Y5 (by omega) (by omega)), if_pos (pB_t ⟨e1, e2, e3⟩)]
    ·rw [pB_f e3, if_pos (by decide), if_neg (by rw [pB_f (fun k => e3 k.2.2)]; decide)]
   ·rw [if_neg (by rw [pB_f e2]; decide)]
    simp only
    rw [if_neg (by rw [pB_f (fun k => e2 k.2.1)]; decide)]
  ·rw [if_neg (by rw [pB_f e1]; decide)]
   simp only
   rw [if_neg (by rw [pB_f (fun k => e1 k.1)]; decide)]) (by rw [if_neg (by simp)])
 rw [K]
 refine end_pB.trans ?_
 congr 1
 exact Z7h ⟨fun k b hb => k b ((ho b).2 hb), fun k b hb => k b ((ho b).1 hb)⟩
noncomputable def Y2j (m : GModule) (f : GFunc) : Int :=
 if pB (enP f) = false then 2 else if pB (phP f) = false then 3 else if pB (tyP f) = false then 4 else if pB (clP m f) = false then 5 else if pB (domP f) = false then 6 else 0
theorem Y6m {b : Bool} : (!b) = true ↔ b = false := by cases b <;> simp
theorem X4y {m : GModule} {f : GFunc} (h : bndF f) (hf : fmF f m.funcs.length) : Z4z m f = some (Y2j m f) := by
 have hn := hf.blocks.1
 unfold Z4z Y2j
 have hen := W0f h hn
 rw [hen]
 simp only [obs]
 by_cases e1 : pB (enP f) = false
 ·rw [if_pos (by rw [e1]; rfl), if_pos e1]
 ·rw [if_neg (by rw [Y6m]; exact e1), if_neg e1, W1y h, obs]
  by_cases e2 : pB (phP f) = false
  ·rw [if_pos (by rw [e2]; rfl), if_pos e2]
  ·rw [if_neg (by rw [Y6m]; exact e2), if_neg e2, W0d h hf, obs]
   by_cases e3 : pB (tyP f) = false
   ·rw [if_pos (by rw [e3]; rfl), if_pos e3]
   ·rw [if_neg (by rw [Y6m]; exact e3), if_neg e3, W0j h hf, obs]
    by_cases e4 : pB (clP m f) = false
    ·rw [if_pos (by rw [e4]; rfl), if_pos e4]
    ·have hp : phP f := by
      rcases Classical.em (phP f) with k | k
      ·exact k
      ·exact absurd (pB_f k) e2
     rw [if_neg (by rw [Y6m]; exact e4), if_neg e4, W1z h hf hp, obs]
     by_cases e5 : pB (domP f) = false
     ·rw [if_pos (by rw [e5]; rfl), if_pos e5]
     ·rw [if_neg (by rw [Y6m]; exact e5), if_neg e5]
theorem X5x {m : GModule} {f : GFunc} (h : bndF f) (hf : fmF f m.funcs.length) : Z4e m f = some (Y2j m f) := by
 have hn := hf.blocks.1
 have hbl := h.blocks
 have hoI := hf.okI
 have hg := hf.graph
 unfold Z4e Y2j
 rw [W0v h hn, obs]
 by_cases e1 : pB (enP f) = false
 ·rw [if_pos (by rw [e1]; rfl), if_pos e1]
 ·rw [if_neg (by rw [Y6m]; exact e1), if_neg e1, W3k h, obs]
  by_cases e2 : pB (phP f) = false
  ·rw [if_pos (by rw [e2]; rfl), if_pos e2]
  ·have hp : phP f := by
    rcases Classical.em (phP f) with k | k
    ·exact k
    ·exact absurd (pB_f k) e2
   rw [if_neg (by rw [Y6m]; exact e2), if_neg e2, W0s h hf, obs]
   by_cases e3 : pB (tyP f) = false
   ·rw [if_pos (by rw [e3]; rfl), if_pos e3]
   ·rw [if_neg (by rw [Y6m]; exact e3), if_neg e3]
    generalize hB : Y6 (fun st11 : Int => _) _ = L
    have K := Z4q hB f.blocks (fun b => ∀ i ∈ b.insts, i.op_ = 26 → X4k m f i) (by
     intro k hk
     have h0 : 0 ≤ (k : Int) ∧ (k : Int) < (f.blocks.length : Int) := by omega
     have hm := X5 h0
     have hr := h.rows _ hm
     rw [if_pos (by simpa using hk), if_pos h0]
     generalize at_ f.blocks (k : Int) = b at hm hr ⊢
     rw [Z8y b.insts _ (fun i => !pB (i.op_ = 26 → X4k m f i)) (fun i hi => by
      have hx := hf.insts b hm i hi
      have hal := h.args b hm i hi
      unfold Z3v
      by_cases e0 : i.op_ = 26
      ·rw [if_pos (by simpa using e0), W3n h hoI hal (hx.call e0)]
       simp only [obs]
       congr 2
       exact Z7h ⟨fun k _ => k, fun k => k e0⟩
      ·rw [if_neg (by simpa using e0), obs, pB_t (fun k => absurd k e0)]
       rfl) (by omega), obs, X4p]
     by_cases e : ∀ i ∈ b.insts, i.op_ = 26 → X4k m f i
     ·rw [if_neg (by rw [pB_t e]; decide), if_pos (Y5 (by omega) (by omega)), if_pos (pB_t e)]
     ·rw [if_pos (by rw [pB_f e]; decide), if_neg (by rw [pB_f e]; decide)]) (by rw [if_neg (by simp)])
    rw [K, obs]
    have ec : pB (∀ b ∈ f.blocks, ∀ i ∈ b.insts, i.op_ = 26 → X4k m f i) = pB (clP m f) := rfl
    rw [ec]
    by_cases e4 : pB (clP m f) = false
    ·rw [if_neg (by rw [e4]; decide), if_pos e4]
    ·have e4' : pB (clP m f) = true := by simpa using e4
     rw [if_pos e4', if_neg e4]
     simp only
     obtain ⟨out, eo, lo, ho⟩ := X3b hg (-1)
     rw [eo, obs]
     generalize hC : Y6 _ _ = M
     have K := Z8v hC out.length (fun k => Rch f (-1) (k : Int) → X5b f (k : Int)) (by
      intro k hk
      have h0 : 0 ≤ (k : Int) ∧ (k : Int) < (out.length : Int) := by omega
      have hkb : k < f.blocks.length := by omega
      rw [if_pos (by simpa using hk), if_pos h0]
      by_cases r : Rch f (-1) (k : Int)
      ·rw [if_pos ((ho k hkb).2 r), W6d h hf hp hkb lo ho, obs, obs]
       by_cases e : X5b f (k : Int)
       ·rw [pB_t e, if_neg (by decide), if_pos (Y5 (by omega) (by omega)), if_pos (pB_t fun _ => e)]
       ·rw [pB_f e, if_pos (by decide), if_neg (by rw [pB_f (fun k => e (k r))]; decide)]
      ·rw [if_neg (fun q => r ((ho k hkb).1 q)), obs, if_neg (by decide), if_pos (Y5 (by omega) (by omega)), if_pos (pB_t fun q => absurd q r)]) (by rw [if_neg (by simp)])
     rw [K, obs]
     have ed : pB (∀ k, k < out.length → Rch f (-1) (k : Int) → X5b f (k : Int)) = pB (domP f) := Z7h ⟨fun q b hb => by
      have h1 := hb.lt hg
      obtain ⟨k, rfl⟩ := Int.eq_ofNat_of_zero_le h1.1
      exact q k (by omega) hb, fun q k _ hb => q _ hb⟩
     rw [ed]
     by_cases e5 : pB (domP f) = false
     ·rw [if_neg (by rw [e5]; decide), if_pos e5]
     ·have e5' : pB (domP f) = true := by simpa using e5
      rw [if_pos e5', if_neg e5]
end
section
def sameB (x : GBlock) (ps : List GPhi) (is : List GInst) : Prop := ps.length = x.phis.length ∧ (∀ p ∈ ps, p.ins.length ≤ 10) ∧ is.length = x.insts.length ∧ ∀ i ∈ is, i.args.length ≤ 10
theorem sameB.self {n : Int} {x : GBlock} (h : okBl n x) : sameB x x.phis x.insts := ⟨rfl, fun p hp => (h.1.ps p hp).2.1, rfl, fun i hi => (h.1.is i hi).2.2.1⟩
theorem sameB.inst {x : GBlock} {ps : List GPhi} {is : List GInst} (h : sameB x ps is) {k : Nat} {i : GInst} (hi : i.args.length ≤ 10) : sameB x ps (is.set k i) :=
 ⟨h.1, h.2.1, by rw [List.length_set]; exact h.2.2.1, fun j hj => by
  rcases List.mem_or_eq_of_mem_set hj with hj | rfl
  ·exact h.2.2.2 j hj
  ·exact hi⟩
theorem sameB.phi {x : GBlock} {ps : List GPhi} {is : List GInst} (h : sameB x ps is) {k : Nat} {p : GPhi} (hp : p.ins.length ≤ 10) : sameB x (ps.set k p) is :=
 ⟨by rw [List.length_set]; exact h.1, fun q hq => by
  rcases List.mem_or_eq_of_mem_set hq with hq | rfl
  ·exact h.2.1 q hq
  ·exact hp, h.2.2⟩
theorem okFn.put {f : GFunc} (h : okFn f) {k : Int} (hk : 0 ≤ k ∧ k < (f.blocks.length : Int)) {x : GBlock} (hx : sameB (at_ f.blocks k) x.phis x.insts) (w : Int) : bndF { params := f.params, ret := w, blocks := f.blocks.set k.toNat x } := by
 have hb := h.bnd
 have hm := X5 hk
 refine ⟨hb.params, by simpa using hb.blocks, fun b hb' => ?_, fun b hb' p hp => ?_, fun b hb' i hi => ?_⟩
 ·rcases List.mem_or_eq_of_mem_set hb' with h1 | rfl
  ·exact hb.rows b h1
  ·have := hb.rows _ hm
   rw [hx.1, hx.2.2.1]
   exact this
 ·rcases List.mem_or_eq_of_mem_set hb' with h1 | rfl
  ·exact hb.ins b h1 p hp
  ·exact Nat.le_trans (hx.2.1 p hp) (by decide)
 ·rcases List.mem_or_eq_of_mem_set hb' with h1 | rfl
  ·exact hb.args b h1 i hi
  ·exact Nat.le_trans (hx.2.2.2 i hi) (by decide)
theorem X2m {r : Gl1Rd} (hr : okRd r) : Run (Z0s r) (fun y => okRd y.2 ∧ 0 < y.1.funcs.length ∧ y.1.funcs.length ≤ 2 ∧ ∀ f ∈ y.1.funcs, bndF f) := by
 unfold Z0s
 refine Run.bind (X1w hr) ?_
 rintro ⟨m, r1⟩ ⟨a1, a2, a3, a4⟩
 simp only at a1 a2 a3 a4 ⊢
 refine Run.bind (R := fun j => okRd j.1 ∧ (0 ≤ j.2.1 ∧ j.2.1 < (m.funcs.length : Int)) ∧ j.2.2.1 = (at_ m.funcs j.2.1).params ∧ j.2.2.2.2.1 = (at_ m.funcs j.2.1).blocks) (Run.bind (U4 a1 _) ?_) ?_
 ·rintro ⟨k, r2⟩ ⟨b1, b2, b3⟩
  have b3 := b3 (by omega)
  simp only at b1 b2 b3 ⊢
  exact Run.yes ⟨b2, b3⟩ (Run.mk ⟨b1, ⟨b2, b3⟩, rfl, rfl⟩)
 rintro ⟨r2, k, ps, ret, bs, ps', ret'⟩ ⟨b1, b2, b3, b4⟩
 simp only at b1 b2 b3 b4 ⊢
 subst b3 b4
 refine Run.yes b2 ?_
 have hm := X5 b2
 have hf := (a4 _ hm).ok
 generalize hF : at_ m.funcs k = f at hf hm ⊢
 have hne := hf.ne
 refine Run.bind (U4 b1 _) ?_
 rintro ⟨b, r3⟩ ⟨c1, c2, c3⟩
 have c3 := c3 (by omega)
 simp only at c1 c2 c3 ⊢
 have hb : 0 ≤ b ∧ b < (f.blocks.length : Int) := ⟨c2, c3⟩
 refine Run.yes hb ?_
 have hx := hf.okbs _ (X5 hb)
 have s0 := sameB.self hx
 generalize hX : at_ f.blocks b = x at hx s0 ⊢
 have fin : ∀ {j : Gl1Rd × List GPhi × List GInst × Int × Int × Int}, okRd j.1 → sameB x j.2.1 j.2.2.1 → Run (some j) (fun j => okRd j.1 ∧ sameB x j.2.1 j.2.2.1) := fun h1 h2 => Run.mk ⟨h1, h2⟩
 have ia : ∀ {q : Int}, 0 ≤ q ∧ q < (x.insts.length : Int) → (at_ x.insts q).args.length ≤ 10 := fun hq => s0.2.2.2 _ (X5 hq)
 refine Run.bind (R := fun j => okRd j.1 ∧ sameB x j.2.1 j.2.2.1) (Run.bind (U4 c1 9) ?_) ?_
 ·rintro ⟨n, r4⟩ ⟨d1, d2, _⟩
  simp only at d1 d2 ⊢
  have keep := fin (j := (r4, x.phis, x.insts, x.term.kind, x.term.a, x.term.x)) d1 s0
  refine Run.if (fun _ => Run.if (fun h => ?_) fun _ => keep) fun _ => ?_
  ·have h : (0 : Int) < x.insts.length := by simpa using h
   refine Run.bind (R := fun j => okRd j.1 ∧ sameB x x.phis j.2) (Run.bind (U4 d1 _) ?_) (fun j hj => fin hj.1 hj.2)
   rintro ⟨q, r5⟩ ⟨e1, e2, e3⟩
   have e3 := e3 (by omega)
   refine Run.bind (Y0h e1 (by decide) (by decide) (by decide)) ?_
   rintro ⟨v, r6⟩ ⟨f1, _⟩
   exact Run.yes ⟨e2, e3⟩ (Run.mk ⟨f1, s0.inst (ia ⟨e2, e3⟩)⟩)
  refine Run.if (fun _ => Run.if (fun h => ?_) fun _ => keep) fun _ => ?_
  ·have h : (0 : Int) < x.insts.length := by simpa using h
   refine Run.bind (R := fun j => okRd j.1 ∧ sameB x x.phis j.2) (Run.bind (U4 d1 _) ?_) (fun j hj => fin hj.1 hj.2)
   rintro ⟨q, r5⟩ ⟨e1, e2, e3⟩
   have e3 := e3 (by omega)
   refine Run.bind (Y0h e1 (by decide) (by decide) (by decide)) ?_
   rintro ⟨v, r6⟩ ⟨f1, _⟩
   exact Run.yes ⟨e2, e3⟩ (Run.mk ⟨f1, s0.inst (ia ⟨e2, e3⟩)⟩)
  refine Run.if (fun _ => ?_) fun _ => ?_
  ·refine Run.bind (Y0h d1 (by decide) (by decide) (by decide)) ?_
   rintro ⟨v, r6⟩ ⟨f1, _⟩
   exact fin f1 s0
  refine Run.if (fun _ => ?_) fun _ => ?_
  ·refine Run.bind (Y0h d1 (by decide) (by decide) (by decide)) ?_
   rintro ⟨v, r6⟩ ⟨f1, _⟩
   exact fin f1 s0
  refine Run.if (fun _ => Run.if (fun h => ?_) fun _ => keep) fun _ => ?_
  ·have h : (0 : Int) < x.phis.length := by simpa using h
   have h1 := hx.1.ps _ (X5 ⟨Int.le_refl _, h⟩)
   exact Run.yes ⟨by decide, h⟩ (Run.yes ⟨h1.2.2.2, Nat.le_refl _⟩ (Run.yes ⟨by decide, h⟩ (fin d1 (s0.phi (by have := h1.2.1; simp only [List.length_drop]; omega)))))
  refine Run.if (fun _ => Run.if (fun h => ?_) fun _ => keep) fun _ => ?_
  ·have h : (0 : Int) < x.insts.length := by simpa using h
   refine Run.bind (R := fun j => okRd j.1 ∧ sameB x x.phis j.2) (Run.bind (U4 d1 _) ?_) (fun j hj => fin hj.1 hj.2)
   rintro ⟨q, r5⟩ ⟨e1, e2, e3⟩
   have e3 := e3 (by omega)
   refine Run.bind (Y0h e1 (by decide) (by decide) (by decide)) ?_
   rintro ⟨v, r6⟩ ⟨f1, _⟩
   exact Run.yes ⟨e2, e3⟩ (Run.mk ⟨f1, s0.inst (ia ⟨e2, e3⟩)⟩)
  refine Run.if (fun _ => Run.if (fun h => ?_) fun _ => keep) fun _ => ?_
  ·have h : (0 : Int) < x.phis.length := by simpa using h
   have h1 := hx.1.ps _ (X5 ⟨Int.le_refl _, h⟩)
   refine Run.yes ⟨by decide, h⟩ (Run.bind (Y0h d1 (by decide) (by decide) (by decide)) ?_)
   rintro ⟨v, r6⟩ ⟨f1, _⟩
   exact Run.yes ⟨by decide, by have := h1.2.2.2; omega⟩ (fin f1 (s0.phi (by simp only [List.length_set]; exact h1.2.1)))
  refine Run.if (fun _ => ?_) fun _ => keep
  refine Run.bind (Y0h d1 (by decide) (by decide) (by decide)) ?_
  rintro ⟨v, r6⟩ ⟨f1, _⟩
  exact fin f1 s0
 rintro ⟨r7, ps, is, kd, a, z⟩ ⟨g1, g2⟩
 simp only at g1 g2 ⊢
 refine Run.yes hb (Run.mk ⟨g1, by simpa using a2, by simpa using a3, fun g hg => ?_⟩)
 rcases List.mem_or_eq_of_mem_set hg with hg | rfl
 ·exact (a4 g hg).ok.bnd
 ·exact hf.put hb (by rw [hX]; exact g2) _
end
section
theorem Y8f (s : List GFunc) (f : GFunc → Option Bool) (c : GFunc → Bool) (h : ∀ x ∈ s, f x = some (c x)) (hl : s.length ≤ 140737488355328) : W4 s f = some (s.any c) := by
 unfold W4 U0
 generalize hB : Y6 _ (0 : Int) = L
 have K := Z5y hB s c (fun k : Nat => (k : Int)) (by
  intro k hk
  rw [if_pos (by simpa using hk), if_pos (by omega), h _ (X5 (by omega))]
  simp only [Option.bind_some]
  cases c (at_ s (k : Int))
  ·rw [if_neg (by simp), if_pos (Y5 (by omega) (by omega)), if_neg (by simp)]
  ·rw [if_pos rfl, if_pos rfl]) (by rw [if_neg (by simp)])
 rcases K with ⟨h1, k, h2, rfl⟩ | ⟨h1, rfl⟩
 ·rw [h1]; simp
 ·rw [h1]; simp
structure bndM (m : GModule) : Prop where
 len : m.funcs.length ≤ 1000000
 fs : ∀ f ∈ m.funcs, bndF f
def shP (m : GModule) : Prop := (1 ≤ m.funcs.length ∧ m.funcs.length ≤ 3) ∧ ∀ f ∈ m.funcs, fmF f m.funcs.length
theorem Y8s {f : GFunc} {n : Int} (h : bndF f) (h2 : inI (n - 1)) : X0p f n = true ↔ fmF f n := ⟨func_fm h h2, W3v h h2⟩
theorem Y6u {m : GModule} (h : bndM m) : Q4 m = some (pB (shP m)) := by
 have hl := h.len
 have hi : inI ((m.funcs.length : Int) - 1) := Y5 (by omega) (by omega)
 unfold Q4
 by_cases e : Z3 (m.funcs.length : Int) 1 3 = true
 ·have e' : 1 ≤ m.funcs.length ∧ m.funcs.length ≤ 3 := by simp [Z3] at e; omega
  rw [if_pos e, Y8f _ _ (fun f => !X0p f m.funcs.length) (fun f hf => by
   unfold Z3x
   rw [W3x (h.fs f hf) hi, obs]) (by omega)]
  simp only [obs]
  rw [Y4p, Bool.not_not]
  congr 1
  refine X1j ?_
  rw [List.all_eq_true]
  exact ⟨fun k => ⟨e', fun f hf => (Y8s (h.fs f hf) hi).1 (k f hf)⟩, fun k f hf => (Y8s (h.fs f hf) hi).2 (k.2 f hf)⟩
 ·rw [if_neg e, obs, pB_f (fun k => e (by have := k.1; simp [Z3]; omega))]
theorem Y6c {m : GModule} (h : bndM m) : Z1b m = some (pB (shP m)) := by
 have hl := h.len
 have hi : inI ((m.funcs.length : Int) - 1) := Y5 (by omega) (by omega)
 unfold Z1b
 by_cases e : Z7 (m.funcs.length : Int) 1 3 = true
 ·have e' : 1 ≤ m.funcs.length ∧ m.funcs.length ≤ 3 := by simp [Z7] at e; omega
  rw [if_neg (by rw [e]; decide)]
  generalize hB : Y6 _ _ = L
  have K := Z4q hB m.funcs (fun f => fmF f m.funcs.length) (by
   intro k hk
   have h0 : 0 ≤ (k : Int) ∧ (k : Int) < (m.funcs.length : Int) := by omega
   have hf := h.fs _ (X5 h0)
   rw [if_pos (by simpa using hk), if_pos h0, W3w hf hi, obs]
   by_cases e : fmF (at_ m.funcs (k : Int)) m.funcs.length
   ·rw [if_neg (by rw [(Y8s hf hi).2 e]; decide), if_pos (Y5 (by omega) (by omega)), if_pos (pB_t e)]
   ·rw [if_pos (by
     cases hx : X0p (at_ m.funcs (k : Int)) m.funcs.length with
     | false => rfl
     | true => exact absurd ((Y8s hf hi).1 hx) e), if_neg (by rw [pB_f e]; decide)]) (by rw [if_neg (by simp)])
  rw [K]
  refine end_pB.trans ?_
  congr 1
  exact Z7h ⟨fun k => ⟨e', k⟩, fun k => k.2⟩
 ·rw [if_pos (by rw [Y6m]; simpa using e), pB_f (fun k => e (by have := k.1; simp [Z7]; omega))]
noncomputable def Y2h {α : Type} (g : α → Int) (xs : List α) : Int := ((xs.map g).find? (fun c => c != 0)).getD 0
theorem X1y {β : Type} [Inhabited β] {body : Int → Option (Int ⊕ (Int ⊕ Unit))} {L : Option (Int ⊕ Unit)} (hB : Y6 body 0 = L) (xs : List β) (g : β → Int)
  (h1 : ∀ k : Nat, k < xs.length → body (k : Int) = some (if (g (at_ xs (k : Int)) != 0) = true then .inr (.inl (g (at_ xs (k : Int)))) else .inl ((k : Int) + 1))) (h2 : body (xs.length : Int) = some (.inr (.inr ()))) :
  L = some (if Y2h g xs = 0 then .inr () else .inl (Y2h g xs)) := by
 have K := X1z hB xs.length (fun k => g (at_ xs (k : Int)) != 0) (fun k => g (at_ xs (k : Int))) h1 h2
 rcases K with ⟨k, hk, k1, k2, rfl⟩ | ⟨k1, rfl⟩
 ·have e : (xs.map g).find? (fun c => c != 0) = some (g (at_ xs (k : Int))) := by
   rw [List.find?_eq_some_iff_getElem]
   refine ⟨k1, k, by simpa using hk, by rw [List.getElem_map, Z5k hk], fun j hj => ?_⟩
   have := k2 j hj
   rw [Z5k (by omega)] at this
   simpa using this
  unfold Y2h
  rw [e]
  have : g (at_ xs (k : Int)) ≠ 0 := by simpa using k1
  simp [this]
 ·have e : (xs.map g).find? (fun c => c != 0) = none := by
   rw [List.find?_eq_none]
   intro c hc
   obtain ⟨x, hx, rfl⟩ := List.mem_map.1 hc
   obtain ⟨k, hk, rfl⟩ := List.getElem_of_mem hx
   have := k1 k hk
   rw [Z5k hk] at this
   simpa using this
  unfold Y2h
  rw [e]
  rfl
theorem X7i {α : Type} {g : α → Int} {xs : List α} (h : Y2h g xs = 0) : ∀ x ∈ xs, g x = 0 := by
 intro x hx
 refine Classical.byContradiction fun hn => ?_
 cases e : (xs.map g).find? (fun c => c != 0) with
 | none =>
  rw [List.find?_eq_none] at e
  exact e (g x) (List.mem_map.2 ⟨x, hx, rfl⟩) (by simpa using hn)
 | some c =>
  have := List.find?_some e
  unfold Y2h at h
  rw [e] at h
  simp at h this
  exact this h
theorem W0z {α : Type} {g : α → Int} {xs : List α} (h : Y2h g xs ≠ 0) : ∃ x ∈ xs, Y2h g xs = g x := by
 unfold Y2h at h ⊢
 cases e : (xs.map g).find? (fun c => c != 0) with
 | none => rw [e] at h; exact absurd rfl h
 | some c =>
  obtain ⟨x, hx, rfl⟩ := List.mem_map.1 (List.mem_of_find?_eq_some e)
  exact ⟨x, hx, rfl⟩
noncomputable def X1m (m : GModule) : Int := if pB (shP m) = false then 1 else Y2h (Y2j m) m.funcs
noncomputable def W1b (m : GModule) (k : Int) : Int := if pB (shP m) = true ∧ 0 ≤ k ∧ k < (m.funcs.length : Int) then Y2j m (at_ m.funcs k) else 1
theorem W6s (m : GModule) (f : GFunc) : Y2j m f ≠ 1 := by
 unfold Y2j
 repeat' split
 all_goals decide
theorem W0w {m : GModule} (h : bndM m) : Z6f m = some (X1m m) := by
 have hl := h.len
 unfold Z6f X1m
 rw [Y6u h, obs]
 by_cases e : pB (shP m) = false
 ·rw [if_pos (by rw [e]; rfl), if_pos e]
 ·rw [if_neg (by rw [Y6m]; exact e), if_neg e]
  have hs : shP m := pB_iff.1 (by simpa using e)
  generalize hB : Y6 _ _ = L
  have K := X1y hB m.funcs (Y2j m) (by
   intro k hk
   have h0 : 0 ≤ (k : Int) ∧ (k : Int) < (m.funcs.length : Int) := by omega
   have hm := X5 h0
   rw [if_pos (by simpa using hk), if_pos h0, X5x (h.fs _ hm) (hs.2 _ hm), obs]
   by_cases c : (Y2j m (at_ m.funcs (k : Int)) != 0) = true
   ·rw [if_pos c, if_pos c]
   ·rw [if_neg c, if_neg c, if_pos (Y5 (by omega) (by omega))]) (by rw [if_neg (by simp)])
  rw [K]
  by_cases c : Y2h (Y2j m) m.funcs = 0
  ·rw [if_pos c, c]; rfl
  ·rw [if_neg c]; rfl
theorem W0h {m : GModule} (h : bndM m) : Z4b m = some (X1m m) := by
 have hl := h.len
 unfold Z4b X1m
 rw [Y6c h, obs]
 by_cases e : pB (shP m) = false
 ·rw [if_pos (by rw [e]; rfl), if_pos e]
 ·rw [if_neg (by rw [Y6m]; exact e), if_neg e]
  have hs : shP m := pB_iff.1 (by simpa using e)
  generalize hB : Y6 _ _ = L
  have K := X1y hB m.funcs (Y2j m) (by
   intro k hk
   have h0 : 0 ≤ (k : Int) ∧ (k : Int) < (m.funcs.length : Int) := by omega
   have hm := X5 h0
   rw [if_pos (by simpa using hk), if_pos h0, X4y (h.fs _ hm) (hs.2 _ hm), obs]
   by_cases c : (Y2j m (at_ m.funcs (k : Int)) != 0) = true
   ·rw [if_pos c, if_pos c]
   ·rw [if_neg c, if_neg c, if_pos (Y5 (by omega) (by omega))]) (by rw [if_neg (by simp)])
  rw [K]
  by_cases c : Y2h (Y2j m) m.funcs = 0
  ·rw [if_pos c, c]; rfl
  ·rw [if_neg c]; rfl
theorem X2e {m : GModule} (h : bndM m) (k : Int) : Q7 m k = some (W1b m k) := by
 have hl := h.len
 unfold Q7 W1b
 rw [Y6u h]
 simp only [obs]
 by_cases e : pB (shP m) = false
 ·rw [if_pos (by rw [e]; rfl), obs, if_pos rfl, if_neg (by rw [e]; simp)]
 ·have e' : pB (shP m) = true := by simpa using e
  have hs : shP m := pB_iff.1 e'
  rw [if_neg (by rw [Y6m]; exact e), obs]
  by_cases hk : 0 ≤ k ∧ k < (m.funcs.length : Int)
  ·rw [if_neg (by simp [Z3]; omega), if_pos hk, X5x (h.fs _ (X5 hk)) (hs.2 _ (X5 hk)), obs, if_pos ⟨e', hk⟩]
  ·rw [if_pos (by simp [Z3]; omega), if_neg (fun q => hk q.2)]
theorem W0i {m : GModule} (h : bndM m) (k : Int) : Z0t m k = some (W1b m k) := by
 have hl := h.len
 unfold Z0t W1b
 rw [Y6c h]
 simp only [obs]
 by_cases e : pB (shP m) = false
 ·rw [if_pos (by rw [e]; rfl), obs, if_pos rfl, if_neg (by rw [e]; simp)]
 ·have e' : pB (shP m) = true := by simpa using e
  have hs : shP m := pB_iff.1 e'
  rw [if_neg (by rw [Y6m]; exact e), obs]
  by_cases hk : 0 ≤ k ∧ k < (m.funcs.length : Int)
  ·rw [if_neg (by simp [Z7]; omega), if_pos hk, X4y (h.fs _ (X5 hk)) (hs.2 _ (X5 hk)), obs, if_pos ⟨e', hk⟩]
  ·rw [if_pos (by simp [Z7]; omega), if_neg (fun q => hk q.2)]
theorem W4m {m : GModule} {f : GFunc} (h : Y2j m f = 0) : enP f ∧ phP f ∧ tyP f ∧ clP m f ∧ domP f := by
 have key : ∀ {P : Prop}, ¬ pB P = false → P := fun {P} k => pB_iff.1 (by simpa using k)
 unfold Y2j at h
 by_cases e1 : pB (enP f) = false
 ·rw [if_pos e1] at h; cases h
 ·rw [if_neg e1] at h
  by_cases e2 : pB (phP f) = false
  ·rw [if_pos e2] at h; cases h
  ·rw [if_neg e2] at h
   by_cases e3 : pB (tyP f) = false
   ·rw [if_pos e3] at h; cases h
   ·rw [if_neg e3] at h
    by_cases e4 : pB (clP m f) = false
    ·rw [if_pos e4] at h; cases h
    ·rw [if_neg e4] at h
     by_cases e5 : pB (domP f) = false
     ·rw [if_pos e5] at h; cases h
     ·exact ⟨key e1, key e2, key e3, key e4, key e5⟩
theorem W1a {m : GModule} (h : X1m m = 0) : shP m ∧ ∀ f ∈ m.funcs, Y2j m f = 0 := by
 unfold X1m at h
 by_cases e : pB (shP m) = false
 ·rw [if_pos e] at h; cases h
 ·rw [if_neg e] at h
  exact ⟨pB_iff.1 (by simpa using e), X7i h⟩
theorem codeM_one {m : GModule} : X1m m = 1 ↔ ¬ shP m := by
 unfold X1m
 by_cases e : shP m
 ·rw [pB_t e, if_neg (by decide)]
  refine ⟨fun k => ?_, fun k => absurd e k⟩
  obtain ⟨x, _, hx⟩ := W0z (g := Y2j m) (xs := m.funcs) (by rw [k]; decide)
  rw [k] at hx
  exact absurd hx.symm (W6s m x)
 ·rw [pB_f e, if_pos rfl]
  exact ⟨fun _ => e, fun _ => rfl⟩
theorem X7r {fs : List GFunc} (h2 : fs.length ≤ 2) (h : ∀ f ∈ fs, bndF f) : bndM { funcs := fs } := ⟨by simp only; omega, h⟩
end
section
theorem X0s {code : List Int} (hl : code.length ≤ 140737488355328) (hb : ∀ x ∈ code, 0 ≤ x ∧ x ≤ 255) : Run (Z2a code) (fun m => bndM m) := by
 unfold Z2a
 refine Run.bind (X3m (W2x hl hb) (Y5 (by omega) (by omega))) ?_
 rintro ⟨b, r⟩ a1
 refine Run.if (fun _ => ?_) (fun _ => ?_)
 ·refine Run.bind (X1w a1) ?_
  rintro ⟨m, r2⟩ ⟨_, _, b3, b4⟩
  exact Run.mk (X7r b3 fun f hf => (b4 f hf).ok.bnd)
 ·refine Run.bind (X2m a1) ?_
  rintro ⟨m, r2⟩ ⟨_, _, b3, b4⟩
  exact Run.mk (X7r b3 b4)
theorem Y4m {code : List Int} (hl : code.length ≤ 140737488355328) (hb : ∀ x ∈ code, 0 ≤ x ∧ x ≤ 255) : Run (Z0f code) (fun y => bndM y.1) := by
 unfold Z0f
 refine Run.bind (X2m (W2x hl hb)) ?_
 rintro ⟨m, r2⟩ ⟨b1, b2, b3, b4⟩
 simp only at b1 b2 b3 b4 ⊢
 refine Run.bind (R := fun _ => True) (Run.yes (Y5 (by omega) (by omega)) (Run.bind (Y0h b1 (by omega) (by omega) (by omega)) ?_)) ?_
 ·rintro ⟨k, r3⟩ _
  exact Run.mk trivial
 ·intro k _
  exact Run.mk (X7r b3 b4)
theorem W0r {f : GFunc} (h : GraphOk f) {b : Int} (hb : 0 ≤ b ∧ b < (f.blocks.length : Int)) : Z3t f b = some true := by
 unfold Z3t
 have n2 := h.2.1
 obtain ⟨g, e, hg⟩ := W0q f (by omega)
 rw [e]
 simp only [obs]
 rw [if_pos (hg.2 h)]
 simp [Z3]
 omega
theorem X3r (code : List Int) (hl : code.length ≤ 140737488355328) (hb : ∀ x ∈ code, 0 ≤ x ∧ x ≤ 255) : Z6k code = some true := by
 unfold Z6k
 by_cases hbig : Y1b code = true
 ·rw [if_pos hbig]
 rw [if_neg hbig]
 obtain ⟨m, e, hm⟩ := X0s hl hb
 obtain ⟨⟨n, k⟩, e2, hn⟩ := Y4m hl hb
 simp only at hn
 have hml := hm.len
 rw [e, obs, W0w hm, obs, e2, obs, W0h hm, X2e hn, W0i hn, Y6u hm, Y6c hm]
 simp only [obs, bne_self_eq_false, BEq.rfl, Bool.not_true, Bool.false_eq_true, if_false, if_true]
 by_cases c0 : X1m m = 0
 ·rw [if_neg (by simp [c0])]
  obtain ⟨hs, hc⟩ := W1a c0
  generalize hB : Y6 _ _ = L
  have K := Z4q hB m.funcs (fun _ => True) (by
   intro q hq
   have h0 : 0 ≤ (q : Int) ∧ (q : Int) < (m.funcs.length : Int) := by omega
   have hmem := X5 h0
   have hbf := hm.fs _ hmem
   have hf := hs.2 _ hmem
   obtain ⟨z1, z2, z3, z4, z5⟩ := W4m (hc _ hmem)
   have hbl := hbf.blocks
   have hg := hf.graph
   have hck : W1b m (q : Int) = 0 := by
    unfold W1b
    rw [if_pos ⟨pB_t hs, h0⟩]
    exact hc _ hmem
   rw [if_pos (by simpa using hq), if_pos h0, X2e hm, hck, obs, if_neg (by decide)]
   generalize at_ m.funcs (q : Int) = f at hmem hbf hf z1 z2 z3 z4 z5 hbl hg ⊢
   generalize hC : Y6 _ _ = M
   have K := Z4q hC f.blocks (fun _ => True) (by
    intro b hb
    have h1 : 0 ≤ (b : Int) ∧ (b : Int) < (f.blocks.length : Int) := by omega
    have hbm := X5 h1
    have hr := hbf.rows _ hbm
    rw [if_pos (by simpa using hb)]
    unfold Z8f
    rw [W0r hg h1, obs, if_neg (by decide), Y3p hbl, obs, obs]
    simp only [if_pos h1]
    generalize hD : Y6 _ _ = N
    have K := Z4q hD (at_ f.blocks (b : Int)).phis (fun _ => True) (by
     intro j hj
     have h2 : 0 ≤ (j : Int) ∧ (j : Int) < ((at_ f.blocks (b : Int)).phis.length : Int) := by omega
     have hpm := X5 h2
     have hpl := z2 b hb _ hpm
     have hpt := (z3 _ hbm).1 _ hpm
     have hil := hbf.ins _ hbm _ hpm
     rw [if_pos (by simpa using hj), if_pos h2]
     generalize at_ (at_ f.blocks (b : Int)).phis (j : Int) = p at hpm hpl hpt hil ⊢
     rw [if_neg (by simp only [bne_iff_ne, ne_eq]; omega)]
     generalize hE : Y6 _ _ = Q
     have K := Z4q hE p.ins (fun _ => True) (by
      intro x hx
      have h3 : 0 ≤ (x : Int) ∧ (x : Int) < (p.ins.length : Int) := by omega
      rw [if_pos (by simpa using hx), if_pos h3, Y3q hbf hf.okI, obs, hpt _ (X5 h3), if_neg (by simp), if_pos (Y5 (by omega) (by omega)), if_pos (pB_t trivial)]) (by rw [if_neg (by simp)])
     rw [K, pB_t (fun _ _ => trivial), obs]
     simp only [if_true]
     rw [if_pos (Y5 (by omega) (by omega)), pB_t trivial]
     rfl) (by rw [if_neg (by simp)])
    rw [K, pB_t (fun _ _ => trivial), obs]
    simp only [if_true]
    rw [if_pos (Y5 (by omega) (by omega)), pB_t trivial]
    rfl) (by rw [if_neg (by simp)])
   rw [K, pB_t (fun _ _ => trivial), obs]
   simp only [if_true]
   rw [if_pos (Y5 (by omega) (by omega)), pB_t trivial]
   rfl) (by rw [if_neg (by simp)])
  rw [K, pB_t (fun _ _ => trivial), obs]
  simp only [if_true]
  rw [pB_t hs]
 ·rw [if_pos (by simpa using c0)]
  congr 1
  by_cases hs : shP m
  ·have : X1m m ≠ 1 := fun q => codeM_one.1 q hs
   rw [pB_t hs]
   simp [this]
  ·rw [pB_f hs, codeM_one.2 hs]
   rfl
end
end Go.Proofs.YtghdhjgoicnbcaaGreat.AM
