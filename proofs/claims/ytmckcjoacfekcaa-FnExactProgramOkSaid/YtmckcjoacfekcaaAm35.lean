import Derived.Test.YtmckcjoacfekcaaAm33
import Derived.SizedLaws
import Derived.WideShapes
import Derived.ChangeSlices
import Derived.OpenShut
/-! The calculus, thirty-fifth part: what an argument reads as. -/
namespace Go.Proofs.Ytmckcjoacfekcaa.AM
open Go Go.WideShapes Go.ChangeShapes

/-- The form of a type of data. -/
inductive Ty : Type where
  | int (k : IntKind)
  | bool
  | str
  | sl (n b : Nat) (e : Ty)
  | st (fs : List Ty)
mutual
inductive TyP (P : Program) : TypeId → Ty → Prop
  | int {t k} : P.underlying t = some (.int k) → TyP P t (.int k)
  | bool {t} : P.underlying t = some .bool → TyP P t .bool
  | str {t} : P.underlying t = some .string → TyP P t .str
  | sl {t e n b ty} : P.underlying t = some (.slice e) → P.cellsOf e = n → P.bytesOf e = b → 0 < n → 0 < b → TyP P e ty → TyP P t (.sl n b ty)
  | st {t gs fs m} : P.underlying t = some (.struct gs) → P.cellsOf t = m → FsP P gs.toList fs 0 m → TyP P t (.st fs)
inductive FsP (P : Program) : List Field → List Ty → Nat → Nat → Prop
  | nil {m} : FsP P [] [] m m
  | cons {g gs ty tys o c m} : g.offset = o → P.cellsOf g.type = c → TyP P g.type ty → FsP P gs tys (o + c) m → FsP P (g :: gs) (ty :: tys) o m
end
def fsB (P : Program) (tb : TypeId → Ty → Bool) : List Field → List Ty → Nat → Nat → Bool
  | [], [], o, m => Nat.beq o m
  | g :: gs, ty :: tys, o, m => Nat.beq g.offset o && tb g.type ty && fsB P tb gs tys (o + P.cellsOf g.type) m
  | _, _, _, _ => false
def tyB (P : Program) : Nat → TypeId → Ty → Bool
  | 0, _, _ => false
  | _ + 1, t, .int k => match P.underlying t with
    | some (.int k') => decide (k' = k)
    | _ => false
  | _ + 1, t, .bool => match P.underlying t with
    | some .bool => true
    | _ => false
  | _ + 1, t, .str => match P.underlying t with
    | some .string => true
    | _ => false
  | f + 1, t, .sl n b e => match P.underlying t with
    | some (.slice t') => Nat.beq (P.cellsOf t') n && Nat.beq (P.bytesOf t') b && Nat.blt 0 n && Nat.blt 0 b && tyB P f t' e
    | _ => false
  | f + 1, t, .st fs => match P.underlying t with
    | some (.struct gs) => fsB P (tyB P f) gs.toList fs 0 (P.cellsOf t)
    | _ => false
theorem fsB_sound {P : Program} {tb : TypeId → Ty → Bool} (h : ∀ t ty, tb t ty = true → TyP P t ty) : ∀ {gs : List Field} {fs : List Ty} {o m : Nat}, fsB P tb gs fs o m = true → FsP P gs fs o m
  | [], [], o, m, hb => by
    have := Nat.eq_of_beq_eq_true hb
    subst this
    exact .nil
  | g :: gs, ty :: tys, o, m, hb => by
    simp only [fsB, Bool.and_eq_true] at hb
    obtain ⟨⟨h1, h2⟩, h3⟩ := hb
    exact .cons (Nat.eq_of_beq_eq_true h1) rfl (h _ _ h2) (fsB_sound h h3)
  | [], _ :: _, _, _, hb => by cases hb
  | _ :: _, [], _, _, hb => by cases hb
theorem tyB_sound {P : Program} : ∀ {f : Nat} {t : TypeId} {ty : Ty}, tyB P f t ty = true → TyP P t ty
  | 0, _, _, h => by simp [tyB] at h
  | f + 1, t, .int k, h => by
    unfold tyB at h
    split at h
    · rename_i k' hu
      have := of_decide_eq_true h
      subst this
      exact .int hu
    · cases h
  | f + 1, t, .bool, h => by
    unfold tyB at h
    split at h
    · rename_i hu; exact .bool hu
    · cases h
  | f + 1, t, .str, h => by
    unfold tyB at h
    split at h
    · rename_i hu; exact .str hu
    · cases h
  | f + 1, t, .sl n b e, h => by
    unfold tyB at h
    split at h
    · rename_i t' hu
      simp only [Bool.and_eq_true] at h
      obtain ⟨⟨⟨⟨h1, h2⟩, h3⟩, h4⟩, h5⟩ := h
      exact .sl hu (Nat.eq_of_beq_eq_true h1) (Nat.eq_of_beq_eq_true h2) (blt_lt h3) (blt_lt h4) (tyB_sound h5)
    · cases h
  | f + 1, t, .st fs, h => by
    unfold tyB at h
    split at h
    · rename_i gs hu
      exact .st hu rfl (fsB_sound (fun t ty ht => tyB_sound ht) h)
    · cases h
/-- The cells of a value of a form. -/
inductive Fits {δ : Type} : Ty → List (L δ) → Prop
  | int {k n} : (Lit.int k n).wf = true → Fits (.int k) [.int k n]
  | bool {b} : Fits .bool [.bool b]
  | str {s : ByteArray} : s.size ≤ reachBytes → Fits .str [.str s]
  | sl {n b e v rows} : rows.length * b ≤ reachBytes → (∀ r ∈ rows, Fits e r) → Fits (.sl n b e) [.bs v n rows]
  | st0 : Fits (.st []) []
  | st {t ts a b} : Fits t a → Fits (.st ts) b → Fits (.st (t :: ts)) (a ++ b)
theorem Fits.map {δ ε : Type} (g : δ → ε) : ∀ {ty : Ty} {ls : List (L δ)}, Fits ty ls → Fits ty (ls.map (mapL g)) := by
  intro ty ls h
  induction h with
  | int h => exact .int h
  | bool => exact .bool
  | str h => exact .str h
  | sl h _ ih =>
    simp only [List.map_cons, List.map_nil, mapL, mapR_eq]
    refine .sl (by simpa using h) fun r hr => ?_
    obtain ⟨r0, h0, rfl⟩ := List.mem_map.1 hr
    exact ih r0 h0
  | st0 => exact .st0
  | st _ _ h1 h2 => rw [List.map_append]; exact .st h1 h2
/-- A leaf that is only read. -/
structure Pl (w : World) (l : L Value) : Prop where
  wf : ∀ nest, wfL nest l
  ids : idsL l = []
  own : ownL l = []
  ref : ∀ ob, refOk ob l
  imm : ∀ q ∈ immL l, q.2 ≠ [] → ImmFact w q
theorem pl_int {w : World} {k n} : Pl w (.int k n) := ⟨fun _ => trivial, rfl, rfl, fun _ => trivial, fun q hq => by simp [immL] at hq⟩
theorem pl_bool {w : World} {b} : Pl w (.bool b) := ⟨fun _ => trivial, rfl, rfl, fun _ => trivial, fun q hq => by simp [immL] at hq⟩
theorem pl_str {w : World} {b} : Pl w (.str b) := ⟨fun _ => trivial, rfl, rfl, fun _ => trivial, fun q hq => by simp [immL] at hq⟩
theorem choose_rows {α : Type} {R : Nat → α → Prop} : ∀ n : Nat, (∀ i, i < n → ∃ r, R i r) → ∃ rows : List α, rows.length = n ∧ ∀ (i : Nat) r, rows[i]? = some r → R i r
  | 0, _ => ⟨[], rfl, fun i r h => by simp at h⟩
  | n + 1, h => by
    obtain ⟨rows, h1, h2⟩ := choose_rows n fun i hi => h i (by omega)
    obtain ⟨r, hr⟩ := h n (by omega)
    refine ⟨rows ++ [r], by simp [h1], fun i x hx => ?_⟩
    rcases Nat.lt_trichotomy i n with hi | hi | hi
    · rw [List.getElem?_append_left (by omega)] at hx
      exact h2 i x hx
    · subst hi
      rw [List.getElem?_append_right (by omega), h1, Nat.sub_self] at hx
      cases hx
      exact hr
    · rw [List.getElem?_eq_none (by simp; omega)] at hx
      cases hx
theorem weights_all {H : Type} {P : Program} {e : TypeId} : ∀ {ds : List (DataW H)} {i : Nat} {d : DataW H}, ds[i]? = some d → ∀ n ∈ d.weights P e, n ∈ DataW.weightsAll P e ds
  | d0 :: ds, 0, d, hd, n, hn => by
    simp only [List.getElem?_cons_zero, Option.some.injEq] at hd
    subst hd
    simp only [DataW.weightsAll, List.mem_append]
    exact .inl hn
  | d0 :: ds, i + 1, d, hd, n, hn => by
    simp only [List.getElem?_cons_succ] at hd
    simp only [DataW.weightsAll, List.mem_append]
    exact .inr (weights_all hd n hn)
theorem valR_at {n : Nat} {rows : List (List (L Value))} (hl : ∀ r ∈ rows, r.length = n) {j : Nat} {v : Value} (h : (valR rows)[j]? = some v) : ∃ r, rows[j / n]? = some r ∧ (r.map val)[j % n]? = some v ∧ 0 < n := by
  have hlt := (List.getElem?_eq_some_iff.1 h).1
  rw [valR_len hl] at hlt
  have hn : 0 < n := by
    rcases Nat.eq_zero_or_pos n with h0 | h0
    · subst h0; omega
    · exact h0
  have hi : j / n < rows.length := Nat.div_lt_of_lt_mul (by rw [Nat.mul_comm]; exact hlt)
  have hr := List.getElem?_eq_getElem hi
  have hm := Nat.mod_lt j hn
  have hlr := hl _ (List.mem_of_getElem? hr)
  have hx := List.getElem?_eq_getElem (l := rows[j / n]) (i := j % n) (by omega)
  have := valR_get hl hr hx
  refine ⟨_, hr, ?_, hn⟩
  have e : j / n * n + j % n = j := by rw [Nat.mul_comm]; exact Nat.div_add_mod j n
  rw [e] at this
  rw [List.getElem?_map, hx, ← h, this]
  rfl
section
variable {H : Type} {enc : TypeId × Value → H} {P : Program} {w : World} {base : Nat} {spare : Nat → Bool} {held : Bool}
/-- What a value reads as. -/
theorem reading : ∀ (fuel : Nat) {t : TypeId} {ty : Ty} {cs : List Value} {x : DataW H × List MemPlace}, TyP P t ty → DataW.trod enc P w base spare held fuel t cs = some x → (∀ n ∈ x.1.weights P t, n ≤ reachBytes) →
    ∃ ls : List (L Value), ls.map val = cs ∧ Fits ty ls ∧ (∀ l ∈ ls, Pl w l) ∧ (P.underlying t = P.underlying t) := by
  intro fuel
  induction fuel with
  | zero => intro t ty cs x _ h; simp [DataW.trod] at h
  | succ fuel ih =>
    intro t ty cs x hty h hw
    cases hty with
    | int hu =>
      obtain ⟨n, rfl, rfl, hwf⟩ := DataW.trod_int hu h
      exact ⟨[.int _ n], rfl, .int hwf, by simpa using pl_int, rfl⟩
    | bool hu =>
      obtain ⟨b, rfl, rfl⟩ := DataW.trod_bool hu h
      exact ⟨[.bool b], rfl, .bool, by simpa using pl_bool, rfl⟩
    | str hu =>
      obtain ⟨s, rfl, rfl, _⟩ := DataW.trod_string hu h
      refine ⟨[.str s], rfl, .str ?_, by simpa using pl_str, rfl⟩
      have := hw s.data.toList.length (by simp [DataW.weights])
      simpa using this
    | sl hu hn hb hn0 hb0 he =>
      rename_i e n b ty'
      rcases DataW.trod_slice hu h with ⟨rfl, rfl⟩ | ⟨a, len, cap, elems, rest, m, hm, rfl, rfl, hbs, hl, hm2, hlen, hel, _, _⟩
      · refine ⟨[.bs (.slice none 0 0) n []], rfl, .sl (by simp) (by simp), ?_, rfl⟩
        intro l hl
        simp only [List.mem_singleton] at hl
        subst hl
        exact ⟨fun _ => ⟨⟨none, 0, rfl, by simp, by simp [LIM], by simp⟩, by simp, by simp [wfR]⟩, rfl, rfl, fun _ => trivial, fun q hq => by simp [immL, hdrImm, immR] at hq⟩
      · obtain rfl : fuel = m := by omega
        have hlenb : (elems.length + rest.length) * b ≤ reachBytes := by
          have := hw ((elems.length + rest.length) * P.bytesOf e) (by simp [DataW.weights, hu])
          rwa [hb] at this
        obtain ⟨rows, hr1, hr2⟩ := choose_rows (R := fun i (r : List (L Value)) => (∃ c, w.cells? base (a.add (i * n)) n = some c ∧ r.map val = c) ∧ Fits ty' r ∧ (∀ l ∈ r, Pl w l)) len fun i hi => by
          have h1 := hel i hi
          have hie : i < elems.length := by omega
          rw [List.getElem?_eq_getElem hie, Option.bind_eq_some_iff, hn] at h1
          obtain ⟨c, hc, ht⟩ := h1
          obtain ⟨ls, e1, e2, e3, _⟩ := ih he ht fun k hk => hw k (by
            simp only [DataW.weights, hu, List.mem_cons, List.mem_append]
            refine .inr (.inl (weights_all (i := i) ?_ k hk))
            rw [List.getElem?_map, List.getElem?_eq_getElem hie]
            rfl)
          exact ⟨ls, ⟨c, hc, e1⟩, e2, e3⟩
        have hmem : ∀ r ∈ rows, Fits ty' r ∧ (∀ l ∈ r, Pl w l) ∧ r.length = n := fun r hr => by
          obtain ⟨i, hi⟩ := List.getElem?_of_mem hr
          obtain ⟨⟨c, hc, e1⟩, e2, e3⟩ := hr2 i r hi
          refine ⟨e2, e3, ?_⟩
          have := (World.cells?_some hc).2.1
          rw [← e1, List.length_map] at this
          exact this
        have hsp : rows ≠ [] → a = ⟨a.block, a.off, none⟩ := fun hne => by
          obtain ⟨r, hr⟩ : ∃ r, rows[0]? = some r := by
            cases rows with
            | nil => exact absurd rfl hne
            | cons r _ => exact ⟨r, rfl⟩
          obtain ⟨⟨c, hc, e1⟩, _⟩ := hr2 0 r hr
          obtain ⟨_, k1, k2⟩ := World.cells?_some hc
          have := k2 0 hn0
          rw [List.getElem?_eq_getElem (by omega), Nat.zero_mul] at this
          have h0 : (a.add 0).add 0 = a := by simp [Addr.add]
          rw [h0] at this
          have := World.cell?_spot this
          cases a
          simp only at this
          subst this
          rfl
        have hLen : rows.length ≤ LIM := by
          have h3 : len * b ≤ reachBytes := Nat.le_trans (Nat.mul_le_mul_right _ (by omega)) hlenb
          have h4 : len * 1 ≤ len * b := Nat.mul_le_mul_left _ hb0
          have h5 : reachBytes ≤ LIM := by decide
          omega
        refine ⟨[.bs (.slice (some a) len cap) n rows], rfl, .sl ?_ (fun r hr => (hmem r hr).1), ?_, rfl⟩
        · rw [hr1]
          exact Nat.le_trans (Nat.mul_le_mul_right _ (by omega)) hlenb
        · intro l hl'
          simp only [List.mem_singleton] at hl'
          subst hl'
          refine ⟨fun nest => ⟨⟨some a, cap, by rw [hr1], by omega, hLen, fun hne => ⟨a.block, a.off, by rw [← hsp hne]⟩⟩, fun r hr => (hmem r hr).2.2, ?_⟩, rfl, rfl, fun _ => trivial, fun q hq hne => ?_⟩
          · exact (wfR_iff true rows).2 fun r hr l hl => ((hmem r hr).2.1 l hl).wf true
          · simp only [immL, hdrImm, List.mem_append, List.mem_singleton] at hq
            rcases hq with rfl | hq
            · intro j v hj
              obtain ⟨r, k1, k2, _⟩ := valR_at (fun r hr => (hmem r hr).2.2) hj
              obtain ⟨⟨c, hc, e1⟩, _⟩ := hr2 _ r k1
              obtain ⟨_, k3, k4⟩ := World.cells?_some hc
              have hr0 : rows ≠ [] := fun h0 => by rw [h0] at k1; simp at k1
              have := k4 (j % n) (Nat.mod_lt _ hn0)
              rw [← e1, k2, hsp hr0, addr_add, addr_add] at this
              simp only at this ⊢
              rw [← this]
              congr 2
              have := Nat.div_add_mod j n
              rw [Nat.mul_comm] at this
              omega
            · rw [immR_eq] at hq
              obtain ⟨l, hl, hq⟩ := List.mem_flatMap.1 hq
              obtain ⟨r, hr, hl⟩ := List.mem_flatten.1 hl
              exact ((hmem r hr).2.1 l hl).imm q hq hne
    | st hu hm hfs =>
      rename_i gs fs m
      obtain ⟨xs, k, hk, rfl, hcs, hxl, hxs⟩ := DataW.trod_struct hu h
      obtain rfl : fuel = k := by omega
      rw [hm] at hcs
      have key : ∀ (gl : List Field) (fs : List Ty) (o i : Nat), FsP P gl fs o m → gs.toList.drop i = gl → o ≤ m → ∃ ls : List (L Value), ls.map val = cs.drop o ∧ Fits (.st fs) ls ∧ ∀ l ∈ ls, Pl w l := by
        intro gl
        induction gl with
        | nil =>
          intro fs o i hf _ ho
          cases hf
          exact ⟨[], by rw [List.drop_of_length_le (by omega)]; rfl, .st0, by simp⟩
        | cons g gl ihg =>
          intro fs o i hf hd ho
          cases hf with
          | cons h1 h2 h3 h4 =>
            rename_i ty1 tys c
            have hgi : gs[i]? = some g := by
              have : (gs.toList.drop i)[0]? = some g := by rw [hd]; rfl
              rw [List.getElem?_drop] at this
              simpa using this
            have h5 := hxs i g hgi
            have hi : i < xs.length := by
              rw [hxl]
              exact (Array.getElem?_eq_some_iff.1 hgi).1
            rw [List.getElem?_eq_getElem hi] at h5
            obtain ⟨ls1, a1, a2, a3, _⟩ := ih h3 h5 fun n hn => hw n (by
              simp only [DataW.weights, hu]
              refine DataW.weights_mem_each (j := i) (t := g.type) (d := (xs[i]'hi).1) ?_ ?_ n hn
              · rw [List.getElem?_map, Array.getElem?_toList, hgi]; rfl
              · rw [List.getElem?_map, List.getElem?_eq_getElem hi]; rfl)
            have hle : o + c ≤ m := by
              clear ihg
              have : ∀ {gl : List Field} {tys : List Ty} {o m : Nat}, FsP P gl tys o m → o ≤ m := by
                intro gl
                induction gl with
                | nil => intro tys o m h; cases h; omega
                | cons g gl ih =>
                  intro tys o m h
                  cases h with
                  | cons _ _ _ h => have := ih h; omega
              exact this h4
            obtain ⟨ls2, b1, b2, b3⟩ := ihg tys (o + c) (i + 1) h4 (by rw [← List.drop_drop, hd]; rfl) hle
            refine ⟨ls1 ++ ls2, ?_, .st a2 b2, fun l hl => (List.mem_append.1 hl).elim (a3 l) (b3 l)⟩
            rw [List.map_append, a1, b1, h1, h2]
            rw [← List.drop_drop]
            exact List.take_append_drop c _
      obtain ⟨ls, a1, a2, a3⟩ := key gs.toList fs 0 0 hfs rfl (Nat.zero_le _)
      exact ⟨ls, by simpa using a1, a2, a3, rfl⟩
end
end Go.Proofs.Ytmckcjoacfekcaa.AM
