import Derived.Test.YtmckcjoacfekcaaMp5
import Derived.SizedLaws
import Derived.WideShapes
import Derived.ChangeSlices
import Derived.OpenShut
import Derived.Below
set_option linter.unusedVariables false
set_option linter.unusedSimpArgs false
namespace Go.Proofs.Ytmckcjoacfekcaa.AM
open Go Go.WideShapes Go.ChangeShapes

/-- The form of a type of data. -/
inductive Ty : Type where
  | int (k : IntKind)
  | bool
  | str
  | sl (n b : Nat) (e : Ty)
  | st (fs : List Ty)
mutual
inductive TyP (P : Program) : TypeId → Ty → Prop
  | int {t k} : P.underlying t = some (.int k) → TyP P t (.int k)
  | bool {t} : P.underlying t = some .bool → TyP P t .bool
  | str {t} : P.underlying t = some .string → TyP P t .str
  | sl {t e n b ty} : P.underlying t = some (.slice e) → P.cellsOf e = n → P.bytesOf e = b → 0 < n → 0 < b → TyP P e ty → TyP P t (.sl n b ty)
  | st {t gs fs m} : P.underlying t = some (.struct gs) → P.cellsOf t = m → FsP P gs.toList fs 0 m → TyP P t (.st fs)
inductive FsP (P : Program) : List Field → List Ty → Nat → Nat → Prop
  | nil {m} : FsP P [] [] m m
  | cons {g gs ty tys o c m} : g.offset = o → P.cellsOf g.type = c → TyP P g.type ty → FsP P gs tys (o + c) m → FsP P (g :: gs) (ty :: tys) o m
end
def fsB (P : Program) (tb : TypeId → Ty → Bool) : List Field → List Ty → Nat → Nat → Bool
  | [], [], o, m => Nat.beq o m
  | g :: gs, ty :: tys, o, m => Nat.beq g.offset o && tb g.type ty && fsB P tb gs tys (o + P.cellsOf g.type) m
  | _, _, _, _ => false
def tyB (P : Program) : Nat → TypeId → Ty → Bool
  | 0, _, _ => false
  | _ + 1, t, .int k => match P.underlying t with
    | some (.int k') => decide (k' = k)
    | _ => false
  | _ + 1, t, .bool => match P.underlying t with
    | some .bool => true
    | _ => false
  | _ + 1, t, .str => match P.underlying t with
    | some .string => true
    | _ => false
  | f + 1, t, .sl n b e => match P.underlying t with
    | some (.slice t') => Nat.beq (P.cellsOf t') n && Nat.beq (P.bytesOf t') b && Nat.blt 0 n && Nat.blt 0 b && tyB P f t' e
    | _ => false
  | f + 1, t, .st fs => match P.underlying t with
    | some (.struct gs) => fsB P (tyB P f) gs.toList fs 0 (P.cellsOf t)
    | _ => false
theorem fsB_sound {P : Program} {tb : TypeId → Ty → Bool} (h : ∀ t ty, tb t ty = true → TyP P t ty) : ∀ {gs : List Field} {fs : List Ty} {o m : Nat}, fsB P tb gs fs o m = true → FsP P gs fs o m
  | [], [], o, m, hb => by
    have := Nat.eq_of_beq_eq_true hb
    subst this
    exact .nil
  | g :: gs, ty :: tys, o, m, hb => by
    simp only [fsB, Bool.and_eq_true] at hb
    obtain ⟨⟨h1, h2⟩, h3⟩ := hb
    exact .cons (Nat.eq_of_beq_eq_true h1) rfl (h _ _ h2) (fsB_sound h h3)
  | [], _ :: _, _, _, hb => by cases hb
  | _ :: _, [], _, _, hb => by cases hb
theorem tyB_sound {P : Program} : ∀ {f : Nat} {t : TypeId} {ty : Ty}, tyB P f t ty = true → TyP P t ty
  | 0, _, _, h => by simp [tyB] at h
  | f + 1, t, .int k, h => by
    unfold tyB at h
    split at h
    · rename_i k' hu
      have := of_decide_eq_true h
      subst this
      exact .int hu
    · cases h
  | f + 1, t, .bool, h => by
    unfold tyB at h
    split at h
    · rename_i hu; exact .bool hu
    · cases h
  | f + 1, t, .str, h => by
    unfold tyB at h
    split at h
    · rename_i hu; exact .str hu
    · cases h
  | f + 1, t, .sl n b e, h => by
    unfold tyB at h
    split at h
    · rename_i t' hu
      simp only [Bool.and_eq_true] at h
      obtain ⟨⟨⟨⟨h1, h2⟩, h3⟩, h4⟩, h5⟩ := h
      exact .sl hu (Nat.eq_of_beq_eq_true h1) (Nat.eq_of_beq_eq_true h2) (blt_lt h3) (blt_lt h4) (tyB_sound h5)
    · cases h
  | f + 1, t, .st fs, h => by
    unfold tyB at h
    split at h
    · rename_i gs hu
      exact .st hu rfl (fsB_sound (fun t ty ht => tyB_sound ht) h)
    · cases h
/-- The cells of a value of a form. -/
inductive Fits {δ : Type} : Ty → List (L δ) → Prop
  | int {k n} : (Lit.int k n).wf = true → Fits (.int k) [.int k n]
  | bool {b} : Fits .bool [.bool b]
  | str {s : ByteArray} : s.size ≤ reachBytes → Fits .str [.str s]
  | sl {n b e v rows} : rows.length * b ≤ reachBytes → (∀ r ∈ rows, Fits e r) → Fits (.sl n b e) [.bs v n rows]
  | st0 : Fits (.st []) []
  | st {t ts a b} : Fits t a → Fits (.st ts) b → Fits (.st (t :: ts)) (a ++ b)
theorem Fits.map {δ ε : Type} (g : δ → ε) : ∀ {ty : Ty} {ls : List (L δ)}, Fits ty ls → Fits ty (ls.map (mapL g)) := by
  intro ty ls h
  induction h with
  | int h => exact .int h
  | bool => exact .bool
  | str h => exact .str h
  | sl h _ ih =>
    simp only [List.map_cons, List.map_nil, mapL, mapR_eq]
    refine .sl (by simpa using h) fun r hr => ?_
    obtain ⟨r0, h0, rfl⟩ := List.mem_map.1 hr
    exact ih r0 h0
  | st0 => exact .st0
  | st _ _ h1 h2 => rw [List.map_append]; exact .st h1 h2
/-- A leaf that is only read. -/
structure Pl (w : World) (l : L Value) : Prop where
  wf : ∀ nest, wfL nest l
  ids : idsL l = []
  own : ownL l = []
  ref : ∀ ob, refOk ob l
  imm : ∀ q ∈ immL l, q.2 ≠ [] → ImmFact w q
theorem pl_int {w : World} {k n} : Pl w (.int k n) := ⟨fun _ => trivial, rfl, rfl, fun _ => trivial, fun q hq => by simp [immL] at hq⟩
theorem pl_bool {w : World} {b} : Pl w (.bool b) := ⟨fun _ => trivial, rfl, rfl, fun _ => trivial, fun q hq => by simp [immL] at hq⟩
theorem pl_str {w : World} {b} : Pl w (.str b) := ⟨fun _ => trivial, rfl, rfl, fun _ => trivial, fun q hq => by simp [immL] at hq⟩
theorem choose_rows {α : Type} {R : Nat → α → Prop} : ∀ n : Nat, (∀ i, i < n → ∃ r, R i r) → ∃ rows : List α, rows.length = n ∧ ∀ (i : Nat) r, rows[i]? = some r → R i r
  | 0, _ => ⟨[], rfl, fun i r h => by simp at h⟩
  | n + 1, h => by
    obtain ⟨rows, h1, h2⟩ := choose_rows n fun i hi => h i (by omega)
    obtain ⟨r, hr⟩ := h n (by omega)
    refine ⟨rows ++ [r], by simp [h1], fun i x hx => ?_⟩
    rcases Nat.lt_trichotomy i n with hi | hi | hi
    · rw [List.getElem?_append_left (by omega)] at hx
      exact h2 i x hx
    · subst hi
      rw [List.getElem?_append_right (by omega), h1, Nat.sub_self] at hx
      cases hx
      exact hr
    · rw [List.getElem?_eq_none (by simp; omega)] at hx
      cases hx
theorem weights_all {H : Type} {P : Program} {e : TypeId} : ∀ {ds : List (DataW H)} {i : Nat} {d : DataW H}, ds[i]? = some d → ∀ n ∈ d.weights P e, n ∈ DataW.weightsAll P e ds
  | d0 :: ds, 0, d, hd, n, hn => by
    simp only [List.getElem?_cons_zero, Option.some.injEq] at hd
    subst hd
    simp only [DataW.weightsAll, List.mem_append]
    exact .inl hn
  | d0 :: ds, i + 1, d, hd, n, hn => by
    simp only [List.getElem?_cons_succ] at hd
    simp only [DataW.weightsAll, List.mem_append]
    exact .inr (weights_all hd n hn)
theorem valR_at {n : Nat} {rows : List (List (L Value))} (hl : ∀ r ∈ rows, r.length = n) {j : Nat} {v : Value} (h : (valR rows)[j]? = some v) : ∃ r, rows[j / n]? = some r ∧ (r.map val)[j % n]? = some v ∧ 0 < n := by
  have hlt := (List.getElem?_eq_some_iff.1 h).1
  rw [valR_len hl] at hlt
  have hn : 0 < n := by
    rcases Nat.eq_zero_or_pos n with h0 | h0
    · subst h0; omega
    · exact h0
  have hi : j / n < rows.length := Nat.div_lt_of_lt_mul (by rw [Nat.mul_comm]; exact hlt)
  have hr := List.getElem?_eq_getElem hi
  have hm := Nat.mod_lt j hn
  have hlr := hl _ (List.mem_of_getElem? hr)
  have hx := List.getElem?_eq_getElem (l := rows[j / n]) (i := j % n) (by omega)
  have := valR_get hl hr hx
  refine ⟨_, hr, ?_, hn⟩
  have e : j / n * n + j % n = j := by rw [Nat.mul_comm]; exact Nat.div_add_mod j n
  rw [e] at this
  rw [List.getElem?_map, hx, ← h, this]
  rfl
section
variable {H : Type} {enc : TypeId × Value → H} {P : Program} {w : World} {base : Nat} {spare : Nat → Bool} {held : Bool}
/-- What a value reads as. -/
theorem reading : ∀ (fuel : Nat) {t : TypeId} {ty : Ty} {cs : List Value} {x : DataW H × List MemPlace}, TyP P t ty → DataW.trod enc P w base spare held fuel t cs = some x → (∀ n ∈ x.1.weights P t, n ≤ reachBytes) →
    ∃ ls : List (L Value), ls.map val = cs ∧ Fits ty ls ∧ (∀ l ∈ ls, Pl w l) ∧ (P.underlying t = P.underlying t) := by
  intro fuel
  induction fuel with
  | zero => intro t ty cs x _ h; simp [DataW.trod] at h
  | succ fuel ih =>
    intro t ty cs x hty h hw
    cases hty with
    | int hu =>
      obtain ⟨n, rfl, rfl, hwf⟩ := DataW.trod_int hu h
      exact ⟨[.int _ n], rfl, .int hwf, by simpa using pl_int, rfl⟩
    | bool hu =>
      obtain ⟨b, rfl, rfl⟩ := DataW.trod_bool hu h
      exact ⟨[.bool b], rfl, .bool, by simpa using pl_bool, rfl⟩
    | str hu =>
      obtain ⟨s, rfl, rfl, _⟩ := DataW.trod_string hu h
      refine ⟨[.str s], rfl, .str ?_, by simpa using pl_str, rfl⟩
      have := hw s.data.toList.length (by simp [DataW.weights])
      simpa using this
    | sl hu hn hb hn0 hb0 he =>
      rename_i e n b ty'
      rcases DataW.trod_slice hu h with ⟨rfl, rfl⟩ | ⟨a, len, cap, elems, rest, m, hm, rfl, rfl, hbs, hl, hm2, hlen, hel, _, _⟩
      · refine ⟨[.bs (.slice none 0 0) n []], rfl, .sl (by simp) (by simp), ?_, rfl⟩
        intro l hl
        simp only [List.mem_singleton] at hl
        subst hl
        exact ⟨fun _ => ⟨⟨none, 0, rfl, by simp, by simp [LIM], by simp⟩, by simp, by simp [wfR]⟩, rfl, rfl, fun _ => trivial, fun q hq => by simp [immL, hdrImm, immR] at hq⟩
      · obtain rfl : fuel = m := by omega
        have hlenb : (elems.length + rest.length) * b ≤ reachBytes := by
          have := hw ((elems.length + rest.length) * P.bytesOf e) (by simp [DataW.weights, hu])
          rwa [hb] at this
        obtain ⟨rows, hr1, hr2⟩ := choose_rows (R := fun i (r : List (L Value)) => (∃ c, w.cells? base (a.add (i * n)) n = some c ∧ r.map val = c) ∧ Fits ty' r ∧ (∀ l ∈ r, Pl w l)) len fun i hi => by
          have h1 := hel i hi
          have hie : i < elems.length := by omega
          rw [List.getElem?_eq_getElem hie, Option.bind_eq_some_iff, hn] at h1
          obtain ⟨c, hc, ht⟩ := h1
          obtain ⟨ls, e1, e2, e3, _⟩ := ih he ht fun k hk => hw k (by
            simp only [DataW.weights, hu, List.mem_cons, List.mem_append]
            refine .inr (.inl (weights_all (i := i) ?_ k hk))
            rw [List.getElem?_map, List.getElem?_eq_getElem hie]
            rfl)
          exact ⟨ls, ⟨c, hc, e1⟩, e2, e3⟩
        have hmem : ∀ r ∈ rows, Fits ty' r ∧ (∀ l ∈ r, Pl w l) ∧ r.length = n := fun r hr => by
          obtain ⟨i, hi⟩ := List.getElem?_of_mem hr
          obtain ⟨⟨c, hc, e1⟩, e2, e3⟩ := hr2 i r hi
          refine ⟨e2, e3, ?_⟩
          have := (World.cells?_some hc).2.1
          rw [← e1, List.length_map] at this
          exact this
        have hsp : rows ≠ [] → a = ⟨a.block, a.off, none⟩ := fun hne => by
          obtain ⟨r, hr⟩ : ∃ r, rows[0]? = some r := by
            cases rows with
            | nil => exact absurd rfl hne
            | cons r _ => exact ⟨r, rfl⟩
          obtain ⟨⟨c, hc, e1⟩, _⟩ := hr2 0 r hr
          obtain ⟨_, k1, k2⟩ := World.cells?_some hc
          have := k2 0 hn0
          rw [List.getElem?_eq_getElem (by omega), Nat.zero_mul] at this
          have h0 : (a.add 0).add 0 = a := by simp [Addr.add]
          rw [h0] at this
          have := World.cell?_spot this
          cases a
          simp only at this
          subst this
          rfl
        have hLen : rows.length ≤ LIM := by
          have h3 : len * b ≤ reachBytes := Nat.le_trans (Nat.mul_le_mul_right _ (by omega)) hlenb
          have h4 : len * 1 ≤ len * b := Nat.mul_le_mul_left _ hb0
          have h5 : reachBytes ≤ LIM := by decide
          omega
        refine ⟨[.bs (.slice (some a) len cap) n rows], rfl, .sl ?_ (fun r hr => (hmem r hr).1), ?_, rfl⟩
        · rw [hr1]
          exact Nat.le_trans (Nat.mul_le_mul_right _ (by omega)) hlenb
        · intro l hl'
          simp only [List.mem_singleton] at hl'
          subst hl'
          refine ⟨fun nest => ⟨⟨some a, cap, by rw [hr1], by omega, hLen, fun hne => ⟨a.block, a.off, by rw [← hsp hne]⟩⟩, fun r hr => (hmem r hr).2.2, ?_⟩, rfl, rfl, fun _ => trivial, fun q hq hne => ?_⟩
          · exact (wfR_iff true rows).2 fun r hr l hl => ((hmem r hr).2.1 l hl).wf true
          · simp only [immL, hdrImm, List.mem_append, List.mem_singleton] at hq
            rcases hq with rfl | hq
            · intro j v hj
              obtain ⟨r, k1, k2, _⟩ := valR_at (fun r hr => (hmem r hr).2.2) hj
              obtain ⟨⟨c, hc, e1⟩, _⟩ := hr2 _ r k1
              obtain ⟨_, k3, k4⟩ := World.cells?_some hc
              have hr0 : rows ≠ [] := fun h0 => by rw [h0] at k1; simp at k1
              have := k4 (j % n) (Nat.mod_lt _ hn0)
              rw [← e1, k2, hsp hr0, addr_add, addr_add] at this
              simp only at this ⊢
              rw [← this]
              congr 2
              have := Nat.div_add_mod j n
              rw [Nat.mul_comm] at this
              omega
            · rw [immR_eq] at hq
              obtain ⟨l, hl, hq⟩ := List.mem_flatMap.1 hq
              obtain ⟨r, hr, hl⟩ := List.mem_flatten.1 hl
              exact ((hmem r hr).2.1 l hl).imm q hq hne
    | st hu hm hfs =>
      rename_i gs fs m
      obtain ⟨xs, k, hk, rfl, hcs, hxl, hxs⟩ := DataW.trod_struct hu h
      obtain rfl : fuel = k := by omega
      rw [hm] at hcs
      have key : ∀ (gl : List Field) (fs : List Ty) (o i : Nat), FsP P gl fs o m → gs.toList.drop i = gl → o ≤ m → ∃ ls : List (L Value), ls.map val = cs.drop o ∧ Fits (.st fs) ls ∧ ∀ l ∈ ls, Pl w l := by
        intro gl
        induction gl with
        | nil =>
          intro fs o i hf _ ho
          cases hf
          exact ⟨[], by rw [List.drop_of_length_le (by omega)]; rfl, .st0, by simp⟩
        | cons g gl ihg =>
          intro fs o i hf hd ho
          cases hf with
          | cons h1 h2 h3 h4 =>
            rename_i ty1 tys c
            have hgi : gs[i]? = some g := by
              have : (gs.toList.drop i)[0]? = some g := by rw [hd]; rfl
              rw [List.getElem?_drop] at this
              simpa using this
            have h5 := hxs i g hgi
            have hi : i < xs.length := by
              rw [hxl]
              exact (Array.getElem?_eq_some_iff.1 hgi).1
            rw [List.getElem?_eq_getElem hi] at h5
            obtain ⟨ls1, a1, a2, a3, _⟩ := ih h3 h5 fun n hn => hw n (by
              simp only [DataW.weights, hu]
              refine DataW.weights_mem_each (j := i) (t := g.type) (d := (xs[i]'hi).1) ?_ ?_ n hn
              · rw [List.getElem?_map, Array.getElem?_toList, hgi]; rfl
              · rw [List.getElem?_map, List.getElem?_eq_getElem hi]; rfl)
            have hle : o + c ≤ m := by
              clear ihg
              have : ∀ {gl : List Field} {tys : List Ty} {o m : Nat}, FsP P gl tys o m → o ≤ m := by
                intro gl
                induction gl with
                | nil => intro tys o m h; cases h; omega
                | cons g gl ih =>
                  intro tys o m h
                  cases h with
                  | cons _ _ _ h => have := ih h; omega
              exact this h4
            obtain ⟨ls2, b1, b2, b3⟩ := ihg tys (o + c) (i + 1) h4 (by rw [← List.drop_drop, hd]; rfl) hle
            refine ⟨ls1 ++ ls2, ?_, .st a2 b2, fun l hl => (List.mem_append.1 hl).elim (a3 l) (b3 l)⟩
            rw [List.map_append, a1, b1, h1, h2]
            rw [← List.drop_drop]
            exact List.take_append_drop c _
      obtain ⟨ls, a1, a2, a3⟩ := key gs.toList fs 0 0 hfs rfl (Nat.zero_le _)
      exact ⟨ls, by simpa using a1, a2, a3, rfl⟩
end
end Go.Proofs.Ytmckcjoacfekcaa.AM

namespace Go.Proofs.Ytmckcjoacfekcaa.AM
open Go Go.WideShapes Go.ChangeShapes Go.RowKit

theorem dc_rows {α : Type} {ty : Ty} {enc : α → List (L Unit)} {ok : α → Prop} (hd : ∀ ls, Fits ty ls → ∃ x, ls = enc x ∧ ok x) : ∀ {rows : List (List (L Unit))}, (∀ r ∈ rows, Fits ty r) → ∃ xs : List α, rows = xs.map enc ∧ ∀ x ∈ xs, ok x
  | [], _ => ⟨[], rfl, by simp⟩
  | r :: rows, h => by
    obtain ⟨x, rfl, hx⟩ := hd r (h r (by simp))
    obtain ⟨xs, rfl, hxs⟩ := dc_rows hd (rows := rows) fun r hr => h r (by simp [hr])
    exact ⟨x :: xs, rfl, fun y hy => (List.mem_cons.1 hy).elim (fun e => e ▸ hx) (hxs y)⟩
theorem dc_list {α : Type} {n b : Nat} {ty : Ty} {enc : α → List (L Unit)} {ok : α → Prop} (hd : ∀ ls, Fits ty ls → ∃ x, ls = enc x ∧ ok x) {ls : List (L Unit)} (h : Fits (.sl n b ty) ls) :
    ∃ xs : List α, ls = lL false n enc xs ∧ xs.length * b ≤ reachBytes ∧ ∀ x ∈ xs, ok x := by
  cases h with
  | sl h1 h2 =>
    obtain ⟨xs, rfl, hxs⟩ := dc_rows hd h2
    exact ⟨xs, rfl, by simpa using h1, hxs⟩
/-- A value that is read, of one cell. -/
theorem read_one {H : Type} {enc : TypeId × Value → H} {P : Program} {w : World} {base : Nat} {spare : Nat → Bool} {held : Bool} {t : TypeId} {ty : Ty} {v : Value} {d : DataW H} {p : List MemPlace}
    (hty : TyP P t ty) (hv : v.cells = #[v]) (h : DataW.Trod enc P w base spare held t v d p) (hw : ∀ n ∈ d.weights P t, n ≤ reachBytes) :
    ∃ l : L Value, UR (.one l) v ∧ Fits ty [erL l] ∧ Pl w l := by
  obtain ⟨fuel, hf⟩ := h
  obtain ⟨ls, e1, e2, e3, _⟩ := reading fuel hty hf hw
  rw [hv] at e1
  match ls, e1, e2, e3 with
  | [l], e1, e2, e3 =>
    simp only [List.map_cons, List.map_nil, List.cons.injEq, and_true] at e1
    exact ⟨l, e1.symm, e2.map _, e3 l (by simp)⟩
/-- A call over arguments that are only read. -/
theorem enter_sim {P : Program} {f : FuncId} {W : World} {us : List (U Value)} {args : List (U Unit)} {vals : List Value} {r : V Unit} (hs : Sim P f args [] r []) (ha : us.map erU = args) (hus : All2 UR us vals) (hpl : ∀ u ∈ us, ∀ l ∈ leavesU u, Pl W l) :
    Calls P f vals.toArray W fun e W' => ∃ x rv, e = .returned x ∧ erV rv = r ∧ VR rv x ∧ Below W.heap.size W W' := by
  have htop : ∀ l ∈ tops (⟨us.map .u, [], 0⟩ : S Value), Pl W l := by
    intro l hl
    simp only [tops, obLeaves, List.flatMap_nil, List.append_nil, List.mem_flatMap, List.mem_map] at hl
    obtain ⟨_, ⟨u, hu, rfl⟩, hl⟩ := hl
    exact hpl u hu l hl
  have hown : ownS (⟨us.map .u, [], 0⟩ : S Value) = [] := by
    unfold ownS
    simp only [List.flatMap_nil, List.nil_append, List.flatMap_eq_nil_iff]
    exact fun l hl => (htop l hl).own
  refine (hs W ⟨us.map .u, [], 0⟩ us vals rfl ha hus rfl ?_ fun l hl i hi => ?_).mono fun e W' h => ?_
  · refine ⟨fun l hl => ⟨(htop l hl).wf false, (htop l hl).ref _⟩, fun p hp => by simp at hp, List.nodup_nil, fun p hp => ?_, ?_, fun p hp hne => ?_⟩
    · rw [hown] at hp; simp at hp
    · rw [hown]; exact List.nodup_nil
    · obtain ⟨l, hl, hp⟩ := List.mem_flatMap.1 hp
      exact ⟨(htop l hl).imm p hp hne, fun q hq => by rw [hown] at hq; simp at hq⟩
  · rw [(htop l hl).ids] at hi; simp at hi
  · obtain ⟨x, d', rv, h1, _, h3, _, h5, h6⟩ := h
    refine ⟨x, rv, h1, h3, h5, h6.fr.3.1, h6.fr.3.2.1, h6.fr.3.2.2, h6.fr.1, fun k hk => h6.fr.2 k hk fun ⟨p, hp, _⟩ => by rw [hown] at hp; simp at hp⟩
theorem res_bool {rv : V Value} {x : Value} {b : Bool} (h : erV rv = .u (.one (.bool b))) (hv : VR rv x) : x = .bool b := by
  cases rv with
  | u u =>
    cases u with
    | one l =>
      cases l <;> simp only [erV, mapV, mapU, mapL, V.u.injEq, U.one.injEq, reduceCtorEq] at h
      cases h
      exact hv
    | agg ls => simp [erV, mapV, mapU] at h
  | _ => simp [erV, mapV] at h
end Go.Proofs.Ytmckcjoacfekcaa.AM

namespace Go.Proofs.Ytmckcjoacfekcaa.AM
open Go
theorem inI_le {n : Int} (h1 : -9223372036854775808 ≤ n) (h2 : n ≤ 9223372036854775807) : inI n := ⟨h1, h2⟩
theorem wrap_in {n : Int} (h1 : -9223372036854775808 ≤ n) (h2 : n ≤ 9223372036854775807) : IntKind.i64.wrap n = n := IntWalk.i64_in n (by omega)
theorem at_mem {α : Type} [Inhabited α] {xs : List α} {n : Int} (h : 0 ≤ n ∧ n < (xs.length : Int)) : at_ xs n ∈ xs := List.mem_of_getElem? (at_get h)
/-- (Not by rfl: the kernel then need not compare great terms.) -/
theorem obs {α β : Type} (a : α) (f : α → Option β) : Option.bind (some a) f = f a := by
  have : ∀ o, o = some a → Option.bind o f = f a := fun o h => by subst h; rfl
  exact this _ rfl
/-- A loop with a measure that falls. -/
theorem loop_wf {σ ρ : Type} {body : σ → Option (σ ⊕ ρ)} {L : Option ρ} {s0 : σ} (hB : loopO body s0 = L) (I : σ → Prop) (m : σ → Nat) (Q : ρ → Prop)
    (h : ∀ s, I s → (∃ s', body s = some (.inl s') ∧ I s' ∧ m s' < m s) ∨ (∃ r, body s = some (.inr r) ∧ Q r)) (h0 : I s0) : ∃ r, L = some r ∧ Q r := by
  subst hB
  have key : ∀ n s, m s ≤ n → I s → ∃ r, loopO body s = some r ∧ Q r := by
    intro n
    induction n with
    | zero =>
      intro s hm hi
      rcases h s hi with ⟨s', e, hi', hlt⟩ | ⟨r, e, hq⟩
      · omega
      · exact ⟨r, by rw [loopO_step, e]; rfl, hq⟩
    | succ n ih =>
      intro s hm hi
      rcases h s hi with ⟨s', e, hi', hlt⟩ | ⟨r, e, hq⟩
      · obtain ⟨r, e2, hq⟩ := ih s' (by omega) hi'
        exact ⟨r, by rw [loopO_step, e]; exact e2, hq⟩
      · exact ⟨r, by rw [loopO_step, e]; rfl, hq⟩
  exact key _ s0 (Nat.le_refl _) h0
/-- A loop that counts from a to n, with a part that grows. -/
theorem loop_cnt {σ : Type} {ρ : Type} {body : σ → Option (σ ⊕ ρ)} {L : Option ρ} {s0 : σ} (hB : loopO body s0 = L) (st : Nat → σ) (n : Nat) (r : ρ) (e0 : s0 = st 0)
    (h : ∀ k, k < n → body (st k) = some (.inl (st (k + 1)))) (he : body (st n) = some (.inr r)) : L = some r := by
  subst hB e0
  have key : ∀ m k, k + m = n → loopO body (st k) = some r := by
    intro m
    induction m with
    | zero =>
      intro k hk
      obtain rfl : k = n := by omega
      rw [loopO_step, he]; rfl
    | succ m ih =>
      intro k hk
      rw [loopO_step, h k (by omega)]
      exact ih (k + 1) (by omega)
  exact key n 0 (by omega)
theorem dc_u8 {ls : List (L Unit)} (h : Fits (.int .u8) ls) : ∃ n, ls = iK .u8 n ∧ 0 ≤ n ∧ n ≤ 255 := by
  cases h with
  | int h =>
    refine ⟨_, rfl, ?_⟩
    simp [Lit.wf, IntKind.min, IntKind.max, IntKind.bits, IntKind.signed] at h
    exact h
end Go.Proofs.Ytmckcjoacfekcaa.AM

namespace Go.Proofs.Ytmckcjoacfekcaa.AM
open Go
set_option linter.unusedSimpArgs false
set_option linter.unusedVariables false
def okRd (r : Gl1Rd) : Prop := 0 ≤ r.p ∧ r.p ≤ (r.b.length : Int) ∧ r.b.length ≤ 140737488355328 ∧ ∀ x ∈ r.b, 0 ≤ x ∧ x ≤ 255
theorem next_ok {r : Gl1Rd} (h : okRd r) : ∃ x r', spec_l1Rd_next_m r = some (x, r') ∧ okRd r' ∧ 0 ≤ x ∧ x ≤ 255 := by
  obtain ⟨h1, h2, h3, h4⟩ := h
  unfold spec_l1Rd_next_m
  by_cases hp : r.p ≥ (r.b.length : Int)
  · rw [if_pos (by simpa using hp)]
    exact ⟨0, r, rfl, ⟨h1, h2, h3, h4⟩, by omega, by omega⟩
  · rw [if_neg (by simpa using hp), if_pos (inI_le (by omega) (by omega)), if_pos (inI_le (by simp only; omega) (by simp only; omega)), if_pos (by simp only; omega)]
    have hb := h4 (at_ r.b (r.p + 1 - 1)) (at_mem (by omega))
    refine ⟨_, _, rfl, ⟨by simp only; omega, by simp only; omega, h3, h4⟩, ?_⟩
    simp only
    rw [wrap_in (by omega) (by omega)]
    exact hb
theorem tmod_lt {a n : Int} (h : 0 ≤ a) (hn : 1 ≤ n) : 0 ≤ Int.tmod a n ∧ Int.tmod a n < n := by
  rw [Int.tmod_eq_emod_of_nonneg h]
  exact ⟨Int.emod_nonneg _ (by omega), Int.emod_lt_of_pos _ (by omega)⟩
theorem below_ok {r : Gl1Rd} (h : okRd r) (n : Int) : ∃ x r', spec_l1Rd_below_m r n = some (x, r') ∧ okRd r' ∧ 0 ≤ x ∧ (1 ≤ n → x < n) := by
  unfold spec_l1Rd_below_m
  by_cases hn : n ≤ 1
  · rw [if_pos (by simpa using hn)]
    exact ⟨0, r, rfl, h, by omega, by omega⟩
  · rw [if_neg (by simpa using hn)]
    obtain ⟨x, r', e, h', hx⟩ := next_ok h
    by_cases hn2 : n ≤ 256
    · rw [if_pos (by simpa using hn2), e]
      simp only [Option.bind_some]
      rw [if_pos (by omega)]
      exact ⟨_, _, rfl, h', (tmod_lt hx.1 (by omega)).1, fun _ => (tmod_lt hx.1 (by omega)).2⟩
    · rw [if_neg (by simpa using hn2), e]
      simp only [Option.bind_some]
      obtain ⟨y, r2, e2, h2, hy⟩ := next_ok h'
      rw [e2]
      simp only [Option.bind_some]
      rw [if_pos (by omega), wrap_in (n := x * 256) (by omega) (by omega), wrap_in (by omega) (by omega)]
      exact ⟨_, _, rfl, h2, (tmod_lt (by omega) (by omega)).1, fun _ => (tmod_lt (by omega) (by omega)).2⟩
theorem once_ok {r : Gl1Rd} (h : okRd r) (n : Int) (hn : inI (n - 1)) : ∃ x r', spec_l1Rd_once_m r n = some (x, r') ∧ okRd r' := by
  unfold spec_l1Rd_once_m
  obtain ⟨x, r', e, h', hx⟩ := below_ok h n
  rw [e]
  simp only [Option.bind_some]
  rw [if_pos hn]
  exact ⟨_, _, rfl, h'⟩
theorem word_ok {r : Gl1Rd} (h : okRd r) : ∃ x r', spec_l1Rd_word_m r = some (x, r') ∧ okRd r' := by
  unfold spec_l1Rd_word_m
  generalize hB : loopO _ _ = L
  obtain ⟨⟨r2, x⟩, e, h2⟩ := loop_wf hB (fun s => okRd s.1 ∧ 0 ≤ s.2.2 ∧ s.2.2 ≤ 8) (fun s => (8 - s.2.2).toNat) (fun s => okRd s.1) (by
    rintro ⟨r, a, i⟩ ⟨h1, h2, h3⟩
    simp only at h1 h2 h3 ⊢
    by_cases hi : i < 8
    · left
      rw [if_pos (by simpa using hi)]
      obtain ⟨x, r', e, h', hx⟩ := next_ok h1
      rw [e]
      simp only [Option.bind_some]
      rw [if_pos (inI_le (by omega) (by omega))]
      exact ⟨_, rfl, ⟨h', by simp only; omega, by simp only; omega⟩, by simp only; omega⟩
    · right
      rw [if_neg (by simpa using hi)]
      exact ⟨_, rfl, h1⟩) ⟨h, by simp only; omega, by simp only; omega⟩
  subst e
  exact ⟨_, _, rfl, h2⟩
theorem near_ok {r : Gl1Rd} (h : okRd r) (low high : Int) (h1 : ¬ high < low → inI (IntKind.i64.wrap (high - low) + 1) ∧ IntKind.u64.wrap (IntKind.i64.wrap (high - low) + 1) ≠ 0) : ∃ x r', spec_l1Rd_near_m r low high = some (x, r') ∧ okRd r' := by
  unfold spec_l1Rd_near_m
  obtain ⟨x, r', e, h', hx⟩ := below_ok h 8
  rw [e]
  simp only [Option.bind_some]
  split
  · exact ⟨_, _, rfl, h'⟩
  · split
    · exact ⟨_, _, rfl, h'⟩
    · split
      · exact ⟨_, _, rfl, h'⟩
      · rename_i hl
        obtain ⟨y, r2, e2, h2⟩ := word_ok h'
        rw [e2]
        simp only [Option.bind_some]
        have := h1 (by simpa using hl)
        rw [if_pos this.1, if_pos this.2]
        exact ⟨_, _, rfl, h2⟩
theorem off_ok {r : Gl1Rd} (h : okRd r) (low high : Int) (hl : inI (low - 1)) (hh : inI (high + 1)) (h1 : ¬ high < low → inI (IntKind.i64.wrap (high - low) + 1) ∧ IntKind.u64.wrap (IntKind.i64.wrap (high - low) + 1) ≠ 0) : ∃ x r', spec_l1Rd_off_m r low high = some (x, r') ∧ okRd r' := by
  unfold spec_l1Rd_off_m
  obtain ⟨x, r', e, h'⟩ := once_ok h 24 (inI_le (by omega) (by omega))
  rw [e]
  simp only [Option.bind_some]
  split
  · obtain ⟨y, r2, e2, h2, hy, hy2⟩ := below_ok h' 4
    have hy3 := hy2 (by omega)
    rw [e2]
    simp only [Option.bind_some]
    rw [if_pos ⟨hy, by simpa using hy3⟩]
    exact ⟨_, _, rfl, h2⟩
  · obtain ⟨y, r2, e2, h2⟩ := near_ok h' low high h1
    rw [e2]
    exact ⟨_, _, rfl, h2⟩
theorem open_ok {code : List Int} (hl : code.length ≤ 140737488355328) (h : ∀ x ∈ code, 0 ≤ x ∧ x ≤ 255) : okRd (spec_l1Open_m code) := ⟨Int.le_refl _, by simp only [spec_l1Open_m]; omega, hl, h⟩
end Go.Proofs.Ytmckcjoacfekcaa.AM

namespace Go.Proofs.Ytmckcjoacfekcaa.AM
open Go
def Run {β : Type} (o : Option β) (Q : β → Prop) : Prop := ∃ y, o = some y ∧ Q y
theorem Run.mk {β : Type} {y : β} {Q : β → Prop} (h : Q y) : Run (some y) Q := ⟨y, rfl, h⟩
theorem Run.bind {α β : Type} {o : Option α} {F : α → Option β} {R : α → Prop} {Q : β → Prop} (h : Run o R) (H : ∀ a, R a → Run (F a) Q) : Run (Option.bind o F) Q := by
  obtain ⟨a, e, ha⟩ := h
  rw [e, obs]
  exact H a ha
theorem Run.yes {β : Type} {c : Prop} [Decidable c] {a b : Option β} {Q : β → Prop} (hc : c) (h : Run a Q) : Run (if c then a else b) Q := by rw [if_pos hc]; exact h
theorem Run.no {β : Type} {c : Prop} [Decidable c] {a b : Option β} {Q : β → Prop} (hc : ¬ c) (h : Run b Q) : Run (if c then a else b) Q := by rw [if_neg hc]; exact h
theorem Run.if {β : Type} {c : Prop} [Decidable c] {a b : Option β} {Q : β → Prop} (h1 : c → Run a Q) (h2 : ¬ c → Run b Q) : Run (if c then a else b) Q := by
  by_cases h : c
  · exact .yes h (h1 h)
  · exact .no h (h2 h)
theorem Run.mono {β : Type} {o : Option β} {Q Q' : β → Prop} (h : Run o Q) (hq : ∀ y, Q y → Q' y) : Run o Q' := by
  obtain ⟨y, e, h⟩ := h
  exact ⟨y, e, hq y h⟩
def LoopQ {σ ρ : Type} (I : σ → Prop) (m : σ → Nat) (n : Nat) (Q : ρ → Prop) : σ ⊕ ρ → Prop
  | .inl s => I s ∧ m s < n
  | .inr r => Q r
theorem Run.nx {σ ρ : Type} {I : σ → Prop} {m : σ → Nat} {n : Nat} {Q : ρ → Prop} {s : σ} (h : I s ∧ m s < n) : Run (some (.inl s : σ ⊕ ρ)) (LoopQ I m n Q) := ⟨_, rfl, h⟩
theorem Run.out {σ ρ : Type} {I : σ → Prop} {m : σ → Nat} {n : Nat} {Q : ρ → Prop} {r : ρ} (h : Q r) : Run (some (.inr r : σ ⊕ ρ)) (LoopQ I m n Q) := ⟨_, rfl, h⟩
theorem Run.loop {σ ρ : Type} {body : σ → Option (σ ⊕ ρ)} {s0 : σ} {Q : ρ → Prop} (I : σ → Prop) (m : σ → Nat) (h0 : I s0) (h : ∀ s, I s → Run (body s) (LoopQ I m (m s) Q)) : Run (loopO body s0) Q := by
  refine loop_wf rfl I m Q (fun s hs => ?_) h0
  obtain ⟨x, e, hx⟩ := h s hs
  cases x with
  | inl s' => exact .inl ⟨s', e, hx⟩
  | inr r => exact .inr ⟨r, e, hx⟩
end Go.Proofs.Ytmckcjoacfekcaa.AM

namespace Go.Proofs.Ytmckcjoacfekcaa.AM
open Go
set_option linter.unusedSimpArgs false
set_option linter.unusedVariables false
abbrev KM : Nat := 1000000
def isW (w : Int) : Prop := w = 1 ∨ w = 8 ∨ w = 16 ∨ w = 32
theorem LIM_eq : LIM = 140737488355328 := rfl
theorem below_run {r : Gl1Rd} (h : okRd r) (n : Int) : Run (spec_l1Rd_below_m r n) (fun y => okRd y.2 ∧ 0 ≤ y.1 ∧ (1 ≤ n → y.1 < n)) := by
  obtain ⟨x, r', e, h1, h2⟩ := below_ok h n
  exact ⟨_, e, h1, h2⟩
theorem once_run {r : Gl1Rd} (h : okRd r) {n : Int} (hn : inI (n - 1)) : Run (spec_l1Rd_once_m r n) (fun y => okRd y.2) := by
  obtain ⟨x, r', e, h1⟩ := once_ok h n hn
  exact ⟨_, e, h1⟩
theorem word_run {r : Gl1Rd} (h : okRd r) : Run (spec_l1Rd_word_m r) (fun y => okRd y.2) := by
  obtain ⟨x, r', e, h1⟩ := word_ok h
  exact ⟨_, e, h1⟩
theorem off_run {r : Gl1Rd} (h : okRd r) {low high : Int} (hl : inI (low - 1)) (hh : inI (high + 1)) (h1 : ¬ high < low → inI (IntKind.i64.wrap (high - low) + 1) ∧ IntKind.u64.wrap (IntKind.i64.wrap (high - low) + 1) ≠ 0) : Run (spec_l1Rd_off_m r low high) (fun y => okRd y.2) := by
  obtain ⟨x, r', e, h1⟩ := off_ok h low high hl hh h1
  exact ⟨_, e, h1⟩
theorem width_run {r : Gl1Rd} (h : okRd r) : Run (spec_l1Rd_width_m r) (fun y => okRd y.2 ∧ isW y.1) := by
  unfold spec_l1Rd_width_m
  refine Run.bind (below_run h 4) ?_
  rintro ⟨x, r'⟩ ⟨h1, h2, h3⟩
  have h3 := h3 (by omega)
  refine Run.yes ⟨h2, by simpa using h3⟩ (Run.mk ⟨h1, ?_⟩)
  have : x = 0 ∨ x = 1 ∨ x = 2 ∨ x = 3 := by simp only at h2 h3; omega
  rcases this with rfl | rfl | rfl | rfl <;> simp [isW, at_]
theorem value_run {r : Gl1Rd} (h : okRd r) {w : Int} (hw : isW w) : Run (spec_l1Rd_value_m r w) (fun y => okRd y.2) := by
  unfold spec_l1Rd_value_m
  have h1 : 0 ≤ IntKind.u64.wrap w := by rcases hw with rfl | rfl | rfl | rfl <;> decide
  have h2 : inI ((IntKind.i64.wrap (1 * 2 ^ min (Int.toNat (IntKind.u64.wrap w)) (IntKind.bits .i64))) - 1) := by rcases hw with rfl | rfl | rfl | rfl <;> exact inI_le (by decide) (by decide)
  have h3 : IntKind.i64.wrap (1 * 2 ^ min (Int.toNat (IntKind.u64.wrap w)) (IntKind.bits .i64)) ≠ 0 := by rcases hw with rfl | rfl | rfl | rfl <;> decide
  refine Run.yes h1 (Run.bind (below_run h 7) ?_)
  rintro ⟨x, r'⟩ ⟨g1, _, _⟩
  refine Run.if (fun _ => Run.mk g1) (fun _ => Run.if (fun _ => Run.mk g1) (fun _ => Run.if (fun _ => Run.yes h2 (Run.mk g1)) (fun _ => Run.if (fun _ => Run.mk g1) (fun _ => Run.bind (word_run g1) ?_))))
  rintro ⟨y, r2⟩ g2
  exact Run.yes h3 (Run.mk g2)
/-- What tells out or stores gives nothing. -/
def okI (i : GInst) : Prop := i.w = 0 ∨ (i.op_ ≠ 24 ∧ i.op_ ≠ 25)
/-- What grows is small. -/
structure okG (k : Nat) (g : Gl2G) : Prop where
  ids : g.ids.length ≤ k
  ws : g.ws.length = g.ids.length
  n0 : 0 ≤ g.next
  n1 : g.next ≤ (k : Int)
  insts : g.b.insts.length ≤ k
  phis : g.b.phis.length ≤ k
  blocks : g.f.blocks.length ≤ k
  params : g.f.params.length ≤ k
  pw : ∀ w ∈ g.f.params, isW w
  ret : isW g.f.ret
  rows : ∀ b ∈ g.f.blocks, b.phis.length ≤ k ∧ b.insts.length ≤ k
  okis : ∀ i ∈ g.b.insts, okI i
  okbs : ∀ b ∈ g.f.blocks, ∀ i ∈ b.insts, okI i
theorem okG.mono {k k' : Nat} {g : Gl2G} (h : okG k g) (hk : k ≤ k') : okG k' g :=
  ⟨Nat.le_trans h.ids hk, h.ws, h.n0, by have := h.n1; omega, Nat.le_trans h.insts hk, Nat.le_trans h.phis hk, Nat.le_trans h.blocks hk, Nat.le_trans h.params hk, h.pw, h.ret, fun b hb => ⟨Nat.le_trans (h.rows b hb).1 hk, Nat.le_trans (h.rows b hb).2 hk⟩, h.okis, h.okbs⟩
/-- The same function, the same phis. -/
def Sm (g g' : Gl2G) : Prop := g'.f = g.f ∧ g'.b.phis = g.b.phis
theorem Sm.trans {a b c : Gl2G} (h : Sm a b) (h' : Sm b c) : Sm a c := ⟨h'.1.trans h.1, h'.2.trans h.2⟩
theorem Sm.refl (a : Gl2G) : Sm a a := ⟨rfl, rfl⟩
structure okP (rets : List Int) (pars : List (List Int)) : Prop where
  len : pars.length = rets.length
  small : rets.length ≤ 10
  rw_ : ∀ w ∈ rets, isW w
  rows : ∀ l ∈ pars, l.length ≤ 10 ∧ ∀ w ∈ l, isW w
section
variable {k : Nat} {g : Gl2G} {gr : Gl1Rd} {rets : List Int} {pars : List (List Int)}
theorem add_run (h : okG k g) (hk : k ≤ KM) (w : Int) : Run (spec_l2G_add_m g gr rets pars w) (fun y => okG (k + 1) y.2.1 ∧ y.2.2 = gr ∧ y.2.1.f = g.f ∧ y.2.1.b = g.b) := by
  have hL := LIM_eq
  obtain ⟨h1, h2, h3, h4, h5, h6, h7, h8, h9, h10, h11, h12, h13⟩ := h
  unfold KM at hk
  unfold spec_l2G_add_m
  refine Run.bind (R := fun _ => True) (Run.yes (by simp only [List.length_nil]; omega) (Run.yes (by simp only [List.nil_append, List.length_singleton]; omega) (Run.mk trivial))) (fun _ _ => ?_)
  refine Run.yes (by simp only [List.length_nil]; omega) (Run.yes (by simp only [List.nil_append, List.length_singleton]; omega) (Run.yes (inI_le (by simp only; omega) (by simp only; omega)) (Run.yes (inI_le (by simp only; omega) (by simp only; omega)) (Run.mk ⟨?_, rfl, rfl, rfl⟩))))
  exact ⟨by simp; omega, by simp [h2], by simp only; omega, by simp only; omega, by simp only; omega, by simp only; omega, by simp only; omega, by simp only; omega, h9, h10, fun b hb => ⟨by have := (h11 b hb).1; omega, by have := (h11 b hb).2; omega⟩, h12, h13⟩
theorem put_run (h : okG k g) (hr : okRd gr) (hk : k + 1 ≤ KM) (i : GInst) (hi : okI i) : Run (spec_l2G_put_m g gr rets pars i) (fun y => okG (k + 2) y.2.1 ∧ okRd y.2.2 ∧ Sm g y.2.1) := by
  have hL := LIM_eq
  have h0 := h
  obtain ⟨h1, h2, h3, h4, h5, h6, h7, h8, h9, h10, h11, h12, h13⟩ := h
  unfold KM at hk
  have h12' : ∀ j ∈ g.b.insts ++ [i], okI j := fun j hj => by
    rcases List.mem_append.1 hj with hj | hj
    · exact h12 j hj
    · simp only [List.mem_singleton] at hj
      subst hj
      exact hi
  unfold spec_l2G_put_m
  refine Run.yes (by simp only [List.length_singleton]; omega) (Run.if (fun _ => Run.yes (inI_le (by omega) (by omega)) (Run.mk ⟨?_, hr, rfl, rfl⟩)) (fun _ => ?_))
  · exact ⟨by simp only; omega, h2, by simp only; omega, by simp only; omega, by simp; omega, by simp only; omega, by simp only; omega, by simp only; omega, h9, h10, fun b hb => ⟨by have := (h11 b hb).1; omega, by have := (h11 b hb).2; omega⟩, h12', h13⟩
  · refine Run.bind (add_run (k := k + 1) ?_ (by unfold KM; omega) _) ?_
    · exact ⟨by simp only; omega, h2, by simp only; omega, by simp only; omega, by simp; omega, by simp only; omega, by simp only; omega, by simp only; omega, h9, h10, fun b hb => ⟨by have := (h11 b hb).1; omega, by have := (h11 b hb).2; omega⟩, h12', h13⟩
    · rintro ⟨x, g', r'⟩ ⟨g1, rfl, g3, g4⟩
      exact Run.mk ⟨g1, hr, g3, by simp only at g4 ⊢; rw [g4]⟩
theorem pick_run (h : okG k g) (hr : okRd gr) (hk : k + 1 ≤ KM) {w : Int} (hw : isW w) : Run (spec_l2G_pick_m g gr rets pars w) (fun y => okG (k + 2) y.2.1 ∧ okRd y.2.2 ∧ Sm g y.2.1) := by
  have hL := LIM_eq
  have h1 := h.ids
  have h2 := h.ws
  have hk' := hk
  unfold KM at hk
  unfold spec_l2G_pick_m
  refine Run.bind (R := fun l => l.length ≤ k) (Run.loop (fun s => 0 ≤ s.2 ∧ s.2 ≤ (g.ids.length : Int) ∧ (s.1.length : Int) ≤ s.2) (fun s => (g.ids.length - s.2).toNat) ⟨Int.le_refl _, by omega, by simp⟩ ?_) ?_
  · rintro ⟨l, i⟩ ⟨a1, a2, a3⟩
    simp only at a1 a2 a3 ⊢
    refine Run.if (fun hi => ?_) (fun hi => Run.out (by omega))
    have hi : i < (g.ids.length : Int) := by simpa using hi
    refine Run.yes (by omega) (Run.if (fun _ => Run.yes (by omega) (Run.yes (by simp only [List.length_singleton]; omega) (Run.yes (inI_le (by omega) (by omega)) (Run.nx ?_)))) (fun _ => Run.yes (inI_le (by omega) (by omega)) (Run.nx ?_)))
    · exact ⟨⟨by simp only; omega, by simp only; omega, by simp; omega⟩, by simp only; omega⟩
    · exact ⟨⟨by simp only; omega, by simp only; omega, by simp only; omega⟩, by simp only; omega⟩
  intro fit hf
  refine Run.bind (R := fun y => okRd y.1 ∧ (y.2 = false → fit ≠ [])) (Run.if (fun _ => Run.mk ⟨hr, fun h => by cases h⟩) (fun hn => Run.bind (once_run hr (inI_le (by omega) (by omega))) ?_)) ?_
  · rintro ⟨b, r'⟩ g1
    exact Run.mk ⟨g1, fun _ e => hn (by simp [e])⟩
  rintro ⟨r', b⟩ ⟨g1, g2⟩
  simp only at g1 g2 ⊢
  refine Run.if (fun _ => Run.bind (value_run g1 hw) ?_) (fun hb => Run.bind (below_run g1 _) ?_)
  · rintro ⟨x, r2⟩ g3
    have e1 : 0 ≤ IntKind.u64.wrap w := by rcases hw with rfl | rfl | rfl | rfl <;> decide
    have e3 : IntKind.i64.wrap (1 * 2 ^ min (Int.toNat (IntKind.u64.wrap w)) (IntKind.bits .i64)) ≠ 0 := by rcases hw with rfl | rfl | rfl | rfl <;> decide
    refine Run.yes e1 (Run.yes e3 (Run.bind (put_run h g3 hk' _ (.inr ⟨by simp, by simp⟩)) ?_))
    rintro ⟨x, g', r3⟩ g4
    exact Run.mk g4
  · rintro ⟨x, r2⟩ ⟨g3, g4, _⟩
    have hne : fit ≠ [] := g2 (by simpa using hb)
    have hp : 0 < fit.length := List.length_pos_iff.2 hne
    simp only at g3 g4 ⊢
    refine Run.yes ?_ (Run.mk ⟨h.mono (by omega), g3, Sm.refl _⟩)
    split
    · omega
    · rename_i hx
      have hx : ¬ x ≥ (fit.length : Int) := by simpa using hx
      omega
theorem close_run (h : okG k g) (hr : okRd gr) (hk : k ≤ KM) (t : GTerm) : Run (spec_l2G_close_m g gr rets pars t) (fun y => okG (k + 1) y.1 ∧ okRd y.2 ∧ y.1.f.blocks = g.f.blocks ++ [⟨g.b.phis, g.b.insts, t⟩] ∧ y.1.f.params = g.f.params ∧ y.1.b.phis = []) := by
  have hL := LIM_eq
  obtain ⟨h1, h2, h3, h4, h5, h6, h7, h8, h9, h10, h11, h12, h13⟩ := h
  unfold KM at hk
  unfold spec_l2G_close_m
  refine Run.yes (by omega) (Run.mk ⟨?_, hr, rfl, rfl, rfl⟩)
  refine ⟨by simp only; omega, h2, by simp only; omega, by simp only; omega, by simp, by simp, by simp; omega, by simp only; omega, h9, h10, fun b hb => ?_, by simp, fun b hb => ?_⟩
  · rcases List.mem_append.1 hb with hb | hb
    · exact ⟨by have := (h11 b hb).1; omega, by have := (h11 b hb).2; omega⟩
    · simp only [List.mem_singleton] at hb
      subst hb
      exact ⟨by simp only; omega, by simp only; omega⟩
  · rcases List.mem_append.1 hb with hb | hb
    · exact h13 b hb
    · simp only [List.mem_singleton] at hb
      subst hb
      exact h12
theorem phi_run (h : okG k g) (hr : okRd gr) (hk : k + 1 ≤ KM) (w : Int) (ins : List Int) : Run (spec_l2G_phi_m g gr rets pars w ins) (fun y => okG (k + 2) y.2.1 ∧ okRd y.2.2 ∧ y.2.1.f = g.f ∧ y.2.1.b.phis = g.b.phis ++ [⟨w, ins⟩]) := by
  have hL := LIM_eq
  obtain ⟨h1, h2, h3, h4, h5, h6, h7, h8, h9, h10, h11, h12, h13⟩ := h
  unfold KM at hk
  unfold spec_l2G_phi_m
  refine Run.yes (by omega) (Run.bind (add_run (k := k + 1) ?_ (by unfold KM; omega) _) ?_)
  · exact ⟨by simp only; omega, h2, by simp only; omega, by simp only; omega, by simp only; omega, by simp; omega, by simp only; omega, by simp only; omega, h9, h10, fun b hb => ⟨by have := (h11 b hb).1; omega, by have := (h11 b hb).2; omega⟩, h12, h13⟩
  · rintro ⟨x, g', r'⟩ ⟨g1, rfl, g3, g4⟩
    exact Run.mk ⟨g1, hr, g3, by simp only at g4 ⊢; rw [g4]⟩
theorem call_run (h : okG k g) (hr : okRd gr) (hp : okP rets pars) (hk : k + 30 ≤ KM) : Run (spec_l2G_call_m g gr rets pars) (fun y => okG (k + 30) y.1 ∧ okRd y.2 ∧ Sm g y.1) := by
  have hL := LIM_eq
  have hl := hp.len
  have hs := hp.small
  unfold KM at hk
  unfold spec_l2G_call_m
  refine Run.if (fun _ => Run.mk ⟨h.mono (by omega), hr, Sm.refl _⟩) (fun hn => Run.bind (below_run hr _) ?_)
  have hn : ¬ (rets.length : Int) = 0 := by simpa using hn
  rintro ⟨c, r1⟩ ⟨g1, g2, g3⟩
  have g3 := g3 (by omega)
  simp only at g1 g2 g3 ⊢
  have hc : 0 ≤ c ∧ c < (pars.length : Int) := by omega
  have hrow := hp.rows _ (at_mem hc)
  refine Run.bind (R := fun y => okG (k + 20) y.1 ∧ okRd y.2.1 ∧ Sm g y.1 ∧ y.2.2.length ≤ 10) (Run.loop (fun s => okG (k + 2 * s.2.2.2.toNat) s.1 ∧ okRd s.2.1 ∧ Sm g s.1 ∧ 0 ≤ s.2.2.2 ∧ s.2.2.2 ≤ ((at_ pars c).length : Int) ∧ (s.2.2.1.length : Int) = s.2.2.2) (fun s => ((at_ pars c).length - s.2.2.2).toNat) ⟨h, g1, Sm.refl _, Int.le_refl _, by simp only; omega, rfl⟩ ?_) ?_
  · rintro ⟨ga, ra, l, i⟩ ⟨b1, b2, b3, b4, b5, b6⟩
    simp only at b1 b2 b3 b4 b5 b6 ⊢
    have hrl := hrow.1
    refine Run.yes hc (Run.if (fun hi => ?_) (fun hi => Run.out ⟨b1.mono (by omega), b2, b3, by simp only; omega⟩))
    have hi : i < ((at_ pars c).length : Int) := by simpa using hi
    refine Run.yes hc (Run.yes ⟨b4, hi⟩ (Run.bind (pick_run b1 b2 (by unfold KM; omega) (hrow.2 _ (at_mem ⟨b4, hi⟩))) ?_))
    rintro ⟨x, gb, rb⟩ ⟨c1, c2, c3⟩
    refine Run.yes (by simp only [List.length_singleton]; omega) (Run.yes (inI_le (by omega) (by omega)) (Run.nx ⟨⟨c1.mono (by simp only; omega), c2, b3.trans c3, by simp only; omega, by simp only; omega, by simp; omega⟩, by simp only; omega⟩))
  · rintro ⟨ga, ra, l⟩ ⟨b1, b2, b3, b4⟩
    simp only at b1 b2 b3 b4 ⊢
    refine Run.yes ⟨g2, g3⟩ (Run.bind (put_run b1 b2 (by unfold KM; omega) _ (.inr ⟨by simp, by simp⟩)) ?_)
    rintro ⟨x, gb, rb⟩ ⟨c1, c2, c3⟩
    exact Run.mk ⟨c1.mono (by omega), c2, b3.trans c3⟩
theorem some_run (h : okG k g) (hr : okRd gr) (hp : okP rets pars) {n : Int} (hn : n ≤ 10) (hk : k + 400 ≤ KM) : Run (spec_l2G_some_m g gr rets pars n) (fun y => okG (k + 400) y.1 ∧ okRd y.2 ∧ Sm g y.1) := by
  unfold KM at hk
  unfold spec_l2G_some_m
  refine Run.bind (R := fun (y : Gl2G × Gl1Rd) => okG (k + 400) y.1 ∧ okRd y.2 ∧ Sm g y.1) (Run.loop (fun s => okG (k + 30 * s.2.2.toNat) s.1 ∧ okRd s.2.1 ∧ Sm g s.1 ∧ 0 ≤ s.2.2 ∧ s.2.2 ≤ 10) (fun s => (10 - s.2.2).toNat) ⟨h, hr, Sm.refl _, by simp only; omega, by simp only; omega⟩ ?_) (fun y hy => Run.mk hy)
  rintro ⟨ga, ra, i⟩ ⟨b1, b2, b3, b4, b5⟩
  simp only at b1 b2 b3 b4 b5 ⊢
  refine Run.if (fun hi => ?_) (fun hi => Run.out ⟨b1.mono (by omega), b2, b3⟩)
  have hi : i < n := by simp only [Bool.and_eq_true, decide_eq_true_eq] at hi; exact hi.1
  refine Run.bind (width_run b2) ?_
  rintro ⟨w, r1⟩ ⟨c1, c2⟩
  refine Run.bind (below_run c1 14) ?_
  rintro ⟨x, r2⟩ ⟨d1, d2, d3⟩
  simp only at c1 c2 d1 d2 d3 ⊢
  have fin : ∀ {m : Nat} {ga' : Gl2G} {ra' : Gl1Rd}, okG m ga' → okRd ra' → Sm ga ga' → m ≤ k + 30 * i.toNat + 30 → Run (if inI (i + 1) then some (Sum.inl (ga', ra', i + 1) : (Gl2G × Gl1Rd × Int) ⊕ (Gl2G × Gl1Rd)) else none)
      (LoopQ (fun s => okG (k + 30 * s.2.2.toNat) s.1 ∧ okRd s.2.1 ∧ Sm g s.1 ∧ 0 ≤ s.2.2 ∧ s.2.2 ≤ 10) (fun s => (10 - s.2.2).toNat) ((10 - i).toNat) (fun r => okG (k + 400) r.1 ∧ okRd r.2 ∧ Sm g r.1)) := fun k1 k2 k3 k4 =>
    Run.yes (inI_le (by omega) (by omega)) (Run.nx ⟨⟨k1.mono (by simp only; omega), k2, b3.trans k3, by simp only; omega, by simp only; omega⟩, by simp only; omega⟩)
  refine Run.if (fun _ => ?_) (fun _ => Run.if (fun _ => ?_) (fun _ => Run.if (fun _ => ?_) (fun _ => Run.if (fun _ => ?_) (fun _ => Run.if (fun _ => ?_) (fun _ => Run.if (fun _ => ?_) (fun _ => Run.if (fun _ => ?_) (fun _ => Run.if (fun _ => ?_) (fun _ => Run.if (fun _ => ?_) (fun _ => ?_)))))))))
  · refine Run.bind (value_run d1 c2) ?_
    rintro ⟨v, r3⟩ e1
    refine Run.bind (put_run b1 e1 (by unfold KM; omega) _ (.inr ⟨by simp, by simp⟩)) ?_
    rintro ⟨y, g4, r4⟩ ⟨f1, f2, f3⟩
    exact fin f1 f2 f3 (by omega)
  · refine Run.bind (pick_run b1 d1 (by unfold KM; omega) (.inl rfl)) ?_
    rintro ⟨y, g3, r3⟩ ⟨e1, e2, e3⟩
    refine Run.bind (pick_run e1 e2 (by unfold KM; omega) c2) ?_
    rintro ⟨y, g4, r4⟩ ⟨f1, f2, f3⟩
    refine Run.bind (pick_run f1 f2 (by unfold KM; omega) c2) ?_
    rintro ⟨y, g5, r5⟩ ⟨a1, a2, a3⟩
    refine Run.bind (put_run a1 a2 (by unfold KM; omega) _ (.inr ⟨by simp, by simp⟩)) ?_
    rintro ⟨y, g6, r6⟩ ⟨q1, q2, q3⟩
    exact fin q1 q2 (((e3.trans f3).trans a3).trans q3) (by omega)
  · refine Run.bind (pick_run b1 d1 (by unfold KM; omega) (.inr (.inl rfl))) ?_
    rintro ⟨y, g3, r3⟩ ⟨e1, e2, e3⟩
    refine Run.bind (R := fun y => okG (k + 30 * i.toNat + 2 + 2) y.1 ∧ okRd y.2 ∧ Sm ga y.1) (Run.bind (below_run e2 2) ?_) ?_
    · rintro ⟨y1, r4⟩ ⟨f1, f2, f3⟩
      have f3 := f3 (by omega)
      refine Run.yes ⟨f2, by simpa using f3⟩ (Run.bind (below_run f1 2) ?_)
      rintro ⟨y2, r5⟩ ⟨a1, a2, a3⟩
      have a3 := a3 (by omega)
      refine Run.yes ⟨a2, by simpa using a3⟩ (Run.bind (put_run e1 a1 (by unfold KM; omega) _ (.inr (by have : y1 = 0 ∨ y1 = 1 := (by simp only at f2 f3; omega); rcases this with rfl | rfl <;> simp [at_]))) ?_)
      rintro ⟨y3, g6, r6⟩ ⟨q1, q2, q3⟩
      exact Run.mk ⟨q1, q2, e3.trans q3⟩
    · rintro ⟨g7, r7⟩ ⟨q1, q2, q3⟩
      exact fin q1 q2 q3 (by omega)
  · refine Run.bind (pick_run b1 d1 (by unfold KM; omega) (.inr (.inr (.inr rfl)))) ?_
    rintro ⟨y, g3, r3⟩ ⟨e1, e2, e3⟩
    refine Run.bind (below_run e2 3) ?_
    rintro ⟨y1, r4⟩ ⟨f1, f2, f3⟩
    have f3 := f3 (by omega)
    refine Run.yes ⟨f2, by simpa using f3⟩ (Run.bind (put_run e1 f1 (by unfold KM; omega) _ (.inr ⟨by simp, by simp⟩)) ?_)
    rintro ⟨y3, g6, r6⟩ ⟨q1, q2, q3⟩
    exact fin q1 q2 (e3.trans q3) (by omega)
  · refine Run.bind (below_run d1 34) ?_
    rintro ⟨y1, r4⟩ ⟨f1, f2, f3⟩
    refine Run.bind (put_run b1 f1 (by unfold KM; omega) _ (.inr ⟨by simp, by simp⟩)) ?_
    rintro ⟨y3, g6, r6⟩ ⟨q1, q2, q3⟩
    refine Run.bind (put_run q1 q2 (by unfold KM; omega) _ (.inr ⟨by simp, by simp⟩)) ?_
    rintro ⟨y4, g7, r7⟩ ⟨e1, e2, e3⟩
    exact fin e1 e2 (q3.trans e3) (by omega)
  · refine Run.bind (below_run d1 33) ?_
    rintro ⟨y1, r4⟩ ⟨f1, f2, f3⟩
    refine Run.bind (put_run b1 f1 (by unfold KM; omega) _ (.inr ⟨by simp, by simp⟩)) ?_
    rintro ⟨y3, g6, r6⟩ ⟨q1, q2, q3⟩
    refine Run.bind (pick_run q1 q2 (by unfold KM; omega) (.inr (.inl rfl))) ?_
    rintro ⟨y5, g8, r8⟩ ⟨a1, a2, a3⟩
    refine Run.bind (put_run a1 a2 (by unfold KM; omega) _ (.inl rfl)) ?_
    rintro ⟨y4, g7, r7⟩ ⟨e1, e2, e3⟩
    exact fin e1 e2 ((q3.trans a3).trans e3) (by omega)
  · refine Run.bind (pick_run b1 d1 (by unfold KM; omega) c2) ?_
    rintro ⟨y, g3, r3⟩ ⟨e1, e2, e3⟩
    refine Run.bind (put_run e1 e2 (by unfold KM; omega) _ (.inl rfl)) ?_
    rintro ⟨y3, g6, r6⟩ ⟨q1, q2, q3⟩
    exact fin q1 q2 (e3.trans q3) (by omega)
  · refine Run.bind (pick_run b1 d1 (by unfold KM; omega) c2) ?_
    rintro ⟨y, g3, r3⟩ ⟨e1, e2, e3⟩
    refine Run.bind (put_run e1 e2 (by unfold KM; omega) _ (.inr ⟨by simp, by simp⟩)) ?_
    rintro ⟨y3, g6, r6⟩ ⟨q1, q2, q3⟩
    exact fin q1 q2 (e3.trans q3) (by omega)
  · refine Run.bind (call_run b1 d1 hp (by unfold KM; omega)) ?_
    rintro ⟨g6, r6⟩ ⟨q1, q2, q3⟩
    exact fin q1 q2 q3 (by omega)
  · refine Run.bind (pick_run b1 d1 (by unfold KM; omega) c2) ?_
    rintro ⟨y, g3, r3⟩ ⟨e1, e2, e3⟩
    refine Run.bind (pick_run e1 e2 (by unfold KM; omega) c2) ?_
    rintro ⟨y, g4, r4⟩ ⟨f1, f2, f3⟩
    refine Run.bind (below_run f2 17) ?_
    rintro ⟨y1, r5⟩ ⟨a1, a2, a3⟩
    have a3 := a3 (by omega)
    simp only at a1 a2 a3 ⊢
    refine Run.yes (inI_le (by omega) (by omega)) (Run.bind (put_run f1 a1 (by unfold KM; omega) _ (.inr ⟨by simp only; omega, by simp only; omega⟩)) ?_)
    rintro ⟨y3, g6, r6⟩ ⟨q1, q2, q3⟩
    exact fin q1 q2 ((e3.trans f3).trans q3) (by omega)
theorem ends_run (h : okG k g) (hr : okRd gr) (hk : k + 10 ≤ KM) : Run (spec_l2G_ends_m g gr rets pars) (fun y => okG (k + 10) y.1 ∧ okRd y.2 ∧ y.1.f.params = g.f.params ∧ 0 < y.1.f.blocks.length) := by
  unfold KM at hk
  unfold spec_l2G_ends_m
  refine Run.bind (once_run hr (inI_le (by omega) (by omega))) ?_
  rintro ⟨b, r1⟩ e1
  refine Run.if (fun _ => Run.bind (close_run h e1 (by unfold KM; omega) _) ?_) (fun _ => Run.bind (pick_run h e1 (by unfold KM; omega) h.ret) ?_)
  · rintro ⟨g2, r2⟩ ⟨a1, a2, a5, a4, _⟩
    exact Run.mk ⟨a1.mono (by omega), a2, a4, by simp only at a5 ⊢; rw [a5]; simp⟩
  · rintro ⟨y, g2, r2⟩ ⟨a1, a2, a3⟩
    refine Run.bind (close_run a1 a2 (by unfold KM; omega) _) ?_
    rintro ⟨g3, r3⟩ ⟨b1, b2, b5, b4, _⟩
    exact Run.mk ⟨b1.mono (by omega), b2, b4.trans (congrArg GFunc.params a3.1), by simp only at b5 ⊢; rw [b5]; simp⟩
theorem okG.put {ids ws : List Int} {k' : Nat} {g' : Gl2G} (h : okG k g) (h' : okG k' g') (hk : k ≤ k') : okG k' ({ f := g'.f, b := g'.b, next := g'.next, ids := g.ids, ws := g.ws } : Gl2G) :=
  ⟨Nat.le_trans h.ids hk, h.ws, h'.n0, h'.n1, h'.insts, h'.phis, h'.blocks, h'.params, h'.pw, h'.ret, h'.rows, h'.okis, h'.okbs⟩
theorem fork_run (h : okG k g) (hr : okRd gr) (hp : okP rets pars) (hk : k + 1000 ≤ KM) : Run (spec_l2G_fork_m g gr rets pars) (fun y => okG (k + 1000) y.1 ∧ okRd y.2 ∧ y.1.f.params = g.f.params) := by
  unfold KM at hk
  unfold spec_l2G_fork_m
  refine Run.bind (pick_run h hr (by unfold KM; omega) (.inl rfl)) ?_
  rintro ⟨c, g1, r1⟩ ⟨a1, a2, a3⟩
  refine Run.bind (close_run a1 a2 (by unfold KM; omega) _) ?_
  rintro ⟨g2, r2⟩ ⟨b1, b2, _, b4, _⟩
  refine Run.bind (below_run b2 3) ?_
  rintro ⟨n1, r3⟩ ⟨c1, c2, c3⟩
  have c3 := c3 (by omega)
  refine Run.bind (some_run b1 c1 hp (by simp only at c3 ⊢; omega) (by unfold KM; omega)) ?_
  rintro ⟨g4, r4⟩ ⟨d1, d2, d3⟩
  refine Run.bind (width_run d2) ?_
  rintro ⟨w, r5⟩ ⟨e1, e2⟩
  refine Run.bind (pick_run d1 e1 (by unfold KM; omega) e2) ?_
  rintro ⟨x6, g6, r6⟩ ⟨f1, f2, f3⟩
  refine Run.bind (pick_run f1 f2 (by unfold KM; omega) (.inr (.inl rfl))) ?_
  rintro ⟨x7, g7, r7⟩ ⟨p1, p2, p3⟩
  refine Run.bind (close_run p1 p2 (by unfold KM; omega) _) ?_
  rintro ⟨g8, r8⟩ ⟨q1, q2, _, q4, _⟩
  refine Run.bind (below_run q2 3) ?_
  rintro ⟨n2, r9⟩ ⟨s1, s2, s3⟩
  have s3 := s3 (by omega)
  refine Run.bind (some_run (b1.put (ids := []) (ws := []) q1 (by omega)) s1 hp (by simp only at s3 ⊢; omega) (by unfold KM; omega)) ?_
  rintro ⟨g10, r10⟩ ⟨t1, t2, t3⟩
  refine Run.bind (pick_run t1 t2 (by unfold KM; omega) e2) ?_
  rintro ⟨x11, g11, r11⟩ ⟨u1, u2, u3⟩
  refine Run.bind (pick_run u1 u2 (by unfold KM; omega) (.inr (.inl rfl))) ?_
  rintro ⟨x12, g12, r12⟩ ⟨v1, v2, v3⟩
  refine Run.bind (close_run v1 v2 (by unfold KM; omega) _) ?_
  rintro ⟨g13, r13⟩ ⟨w1, w2, _, w4, _⟩
  refine Run.bind (phi_run (b1.put (ids := []) (ws := []) w1 (by omega)) w2 (by unfold KM; omega) _ _) ?_
  rintro ⟨x14, g14, r14⟩ ⟨y1, y2, y3, _⟩
  refine Run.bind (phi_run y1 y2 (by unfold KM; omega) _ _) ?_
  rintro ⟨x15, g15, r15⟩ ⟨z1, z2, z3, _⟩
  refine Run.mk ⟨z1.mono (by omega), z2, ?_⟩
  have e1 := congrArg GFunc.params a3.1
  have e2 := congrArg GFunc.params d3.1
  have e3 := congrArg GFunc.params f3.1
  have e4 := congrArg GFunc.params p3.1
  have e5 := congrArg GFunc.params t3.1
  have e6 := congrArg GFunc.params u3.1
  have e7 := congrArg GFunc.params v3.1
  have e8 := congrArg GFunc.params y3
  have e9 := congrArg GFunc.params z3
  simp only at e1 e2 e3 e4 e5 e6 e7 e8 e9 b4 q4 w4 ⊢
  rw [e9, e8, w4, e7, e6, e5, q4, e4, e3, e2, b4, e1]
theorem at_mid (l : List GBlock) (a b c : GBlock) : at_ (((l ++ [a]) ++ [b]) ++ [c]) ((l.length : Int) + 1) = b := by
  have e : ((l.length : Int) + 1) = ((l.length + 1 : Nat) : Int) := by omega
  rw [e, at_nat (by simp)]
  simp [List.getElem_append]
theorem at_set_self {α : Type} [Inhabited α] {xs : List α} {n : Int} (h : 0 ≤ n ∧ n < (xs.length : Int)) (x : α) : at_ (xs.set n.toNat x) n = x := by
  obtain ⟨m, rfl⟩ := Int.eq_ofNat_of_zero_le h.1
  rw [at_nat (by simp; omega)]
  simp
theorem loop_run (h : okG k g) (hr : okRd gr) (hp : okP rets pars) (hk : k + 1000 ≤ KM) : Run (spec_l2G_loop_m g gr rets pars) (fun y => okG (k + 1000) y.1 ∧ okRd y.2 ∧ y.1.f.params = g.f.params) := by
  unfold KM at hk
  unfold spec_l2G_loop_m
  refine Run.bind (below_run hr 5) ?_
  rintro ⟨x1, r1⟩ ⟨a1, _, _⟩
  refine Run.bind (put_run h a1 (by unfold KM; omega) _ (.inr ⟨by simp, by simp⟩)) ?_
  rintro ⟨x2, g2, r2⟩ ⟨b1, b2, b3⟩
  refine Run.bind (width_run b2) ?_
  rintro ⟨w, r3⟩ ⟨c1, c2⟩
  refine Run.bind (pick_run b1 c1 (by unfold KM; omega) c2) ?_
  rintro ⟨x4, g4, r4⟩ ⟨d1, d2, d3⟩
  refine Run.bind (close_run d1 d2 (by unfold KM; omega) _) ?_
  rintro ⟨g5, r5⟩ ⟨e1, e2, e3, e4, e5⟩
  refine Run.bind (phi_run e1 e2 (by unfold KM; omega) _ _) ?_
  rintro ⟨x6, g6, r6⟩ ⟨f1, f2, f3, f4⟩
  refine Run.bind (phi_run f1 f2 (by unfold KM; omega) _ _) ?_
  rintro ⟨x7, g7, r7⟩ ⟨p1, p2, p3, p4⟩
  refine Run.bind (put_run p1 p2 (by unfold KM; omega) _ (.inr ⟨by simp, by simp⟩)) ?_
  rintro ⟨x8, g8, r8⟩ ⟨q1, q2, q3⟩
  refine Run.bind (put_run q1 q2 (by unfold KM; omega) _ (.inr ⟨by simp, by simp⟩)) ?_
  rintro ⟨x9, g9, r9⟩ ⟨s1, s2, s3⟩
  refine Run.bind (close_run s1 s2 (by unfold KM; omega) _) ?_
  rintro ⟨g10, r10⟩ ⟨t1, t2, t3, t4, t5⟩
  refine Run.bind (put_run t1 t2 (by unfold KM; omega) _ (.inr ⟨by simp, by simp⟩)) ?_
  rintro ⟨x11, g11, r11⟩ ⟨u1, u2, u3⟩
  refine Run.bind (put_run u1 u2 (by unfold KM; omega) _ (.inr ⟨by simp, by simp⟩)) ?_
  rintro ⟨x12, g12, r12⟩ ⟨v1, v2, v3⟩
  refine Run.bind (below_run v2 3) ?_
  rintro ⟨n13, r13⟩ ⟨w1, w2, w3⟩
  have w3 := w3 (by omega)
  refine Run.bind (some_run v1 w1 hp (by simp only at w3 ⊢; omega) (by unfold KM; omega)) ?_
  rintro ⟨g14, r14⟩ ⟨y1, y2, y3⟩
  refine Run.bind (pick_run y1 y2 (by unfold KM; omega) c2) ?_
  rintro ⟨x15, g15, r15⟩ ⟨z1, z2, z3⟩
  refine Run.bind (R := fun (y : Gl2G × Gl1Rd × Int) => okG (k + 500) y.1 ∧ okRd y.2.1 ∧ Sm g15 y.1) (Run.if (fun _ => Run.bind (put_run z1 z2 (by unfold KM; omega) _ (.inr ⟨by simp, by simp⟩)) ?_) (fun _ => Run.mk ⟨z1.mono (by omega), z2, Sm.refl _⟩)) ?_
  · rintro ⟨x16, g16, r16⟩ ⟨j1, j2, j3⟩
    exact Run.mk ⟨j1.mono (by omega), j2, j3⟩
  rintro ⟨g16, r16, x16⟩ ⟨j1, j2, j3⟩
  refine Run.bind (close_run j1 j2 (by unfold KM; omega) _) ?_
  rintro ⟨g17, r17⟩ ⟨k1, k2, k3, k4, k5⟩
  simp only at *
  have hb10 : g10.f.blocks = (g.f.blocks ++ [⟨g4.b.phis, g4.b.insts, { kind := 2, a := 0, x := (g.f.blocks.length : Int) + 1, y := 0 }⟩]) ++ [⟨[⟨8, [x2, 0]⟩, ⟨w, [x4, 0]⟩], g9.b.insts, { kind := 3, a := x9, x := (g.f.blocks.length : Int) + 2, y := (g.f.blocks.length : Int) + 3 }⟩] := by
    rw [t3, s3.1, q3.1, p3, f3, e3, d3.1, b3.1, s3.2, q3.2, p4, f4, e5]
    rfl
  have hb17 : g17.f.blocks = (((g.f.blocks ++ [⟨g4.b.phis, g4.b.insts, { kind := 2, a := 0, x := (g.f.blocks.length : Int) + 1, y := 0 }⟩]) ++ [⟨[⟨8, [x2, 0]⟩, ⟨w, [x4, 0]⟩], g9.b.insts, { kind := 3, a := x9, x := (g.f.blocks.length : Int) + 2, y := (g.f.blocks.length : Int) + 3 }⟩]) ++ [⟨g16.b.phis, g16.b.insts, { kind := 2, a := 0, x := (g.f.blocks.length : Int) + 1, y := 0 }⟩]) := by
    rw [k3, j3.1, z3.1, y3.1, v3.1, u3.1, hb10]
  have hat : at_ g17.f.blocks ((g.f.blocks.length : Int) + 1) = ⟨[⟨8, [x2, 0]⟩, ⟨w, [x4, 0]⟩], g9.b.insts, { kind := 3, a := x9, x := (g.f.blocks.length : Int) + 2, y := (g.f.blocks.length : Int) + 3 }⟩ := by rw [hb17]; exact at_mid _ _ _ _
  have hlt : 0 ≤ (g.f.blocks.length : Int) + 1 ∧ (g.f.blocks.length : Int) + 1 < (g17.f.blocks.length : Int) := by rw [hb17]; simp; omega
  have hpar : g17.f.params = g.f.params := by
    rw [k4, j3.1, z3.1, y3.1, v3.1, u3.1, t4, s3.1, q3.1, p3, f3, e4, d3.1, b3.1]
  have hi9 := s1.insts
  have hi99 := s1.okis
  have hid := t1.ids
  have hws := t1.ws
  obtain ⟨h1, h2, h3, h4, h5, h6, h7, h8, h9, h10, h11, h12, h13⟩ := k1
  simp only [hat]
  refine Run.yes hlt (Run.yes (by simp) (Run.yes (by simp [at_]) (Run.yes (by simpa using hlt) ?_)))
  simp only [at_set_self hlt]
  refine Run.yes (by simp) (Run.yes (by simp [at_]) (Run.mk ⟨?_, k2, ?_⟩))
  rotate_left
  · exact hpar
  refine ⟨by simp only; omega, hws, by simp only; omega, by simp only; omega, by simp only; omega, by simp only; omega, by simp; omega, by simp only; omega, h9, h10, fun b hb => ?_, h12, fun b hb => ?_⟩
  · rcases List.mem_or_eq_of_mem_set hb with hb | rfl
    · rcases List.mem_or_eq_of_mem_set hb with hb | rfl
      · exact ⟨by have := (h11 b hb).1; omega, by have := (h11 b hb).2; omega⟩
      · exact ⟨by simp, by simp only; omega⟩
    · exact ⟨by simp, by simp only; omega⟩
  · rcases List.mem_or_eq_of_mem_set hb with hb | rfl
    · rcases List.mem_or_eq_of_mem_set hb with hb | rfl
      · exact h13 b hb
      · exact hi99
    · exact hi99
end
/-- A drawn function is small. -/
structure okFn (f : GFunc) : Prop where
  okis : ∀ b ∈ f.blocks, ∀ i ∈ b.insts, okI i
  params : f.params.length ≤ 10
  pw : ∀ w ∈ f.params, isW w
  ret : isW f.ret
  blocks : f.blocks.length ≤ 100000
  ne : 0 < f.blocks.length
  rows : ∀ b ∈ f.blocks, b.phis.length ≤ 100000 ∧ b.insts.length ≤ 100000
theorem fn_run {r : Gl1Rd} {rets : List Int} {pars : List (List Int)} (hr : okRd r) (hp : okP rets pars) : Run (spec_l1Rd_fn_m r rets pars) (fun y => okFn y.1 ∧ okRd y.2) := by
  have hL := LIM_eq
  unfold spec_l1Rd_fn_m
  refine Run.bind (width_run hr) ?_
  rintro ⟨w, r1⟩ ⟨a1, a2⟩
  refine Run.bind (below_run a1 3) ?_
  rintro ⟨n, r2⟩ ⟨b1, b2, b3⟩
  have b3 := b3 (by omega)
  simp only at a1 a2 b1 b2 b3 ⊢
  refine Run.bind (R := fun y => okRd y.1 ∧ okG 10 y.2) (Run.loop (fun s => okRd s.1 ∧ okG (2 * (n - s.2.2).toNat) s.2.1 ∧ 0 ≤ s.2.2 ∧ s.2.2 ≤ n) (fun s => s.2.2.toNat) ⟨b1, ?_, b2, Int.le_refl _⟩ ?_) ?_
  · exact ⟨by simp, rfl, Int.le_refl _, by simp only; omega, by simp, by simp, by simp, by simp, by simp, a2, by simp, by simp, by simp⟩
  · rintro ⟨ra, ga, i⟩ ⟨c1, c2, c3, c4⟩
    simp only at c1 c2 c3 c4 ⊢
    refine Run.if (fun hi => ?_) (fun hi => Run.out ⟨c1, c2.mono (by omega)⟩)
    have hi : i > 0 := by simpa using hi
    refine Run.bind (width_run c1) ?_
    rintro ⟨v, rb⟩ ⟨d1, d2⟩
    have hcp := c2.params
    refine Run.yes (by simp only [List.length_singleton]; omega) (Run.bind (add_run (k := 2 * (n - i).toNat + 1) ?_ (by unfold KM; omega) _) ?_)
    · obtain ⟨h1, h2, h3, h4, h5, h6, h7, h8, h9, h10, h11, h12, h13⟩ := c2
      refine ⟨by simp only; omega, h2, by simp only; omega, by simp only; omega, by simp only; omega, by simp only; omega, by simp only; omega, by simp; omega, fun x hx => ?_, h10, fun b hb => ⟨by have := (h11 b hb).1; omega, by have := (h11 b hb).2; omega⟩, h12, h13⟩
      rcases List.mem_append.1 hx with hx | hx
      · exact h9 x hx
      · simp only [List.mem_singleton] at hx
        subst hx
        exact d2
    · rintro ⟨x, gb, rc⟩ ⟨e1, rfl, _, _⟩
      exact Run.yes (inI_le (by omega) (by omega)) (Run.nx ⟨⟨d1, e1.mono (by simp only; omega), by simp only; omega, by simp only; omega⟩, by simp only; omega⟩)
  rintro ⟨r3, g3⟩ ⟨c1, c2⟩
  have hpl := c2.params
  have hpw := c2.pw
  simp only at hpl hpw c1 c2 ⊢
  refine Run.bind (below_run c1 5) ?_
  rintro ⟨n4, r4⟩ ⟨d1, d2, d3⟩
  have d3 := d3 (by omega)
  simp only at d1 d2 d3 ⊢
  refine Run.yes (inI_le (by omega) (by omega)) (Run.bind (some_run c2 d1 hp (by omega) (by unfold KM; omega)) ?_)
  rintro ⟨g5, r5⟩ ⟨e1, e2, e3⟩
  have q5 := congrArg GFunc.params e3.1
  simp only at q5
  refine Run.bind (R := fun y => okG 5000 y.2 ∧ okRd y.1 ∧ y.2.f.params = g3.f.params) (Run.bind (below_run e2 4) ?_) ?_
  · rintro ⟨n6, r6⟩ ⟨f1, f2, f3⟩
    refine Run.if (fun _ => Run.bind (fork_run e1 f1 hp (by unfold KM; omega)) ?_) (fun _ => Run.if (fun _ => Run.bind (loop_run e1 f1 hp (by unfold KM; omega)) ?_) (fun _ => Run.if (fun _ => Run.bind (fork_run e1 f1 hp (by unfold KM; omega)) ?_) (fun _ => Run.mk ⟨e1.mono (by omega), f1, q5⟩)))
    · rintro ⟨g7, r7⟩ ⟨p1, p2, p3⟩
      exact Run.mk ⟨p1.mono (by omega), p2, p3.trans q5⟩
    · rintro ⟨g7, r7⟩ ⟨p1, p2, p3⟩
      exact Run.mk ⟨p1.mono (by omega), p2, p3.trans q5⟩
    · rintro ⟨g7, r7⟩ ⟨p1, p2, p3⟩
      refine Run.bind (below_run p2 3) ?_
      rintro ⟨n8, r8⟩ ⟨s1, s2, s3⟩
      have s3 := s3 (by omega)
      refine Run.bind (some_run p1 s1 hp (by simp only at s3 ⊢; omega) (by unfold KM; omega)) ?_
      rintro ⟨g9, r9⟩ ⟨t1, t2, t3⟩
      refine Run.bind (loop_run t1 t2 hp (by unfold KM; omega)) ?_
      rintro ⟨g10, r10⟩ ⟨u1, u2, u3⟩
      exact Run.mk ⟨u1.mono (by omega), u2, u3.trans ((congrArg GFunc.params t3.1).trans (p3.trans q5))⟩
  rintro ⟨r11, g11⟩ ⟨p1, p2, p3⟩
  refine Run.bind (below_run p2 3) ?_
  rintro ⟨n12, r12⟩ ⟨s1, s2, s3⟩
  have s3 := s3 (by omega)
  refine Run.bind (some_run p1 s1 hp (by simp only at s3 ⊢; omega) (by unfold KM; omega)) ?_
  rintro ⟨g13, r13⟩ ⟨t1, t2, t3⟩
  refine Run.bind (ends_run t1 t2 (by unfold KM; omega)) ?_
  rintro ⟨g14, r14⟩ ⟨u1, u2, u3, u4⟩
  have q : g14.f.params = g3.f.params := u3.trans ((congrArg GFunc.params t3.1).trans p3)
  refine Run.mk ⟨⟨u1.okbs, ?_, ?_, u1.ret, Nat.le_trans u1.blocks (by omega), u4, fun b hb => ⟨Nat.le_trans (u1.rows b hb).1 (by omega), Nat.le_trans (u1.rows b hb).2 (by omega)⟩⟩, u2⟩
  · simp only
    rw [q]
    exact hpl
  · simp only
    rw [q]
    exact hpw
end Go.Proofs.Ytmckcjoacfekcaa.AM

namespace Go.Proofs.Ytmckcjoacfekcaa.AM
open Go
set_option linter.unusedSimpArgs false
set_option linter.unusedVariables false
def sz (b : GBlock) : Nat := b.phis.length + b.insts.length
def sumz (bs : List GBlock) : Nat := (bs.map sz).sum
def cnt (f : GFunc) : Nat := f.params.length + sumz f.blocks
def pre (f : GFunc) (k : Nat) : Nat := f.params.length + sumz (f.blocks.take k)
theorem pre_succ {f : GFunc} {k : Nat} (h : k < f.blocks.length) : pre f (k + 1) = pre f k + sz (at_ f.blocks (k : Int)) := by
  unfold pre sumz
  rw [at_nat h, List.take_add_one, List.getElem?_eq_getElem h, List.map_append, List.sum_append]
  simp only [Option.toList, List.map_cons, List.map_nil, List.sum_cons, List.sum_nil]
  omega
theorem sumz_le {bs : List GBlock} {n : Nat} (h : ∀ b ∈ bs, sz b ≤ n) : sumz bs ≤ bs.length * n := by
  induction bs with
  | nil => simp [sumz]
  | cons b bs ih =>
    have h1 := ih (fun c hc => h c (List.mem_cons_of_mem _ hc))
    have h2 := h b (List.mem_cons_self ..)
    unfold sumz at h1 ⊢
    simp only [List.map_cons, List.sum_cons, List.length_cons, Nat.add_mul]
    omega
theorem okFn.szle {f : GFunc} (h : okFn f) : ∀ b ∈ f.blocks, sz b ≤ 200000 := fun b hb => by
  have := h.rows b hb
  unfold sz
  omega
theorem okFn.pre_le {f : GFunc} (h : okFn f) (k : Nat) : pre f k ≤ 100000000000 := by
  have h1 := sumz_le (bs := f.blocks.take k) (n := 200000) (fun b hb => h.szle b (List.mem_of_mem_take hb))
  have h2 := h.blocks
  have h3 := h.params
  have h4 : (f.blocks.take k).length ≤ 100000 := by rw [List.length_take]; omega
  have h5 : (f.blocks.take k).length * 200000 ≤ 100000 * 200000 := Nat.mul_le_mul_right _ h4
  unfold pre
  omega
theorem pre_all (f : GFunc) : pre f f.blocks.length = cnt f := by
  unfold pre cnt
  rw [List.take_length]
theorem okFn.cnt_le {f : GFunc} (h : okFn f) : cnt f ≤ 100000000000 := by rw [← pre_all]; exact h.pre_le _
theorem spec_count {f : GFunc} (h : okFn f) : spec_CountOf_m f = some (cnt f : Int) := by
  unfold spec_CountOf_m
  generalize hB : loopO _ _ = L
  have hb := h.blocks
  rw [loop_cnt hB (fun k => ((pre f k : Int), (k : Int))) f.blocks.length (cnt f : Int) ?_ ?_ ?_]
  · rfl
  · simp [pre, sumz]
  · intro k hk
    have h0 : 0 ≤ (k : Int) ∧ (k : Int) < (f.blocks.length : Int) := by omega
    have h1 := h.rows _ (at_mem h0)
    have h2 := h.pre_le k
    have e : ((at_ f.blocks (k : Int)).phis.length : Int) + ((at_ f.blocks (k : Int)).insts.length : Int) = (sz (at_ f.blocks (k : Int)) : Int) := by simp [sz]
    have h3 := h.szle _ (at_mem h0)
    simp only
    rw [if_pos (by simp; omega), if_pos h0, if_pos h0, if_pos (inI_le (by omega) (by omega)), e, wrap_in (n := (sz _ : Int)) (by omega) (by omega), wrap_in (by omega) (by omega), pre_succ hk]
    simp
  · simp only
    rw [if_neg (by simp), pre_all]
theorem impl_count {f : GFunc} (h : okFn f) : impl_CountOf_m f = some (cnt f : Int) := by
  unfold impl_CountOf_m
  generalize hB : loopO _ _ = L
  have hb := h.blocks
  rw [loop_cnt hB (fun k => ((k : Int), (pre f k : Int))) f.blocks.length (cnt f : Int) ?_ ?_ ?_]
  · rfl
  · simp [pre, sumz]
  · intro k hk
    have h0 : 0 ≤ (k : Int) ∧ (k : Int) < (f.blocks.length : Int) := by omega
    have h1 := h.rows _ (at_mem h0)
    have h2 := h.pre_le k
    have e : ((at_ f.blocks (k : Int)).phis.length : Int) + ((at_ f.blocks (k : Int)).insts.length : Int) = (sz (at_ f.blocks (k : Int)) : Int) := by simp [sz]
    have h3 := h.szle _ (at_mem h0)
    simp only
    rw [if_pos (by simp; omega), if_pos h0, e, if_pos (inI_le (by omega) (by omega)), if_pos (inI_le (by omega) (by omega)), pre_succ hk]
    simp
  · simp only
    rw [if_neg (by simp), pre_all]
/-- A function of a drawn module. -/
structure okF (f : GFunc) : Prop where
  ok : okFn f
  nb : f.blocks.length ≤ 10
  nv : cnt f ≤ 60
theorem okF_small : okF { params := ([] : List Int), ret := 8, blocks := [({ phis := ([] : List GPhi), insts := [({ op_ := 21, w := 8, a := 0, b := 0, c := 0, imm := 7, args := ([] : List Int) } : GInst)], term := (({ kind := 1, a := 0, x := 0, y := 0 } : GTerm)) } : GBlock)] } := by
  refine ⟨⟨?_, by simp, by simp, .inr (.inl rfl), by simp, by simp, by simp⟩, by simp, by simp [cnt, sumz, sz]⟩
  intro b hb i hi
  simp only [List.mem_singleton] at hb
  subst hb
  simp only [List.mem_singleton] at hi
  subst hi
  exact .inr ⟨by simp, by simp⟩
theorem module_run {r : Gl1Rd} (hr : okRd r) : Run (spec_l1Rd_module_m r) (fun y => okRd y.2 ∧ 0 < y.1.funcs.length ∧ y.1.funcs.length ≤ 2 ∧ ∀ f ∈ y.1.funcs, okF f) := by
  have hL := LIM_eq
  unfold spec_l1Rd_module_m
  refine Run.bind (below_run hr 2) ?_
  rintro ⟨n, r1⟩ ⟨a1, a2, a3⟩
  have a3 := a3 (by omega)
  simp only at a1 a2 a3 ⊢
  refine Run.yes (inI_le (by omega) (by omega)) (Run.bind (R := fun y => okRd y.1 ∧ 0 < y.2.length ∧ y.2.length ≤ 2 ∧ ∀ f ∈ y.2, okF f) (Run.loop (fun s => okRd s.1 ∧ ((s.2.1.length : Int) + s.2.2.2.2 = 1 + n) ∧ 0 ≤ s.2.2.2.2 ∧ s.2.2.1.length = s.2.1.length ∧ okP s.2.2.1 s.2.2.2.1 ∧ ∀ f ∈ s.2.1, okF f) (fun s => s.2.2.2.2.toNat) ⟨a1, by simp, by simp only; omega, rfl, ⟨rfl, by simp, by simp, by simp⟩, by simp⟩ ?_) ?_)
  · rintro ⟨ra, fs, rets, pars, i⟩ ⟨b1, b2, b3, b4, b5, b6⟩
    simp only at b1 b2 b3 b4 b5 b6 ⊢
    refine Run.if (fun hi => ?_) (fun hi => Run.out ⟨b1, ?_, ?_, b6⟩)
    · have hi : i > 0 := by simpa using hi
      refine Run.bind (fn_run b1 b5) ?_
      rintro ⟨f, rb⟩ ⟨c1, c2⟩
      simp only at c1 c2 ⊢
      refine Run.bind (R := okF) (Run.bind (R := fun b => b = false → okF f) (Run.bind (R := fun x => x = (cnt f : Int)) ⟨_, spec_count c1, rfl⟩ ?_) ?_) ?_
      · rintro x rfl
        refine Run.if (fun _ => Run.mk (fun h => by cases h)) (fun hx => Run.mk (fun h => ?_))
        have hx : ¬ (cnt f : Int) > 60 := by simpa using hx
        have h : ¬ (f.blocks.length : Int) > 10 := by simpa using h
        exact ⟨c1, by omega, by omega⟩
      · intro b hb
        refine Run.if (fun _ => Run.mk okF_small) (fun h => Run.mk (hb (by simpa using h)))
      · intro g hg
        have hp := b5.len
        refine Run.yes (by simp only [List.length_singleton]; omega) (Run.yes (by simp only [List.length_singleton]; omega) (Run.yes (by simp only [List.length_singleton]; omega) (Run.yes (inI_le (by omega) (by omega)) (Run.nx ⟨⟨c2, by simp; omega, by simp only; omega, by simp; omega, ⟨by simp; omega, by simp; omega, ?_, ?_⟩, ?_⟩, by simp only; omega⟩))))
        · intro w hw
          rcases List.mem_append.1 hw with hw | hw
          · exact b5.rw_ w hw
          · simp only [List.mem_singleton] at hw
            subst hw
            exact hg.ok.ret
        · intro w hw
          rcases List.mem_append.1 hw with hw | hw
          · exact b5.rows w hw
          · simp only [List.mem_singleton] at hw
            subst hw
            exact ⟨hg.ok.params, hg.ok.pw⟩
        · intro w hw
          rcases List.mem_append.1 hw with hw | hw
          · exact b6 w hw
          · simp only [List.mem_singleton] at hw
            subst hw
            exact hg
    · have hi : ¬ i > 0 := by simpa using hi
      simp only; omega
    · have hi : ¬ i > 0 := by simpa using hi
      simp only; omega
  · rintro ⟨r2, fs⟩ ⟨b1, b2, b3, b4⟩
    exact Run.mk ⟨b1, b2, b3, b4⟩
end Go.Proofs.Ytmckcjoacfekcaa.AM

namespace Go.Proofs.Ytmckcjoacfekcaa.AM
open Go
set_option linter.unusedSimpArgs false
set_option linter.unusedVariables false
def pl : List GBlock → Nat → Nat → Option (Nat × Nat)
  | [], _, _ => none
  | x :: xs, b, n => if n < sz x then some (b, n) else pl xs (b + 1) (n - sz x)
def plI : Option (Nat × Nat) → Int × Int
  | none => (-2, 0)
  | some x => ((x.1 : Int), (x.2 : Int))
def placeOf (f : GFunc) (id : Int) : Int × Int :=
  if id < 0 then (-2, 0) else if id < (f.params.length : Int) then (-1, id) else plI (pl f.blocks 0 (id - f.params.length).toNat)
theorem pl_none : ∀ (xs : List GBlock) (b n : Nat), sumz xs ≤ n → pl xs b n = none
  | [], _, _, _ => rfl
  | x :: xs, b, n, h => by
    have h' : sz x + sumz xs ≤ n := by simpa [sumz] using h
    unfold pl
    rw [if_neg (by omega)]
    exact pl_none xs _ _ (by omega)
theorem pl_some : ∀ (xs : List GBlock) (b n : Nat), n < sumz xs → ∃ c a, pl xs b n = some (c, a)
  | [], _, _, h => by simp [sumz] at h
  | x :: xs, b, n, h => by
    have h' : n < sz x + sumz xs := by simpa [sumz] using h
    unfold pl
    by_cases hn : n < sz x
    · rw [if_pos hn]; exact ⟨_, _, rfl⟩
    · rw [if_neg hn]; exact pl_some xs _ _ (by omega)
theorem pl_in : ∀ (xs : List GBlock) (b n c a : Nat), pl xs b n = some (c, a) → b ≤ c ∧ a ≤ n ∧ ∃ x, xs[c - b]? = some x ∧ a < sz x
  | [], _, _, _, _, h => by simp [pl] at h
  | x :: xs, b, n, c, a, h => by
    unfold pl at h
    by_cases hn : n < sz x
    · rw [if_pos hn] at h
      simp only [Option.some.injEq, Prod.mk.injEq] at h
      obtain ⟨rfl, rfl⟩ := h
      exact ⟨Nat.le_refl _, Nat.le_refl _, x, by simp, hn⟩
    · rw [if_neg hn] at h
      obtain ⟨h1, h2, y, h3, h4⟩ := pl_in xs _ _ _ _ h
      refine ⟨by omega, by omega, y, ?_, h4⟩
      rw [show c - b = (c - (b + 1)) + 1 from by omega, List.getElem?_cons_succ]
      exact h3
theorem pl_zero : ∀ (xs : List GBlock) (b c a : Nat), pl xs b 0 = some (c, a) → b ≤ c ∧ a = 0 := fun xs b c a h => by
  have := pl_in xs b 0 c a h
  exact ⟨this.1, by omega⟩
theorem pl_succ : ∀ (xs : List GBlock) (b n c a d e : Nat), pl xs b n = some (c, a) → pl xs b (n + 1) = some (d, e) → (d = c ∧ e = a + 1) ∨ (c < d ∧ e = 0)
  | [], _, _, _, _, _, _, h, _ => by simp [pl] at h
  | x :: xs, b, n, c, a, d, e, h, h' => by
    unfold pl at h h'
    by_cases hn : n < sz x
    · rw [if_pos hn] at h
      simp only [Option.some.injEq, Prod.mk.injEq] at h
      obtain ⟨rfl, rfl⟩ := h
      by_cases hn2 : n + 1 < sz x
      · rw [if_pos hn2] at h'
        simp only [Option.some.injEq, Prod.mk.injEq] at h'
        obtain ⟨rfl, rfl⟩ := h'
        exact .inl ⟨rfl, rfl⟩
      · rw [if_neg hn2, show n + 1 - sz x = 0 from by omega] at h'
        have := pl_zero _ _ _ _ h'
        exact .inr ⟨by omega, this.2⟩
    · rw [if_neg hn] at h
      rw [if_neg (by omega), show n + 1 - sz x = (n - sz x) + 1 from by omega] at h'
      exact pl_succ xs _ _ _ _ _ _ h h'
theorem placeOf_none {f : GFunc} {id : Int} (h : id < 0 ∨ (cnt f : Int) ≤ id) : placeOf f id = (-2, 0) := by
  unfold placeOf
  by_cases h0 : id < 0
  · rw [if_pos h0]
  · have h1 : (cnt f : Int) ≤ id := by omega
    unfold cnt at h1
    rw [if_neg h0, if_neg (by omega), pl_none _ _ _ (by omega)]
    rfl
theorem drop_at {f : GFunc} {k : Nat} (h : k < f.blocks.length) : f.blocks.drop k = at_ f.blocks (k : Int) :: f.blocks.drop (k + 1) := by
  rw [at_nat h]
  exact List.drop_eq_getElem_cons h
theorem impl_place {f : GFunc} (h : okFn f) (id : Int) : impl_PlaceOf_m f id = some (placeOf f id) := by
  have hc := h.cnt_le
  unfold impl_PlaceOf_m impl_isId_m impl_within_m
  rw [impl_count h]
  simp only [obs]
  rw [if_pos (inI_le (by omega) (by omega))]
  simp only [obs]
  by_cases h0 : id < 0 ∨ (cnt f : Int) ≤ id
  · rw [if_pos (by simp; omega), placeOf_none h0]
  · rw [if_neg (by simp; omega)]
    by_cases hp : id < (f.params.length : Int)
    · rw [if_pos (by simpa using hp)]
      unfold placeOf
      rw [if_neg (by omega), if_pos hp]
    · rw [if_neg (by simpa using hp)]
      unfold placeOf
      rw [if_neg (by omega), if_neg hp]
      have key : ∀ m k, k + m = f.blocks.length → (pre f k : Int) ≤ id → loopO (fun (st7 : Int × Int) =>
              ((if decide (st7.1 < ((List.length f.blocks : Int))) = true then
                  (if 0 ≤ st7.1 ∧ st7.1 < (List.length f.blocks : Int) then
                    (if inI (st7.2 + (((List.length ((at_ f.blocks st7.1).phis) : Int)) + ((List.length ((at_ f.blocks st7.1).insts) : Int)))) then
                      (if decide (id < (st7.2 + (((List.length ((at_ f.blocks st7.1).phis) : Int)) + ((List.length ((at_ f.blocks st7.1).insts) : Int))))) = true then
                        (some (Sum.inr ((Sum.inl ((st7.1, IntKind.i64.wrap (id - st7.2)))))))
                        else
                        (if inI (st7.2 + (((List.length ((at_ f.blocks st7.1).phis) : Int)) + ((List.length ((at_ f.blocks st7.1).insts) : Int)))) then
                        (if inI (st7.1 + 1) then
                        (some (Sum.inl ((st7.1 + 1, st7.2 + (((List.length ((at_ f.blocks st7.1).phis) : Int)) + ((List.length ((at_ f.blocks st7.1).insts) : Int)))))))
                        else none)
                        else none))
                      else none)
                    else none)
                  else
                  (some (Sum.inr ((Sum.inr (())))))) : Option ((Int × Int) ⊕ ((Int × Int) ⊕ Unit)))) ((k : Int), (pre f k : Int))
              = some (match pl (f.blocks.drop k) k (id - pre f k).toNat with | some x => Sum.inl ((x.1 : Int), (x.2 : Int)) | none => Sum.inr ()) := by
        intro m
        induction m with
        | zero =>
          intro k hk hle
          rw [loopO_step]
          simp only
          rw [if_neg (by simp; omega), List.drop_of_length_le (by omega)]
          rfl
        | succ m ih =>
          intro k hk hle
          have hk' : k < f.blocks.length := by omega
          have h0 : 0 ≤ (k : Int) ∧ (k : Int) < (f.blocks.length : Int) := by omega
          have h1 := h.rows _ (at_mem h0)
          have h2 := h.pre_le k
          have e : ((at_ f.blocks (k : Int)).phis.length : Int) + ((at_ f.blocks (k : Int)).insts.length : Int) = (sz (at_ f.blocks (k : Int)) : Int) := by simp [sz]
          have h3 := h.szle _ (at_mem h0)
          have h4 := pre_succ hk'
          have h5 := h.blocks
          rw [loopO_step, drop_at hk']
          simp only [e, pl]
          rw [if_pos (by simp; omega), if_pos h0, if_pos (inI_le (by omega) (by omega))]
          by_cases hn : (id - (pre f k : Int)).toNat < sz (at_ f.blocks (k : Int))
          · rw [if_pos (by simp; omega), if_pos hn, wrap_in (by omega) (by omega), obs]
            simp only
            rw [show ((id - (pre f k : Int)).toNat : Int) = id - (pre f k : Int) from by omega]
          · rw [if_neg (by simp; omega), if_pos (inI_le (by omega) (by omega)), if_neg hn]
            have := ih (k + 1) (by omega) (by omega)
            rw [if_pos (inI_le (by omega) (by omega)), obs]
            simp only
            rw [show ((k : Int) + 1) = ((k + 1 : Nat) : Int) from by omega, show (pre f k : Int) + (sz (at_ f.blocks (k : Int)) : Int) = ((pre f (k + 1) : Nat) : Int) from by omega, show (id - (pre f k : Int)).toNat - sz (at_ f.blocks (k : Int)) = (id - (pre f (k + 1) : Int)).toNat from by omega]
            exact this
      have k0 := key f.blocks.length 0 (by omega) (by simp [pre, sumz]; omega)
      have e0 : (pre f 0 : Int) = (f.params.length : Int) := by simp [pre, sumz]
      rw [e0] at k0
      rw [show ((0 : Nat) : Int) = (0 : Int) from rfl] at k0
      rw [k0]
      simp only [obs, List.drop_zero]
      cases pl f.blocks 0 (id - (f.params.length : Int)).toNat with
      | none => rfl
      | some x => rfl
theorem spec_place {f : GFunc} (h : okFn f) {id : Int} (hi : id ≤ 9223372036854775807) : spec_l2Place_m f id = some (placeOf f id) := by
  have hc := h.cnt_le
  unfold spec_l2Place_m
  by_cases h0 : id < 0
  · rw [if_pos (by simpa using h0), placeOf_none (.inl h0)]
  · rw [if_neg (by simpa using h0)]
    by_cases hp : id < (f.params.length : Int)
    · rw [if_pos (by simpa using hp)]
      unfold placeOf
      rw [if_neg (by omega), if_pos hp]
    · rw [if_neg (by simpa using hp), if_pos (inI_le (by omega) (by omega))]
      unfold placeOf
      rw [if_neg (by omega), if_neg hp]
      obtain ⟨n, hn⟩ := Int.eq_ofNat_of_zero_le (show 0 ≤ id - (f.params.length : Int) by omega)
      have hn' : (n : Int) ≤ 9223372036854775807 := by omega
      rw [hn]
      have key : ∀ m k (n : Nat), k + m = f.blocks.length → (n : Int) ≤ 9223372036854775807 → loopO (fun (st6 : Int × Int) =>
              ((if decide (st6.2 < ((List.length f.blocks : Int))) = true then
                  (if 0 ≤ st6.2 ∧ st6.2 < (List.length f.blocks : Int) then
                    (if 0 ≤ st6.2 ∧ st6.2 < (List.length f.blocks : Int) then
                      (if decide (st6.1 < (IntKind.i64.wrap (((List.length ((at_ f.blocks st6.2).phis) : Int)) + ((List.length ((at_ f.blocks st6.2).insts) : Int))))) = true then
                        (some (Sum.inr ((Sum.inl ((st6.2, st6.1))))))
                        else
                        (if inI (st6.2 + 1) then
                        (some (Sum.inl ((IntKind.i64.wrap (st6.1 - (IntKind.i64.wrap (((List.length ((at_ f.blocks st6.2).phis) : Int)) + ((List.length ((at_ f.blocks st6.2).insts) : Int))))), st6.2 + 1))))
                        else none))
                      else none)
                    else none)
                  else
                  (some (Sum.inr ((Sum.inr (())))))) : Option ((Int × Int) ⊕ ((Int × Int) ⊕ Unit)))) ((n : Int), (k : Int))
              = some (match pl (f.blocks.drop k) k n with | some x => Sum.inl ((x.1 : Int), (x.2 : Int)) | none => Sum.inr ()) := by
        intro m
        induction m with
        | zero =>
          intro k n hk hle
          rw [loopO_step]
          simp only
          rw [if_neg (by simp; omega), List.drop_of_length_le (by omega)]
          rfl
        | succ m ih =>
          intro k n hk hle
          have hk' : k < f.blocks.length := by omega
          have h0 : 0 ≤ (k : Int) ∧ (k : Int) < (f.blocks.length : Int) := by omega
          have h1 := h.rows _ (at_mem h0)
          have e : ((at_ f.blocks (k : Int)).phis.length : Int) + ((at_ f.blocks (k : Int)).insts.length : Int) = (sz (at_ f.blocks (k : Int)) : Int) := by simp [sz]
          have h3 := h.szle _ (at_mem h0)
          have h5 := h.blocks
          rw [loopO_step, drop_at hk']
          simp only [e, pl]
          rw [if_pos (by simp; omega), if_pos h0, if_pos h0, wrap_in (n := (sz _ : Int)) (by omega) (by omega)]
          by_cases hn : n < sz (at_ f.blocks (k : Int))
          · rw [if_pos (by simp; omega), if_pos hn, obs]
          · rw [if_neg (by simp; omega), if_neg hn, if_pos (inI_le (by omega) (by omega)), wrap_in (by omega) (by omega), obs]
            have := ih (k + 1) (n - sz (at_ f.blocks (k : Int))) (by omega) (by omega)
            simp only
            rw [show ((k : Int) + 1) = ((k + 1 : Nat) : Int) from by omega, show (n : Int) - (sz (at_ f.blocks (k : Int)) : Int) = ((n - sz (at_ f.blocks (k : Int)) : Nat) : Int) from by omega]
            exact this
      have k0 := key f.blocks.length 0 n (by omega) hn'
      rw [show ((0 : Nat) : Int) = (0 : Int) from rfl] at k0
      rw [k0]
      simp only [obs, List.drop_zero]
      rw [show ((n : Int)).toNat = n from by omega]
      cases pl f.blocks 0 n with
      | none => rfl
      | some x => rfl
noncomputable def typ (f : GFunc) (id : Int) : Int :=
  if (placeOf f id).1 = -2 then -1 else if (placeOf f id).1 = -1 then at_ f.params (placeOf f id).2 else
  if (placeOf f id).2 < ((at_ f.blocks (placeOf f id).1).phis.length : Int) then (at_ (at_ f.blocks (placeOf f id).1).phis (placeOf f id).2).w
  else spec_l2Width_m (at_ (at_ f.blocks (placeOf f id).1).insts ((placeOf f id).2 - (at_ f.blocks (placeOf f id).1).phis.length))
theorem placeOf_cases (f : GFunc) (id : Int) : placeOf f id = (-2, 0) ∨ (placeOf f id = (-1, id) ∧ 0 ≤ id ∧ id < (f.params.length : Int)) ∨
    ((0 ≤ (placeOf f id).1 ∧ (placeOf f id).1 < (f.blocks.length : Int)) ∧ 0 ≤ (placeOf f id).2 ∧ (placeOf f id).2 < (sz (at_ f.blocks (placeOf f id).1) : Int)) := by
  unfold placeOf
  by_cases h0 : id < 0
  · rw [if_pos h0]; exact .inl rfl
  · rw [if_neg h0]
    by_cases hp : id < (f.params.length : Int)
    · rw [if_pos hp]; exact .inr (.inl ⟨rfl, by omega, hp⟩)
    · rw [if_neg hp]
      cases e : pl f.blocks 0 (id - (f.params.length : Int)).toNat with
      | none => exact .inl rfl
      | some x =>
        obtain ⟨c, a⟩ := x
        obtain ⟨_, _, x, h1, h2⟩ := pl_in _ _ _ _ _ e
        have hc : c < f.blocks.length := by
          have := (List.getElem?_eq_some_iff.1 h1).1
          omega
        refine .inr (.inr ⟨⟨by simp [plI], by simp only [plI]; omega⟩, by simp [plI], ?_⟩)
        simp only [plI]
        rw [at_nat hc]
        have := (List.getElem?_eq_some_iff.1 h1).2
        simp only [Nat.sub_zero] at this
        rw [this]
        omega
theorem width_eq {i : GInst} (h : okI i) : impl_widthOf_m i = spec_l2Width_m i := by
  unfold impl_widthOf_m spec_l2Width_m impl_isBinary_m impl_within_m spec_l1In_m impl_ResultWidth_m spec_ResultWidth_m impl_isBinary_m impl_within_m spec_l1In_m impl_WidthOk_m spec_WidthOk_m
  by_cases h1 : i.op_ ≥ 1 ∧ i.op_ ≤ 17
  · have e : (decide (i.op_ ≥ 1) && decide (i.op_ ≤ 17)) = true := by simp [h1.1, h1.2]
    simp [e]
  · have e : (decide (i.op_ ≥ 1) && decide (i.op_ ≤ 17)) = false := by
      cases hx : (decide (i.op_ ≥ 1) && decide (i.op_ ≤ 17)) with
      | false => rfl
      | true => exact absurd (by simpa using hx) h1
    simp only [e]
    rcases h with h | ⟨h2, h3⟩
    · simp [h]
    · simp [h2, h3]
theorem impl_type {f : GFunc} (h : okFn f) (id : Int) : impl_TypeOf_m f id = some (typ f id) := by
  unfold impl_TypeOf_m typ impl_instOf_m
  rw [impl_place h]
  simp only [obs]
  rcases placeOf_cases f id with hp | ⟨hp, h1, h2⟩ | ⟨h1, h2, h3⟩
  · rw [hp]; rfl
  · rw [hp]
    simp only
    rw [if_neg (by decide), if_pos (by decide), if_pos ⟨h1, h2⟩, if_neg (by decide)]
    simp only [if_true]
  · generalize placeOf f id = p at h1 h2 h3 ⊢
    have hb := h.rows _ (at_mem h1)
    have hi := h.okis _ (at_mem h1)
    unfold sz at h3
    have e1 : (p.1 == (-2)) = false := by simp; omega
    have e2 : (p.1 == (-1)) = false := by simp; omega
    have e3 : ¬ p.1 = -2 := by omega
    have e4 : ¬ p.1 = -1 := by omega
    have e5 : decide (p.1 < 0) = false := by simp; omega
    simp only [e1, e2, e3, e4, e5, Bool.false_eq_true, if_false, if_pos h1]
    by_cases hq : p.2 < ((at_ f.blocks p.1).phis.length : Int)
    · simp only [hq, decide_true, if_true]
      rw [if_pos ⟨h2, trivial⟩]
    · have hz : 0 ≤ p.2 - ((at_ f.blocks p.1).phis.length : Int) ∧ p.2 - ((at_ f.blocks p.1).phis.length : Int) < ((at_ f.blocks p.1).insts.length : Int) := by omega
      simp only [hq, decide_false, Bool.false_eq_true, if_false, obs, if_pos h1]
      rw [wrap_in (by omega) (by omega), if_pos hz]
      simp only [obs]
      exact congrArg some (width_eq (hi _ (at_mem hz)))
theorem spec_type {f : GFunc} (h : okFn f) {id : Int} (hid : id ≤ 9223372036854775807) : spec_TypeOf_m f id = some (typ f id) := by
  unfold spec_TypeOf_m typ
  rw [spec_place h hid]
  simp only [obs]
  rcases placeOf_cases f id with hp | ⟨hp, h1, h2⟩ | ⟨h1, h2, h3⟩
  · rw [hp]; rfl
  · rw [hp]
    simp only
    rw [if_neg (by decide), if_pos (by decide), if_pos ⟨h1, h2⟩, if_neg (by decide)]
    simp only [if_true]
  · generalize placeOf f id = p at h1 h2 h3 ⊢
    have hb := h.rows _ (at_mem h1)
    unfold sz at h3
    have e1 : (p.1 == (-2)) = false := by simp; omega
    have e2 : (p.1 == (-1)) = false := by simp; omega
    have e3 : ¬ p.1 = -2 := by omega
    have e4 : ¬ p.1 = -1 := by omega
    have e5 : decide (p.1 < 0) = false := by simp; omega
    simp only [e1, e2, e3, e4, e5, Bool.false_eq_true, if_false, if_pos h1]
    by_cases hq : p.2 < ((at_ f.blocks p.1).phis.length : Int)
    · simp only [hq, decide_true, if_true]
      rw [if_pos ⟨h2, trivial⟩]
    · have hz : 0 ≤ p.2 - ((at_ f.blocks p.1).phis.length : Int) ∧ p.2 - ((at_ f.blocks p.1).phis.length : Int) < ((at_ f.blocks p.1).insts.length : Int) := by omega
      simp only [hq, decide_false, Bool.false_eq_true, if_false]
      rw [if_pos (inI_le (by omega) (by omega)), if_pos hz]
end Go.Proofs.Ytmckcjoacfekcaa.AM

namespace Go.Proofs.Ytmckcjoacfekcaa.AM
open Go
set_option linter.unusedSimpArgs false
set_option linter.unusedVariables false
theorem wrap_le (k : Int) : IntKind.i64.wrap k ≤ 9223372036854775807 := by
  have h1 := Int.emod_lt_of_pos k (show (0 : Int) < 18446744073709551616 by omega)
  have e : IntKind.i64.wrap k = if (true && decide (k % 18446744073709551616 ≥ 9223372036854775808)) = true then k % 18446744073709551616 - 18446744073709551616 else k % 18446744073709551616 := rfl
  rw [e]
  by_cases h : k % 18446744073709551616 ≥ 9223372036854775808
  · rw [if_pos (by simpa using h)]; omega
  · rw [if_neg (by simpa using h)]; omega
theorem near_le {r : Gl1Rd} {low high : Int} {y : Int × Gl1Rd} (h : spec_l1Rd_near_m r low high = some y) (h1 : low ≤ 9223372036854775807) (h2 : high ≤ 9223372036854775807) : y.1 ≤ 9223372036854775807 := by
  unfold spec_l1Rd_near_m at h
  cases e : spec_l1Rd_below_m r 8 with
  | none => rw [e] at h; cases h
  | some x =>
    rw [e, obs] at h
    split at h
    · cases h; exact h1
    · split at h
      · cases h; exact h2
      · split at h
        · cases h; exact h1
        · cases e2 : spec_l1Rd_word_m x.2 with
          | none => rw [e2] at h; cases h
          | some w =>
            rw [e2, obs] at h
            split at h
            · split at h
              · cases h; exact wrap_le _
              · cases h
            · cases h
theorem off_le {r : Gl1Rd} {low high : Int} {y : Int × Gl1Rd} (h : spec_l1Rd_off_m r low high = some y) (h1 : low ≤ 9223372036854775807) (h2 : high ≤ 9223372036854775806) : y.1 ≤ 9223372036854775807 := by
  unfold spec_l1Rd_off_m at h
  cases e : spec_l1Rd_once_m r 24 with
  | none => rw [e] at h; cases h
  | some x =>
    rw [e, obs] at h
    split at h
    · split at h
      · split at h
        · cases e2 : spec_l1Rd_below_m x.2 4 with
          | none => rw [e2] at h; cases h
          | some w =>
            rw [e2, obs] at h
            split at h
            · rename_i hw
              have hm := at_mem hw
              cases h
              simp only [List.mem_cons, List.not_mem_nil, or_false] at hm
              simp only
              omega
            · cases h
        · cases h
      · cases h
    · cases e2 : spec_l1Rd_near_m x.2 low high with
      | none => rw [e2] at h; cases h
      | some w =>
        rw [e2, obs] at h
        cases h
        exact near_le e2 h1 (by omega)
theorem off_run' {r : Gl1Rd} (h : okRd r) {low high : Int} (hl : -1000000 ≤ low) (hlh : low ≤ high) (hh : high ≤ 1000000) : Run (spec_l1Rd_off_m r low high) (fun y => okRd y.2 ∧ y.1 ≤ 9223372036854775807) := by
  obtain ⟨y, e, hy⟩ := off_run h (low := low) (high := high) (inI_le (by omega) (by omega)) (inI_le (by omega) (by omega)) (fun _ => by
    rw [wrap_in (by omega) (by omega)]
    refine ⟨inI_le (by omega) (by omega), ?_⟩
    have hk : IntKind.u64.wrap (high - low + 1) = high - low + 1 := IntWalk.u64_in _ (by omega)
    omega)
  exact ⟨y, e, hy, off_le e (by omega) (by omega)⟩
theorem drawPlace_run {code : List Int} (hl : code.length ≤ 140737488355328) (hb : ∀ x ∈ code, 0 ≤ x ∧ x ≤ 255) : Run (spec_DrawPlaceOf_m code) (fun y => okF y.1 ∧ y.2 ≤ 9223372036854775807) := by
  unfold spec_DrawPlaceOf_m spec_DrawTypeOf_m
  refine Run.bind (R := fun y => okF y.1 ∧ y.2 ≤ 9223372036854775807) (Run.bind (module_run (open_ok hl hb)) ?_) (fun y hy => Run.mk hy)
  rintro ⟨m, r⟩ ⟨h1, h2, h3, h4⟩
  simp only at h1 h2 h3 h4 ⊢
  have h0 : (0 : Int) ≤ 0 ∧ 0 < (m.funcs.length : Int) := by omega
  refine Run.yes h0 (Run.bind (R := fun y => y ≤ 9223372036854775807) (Run.bind (off_run' h1 (by omega) (by omega) (by omega)) (fun y hy => Run.mk hy.2)) (fun y hy => Run.mk ⟨h4 _ (at_mem h0), hy⟩))
theorem place_step {f : GFunc} (h : okFn f) {i : Int} (h0 : 0 ≤ i) (h1 : i < (cnt f : Int)) {l : Int × Int} (hl : (i = 0 → l = (-1, -1)) ∧ (0 < i → l = placeOf f (i - 1))) :
    ¬ (placeOf f i).1 < l.1 ∧ ((placeOf f i).1 = l.1 → (placeOf f i).2 = l.2 + 1) ∧ ((placeOf f i).1 > l.1 → (placeOf f i).2 = 0) ∧ l.2 ≤ i := by
  have hc := h.cnt_le
  by_cases hp : i < (f.params.length : Int)
  · have e : placeOf f i = (-1, i) := by unfold placeOf; rw [if_neg (by omega), if_pos hp]
    rw [e]
    by_cases hi : i = 0
    · rw [hl.1 hi]
      simp only
      omega
    · have e2 : placeOf f (i - 1) = (-1, i - 1) := by unfold placeOf; rw [if_neg (by omega), if_pos (by omega)]
      rw [hl.2 (by omega), e2]
      simp only
      omega
  · have e : placeOf f i = plI (pl f.blocks 0 (i - f.params.length).toNat) := by unfold placeOf; rw [if_neg (by omega), if_neg hp]
    unfold cnt at h1
    obtain ⟨c, a, ec⟩ := pl_some f.blocks 0 (i - f.params.length).toNat (by omega)
    rw [e, ec]
    simp only [plI]
    by_cases hi : i = f.params.length
    · rw [show (i - (f.params.length : Int)).toNat = 0 from by omega] at ec
      have := pl_zero _ _ _ _ ec
      by_cases h00 : i = 0
      · rw [hl.1 h00]
        simp only
        omega
      · have e2 : placeOf f (i - 1) = (-1, i - 1) := by unfold placeOf; rw [if_neg (by omega), if_pos (by omega)]
        rw [hl.2 (by omega), e2]
        simp only
        omega
    · have e2 : placeOf f (i - 1) = plI (pl f.blocks 0 (i - 1 - f.params.length).toNat) := by unfold placeOf; rw [if_neg (by omega), if_neg (by omega)]
      obtain ⟨d, b, ed⟩ := pl_some f.blocks 0 (i - 1 - f.params.length).toNat (by omega)
      have hin := pl_in _ _ _ _ _ ed
      rw [hl.2 (by omega), e2, ed]
      rw [show (i - (f.params.length : Int)).toNat = (i - 1 - f.params.length).toNat + 1 from by omega] at ec
      have := pl_succ _ _ _ _ _ _ _ ed ec
      simp only [plI]
      omega
theorem law_FnPlaces (code : List Int) (hl : code.length ≤ 140737488355328) (hb : ∀ x ∈ code, 0 ≤ x ∧ x ≤ 255) : laws_FnPlaces_m code = some true := by
  unfold laws_FnPlaces_m
  split
  · rfl
  · obtain ⟨⟨f, id⟩, e, h, hid⟩ := drawPlace_run hl hb
    simp only at h hid
    have hc := h.ok.cnt_le
    rw [e, obs]
    simp only [impl_place h.ok, obs]
    have es : spec_PlaceOf_m f id = some (placeOf f id) := by
      unfold spec_PlaceOf_m
      rw [spec_place h.ok hid]
      rfl
    rw [es, obs, impl_count h.ok, obs, spec_count h.ok]
    simp only [obs, bne_self_eq_false, Bool.false_eq_true, if_false]
    generalize hB : loopO _ _ = L
    obtain ⟨r, eL, hr⟩ := loop_wf hB (fun s => 0 ≤ s.2.2 ∧ s.2.2 ≤ (cnt f : Int) ∧ (s.2.2 = 0 → (s.1, s.2.1) = (-1, -1)) ∧ (0 < s.2.2 → (s.1, s.2.1) = placeOf f (s.2.2 - 1))) (fun s => ((cnt f : Int) - s.2.2).toNat) (fun r => r = Sum.inr ()) (by
      rintro ⟨l, p, i⟩ ⟨h1, h2, h3⟩
      simp only at h1 h2 h3 ⊢
      by_cases hi : i < (cnt f : Int)
      · left
        obtain ⟨s1, s2, s3, s4⟩ := place_step h.ok h1 hi h3
        simp only at s1 s2 s3 s4
        rw [if_pos (by simpa using hi), impl_type h.ok, spec_type h.ok (by omega)]
        simp only [obs]
        rw [if_neg (by simpa using s1)]
        have efin : ∀ {F : Bool → Option ((Int × Int × Int) ⊕ (Unit ⊕ Unit))}, Option.bind (if ((placeOf f i).1 == l) = true then
                        (if inI (p + 1) then
                        (if ((placeOf f i).2 != (p + 1)) = true then
                        (some true)
                        else
                        (if decide ((placeOf f i).1 > l) = true then
                        (some ((placeOf f i).2 != 0))
                        else
                        (some false)))
                        else none)
                        else
                        (if decide ((placeOf f i).1 > l) = true then
                        (some ((placeOf f i).2 != 0))
                        else
                        (some false))) F = F false := by
          intro F
          have hp : inI (p + 1) := by
            refine inI_le ?_ (by omega)
            by_cases h00 : i = 0
            · have := h3.1 h00
              simp only [Prod.mk.injEq] at this
              omega
            · have := h3.2 (by omega)
              have hc := placeOf_cases f (i - 1)
              rw [← this] at hc
              simp only [Prod.mk.injEq] at hc
              omega
          by_cases hx : (placeOf f i).1 = l
          · rw [if_pos (by simpa using hx), if_pos hp, if_neg (by simp [s2 hx]), if_neg (by simp [hx])]
            rfl
          · rw [if_neg (by simpa using hx), if_pos (by simp; omega), s3 (by omega)]
            rfl
        rw [efin]
        simp only [Bool.false_eq_true, if_false]
        rw [if_neg (by simp)]
        simp only [obs, bne_self_eq_false, Bool.false_eq_true, if_false]
        rw [if_pos (inI_le (by omega) (by omega))]
        exact ⟨_, rfl, ⟨by simp only; omega, by simp only; omega, fun h => by simp only at h; omega, fun _ => by simp⟩, by simp only; omega⟩
      · right
        rw [if_neg (by simpa using hi)]
        exact ⟨_, rfl, rfl⟩) ⟨Int.le_refl _, by simp only; omega, fun _ => rfl, fun h => by simp only at h; omega⟩
    subst eL hr
    have en : placeOf f (cnt f : Int) = (-2, 0) := placeOf_none (.inr (Int.le_refl _))
    simp only [obs, impl_place h.ok, en, impl_type h.ok]
    have et : typ f (cnt f : Int) = -1 := by unfold typ; rw [en]; rfl
    rw [et]
    rfl
end Go.Proofs.Ytmckcjoacfekcaa.AM
