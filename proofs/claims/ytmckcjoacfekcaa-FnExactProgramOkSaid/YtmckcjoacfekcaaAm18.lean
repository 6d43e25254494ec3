import Derived.Test.YtmckcjoacfekcaaAm17
/-! The calculus, eighteenth part: calls that are handed values to read. -/
namespace Go.Proofs.Ytmckcjoacfekcaa.AM
open Go

/-- Leaves that are values or rows to read. -/
def plainL {δ : Type} : L δ → Bool
  | .int _ _ | .bool _ | .str _ | .nl | .nilp | .bs _ _ _ => true
  | _ => false
theorem plain_er (l : L Value) : plainL (erL l) = plainL l := by cases l <;> rfl
theorem plain_wf {l : L Value} (h : plainL l = true) (hw : wfL false l) : wfL true l := by
  cases l <;> simp_all [plainL, wfL]
theorem plain_noOs {δ : Type} {l : L δ} (h : plainL l = true) : noOs l = true := by cases l <;> simp_all [plainL, noOs]
-- rows of the caller's own stand in the callee as rows that are read
def mapO {α β : Type} (f : α → Option (β × List Nat)) : List α → Option (List β × List Nat)
  | [] => some ([], [])
  | x :: xs => (f x).bind fun y => (mapO f xs).bind fun ys => some (y.1 :: ys.1, y.2 ++ ys.2)
def borL (lk : Lk) : Nat → L Unit → Option (L Unit × List Nat)
  | 0, _ => none
  | k + 1, l => match l with
    | .ref v id off len => (lk id).bind fun o => if ((o.rows.drop off).take len).all (fun r => r.all plainL) then some (.bs v o.n ((o.rows.drop off).take len), [id]) else none
    | .ptr v id e j => (lk id).bind fun o => (o.rows[e]?).bind fun r => (mapO (borL lk k) (r.drop j)).bind fun p => if p.1.all plainL then some (.ip v p.1, id :: p.2) else none
    | .fn v f caps => (mapO (borL lk k) caps).bind fun p => some (.fn v f p.1, p.2)
    | .os _ _ _ => none
    | l => some (l, [])
def BorIn (W : World) (d : S Value) (p : Addr × List Value) : Prop := p.2 = [] ∨ SubIn p (immS d) ∨ (ImmFact W p ∧ ∃ q ∈ ownS d, q.1 = p.1.block)
/-- A leaf as the callee has it. -/
structure Bor (W : World) (d : S Value) (l l' : L Value) : Prop where
  val : val l' = val l
  no : noOs l' = true
  free : idsL l' = []
  wf : wfL false l'
  imm : ∀ p ∈ immL l', BorIn W d p
theorem mapO_ok {R : L Value → L Value → Prop} {f : L Unit → Option (L Unit × List Nat)} : ∀ {ls : List (L Value)} {p : List (L Unit) × List Nat}, mapO f (ls.map erL) = some p → (∀ l ∈ ls, ∀ y, f (erL l) = some y → ∃ l', erL l' = y.1 ∧ R l l') →
    ∃ ls', ls'.map erL = p.1 ∧ All2 R ls ls'
  | [], p, h, _ => by cases h; exact ⟨[], rfl, .nil⟩
  | l :: ls, p, h, hr => by
    simp only [List.map_cons, mapO] at h
    obtain ⟨y, hy, h⟩ := bind_some h
    obtain ⟨ys, hys, h⟩ := bind_some h
    cases h
    obtain ⟨l', h1, h2⟩ := hr l (by simp) y hy
    obtain ⟨ls', h3, h4⟩ := mapO_ok hys (fun l hl => hr l (List.mem_cons_of_mem _ hl))
    exact ⟨l' :: ls', by simp [h1, h3], .cons h2 h4⟩
theorem all2_mem {α β : Type} {R : α → β → Prop} : ∀ {xs : List α} {ys : List β}, All2 R xs ys → ∀ y ∈ ys, ∃ x ∈ xs, R x y
  | _, _, .nil, y, hy => by cases hy
  | _, _, .cons h t, y, hy => by
    rcases List.mem_cons.1 hy with rfl | hy
    · exact ⟨_, by simp, h⟩
    · obtain ⟨x, hx, hr⟩ := all2_mem t y hy
      exact ⟨x, List.mem_cons_of_mem _ hx, hr⟩
theorem all2_val {W : World} {d : S Value} : ∀ {xs ys : List (L Value)}, All2 (Bor W d) xs ys → ys.map val = xs.map val
  | _, _, .nil => rfl
  | _, _, .cons h t => by simp [h.val, all2_val t]
theorem bor_ok {W : World} {d : S Value} (hg : Good W d) : ∀ (k : Nat) {l : L Value} {p : L Unit × List Nat}, Has d l → borL (look (erS d).ob) k (erL l) = some p → ∃ l', erL l' = p.1 ∧ Bor W d l l'
  | 0, l, p, _, h => by cases h
  | k + 1, l, p, hh, h => by
    have self : noOs l = true → idsL l = [] → ∃ l', erL l' = erL l ∧ Bor W d l l' := fun h1 h2 => ⟨l, rfl, rfl, h1, h2, hh.1, fun p hp => .inr (.inl (hh.2.2.1 p hp))⟩
    cases l with
    | int k n => simp only [mapL, borL, Option.some.injEq] at h; subst h; exact self rfl rfl
    | bool b => simp only [mapL, borL, Option.some.injEq] at h; subst h; exact self rfl rfl
    | str s => simp only [mapL, borL, Option.some.injEq] at h; subst h; exact self rfl rfl
    | nl => simp only [mapL, borL, Option.some.injEq] at h; subst h; exact self rfl rfl
    | nilp => simp only [mapL, borL, Option.some.injEq] at h; subst h; exact self rfl rfl
    | bs v n rows => simp only [mapL, borL, Option.some.injEq] at h; subst h; exact self rfl rfl
    | ip v cells => simp only [mapL, borL, Option.some.injEq] at h; subst h; exact self rfl rfl
    | os v n rows => simp [mapL, borL] at h
    | ref v id off len =>
      simp only [mapL, borL] at h
      obtain ⟨o, ho, h⟩ := bind_some h
      obtain ⟨o', ho', rfl⟩ := look_lift ho
      split at h
      · rename_i hpl
        cases h
        obtain ⟨hlen, hv⟩ := hh.2.1 o' ho'
        have hobs : _ ∧ ∀ r ∈ o'.rows, r.length = o'.n := hg.obs _ (find?_key ho')
        have hsub : ∀ r ∈ (o'.rows.drop off).take len, r ∈ o'.rows := fun r hr => List.mem_of_mem_drop (List.mem_of_mem_take hr)
        have hlr : ((o'.rows.drop off).take len).length = len := by rw [List.length_take, List.length_drop]; omega
        have hplain : ∀ r ∈ (o'.rows.drop off).take len, ∀ l ∈ r, plainL l = true := by
          have e : (((erOb o').rows.drop off).take len) = ((o'.rows.drop off).take len).map (fun r => r.map erL) := by simp [erOb, mapOb, List.map_take, List.map_drop]
          rw [e] at hpl
          simp only [List.all_map, List.all_eq_true, Function.comp_def, plain_er] at hpl
          exact fun r hr l hl => hpl r hr l hl
        have hlim : len ≤ LIM := by
          rcases hobs.1 with ⟨_, h0⟩ | ⟨_, _, _, _, _, h0⟩
          · simp only at h0; rw [h0] at hlen; simp at hlen; omega
          · simp only at h0; omega
        have hwfr : wfR true ((o'.rows.drop off).take len) := by
          rw [wfR_iff]
          exact fun r hr l hl => plain_wf (hplain r hr l hl) (has_ob hg ho' (hsub r hr) hl).1
        have himmr : ∀ p ∈ immR ((o'.rows.drop off).take len), BorIn W d p := fun p hp => by
          rw [immR_eq] at hp
          obtain ⟨l, hl, hp⟩ := List.mem_flatMap.1 hp
          obtain ⟨r, hr, hl⟩ := List.mem_flatten.1 hl
          exact .inr (.inl ((has_ob hg ho' (hsub r hr) hl).2.2.1 p hp))
        refine ⟨.bs v o'.n ((o'.rows.drop off).take len), by simp [mapL, mapR_eq, erOb, mapOb, List.map_take, List.map_drop], rfl, rfl, rfl, ⟨?_, fun r hr => hobs.2 r (hsub r hr), hwfr⟩, fun p hp => ?_⟩
        · unfold isSl
          rw [hlr]
          rcases hv with ⟨h0, hv⟩ | ⟨b, x, c0, h0, hv⟩
          · have hr0 : o'.rows = [] := by
              rcases hobs.1 with ⟨_, h1⟩ | ⟨_, _, _, h1, _⟩
              · exact h1
              · simp only at h1; rw [h0] at h1; cases h1
            rw [hr0] at hlen
            simp at hlen
            obtain ⟨rfl, rfl⟩ := hlen
            exact ⟨none, 0, hv, Nat.le_refl _, hlim, fun hne => absurd (by simp) hne⟩
          · have hle0 : o'.rows.length ≤ c0 := by
              rcases hobs.1 with ⟨h7, _⟩ | ⟨_, _, _, h7, h8, _⟩
              · simp only at h7; rw [h0] at h7; cases h7
              · simp only at h7 h8; rw [h0] at h7; cases h7; exact h8
            rcases hv with hv | ⟨y, hv, rfl, _⟩
            · exact ⟨_, _, hv, by omega, hlim, fun _ => ⟨_, _, rfl⟩⟩
            · exact ⟨_, _, hv, Nat.le_refl _, hlim, fun hne => absurd (by simp) hne⟩
        · simp only [immL, List.mem_append] at hp
          rcases hp with hp | hp
          · rcases hv with ⟨h0, hv⟩ | ⟨b, x, c0, h0, hv⟩
            · rw [hv] at hp; simp [hdrImm] at hp
            · rcases hv with hv | ⟨y, hv, rfl, _⟩
              · rw [hv] at hp
                simp only [hdrImm, List.mem_singleton] at hp
                subst hp
                have hm : (b, x, c0 * o'.n, valR o'.rows) ∈ ownS d := by
                  simp only [ownS, List.mem_append]
                  left
                  exact List.mem_flatMap.2 ⟨(id, o'), find?_key ho', by simp [hdrOwn, h0]⟩
                refine .inr (.inr ⟨fun j u hj => ?_, _, hm, rfl⟩)
                have h2 := drop_take_valR hobs.2 off len j hj
                obtain ⟨arr, ty, h5, _, _, h8⟩ := hg.own _ hm
                have := h8 _ _ h2
                simp only [World.cell?, h5]
                simpa [Nat.add_assoc] using this
              · left
                rw [hv] at hp
                have := mem_hdrImm hp
                rw [this]
                simp [valR]
          · exact himmr p hp
      · cases h
    | ptr v id e j =>
      simp only [mapL, borL] at h
      obtain ⟨o, ho, h⟩ := bind_some h
      obtain ⟨o', ho', rfl⟩ := look_lift ho
      obtain ⟨r, hr, h⟩ := bind_some h
      obtain ⟨r', hr', rfl⟩ := rows_er hr
      obtain ⟨q, hq, h⟩ := bind_some h
      rw [← List.map_drop] at hq
      have hrm := List.mem_of_getElem? hr'
      obtain ⟨ls', h1, h2⟩ := mapO_ok (R := Bor W d) hq (fun l hl y hy => bor_ok hg k (has_ob hg ho' hrm (List.mem_of_mem_drop hl)) hy)
      split at h
      · rename_i hpl
        cases h
        obtain ⟨b, x, c0, hh0, hv⟩ := hh.2.1 o' ho'
        refine ⟨.ip v ls', by simp [mapL, mapC_eq, h1], rfl, rfl, rfl, ⟨rfl, ⟨b, _, hv⟩, (wfC_iff _ _).2 fun l hl => ?_⟩, fun p hp => ?_⟩
        · obtain ⟨l0, _, hb⟩ := all2_mem h2 l hl
          refine plain_wf ?_ hb.wf
          rw [← h1] at hpl
          simp only [List.all_map, List.all_eq_true, Function.comp_def, plain_er] at hpl
          exact hpl l hl
        · simp only [immL, List.mem_append] at hp
          rcases hp with hp | hp
          · rw [hv] at hp
            simp only [hdrImm, List.mem_singleton] at hp
            subst hp
            have hm : (b, x, c0 * o'.n, valR o'.rows) ∈ ownS d := by
              simp only [ownS, List.mem_append]
              left
              exact List.mem_flatMap.2 ⟨(id, o'), find?_key ho', by simp [hdrOwn, hh0]⟩
            refine .inr (.inr ⟨fun i u hi => ?_, _, hm, rfl⟩)
            simp only [all2_val h2, List.getElem?_map, List.getElem?_drop, Option.map_eq_some_iff] at hi
            obtain ⟨l, hl, rfl⟩ := hi
            have := ob_cell hg ho' hh0 hr' hl
            simpa [Nat.add_assoc] using this
          · rw [immC_eq] at hp
            obtain ⟨l, hl, hp⟩ := List.mem_flatMap.1 hp
            obtain ⟨l0, _, hb⟩ := all2_mem h2 l hl
            exact hb.imm p hp
      · cases h
    | fn v f caps =>
      simp only [mapL, borL, mapC_eq] at h
      obtain ⟨q, hq, h⟩ := bind_some h
      cases h
      have hcap : ∀ l ∈ caps, Has d l := fun l hl => by
        obtain ⟨_, hv, hw⟩ := hh.1
        refine ⟨(wfC_iff _ _).1 hw l hl, (refOkC_iff _ _).1 hh.2.1 l hl, fun p hp => hh.2.2.1 p ?_, fun i hi => hh.2.2.2 i ?_⟩
        · simp only [immL, immC_eq]
          exact List.mem_flatMap.2 ⟨l, hl, hp⟩
        · simp only [idsL, idsC_eq]
          exact List.mem_flatMap.2 ⟨l, hl, hi⟩
      obtain ⟨ls', h1, h2⟩ := mapO_ok (R := Bor W d) hq (fun l hl y hy => bor_ok hg k (hcap l hl) hy)
      obtain ⟨_, hv, hw⟩ := hh.1
      refine ⟨.fn v f ls', by simp [mapL, mapC_eq, h1], rfl, rfl, ?_, ⟨rfl, by rw [hv, all2_val h2], (wfC_iff _ _).2 fun l hl => ?_⟩, fun p hp => ?_⟩
      · simp only [idsL, idsC_eq, List.flatMap_eq_nil_iff]
        intro l hl
        obtain ⟨l0, _, hb⟩ := all2_mem h2 l hl
        exact hb.free
      · obtain ⟨l0, _, hb⟩ := all2_mem h2 l hl
        exact hb.wf
      · simp only [immL, immC_eq] at hp
        obtain ⟨l, hl, hp⟩ := List.mem_flatMap.1 hp
        obtain ⟨l0, _, hb⟩ := all2_mem h2 l hl
        exact hb.imm p hp
mutual
def immFreeL {δ : Type} : L δ → Bool
  | .int _ _ | .bool _ | .str _ | .nl | .nilp | .ref _ _ _ _ | .ptr _ _ _ _ => true
  | .os _ _ rows => immFreeR rows
  | _ => false
def immFreeC {δ : Type} : List (L δ) → Bool
  | [] => true
  | l :: ls => immFreeL l && immFreeC ls
def immFreeR {δ : Type} : List (List (L δ)) → Bool
  | [] => true
  | r :: rs => immFreeC r && immFreeR rs
end
-- results' own rows become objects
def rootLs {δ : Type} (hd : δ → δ) : Nat → List (L δ) → List (L δ) × List (Nat × Ob δ)
  | _, [] => ([], [])
  | n, .os v m rows :: ls => (.ref v n 0 rows.length :: (rootLs hd (n + 1) ls).1, (n, ⟨hd v, m, rows⟩) :: (rootLs hd (n + 1) ls).2)
  | n, l :: ls => (l :: (rootLs hd n ls).1, (rootLs hd n ls).2)
def rootU {δ : Type} (hd : δ → δ) (n : Nat) : U δ → U δ × List (Nat × Ob δ)
  | .one l => match rootLs hd n [l] with
    | (l' :: _, os) => (.one l', os)
    | ([], os) => (.one l, os)
  | .agg ls => (.agg (rootLs hd n ls).1, (rootLs hd n ls).2)
def rootUs {δ : Type} (hd : δ → δ) : Nat → List (U δ) → List (U δ) × List (Nat × Ob δ)
  | _, [] => ([], [])
  | n, u :: us => ((rootU hd n u).1 :: (rootUs hd (n + (rootU hd n u).2.length) us).1, (rootU hd n u).2 ++ (rootUs hd (n + (rootU hd n u).2.length) us).2)
def rootV {δ : Type} (hd : δ → δ) (n : Nat) : V δ → V δ × List (Nat × Ob δ)
  | .u x => (.u (rootU hd n x).1, (rootU hd n x).2)
  | .tup xs => (.tup (rootUs hd n xs).1, (rootUs hd n xs).2)
  | .un => (.un, [])
  | .ud => (.ud, [])
end Go.Proofs.Ytmckcjoacfekcaa.AM
