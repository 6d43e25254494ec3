import Derived.Test.YtghdhjgoicnbcaaGreatMf1
import Derived.IntWalk
import Derived.Laws.StructEq
import Derived.Laws.AppendOwn
import Derived.Laws.IdiomStrings
import Derived.ChangeKeysEq
set_option linter.unusedVariables false
set_option linter.unusedSimpArgs false
namespace Go.Proofs.YtghdhjgoicnbcaaGreat.AM
open Go

/-- Leaves that are values or rows to read. -/
def plainL {δ : Type} : L δ → Bool
  | .int _ _ | .bool _ | .str _ | .nl | .nilp | .bs _ _ _ => true
  | _ => false
theorem plain_er (l : L Value) : plainL (erL l) = plainL l := by cases l <;> rfl
theorem plain_wf {l : L Value} (h : plainL l = true) (hw : wfL false l) : wfL true l := by
  cases l <;> simp_all [plainL, wfL]
theorem plain_noOs {δ : Type} {l : L δ} (h : plainL l = true) : noOs l = true := by cases l <;> simp_all [plainL, noOs]
-- rows of the caller's own stand in the callee as rows that are read
def mapO {α β : Type} (f : α → Option (β × List Nat)) : List α → Option (List β × List Nat)
  | [] => some ([], [])
  | x :: xs => (f x).bind fun y => (mapO f xs).bind fun ys => some (y.1 :: ys.1, y.2 ++ ys.2)
def borL (lk : Lk) : Nat → L Unit → Option (L Unit × List Nat)
  | 0, _ => none
  | k + 1, l => match l with
    | .ref v id off len => (lk id).bind fun o => if ((o.rows.drop off).take len).all (fun r => r.all plainL) then some (.bs v o.n ((o.rows.drop off).take len), [id]) else none
    | .ptr v id e j => (lk id).bind fun o => (o.rows[e]?).bind fun r => (mapO (borL lk k) (r.drop j)).bind fun p => if p.1.all plainL then some (.ip v p.1, id :: p.2) else none
    | .fn v f caps => (mapO (borL lk k) caps).bind fun p => some (.fn v f p.1, p.2)
    | .os _ _ _ => none
    | l => some (l, [])
def BorIn (W : World) (d : S Value) (p : Addr × List Value) : Prop := p.2 = [] ∨ SubIn p (immS d) ∨ (ImmFact W p ∧ ∃ q ∈ ownS d, q.1 = p.1.block)
/-- A leaf as the callee has it. -/
structure Bor (W : World) (d : S Value) (l l' : L Value) : Prop where
  val : val l' = val l
  no : noOs l' = true
  free : idsL l' = []
  wf : wfL false l'
  imm : ∀ p ∈ immL l', BorIn W d p
theorem mapO_ok {R : L Value → L Value → Prop} {f : L Unit → Option (L Unit × List Nat)} : ∀ {ls : List (L Value)} {p : List (L Unit) × List Nat}, mapO f (ls.map erL) = some p → (∀ l ∈ ls, ∀ y, f (erL l) = some y → ∃ l', erL l' = y.1 ∧ R l l') →
    ∃ ls', ls'.map erL = p.1 ∧ All2 R ls ls'
  | [], p, h, _ => by cases h; exact ⟨[], rfl, .nil⟩
  | l :: ls, p, h, hr => by
    simp only [List.map_cons, mapO] at h
    obtain ⟨y, hy, h⟩ := bind_some h
    obtain ⟨ys, hys, h⟩ := bind_some h
    cases h
    obtain ⟨l', h1, h2⟩ := hr l (by simp) y hy
    obtain ⟨ls', h3, h4⟩ := mapO_ok hys (fun l hl => hr l (List.mem_cons_of_mem _ hl))
    exact ⟨l' :: ls', by simp [h1, h3], .cons h2 h4⟩
theorem all2_mem {α β : Type} {R : α → β → Prop} : ∀ {xs : List α} {ys : List β}, All2 R xs ys → ∀ y ∈ ys, ∃ x ∈ xs, R x y
  | _, _, .nil, y, hy => by cases hy
  | _, _, .cons h t, y, hy => by
    rcases List.mem_cons.1 hy with rfl | hy
    · exact ⟨_, by simp, h⟩
    · obtain ⟨x, hx, hr⟩ := all2_mem t y hy
      exact ⟨x, List.mem_cons_of_mem _ hx, hr⟩
theorem all2_val {W : World} {d : S Value} : ∀ {xs ys : List (L Value)}, All2 (Bor W d) xs ys → ys.map val = xs.map val
  | _, _, .nil => rfl
  | _, _, .cons h t => by simp [h.val, all2_val t]
theorem bor_ok {W : World} {d : S Value} (hg : Good W d) : ∀ (k : Nat) {l : L Value} {p : L Unit × List Nat}, Has d l → borL (look (erS d).ob) k (erL l) = some p → ∃ l', erL l' = p.1 ∧ Bor W d l l'
  | 0, l, p, _, h => by cases h
  | k + 1, l, p, hh, h => by
    have self : noOs l = true → idsL l = [] → ∃ l', erL l' = erL l ∧ Bor W d l l' := fun h1 h2 => ⟨l, rfl, rfl, h1, h2, hh.1, fun p hp => .inr (.inl (hh.2.2.1 p hp))⟩
    cases l with
    | int k n => simp only [mapL, borL, Option.some.injEq] at h; subst h; exact self rfl rfl
    | bool b => simp only [mapL, borL, Option.some.injEq] at h; subst h; exact self rfl rfl
    | str s => simp only [mapL, borL, Option.some.injEq] at h; subst h; exact self rfl rfl
    | nl => simp only [mapL, borL, Option.some.injEq] at h; subst h; exact self rfl rfl
    | nilp => simp only [mapL, borL, Option.some.injEq] at h; subst h; exact self rfl rfl
    | bs v n rows => simp only [mapL, borL, Option.some.injEq] at h; subst h; exact self rfl rfl
    | ip v cells => simp only [mapL, borL, Option.some.injEq] at h; subst h; exact self rfl rfl
    | os v n rows => simp [mapL, borL] at h
    | ref v id off len =>
      simp only [mapL, borL] at h
      obtain ⟨o, ho, h⟩ := bind_some h
      obtain ⟨o', ho', rfl⟩ := look_lift ho
      split at h
      · rename_i hpl
        cases h
        obtain ⟨hlen, hv⟩ := hh.2.1 o' ho'
        have hobs : _ ∧ ∀ r ∈ o'.rows, r.length = o'.n := hg.obs _ (find?_key ho')
        have hsub : ∀ r ∈ (o'.rows.drop off).take len, r ∈ o'.rows := fun r hr => List.mem_of_mem_drop (List.mem_of_mem_take hr)
        have hlr : ((o'.rows.drop off).take len).length = len := by rw [List.length_take, List.length_drop]; omega
        have hplain : ∀ r ∈ (o'.rows.drop off).take len, ∀ l ∈ r, plainL l = true := by
          have e : (((erOb o').rows.drop off).take len) = ((o'.rows.drop off).take len).map (fun r => r.map erL) := by simp [erOb, mapOb, List.map_take, List.map_drop]
          rw [e] at hpl
          simp only [List.all_map, List.all_eq_true, Function.comp_def, plain_er] at hpl
          exact fun r hr l hl => hpl r hr l hl
        have hlim : len ≤ LIM := by
          rcases hobs.1 with ⟨_, h0⟩ | ⟨_, _, _, _, _, h0⟩
          · simp only at h0; rw [h0] at hlen; simp at hlen; omega
          · simp only at h0; omega
        have hwfr : wfR true ((o'.rows.drop off).take len) := by
          rw [wfR_iff]
          exact fun r hr l hl => plain_wf (hplain r hr l hl) (has_ob hg ho' (hsub r hr) hl).1
        have himmr : ∀ p ∈ immR ((o'.rows.drop off).take len), BorIn W d p := fun p hp => by
          rw [immR_eq] at hp
          obtain ⟨l, hl, hp⟩ := List.mem_flatMap.1 hp
          obtain ⟨r, hr, hl⟩ := List.mem_flatten.1 hl
          exact .inr (.inl ((has_ob hg ho' (hsub r hr) hl).2.2.1 p hp))
        refine ⟨.bs v o'.n ((o'.rows.drop off).take len), by simp [mapL, mapR_eq, erOb, mapOb, List.map_take, List.map_drop], rfl, rfl, rfl, ⟨?_, fun r hr => hobs.2 r (hsub r hr), hwfr⟩, fun p hp => ?_⟩
        · unfold isSl
          rw [hlr]
          rcases hv with ⟨h0, hv⟩ | ⟨b, x, c0, h0, hv⟩
          · have hr0 : o'.rows = [] := by
              rcases hobs.1 with ⟨_, h1⟩ | ⟨_, _, _, h1, _⟩
              · exact h1
              · simp only at h1; rw [h0] at h1; cases h1
            rw [hr0] at hlen
            simp at hlen
            obtain ⟨rfl, rfl⟩ := hlen
            exact ⟨none, 0, hv, Nat.le_refl _, hlim, fun hne => absurd (by simp) hne⟩
          · have hle0 : o'.rows.length ≤ c0 := by
              rcases hobs.1 with ⟨h7, _⟩ | ⟨_, _, _, h7, h8, _⟩
              · simp only at h7; rw [h0] at h7; cases h7
              · simp only at h7 h8; rw [h0] at h7; cases h7; exact h8
            rcases hv with hv | ⟨y, hv, rfl, _⟩
            · exact ⟨_, _, hv, by omega, hlim, fun _ => ⟨_, _, rfl⟩⟩
            · exact ⟨_, _, hv, Nat.le_refl _, hlim, fun hne => absurd (by simp) hne⟩
        · simp only [immL, List.mem_append] at hp
          rcases hp with hp | hp
          · rcases hv with ⟨h0, hv⟩ | ⟨b, x, c0, h0, hv⟩
            · rw [hv] at hp; simp [hdrImm] at hp
            · rcases hv with hv | ⟨y, hv, rfl, _⟩
              · rw [hv] at hp
                simp only [hdrImm, List.mem_singleton] at hp
                subst hp
                have hm : (b, x, c0 * o'.n, valR o'.rows) ∈ ownS d := by
                  simp only [ownS, List.mem_append]
                  left
                  exact List.mem_flatMap.2 ⟨(id, o'), find?_key ho', by simp [hdrOwn, h0]⟩
                refine .inr (.inr ⟨fun j u hj => ?_, _, hm, rfl⟩)
                have h2 := drop_take_valR hobs.2 off len j hj
                obtain ⟨arr, ty, h5, _, _, h8⟩ := hg.own _ hm
                have := h8 _ _ h2
                simp only [World.cell?, h5]
                simpa [Nat.add_assoc] using this
              · left
                rw [hv] at hp
                have := mem_hdrImm hp
                rw [this]
                simp [valR]
          · exact himmr p hp
      · cases h
    | ptr v id e j =>
      simp only [mapL, borL] at h
      obtain ⟨o, ho, h⟩ := bind_some h
      obtain ⟨o', ho', rfl⟩ := look_lift ho
      obtain ⟨r, hr, h⟩ := bind_some h
      obtain ⟨r', hr', rfl⟩ := rows_er hr
      obtain ⟨q, hq, h⟩ := bind_some h
      rw [← List.map_drop] at hq
      have hrm := List.mem_of_getElem? hr'
      obtain ⟨ls', h1, h2⟩ := mapO_ok (R := Bor W d) hq (fun l hl y hy => bor_ok hg k (has_ob hg ho' hrm (List.mem_of_mem_drop hl)) hy)
      split at h
      · rename_i hpl
        cases h
        obtain ⟨b, x, c0, hh0, hv⟩ := hh.2.1 o' ho'
        refine ⟨.ip v ls', by simp [mapL, mapC_eq, h1], rfl, rfl, rfl, ⟨rfl, ⟨b, _, hv⟩, (wfC_iff _ _).2 fun l hl => ?_⟩, fun p hp => ?_⟩
        · obtain ⟨l0, _, hb⟩ := all2_mem h2 l hl
          refine plain_wf ?_ hb.wf
          rw [← h1] at hpl
          simp only [List.all_map, List.all_eq_true, Function.comp_def, plain_er] at hpl
          exact hpl l hl
        · simp only [immL, List.mem_append] at hp
          rcases hp with hp | hp
          · rw [hv] at hp
            simp only [hdrImm, List.mem_singleton] at hp
            subst hp
            have hm : (b, x, c0 * o'.n, valR o'.rows) ∈ ownS d := by
              simp only [ownS, List.mem_append]
              left
              exact List.mem_flatMap.2 ⟨(id, o'), find?_key ho', by simp [hdrOwn, hh0]⟩
            refine .inr (.inr ⟨fun i u hi => ?_, _, hm, rfl⟩)
            simp only [all2_val h2, List.getElem?_map, List.getElem?_drop, Option.map_eq_some_iff] at hi
            obtain ⟨l, hl, rfl⟩ := hi
            have := ob_cell hg ho' hh0 hr' hl
            simpa [Nat.add_assoc] using this
          · rw [immC_eq] at hp
            obtain ⟨l, hl, hp⟩ := List.mem_flatMap.1 hp
            obtain ⟨l0, _, hb⟩ := all2_mem h2 l hl
            exact hb.imm p hp
      · cases h
    | fn v f caps =>
      simp only [mapL, borL, mapC_eq] at h
      obtain ⟨q, hq, h⟩ := bind_some h
      cases h
      have hcap : ∀ l ∈ caps, Has d l := fun l hl => by
        obtain ⟨_, hv, hw⟩ := hh.1
        refine ⟨(wfC_iff _ _).1 hw l hl, (refOkC_iff _ _).1 hh.2.1 l hl, fun p hp => hh.2.2.1 p ?_, fun i hi => hh.2.2.2 i ?_⟩
        · simp only [immL, immC_eq]
          exact List.mem_flatMap.2 ⟨l, hl, hp⟩
        · simp only [idsL, idsC_eq]
          exact List.mem_flatMap.2 ⟨l, hl, hi⟩
      obtain ⟨ls', h1, h2⟩ := mapO_ok (R := Bor W d) hq (fun l hl y hy => bor_ok hg k (hcap l hl) hy)
      obtain ⟨_, hv, hw⟩ := hh.1
      refine ⟨.fn v f ls', by simp [mapL, mapC_eq, h1], rfl, rfl, ?_, ⟨rfl, by rw [hv, all2_val h2], (wfC_iff _ _).2 fun l hl => ?_⟩, fun p hp => ?_⟩
      · simp only [idsL, idsC_eq, List.flatMap_eq_nil_iff]
        intro l hl
        obtain ⟨l0, _, hb⟩ := all2_mem h2 l hl
        exact hb.free
      · obtain ⟨l0, _, hb⟩ := all2_mem h2 l hl
        exact hb.wf
      · simp only [immL, immC_eq] at hp
        obtain ⟨l, hl, hp⟩ := List.mem_flatMap.1 hp
        obtain ⟨l0, _, hb⟩ := all2_mem h2 l hl
        exact hb.imm p hp
mutual
def immFreeL {δ : Type} : L δ → Bool
  | .int _ _ | .bool _ | .str _ | .nl | .nilp | .ref _ _ _ _ | .ptr _ _ _ _ => true
  | .os _ _ rows => immFreeR rows
  | _ => false
def immFreeC {δ : Type} : List (L δ) → Bool
  | [] => true
  | l :: ls => immFreeL l && immFreeC ls
def immFreeR {δ : Type} : List (List (L δ)) → Bool
  | [] => true
  | r :: rs => immFreeC r && immFreeR rs
end
-- results' own rows become objects
def rootLs {δ : Type} (hd : δ → δ) : Nat → List (L δ) → List (L δ) × List (Nat × Ob δ)
  | _, [] => ([], [])
  | n, .os v m rows :: ls => (.ref v n 0 rows.length :: (rootLs hd (n + 1) ls).1, (n, ⟨hd v, m, rows⟩) :: (rootLs hd (n + 1) ls).2)
  | n, l :: ls => (l :: (rootLs hd n ls).1, (rootLs hd n ls).2)
def rootU {δ : Type} (hd : δ → δ) (n : Nat) : U δ → U δ × List (Nat × Ob δ)
  | .one l => match rootLs hd n [l] with
    | (l' :: _, os) => (.one l', os)
    | ([], os) => (.one l, os)
  | .agg ls => (.agg (rootLs hd n ls).1, (rootLs hd n ls).2)
def rootUs {δ : Type} (hd : δ → δ) : Nat → List (U δ) → List (U δ) × List (Nat × Ob δ)
  | _, [] => ([], [])
  | n, u :: us => ((rootU hd n u).1 :: (rootUs hd (n + (rootU hd n u).2.length) us).1, (rootU hd n u).2 ++ (rootUs hd (n + (rootU hd n u).2.length) us).2)
def rootV {δ : Type} (hd : δ → δ) (n : Nat) : V δ → V δ × List (Nat × Ob δ)
  | .u x => (.u (rootU hd n x).1, (rootU hd n x).2)
  | .tup xs => (.tup (rootUs hd n xs).1, (rootUs hd n xs).2)
  | .un => (.un, [])
  | .ud => (.ud, [])
end Go.Proofs.YtghdhjgoicnbcaaGreat.AM

namespace Go.Proofs.YtghdhjgoicnbcaaGreat.AM
open Go

mutual
theorem refOk_free {ob : List (Nat × Ob Value)} : ∀ {l : L Value}, idsL l = [] → refOk ob l
  | .int _ _, _ => by simp [refOk]
  | .bool _, _ => by simp [refOk]
  | .str _, _ => by simp [refOk]
  | .nl, _ => by simp [refOk]
  | .nilp, _ => by simp [refOk]
  | .bs _ _ _, _ => by simp [refOk]
  | .os _ _ _, _ => by simp [refOk]
  | .ip _ _, _ => by simp [refOk]
  | .ref _ _ _ _, h => by simp [idsL] at h
  | .ptr _ _ _ _, h => by simp [idsL] at h
  | .fn _ _ caps, h => by
    simp only [refOk]
    exact refOkC_free (by simpa [idsL] using h)
theorem refOkC_free {ob : List (Nat × Ob Value)} : ∀ {ls : List (L Value)}, idsC ls = [] → refOkC ob ls
  | [], _ => by simp [refOkC]
  | l :: ls, h => by
    simp only [idsC, List.append_eq_nil_iff] at h
    simp only [refOkC]
    exact ⟨refOk_free h.1, refOkC_free h.2⟩
end
def hdV : Value → Value
  | .slice a _ c => .slice a 0 c
  | v => v
theorem rootLs_append {δ : Type} (hd : δ → δ) : ∀ (n : Nat) (a b : List (L δ)), rootLs hd n (a ++ b) = ((rootLs hd n a).1 ++ (rootLs hd (n + (rootLs hd n a).2.length) b).1, (rootLs hd n a).2 ++ (rootLs hd (n + (rootLs hd n a).2.length) b).2)
  | n, [], b => by simp [rootLs]
  | n, l :: a, b => by
    have step : ∀ (h : ∀ v m rows, l ≠ .os v m rows), rootLs hd n (l :: a ++ b) = ((rootLs hd n (l :: a)).1 ++ (rootLs hd (n + (rootLs hd n (l :: a)).2.length) b).1, (rootLs hd n (l :: a)).2 ++ (rootLs hd (n + (rootLs hd n (l :: a)).2.length) b).2) := by
      intro h
      have e : ∀ ls, rootLs hd n (l :: ls) = (l :: (rootLs hd n ls).1, (rootLs hd n ls).2) := fun ls => by cases l <;> first | rfl | exact absurd rfl (h _ _ _)
      rw [List.cons_append, e, e, rootLs_append hd n a b]
      simp
    cases l with
    | os v m rows =>
      rw [List.cons_append]
      simp only [rootLs]
      rw [rootLs_append hd (n + 1) a b]
      simp [Nat.add_assoc, Nat.add_comm 1]
    | _ => exact step (by intro v m rows h; cases h)
theorem rootU_leaves {δ : Type} (hd : δ → δ) (n : Nat) (u : U δ) : leavesU (rootU hd n u).1 = (rootLs hd n (leavesU u)).1 ∧ (rootU hd n u).2 = (rootLs hd n (leavesU u)).2 := by
  cases u with
  | one l => cases l <;> exact ⟨rfl, rfl⟩
  | agg ls => exact ⟨rfl, rfl⟩
theorem rootUs_leaves {δ : Type} (hd : δ → δ) : ∀ (n : Nat) (us : List (U δ)), (rootUs hd n us).1.flatMap leavesU = (rootLs hd n (us.flatMap leavesU)).1 ∧ (rootUs hd n us).2 = (rootLs hd n (us.flatMap leavesU)).2
  | n, [] => ⟨rfl, rfl⟩
  | n, u :: us => by
    obtain ⟨h1, h2⟩ := rootU_leaves hd n u
    obtain ⟨h3, h4⟩ := rootUs_leaves hd (n + (rootU hd n u).2.length) us
    simp only [rootUs, List.flatMap_cons, rootLs_append, h1, h2]
    rw [h2] at h3 h4
    exact ⟨by rw [h3], by rw [h4]⟩
theorem rootV_leaves {δ : Type} (hd : δ → δ) (n : Nat) (v : V δ) : leavesV (rootV hd n v).1 = (rootLs hd n (leavesV v)).1 ∧ (rootV hd n v).2 = (rootLs hd n (leavesV v)).2 := by
  cases v with
  | u x => exact rootU_leaves hd n x
  | tup xs => exact rootUs_leaves hd n xs
  | un => exact ⟨rfl, rfl⟩
  | ud => exact ⟨rfl, rfl⟩
theorem rootLs_er : ∀ (n : Nat) (ls : List (L Value)), rootLs (fun _ => ()) n (ls.map erL) = ((rootLs hdV n ls).1.map erL, (rootLs hdV n ls).2.map (fun p => (p.1, erOb p.2)))
  | n, [] => rfl
  | n, l :: ls => by
    cases l with
    | os v m rows =>
      simp only [List.map_cons, mapL, rootLs, rootLs_er (n + 1) ls, mapR_eq, List.length_map]
      simp [mapOb]
    | _ => simp only [List.map_cons, mapL, rootLs, rootLs_er n ls]
theorem rootU_er (n : Nat) (u : U Value) : rootU (fun _ => ()) n (erU u) = (erU (rootU hdV n u).1, (rootU hdV n u).2.map (fun p => (p.1, erOb p.2))) := by
  cases u with
  | one l =>
    have := rootLs_er n [l]
    cases l <;> simp only [mapU, mapL, rootU, rootLs] <;> simp [mapOb, mapR_eq]
  | agg ls =>
    simp only [mapU, rootU]
    rw [rootLs_er]
theorem rootUs_er : ∀ (n : Nat) (us : List (U Value)), rootUs (fun _ => ()) n (us.map erU) = ((rootUs hdV n us).1.map erU, (rootUs hdV n us).2.map (fun p => (p.1, erOb p.2)))
  | n, [] => rfl
  | n, u :: us => by
    simp only [List.map_cons, rootUs, rootU_er, List.length_map]
    rw [rootUs_er]
    simp
theorem rootV_er (n : Nat) (v : V Value) : rootV (fun _ => ()) n (erV v) = (erV (rootV hdV n v).1, (rootV hdV n v).2.map (fun p => (p.1, erOb p.2))) := by
  cases v with
  | u x => simp only [mapV, rootV, rootU_er]
  | tup xs => simp only [mapV, rootV, rootUs_er]
  | un => rfl
  | ud => rfl
theorem rootLs_val : ∀ (n : Nat) (ls : List (L Value)), (rootLs hdV n ls).1.map val = ls.map val
  | n, [] => rfl
  | n, l :: ls => by
    cases l with
    | os v m rows => simp only [rootLs, List.map_cons, rootLs_val (n + 1) ls]; rfl
    | _ => simp only [rootLs, List.map_cons, rootLs_val n ls]
theorem rootU_UR {n : Nat} {u : U Value} {x : Value} (h : UR u x) : UR (rootU hdV n u).1 x := by
  cases u with
  | one l => cases l <;> exact h
  | agg ls =>
    simp only [UR, rootU] at h ⊢
    rw [rootLs_val]
    exact h
theorem rootUs_get : ∀ (n : Nat) (us : List (U Value)), (rootUs hdV n us).1.length = us.length ∧ ∀ (i : Nat) u', (rootUs hdV n us).1[i]? = some u' → ∃ u k, us[i]? = some u ∧ u' = (rootU hdV k u).1
  | n, [] => ⟨rfl, fun i u' h => by simp [rootUs] at h⟩
  | n, u :: us => by
    obtain ⟨h1, h2⟩ := rootUs_get (n + (rootU hdV n u).2.length) us
    refine ⟨by simp [rootUs, h1], fun i u' h => ?_⟩
    cases i with
    | zero =>
      simp only [rootUs, List.getElem?_cons_zero, Option.some.injEq] at h
      exact ⟨u, n, rfl, h.symm⟩
    | succ i =>
      simp only [rootUs, List.getElem?_cons_succ] at h
      simpa using h2 i u' h
theorem rootV_VR {n : Nat} {v : V Value} {x : Value} (h : VR v x) : VR (rootV hdV n v).1 x := by
  cases v with
  | u y => exact rootU_UR h
  | tup xs =>
    obtain ⟨vs, h1, h2, h3⟩ := h
    obtain ⟨g1, g2⟩ := rootUs_get n xs
    refine ⟨vs, h1, by simp only [g1]; exact h2, fun i u' y hu hy => ?_⟩
    obtain ⟨u, k, hu2, rfl⟩ := g2 i u' hu
    exact rootU_UR (h3 i u y hu2 hy)
  | un => exact h
  | ud => exact h
theorem hdr_hdV (v : Value) (m : Nat) (rows : List (List (L Value))) : hdrOwn (hdV v) m rows = hdrOwn v m rows := by
  cases v with
  | slice a n c => cases a <;> rfl
  | _ => rfl
theorem rootLs_own : ∀ (n : Nat) (ls : List (L Value)), ((rootLs hdV n ls).1.flatMap ownL = []) ∧
    ((rootLs hdV n ls).2.flatMap (fun p => hdrOwn p.2.h p.2.n p.2.rows) ++ (obLeaves (rootLs hdV n ls).2).flatMap ownL).Perm (ls.flatMap ownL)
  | n, [] => ⟨rfl, .nil⟩
  | n, l :: ls => by
    have plain : (∀ v m rows, l ≠ .os v m rows) → ((rootLs hdV n (l :: ls)).1.flatMap ownL = []) ∧
        ((rootLs hdV n (l :: ls)).2.flatMap (fun p => hdrOwn p.2.h p.2.n p.2.rows) ++ (obLeaves (rootLs hdV n (l :: ls)).2).flatMap ownL).Perm ((l :: ls).flatMap ownL) := by
      intro h
      obtain ⟨h1, h2⟩ := rootLs_own n ls
      have hl : ownL l = [] := by cases l <;> first | rfl | exact absurd rfl (h _ _ _)
      have e : rootLs hdV n (l :: ls) = (l :: (rootLs hdV n ls).1, (rootLs hdV n ls).2) := by cases l <;> first | rfl | exact absurd rfl (h _ _ _)
      rw [e]
      simp only [List.flatMap_cons, hl, List.nil_append]
      exact ⟨h1, h2⟩
    cases l with
    | os v m rows =>
      obtain ⟨h1, h2⟩ := rootLs_own (n + 1) ls
      refine ⟨by simp only [rootLs, List.flatMap_cons]; rw [h1]; rfl, ?_⟩
      classical
      refine List.perm_iff_count.2 fun a => ?_
      have h3 := List.perm_iff_count.1 h2 a
      have e1 : obLeaves ((n, (⟨hdV v, m, rows⟩ : Ob Value)) :: (rootLs hdV (n + 1) ls).2) = rows.flatten ++ obLeaves (rootLs hdV (n + 1) ls).2 := by simp [obLeaves]
      simp only [rootLs, List.flatMap_cons, e1, List.flatMap_append, List.count_append, hdr_hdV, ownL, ownR_eq] at h3 ⊢
      omega
    | _ => exact plain (by intro v m rows h; cases h)
theorem rootLs_keys {δ : Type} (hd : δ → δ) : ∀ (n : Nat) (ls : List (L δ)), (rootLs hd n ls).2.map (·.1) = List.range' n (rootLs hd n ls).2.length
  | n, [] => rfl
  | n, l :: ls => by
    cases l with
    | os v m rows => simp only [rootLs, List.map_cons, List.length_cons, List.range'_succ, rootLs_keys hd (n + 1) ls]
    | _ => simp only [rootLs]; exact rootLs_keys hd n ls
theorem rootLs_mem : ∀ (n : Nat) (ls : List (L Value)), (∀ l ∈ (rootLs hdV n ls).1, (l ∈ ls ∧ noOs l = true) ∨ ∃ i v m rows, l = .ref v i 0 rows.length ∧ .os v m rows ∈ ls ∧ (i, (⟨hdV v, m, rows⟩ : Ob Value)) ∈ (rootLs hdV n ls).2) ∧
    ∀ p ∈ (rootLs hdV n ls).2, ∃ v m rows, .os v m rows ∈ ls ∧ p.2 = ⟨hdV v, m, rows⟩
  | n, [] => ⟨by simp [rootLs], by simp [rootLs]⟩
  | n, l :: ls => by
    have plain : (∀ v m rows, l ≠ .os v m rows) → _ := fun h => by
      obtain ⟨h1, h2⟩ := rootLs_mem n ls
      have e : rootLs hdV n (l :: ls) = (l :: (rootLs hdV n ls).1, (rootLs hdV n ls).2) := by cases l <;> first | rfl | exact absurd rfl (h _ _ _)
      have hl : noOs l = true := by cases l <;> first | rfl | exact absurd rfl (h _ _ _)
      show (∀ l' ∈ (rootLs hdV n (l :: ls)).1, (l' ∈ l :: ls ∧ noOs l' = true) ∨ ∃ i v m rows, l' = .ref v i 0 rows.length ∧ .os v m rows ∈ l :: ls ∧ (i, (⟨hdV v, m, rows⟩ : Ob Value)) ∈ (rootLs hdV n (l :: ls)).2) ∧
        ∀ p ∈ (rootLs hdV n (l :: ls)).2, ∃ v m rows, .os v m rows ∈ l :: ls ∧ p.2 = ⟨hdV v, m, rows⟩
      rw [e]
      refine ⟨fun l' hl' => ?_, fun p hp => ?_⟩
      · rcases List.mem_cons.1 hl' with rfl | hl'
        · exact .inl ⟨by simp, hl⟩
        · rcases h1 l' hl' with ⟨g1, g2⟩ | ⟨i, v, m, rows, g1, g2, g3⟩
          · exact .inl ⟨by simp [g1], g2⟩
          · exact .inr ⟨i, v, m, rows, g1, by simp [g2], g3⟩
      · obtain ⟨v, m, rows, g1, g2⟩ := h2 p hp
        exact ⟨v, m, rows, by simp [g1], g2⟩
    cases l with
    | os v m rows =>
      obtain ⟨h1, h2⟩ := rootLs_mem (n + 1) ls
      refine ⟨fun l' hl' => ?_, fun p hp => ?_⟩
      · simp only [rootLs] at hl'
        rcases List.mem_cons.1 hl' with rfl | hl'
        · exact .inr ⟨n, v, m, rows, rfl, by simp, by simp [rootLs]⟩
        · rcases h1 l' hl' with ⟨g1, g2⟩ | ⟨i, v', m', rows', g1, g2, g3⟩
          · exact .inl ⟨by simp [g1], g2⟩
          · exact .inr ⟨i, v', m', rows', g1, by simp [g2], by simp [rootLs, g3]⟩
      · simp only [rootLs] at hp
        rcases List.mem_cons.1 hp with rfl | hp
        · exact ⟨v, m, rows, by simp, rfl⟩
        · obtain ⟨v', m', rows', g1, g2⟩ := h2 p hp
          exact ⟨v', m', rows', by simp [g1], g2⟩
    | _ => exact plain (by intro v m rows h; cases h)
end Go.Proofs.YtghdhjgoicnbcaaGreat.AM

namespace Go.Proofs.YtghdhjgoicnbcaaGreat.AM
open Go

/-- A function can be entered. -/
def Ent (P : Program) (f : FuncId) : Prop := ∃ fn, P.funcs[f]? = some fn ∧ (fn.name == "runtime.NumGoroutine") = false ∧ fn.body.isNone = false
theorem run_callFunc {P : Program} {f : FuncId} (h : Ent P f) (args : Array Value) (W : World) : (callFunc f args).run P W = .ok (.enter f args) W := by
  obtain ⟨fn, h1, h2, h3⟩ := h
  have h2' : fn.name ≠ "runtime.NumGoroutine" := by simpa using h2
  have h3' : fn.body ≠ none := by rintro h; rw [h] at h3; cases h3
  simp [callFunc, h1, h2', h3']
/-- What is called: a function, and what it captured. -/
def calE {δ : Type} (ρ : Operand → Option (V δ)) : Callee → Option (FuncId × List (L δ))
  | .value x => match lO (ρ x) with
    | some (.fn _ f caps) => some (f, caps)
    | _ => none
  | _ => none
def borU (lk : Lk) : U Unit → Option (U Unit × List Nat)
  | .one l => (borL lk 4 l).map fun p => (.one p.1, p.2)
  | .agg ls => (mapO (borL lk 4) ls).map fun p => (.agg p.1, p.2)
def argsE (lk : Lk) (ρ : Env) : List Operand → Option (List (U Unit) × List Nat)
  | [] => some ([], [])
  | x :: xs => (uO (ρ x)).bind fun u => (borU lk u).bind fun p => (argsE lk ρ xs).bind fun q => some (p.1 :: q.1, p.2 ++ q.2)
def immFreeV (v : V Unit) : Bool := (leavesV v).all immFreeL
/-- A call that hands no objects over. -/
def CallB (P : Program) (o : Oper) (s : S Unit) (nid : Nat) (e : Eff) : Prop :=
  ∃ c f caps us rd cs rd2 r, o.op = .call c ∧ calE (evA s) c.callee = some (f, caps) ∧ argsE (look s.ob) (evA s) c.args.toList = some (us, rd) ∧ mapO (borL (look s.ob) 4) caps = some (cs, rd2) ∧
    Ent P f ∧ Sim P f (us ++ cs.map .one) [] r [] ∧ immFreeV r = true ∧
    e = { v := (rootV (fun _ => ()) nid r).1, rd := rd ++ rd2, news := (rootV (fun _ => ()) nid r).2.map (·.2) }
/-- An argument as the callee has it. -/
structure ArgOk (W : World) (d : S Value) (u : U Value) (x : Value) : Prop where
  ur : UR u x
  leaf : ∀ l ∈ leavesU u, noOs l = true ∧ idsL l = [] ∧ wfL false l ∧ ∀ p ∈ immL l, BorIn W d p
theorem borU_ok {W : World} {d : S Value} (hg : Good W d) {u : U Value} {x : Value} (hx : UR u x) (hh : ∀ l ∈ leavesU u, Has d l) {p : U Unit × List Nat} (h : borU (look (erS d).ob) (erU u) = some p) :
    ∃ u', erU u' = p.1 ∧ ArgOk W d u' x := by
  cases u with
  | one l =>
    simp only [mapU, borU, Option.map_eq_some_iff] at h
    obtain ⟨q, hq, rfl⟩ := h
    obtain ⟨l', h1, h2⟩ := bor_ok hg 4 (hh l (by simp [leavesU])) hq
    refine ⟨.one l', by simp [mapU, h1], ?_, fun l2 hl2 => ?_⟩
    · simp only [UR] at hx ⊢
      rw [hx, h2.val]
    · simp only [leavesU, List.mem_singleton] at hl2
      subst hl2
      exact ⟨h2.no, h2.free, h2.wf, h2.imm⟩
  | agg ls =>
    simp only [mapU, borU, Option.map_eq_some_iff] at h
    obtain ⟨q, hq, rfl⟩ := h
    obtain ⟨ls', h1, h2⟩ := mapO_ok (R := Bor W d) hq (fun l hl y hy => bor_ok hg 4 (hh l hl) hy)
    refine ⟨.agg ls', by simp [mapU, h1], ?_, fun l2 hl2 => ?_⟩
    · simp only [UR] at hx ⊢
      rw [hx, all2_val h2]
    · obtain ⟨l0, _, hb⟩ := all2_mem h2 l2 hl2
      exact ⟨hb.no, hb.free, hb.wf, hb.imm⟩
theorem argsE_ok {W : World} {d : S Value} {a : Act} (hg : Good W d) (hs : SlR d a) : ∀ {xs : List Operand} {p : List (U Unit) × List Nat}, argsE (look (erS d).ob) (evA (erS d)) xs = some p →
    ∃ us', us'.map erU = p.1 ∧ All2 (ArgOk W d) us' (xs.map a.eval)
  | [], p, h => by cases h; exact ⟨[], rfl, .nil⟩
  | x :: xs, p, h => by
    simp only [argsE] at h
    obtain ⟨u, hu, h⟩ := bind_some h
    obtain ⟨q, hq, h⟩ := bind_some h
    obtain ⟨q2, hq2, h⟩ := bind_some h
    cases h
    obtain ⟨u', h1, h2, h3⟩ := u_ok hg hs hu
    subst h1
    obtain ⟨u2, h4, h5⟩ := borU_ok hg h2 h3 hq
    obtain ⟨us', h6, h7⟩ := argsE_ok hg hs hq2
    exact ⟨u2 :: us', by simp [h4, h6], .cons h5 h7⟩
mutual
theorem immFree_er : ∀ {l : L Value}, immFreeL (erL l) = true → immL l = []
  | .int _ _, _ | .bool _, _ | .str _, _ | .nl, _ | .nilp, _ | .ref _ _ _ _, _ | .ptr _ _ _ _, _ => by simp [immL]
  | .os v n rows, h => by
    simp only [mapL, immFreeL] at h
    simp only [immL]
    exact immFreeR_er h
  | .bs _ _ _, h | .ip _ _, h | .fn _ _ _, h => by simp [mapL, immFreeL] at h
theorem immFreeC_er : ∀ {ls : List (L Value)}, immFreeC (mapC (fun _ => ()) ls) = true → immC ls = []
  | [], _ => rfl
  | l :: ls, h => by
    simp only [mapC, immFreeC, Bool.and_eq_true] at h
    simp only [immC, immFree_er h.1, immFreeC_er h.2, List.append_nil]
theorem immFreeR_er : ∀ {rs : List (List (L Value))}, immFreeR (mapR (fun _ => ()) rs) = true → immR rs = []
  | [], _ => rfl
  | r :: rs, h => by
    simp only [mapR, immFreeR, Bool.and_eq_true] at h
    simp only [immR, immFreeC_er h.1, immFreeR_er h.2, List.append_nil]
end
theorem all2_append {α β : Type} {R : α → β → Prop} : ∀ {xs : List α} {ys : List β} {xs' : List α} {ys' : List β}, All2 R xs ys → All2 R xs' ys' → All2 R (xs ++ xs') (ys ++ ys')
  | _, _, _, _, .nil, h' => h'
  | _, _, _, _, .cons h t, h' => .cons h (all2_append t h')
theorem all2_imp {α β : Type} {R R' : α → β → Prop} (hr : ∀ x y, R x y → R' x y) : ∀ {xs : List α} {ys : List β}, All2 R xs ys → All2 R' xs ys
  | _, _, .nil => .nil
  | _, _, .cons h t => .cons (hr _ _ h) (all2_imp hr t)
theorem all2_map {α β : Type} {R : α → β → Prop} {γ : Type} {f : γ → α} {g : γ → β} : ∀ {xs : List γ}, (∀ x ∈ xs, R (f x) (g x)) → All2 R (xs.map f) (xs.map g)
  | [], _ => .nil
  | x :: xs, h => .cons (h x (by simp)) (all2_map fun y hy => h y (List.mem_cons_of_mem _ hy))
theorem rekey {β : Type} : ∀ (n : Nat) (l : List (Nat × β)), l.map (·.1) = List.range' n l.length → ((l.map (·.2)).zipIdx n).map (fun q => (q.2, q.1)) = l
  | n, [], _ => rfl
  | n, p :: l, h => by
    simp only [List.map_cons, List.length_cons, List.range'_succ, List.cons.injEq] at h
    obtain ⟨rfl, h2⟩ := h
    simp only [List.map_cons, List.zipIdx_cons, rekey (p.1 + 1) l h2]
theorem app_many {δ : Type} (s : S δ) (dst : Option Nat) (nid : Nat) (v : V δ) (news : List (Ob δ)) : app s dst nid v news [] [] = setSl ⟨s.sl, s.ob ++ (news.zipIdx nid).map (fun q => (q.2, q.1)), s.nx + news.length⟩ dst v := by
  simp [app, updP_nil, List.filter_eq_self.2 (fun _ _ => rfl)]
theorem stepOk_callB {P : Program} {o : Oper} {s : S Unit} {nid : Nat} {e : Eff} (h : CallB P o s nid e) : StepOk P o s nid e := by
  obtain ⟨c, f, caps, us, rd, cs, rd2, r, ho, hcal, hargs, hcaps, hent, hsim, himf, rfl⟩ := h
  intro B d a W hd hi hs hf hdef
  subst hd
  refine ⟨trivial, ?_⟩
  -- the callee
  obtain ⟨x, hx, hlx⟩ : ∃ x, c.callee = .value x ∧ ∃ v, lO (evA (erS d) x) = some (.fn v f caps) := by
    unfold calE at hcal
    split at hcal
    · rename_i x hcx
      split at hcal
      · rename_i v f' caps' hl
        cases hcal
        exact ⟨x, hcx, v, hl⟩
      · cases hcal
    · cases hcal
  obtain ⟨v, hlx⟩ := hlx
  obtain ⟨l', h1, h2, h3⟩ := leaf_ok hi.good hs hlx
  obtain ⟨v', caps', rfl, hc'⟩ : ∃ v' caps', l' = .fn v' f caps' ∧ caps'.map erL = caps := by
    cases l' <;> simp [mapL] at h1
    rename_i v' f' c'
    exact ⟨v', c', by rw [h1.1], by rw [← h1.2, mapC_eq]⟩
  obtain ⟨_, hv', hw'⟩ := h3.1
  have hcap : ∀ l ∈ caps', Has d l := fun l hl => by
    refine ⟨(wfC_iff _ _).1 hw' l hl, (refOkC_iff _ _).1 h3.2.1 l hl, fun p hp => h3.2.2.1 p ?_, fun i hi => h3.2.2.2 i ?_⟩
    · simp only [immL, immC_eq]
      exact List.mem_flatMap.2 ⟨l, hl, hp⟩
    · simp only [idsL, idsC_eq]
      exact List.mem_flatMap.2 ⟨l, hl, hi⟩
  rw [← hc'] at hcaps
  obtain ⟨cs', hcs1, hcs2⟩ := mapO_ok (R := Bor W d) hcaps (fun l hl y hy => bor_ok hi.good 4 (hcap l hl) hy)
  obtain ⟨us', hus1, hus2⟩ := argsE_ok hi.good hs hargs
  simp only at hcs1 hus1
  have hrun : (execOp a.eval o).run P W = .ok (.enter f (c.args.toList.map a.eval ++ cs'.map val).toArray) W := by
    simp only [execOp, ho, resolve, hx, h2, val, hv', Deferred.ofValue, pure_bind, invoke]
    rw [run_callFunc hent]
    congr 2
    apply Array.ext'
    simp [all2_val hcs2]
  let dc : S Value := ⟨(us' ++ cs'.map U.one).map V.u, [], 0⟩
  have hleaf : ∀ l ∈ tops dc, noOs l = true ∧ idsL l = [] ∧ wfL false l ∧ ∀ p ∈ immL l, BorIn W d p := by
    intro l hl
    rcases mem_tops.1 hl with ⟨u0, hu0, hl⟩ | hl
    · obtain ⟨u, hu1, rfl⟩ := List.mem_map.1 hu0
      rcases List.mem_append.1 hu1 with hu | hu
      · obtain ⟨i, hi⟩ := List.mem_iff_getElem?.1 hu
        have hlen := all2_len hus2
        have hlt : i < (c.args.toList.map a.eval).length := by rw [← hlen]; exact (List.getElem?_eq_some_iff.1 hi).1
        exact (all2_get hus2 i u _ hi (List.getElem?_eq_getElem hlt)).leaf l hl
      · obtain ⟨l0, hl0, rfl⟩ := List.mem_map.1 hu
        simp only [leavesV, leavesU, List.mem_singleton] at hl
        subst hl
        obtain ⟨l1, _, hb⟩ := all2_mem hcs2 l hl0
        exact ⟨hb.no, hb.free, hb.wf, hb.imm⟩
    · simp [obLeaves, dc] at hl
  have hown : ownS dc = [] := by
    have : (tops dc).flatMap ownL = [] := List.flatMap_eq_nil_iff.2 fun l hl => ownL_noOs (hleaf l hl).1
    simp only [ownS, this, List.append_nil]
    rfl
  have hgood : Good W dc := {
    wf := fun l hl => ⟨(hleaf l hl).2.2.1, refOk_free (hleaf l hl).2.1⟩
    obs := fun p hp => by cases hp
    ids := List.nodup_nil
    own := fun p hp => by rw [hown] at hp; cases hp
    nodup := by rw [hown]; exact List.nodup_nil
    imm := fun p hp hne => by
      obtain ⟨l, hl, hp⟩ := List.mem_flatMap.1 hp
      refine ⟨?_, fun q hq => by rw [hown] at hq; cases hq⟩
      rcases (hleaf l hl).2.2.2 p hp with h0 | h0 | h0
      · exact absurd h0 hne
      · rcases h0 with h0 | ⟨q, hq, hs⟩
        · exact absurd h0 hne
        · exact hs.fact (hi.good.imm q hq (hs.ne hne)).1
      · exact h0.1 }
  have hall : All2 UR (us' ++ cs'.map U.one) (c.args.toList.map a.eval ++ cs'.map val) :=
    all2_append (all2_imp (fun _ _ h => h.ur) hus2) (all2_map fun l _ => rfl)
  have hcalls := hsim W dc (us' ++ cs'.map U.one) _ rfl (by simp [hus1, ← hcs1, mapU, Function.comp_def]) hall rfl hgood (fun l hl i hi => by rw [(hleaf l hl).2.1] at hi; cases hi)
  unfold Oper.wp
  rw [hrun]
  simp only [Oper.upon]
  refine Calls.mono hcalls fun e W' he => ?_
  obtain ⟨y, d', rv, rfl, hd'sl, hrv, hd'ob, hvr, hend⟩ := he
  have hob' : d'.ob = [] := by
    have : (erS d').ob = [] := hd'ob
    simpa [erS, mapS] using this
  have htop' : tops d' = leavesV rv := by simp [tops, hd'sl, hob', obLeaves]
  have hown' : ownS d' = (leavesV rv).flatMap ownL := by simp [ownS, hob', htop']
  obtain ⟨hlv, hlo⟩ := rootV_leaves hdV nid rv
  have hm := rootLs_mem nid (leavesV rv)
  have hkeys := rootLs_keys hdV nid (leavesV rv)
  have hperm := rootLs_own nid (leavesV rv)
  rw [← hlv, ← hlo] at hm
  rw [← hlo] at hkeys
  rw [← hlv, ← hlo] at hperm
  have herv := rootV_er nid rv
  rw [hrv] at herv
  rw [herv] at hf ⊢
  simp only [List.length_map] at hf ⊢
  generalize hrr : rootV hdV nid rv = rr at *
  obtain ⟨rv', obs⟩ := rr
  simp only at hm hkeys hperm hf hlv hlo ⊢
  have hrleaf : ∀ l ∈ leavesV rv, wfL false l ∧ idsL l = [] ∧ immL l = [] := fun l hl => by
    have hl' : l ∈ tops d' := by rw [htop']; exact hl
    refine ⟨(hend.good.wf l hl').1, List.eq_nil_iff_forall_not_mem.2 fun i hi => by have := hend.known l hl' i hi; rw [hob'] at this; simp at this, ?_⟩
    rw [← hrv] at himf
    simp only [immFreeV, leavesV_map, List.all_map, List.all_eq_true, Function.comp_def] at himf
    exact immFree_er (himf l hl)
  have himm' : immS d' = [] := by
    simp only [immS, htop', List.flatMap_eq_nil_iff]
    exact fun l hl => (hrleaf l hl).2.2
  have hnk : ∀ i, Knows d i → i ∉ obs.map (·.1) := fun i hk hm2 => by
    rw [hkeys, List.mem_range'_1] at hm2
    have := hf.1 i hk
    omega
  have hlook : ∀ i, i ∉ obs.map (·.1) → look (d.ob ++ obs) i = look d.ob i := fun i hi => by
    unfold look
    rw [List.find?_append]
    have : obs.find? (fun p => p.1 == i) = none := by
      rw [List.find?_eq_none]
      intro p hp
      simp only [beq_iff_eq]
      rintro rfl
      exact hi (List.mem_map.2 ⟨p, hp, rfl⟩)
    rw [this, Option.or_none]
  have hnodup : ((d.ob ++ obs).map (·.1)).Nodup := by
    rw [List.map_append, List.nodup_append]
    refine ⟨hi.good.ids, by rw [hkeys]; exact List.nodup_range', fun i hi2 j hj e => ?_⟩
    subst e
    exact hnk i (.inr hi2) hj
  have hobrow : ∀ p ∈ obs, ∃ v m rows, (.os v m rows : L Value) ∈ leavesV rv ∧ p.2 = ⟨hdV v, m, rows⟩ ∧ isOwn v rows ∧ (∀ r ∈ rows, r.length = m) ∧ wfR true rows := fun p hp => by
    obtain ⟨v, m, rows, h1, h2⟩ := hm.2 p hp
    have := (hrleaf _ h1).1
    exact ⟨v, m, rows, h1, h2, this.1, this.2.1, this.2.2⟩
  let d1 : S Value := ⟨d.sl ++ [rv'], d.ob ++ obs, d.nx + obs.length⟩
  have htop1 : ∀ l ∈ tops d1, l ∈ tops d ∨ l ∈ leavesV rv' ∨ ∃ p ∈ obs, ∃ r ∈ p.2.rows, l ∈ r := fun l hl => by
    rcases mem_tops.1 hl with ⟨u, hu, hl2⟩ | hl
    · rcases List.mem_append.1 hu with hu | hu
      · exact .inl (mem_tops.2 (.inl ⟨u, hu, hl2⟩))
      · simp only [List.mem_singleton] at hu
        subst hu
        exact .inr (.inl hl2)
    · rw [obLeaves_append, List.mem_append] at hl
      rcases hl with hl | hl
      · exact .inl (mem_tops.2 (.inr hl))
      · exact .inr (.inr (mem_obLeaves.1 hl))
  have hrow : ∀ p ∈ obs, ∀ r ∈ p.2.rows, ∀ l ∈ r, wfL true l ∧ immL l = [] := fun p hp r hr l hl => by
    obtain ⟨v, m, rows, h1, h2, _, _, h5⟩ := hobrow p hp
    rw [h2] at hr
    refine ⟨(wfR_iff _ _).1 h5 r hr l hl, ?_⟩
    have := (hrleaf _ h1).2.2
    simp only [immL, immR_eq, List.flatMap_eq_nil_iff] at this
    exact this l (List.mem_flatten.2 ⟨r, hr, hl⟩)
  have hwfo : ∀ l ∈ leavesV rv', wfL false l ∧ refOk d1.ob l ∧ immL l = [] ∧ noOs l = true ∧ ∀ i ∈ idsL l, i ∈ obs.map (·.1) := fun l hl => by
    rcases hm.1 l hl with ⟨h1, h2⟩ | ⟨i, v, m, rows, rfl, h2, h3⟩
    · have := hrleaf l h1
      exact ⟨this.1, refOk_free this.2.1, this.2.2, h2, by rw [this.2.1]; simp⟩
    · have hown2 := (hrleaf _ h2).1.1
      have hv2 : ∃ a n c, v = .slice a n c := by
        rcases hown2 with ⟨rfl, _⟩ | ⟨_, _, _, rfl, _⟩ <;> exact ⟨_, _, _, rfl⟩
      refine ⟨⟨rfl, hv2⟩, fun o2 ho2 => ?_, rfl, rfl, fun j hj => ?_⟩
      · rw [look_mem hnodup (List.mem_append_right _ h3)] at ho2
        cases ho2
        refine ⟨by simp, ?_⟩
        rcases hown2 with ⟨rfl, _⟩ | ⟨b, x, c, rfl, _⟩
        · exact .inl ⟨rfl, rfl⟩
        · exact .inr ⟨b, x, c, rfl, .inl (by simp)⟩
      · simp only [idsL, List.mem_singleton] at hj
        subst hj
        exact List.mem_map.2 ⟨_, h3, rfl⟩
  have hinv1 : Inv B W' d1 := by
    refine call_core hi (rest := ownS d) (by rw [hown]; exact .refl _) (.inr himm') hend ?_ (fun p hp => ?_) (fun l hl => ?_) (fun p hp => ?_) hnodup (fun p hp hlt => ?_)
    · classical
      refine List.perm_iff_count.2 fun q => ?_
      have h5 := List.perm_iff_count.1 hperm.2 q
      have h6 := hperm.1
      simp only [ownS, tops, d1, obLeaves_append, List.flatMap_append, List.flatMap_cons, List.flatMap_nil, List.append_nil, List.count_append, h6, hd'sl, hob', List.count_nil] at h5 ⊢
      simp only [obLeaves, List.flatMap_nil, List.count_nil, Nat.add_zero, Nat.zero_add] at h5 ⊢
      omega
    · obtain ⟨l, hl, hp⟩ := List.mem_flatMap.1 hp
      rcases htop1 l hl with h5 | h5 | ⟨q, hq, r', hr', h5⟩
      · exact .inl (.of_mem (List.mem_flatMap.2 ⟨l, h5, hp⟩))
      · rw [(hwfo l h5).2.2.1] at hp; cases hp
      · rw [(hrow q hq r' hr' l h5).2] at hp; cases hp
    · rcases htop1 l hl with h5 | h5 | ⟨q, hq, r', hr', h5⟩
      · have hh := has_top hi.good h5
        exact ⟨hh.1, refOk_mono (fun i hi2 => .inl (hlook i (hnk i (hh.2.2.2 i hi2)))) hh.2.1⟩
      · exact ⟨(hwfo l h5).1, (hwfo l h5).2.1⟩
      · have := wf_weak (hrow q hq r' hr' l h5).1
        exact ⟨this.1, this.2.1 _⟩
    · rcases List.mem_append.1 hp with hp | hp
      · exact hi.good.obs p hp
      · obtain ⟨v, m, rows, _, h2, h3, h4, _⟩ := hobrow p hp
        rw [h2]
        refine ⟨?_, h4⟩
        rcases h3 with ⟨rfl, rfl⟩ | ⟨b, x, c, rfl, h5, h6⟩
        · exact .inl ⟨rfl, rfl⟩
        · exact .inr ⟨b, x, c, rfl, h5, h6⟩
    · rcases List.mem_append.1 hp with hp | hp
      · exact hi.hdr p hp hlt
      · have : p.1 ∈ obs.map (·.1) := List.mem_map.2 ⟨p, hp, rfl⟩
        rw [hkeys, List.mem_range'_1] at this
        have := hf.2
        omega
  let d2 : S Value := setSl ⟨d.sl, d.ob ++ obs, d.nx + obs.length⟩ o.dst rv'
  have hd2ob : d2.ob = d1.ob := setSl_ob _ _ _
  have hno' : (leavesV rv').flatMap ownL = [] := List.flatMap_eq_nil_iff.2 fun l hl => ownL_noOs (hwfo l hl).2.2.2.1
  have htop2 : ∀ l ∈ tops d2, l ∈ tops d1 := fun l hl => by
    rcases mem_tops.1 hl with ⟨u, hu, hl2⟩ | hl2
    · refine mem_tops.2 (.inl ⟨u, ?_, hl2⟩)
      show u ∈ d.sl ++ [rv']
      cases hdst : o.dst with
      | none =>
        simp only [d2, hdst, setSl] at hu
        exact List.mem_append_left _ hu
      | some t =>
        simp only [d2, hdst, setSl] at hu
        rcases List.mem_or_eq_of_mem_set hu with hu | rfl
        · exact List.mem_append_left _ hu
        · exact List.mem_append_right _ (by simp)
    · rw [hd2ob] at hl2
      exact mem_tops.2 (.inr hl2)
  have hsub2 : (ownS d2).Sublist (ownS d1) := by
    simp only [ownS, tops, hd2ob, List.flatMap_append]
    refine (List.Sublist.refl _).append (List.Sublist.append ?_ (List.Sublist.refl _))
    rw [List.flatMap_assoc, List.flatMap_assoc]
    have e : d1.sl.flatMap (fun x => List.flatMap ownL (leavesV x)) = d.sl.flatMap (fun x => List.flatMap ownL (leavesV x)) := by
      simp only [d1, List.flatMap_append, List.flatMap_cons, List.flatMap_nil, List.append_nil, hno']
    rw [e]
    cases hdst : o.dst with
    | none =>
      simp only [d2, hdst, setSl]
      exact List.Sublist.refl _
    | some t =>
      simp only [d2, hdst, setSl]
      exact flatMap_set_sublist (fun x => List.flatMap ownL (leavesV x)) _ hno' _ _
  have hinv2 : Inv B W' d2 := hinv1.step (Nat.le_refl _) (Same.refl _) (fun _ _ _ => rfl) (fun l hl => by rw [hd2ob]; exact hinv1.good.wf l (htop2 l hl)) (by rw [hd2ob]; exact hinv1.good.obs) (by rw [hd2ob]; exact hinv1.good.ids)
    (fun p hp => ⟨hinv1.good.own p (hsub2.subset hp), .inl ⟨p, hsub2.subset hp, rfl⟩⟩) (hinv1.good.nodup.sublist (hsub2.map _)) (fun p hp => by
      obtain ⟨l, hl, hp⟩ := List.mem_flatMap.1 hp
      exact .of_mem (List.mem_flatMap.2 ⟨l, htop2 l hl, hp⟩)) (by rw [hd2ob]; exact hinv1.hdr)
  refine ⟨d2, ?_, hinv2, SlR.put (d := ⟨d.sl, d.ob ++ obs, d.nx + obs.length⟩) ⟨hs.1, hs.2⟩ o.dst ?_, by rw [put_defers']; exact hdef, fun i hk => ?_⟩
  · have hk2 : (obs.map (fun p => (p.1, erOb p.2))).map (·.1) = List.range' nid (obs.map (fun p => (p.1, erOb p.2))).length := by
      rw [List.map_map, List.length_map, ← hkeys]
      rfl
    have hre := rekey nid _ hk2
    simp only [d2, erS_setSl, appE, app_many]
    rw [hre]
    simp [erS, mapS]
  · have := rootV_VR (n := nid) hvr
    rw [hrr] at this
    exact this
  · rcases hk with ⟨l, hl, hi2⟩ | hi2
    · rcases htop1 l (htop2 l hl) with h5 | h5 | ⟨q, hq, r', hr', h5⟩
      · exact .inl (.inl ⟨l, h5, hi2⟩)
      · have := (hwfo l h5).2.2.2.2 i hi2
        rw [hkeys, List.mem_range'_1] at this
        exact .inr this
      · rw [(wf_weak (hrow q hq r' hr' l h5).1).2.2] at hi2; cases hi2
    · rw [hd2ob] at hi2
      simp only [d1, List.map_append, List.mem_append] at hi2
      rcases hi2 with hi2 | hi2
      · exact .inl (.inr hi2)
      · rw [hkeys, List.mem_range'_1] at hi2
        exact .inr hi2
end Go.Proofs.YtghdhjgoicnbcaaGreat.AM

namespace Go.Proofs.YtghdhjgoicnbcaaGreat.AM
open Go

def sysC (P : Program) : Sys P := { E := fun o s nid e => opF P o.op (evA s) (look s.ob) nid = some e ∨ CallB P o s nid e, ok := fun h => h.elim stepOk_op stepOk_callB }
section
variable {P : Program} {Y : Sys P}
/-- A guard is looked at, and then gone. -/
theorem ops_w {ops rest : List Oper} {dst : Option Nat} {op : Op} {ty : TypeId} {pos : String} {aft : Array Edge} {j : Nat} {want : Bool} {s : S Unit} {K : S Unit → Prop} {t : Nat} (ht : dstOf ops j = some t)
    (h : gdv (s.sl[t]?) t s want (fun s => awpOps Y ops (⟨dst, op, ty, pos, aft, none⟩ :: rest) s K) (fun s => awpOps Y ops rest (setSl s dst .ud) K)) :
    awpOps Y ops (⟨dst, op, ty, pos, aft, some (j, want)⟩ :: rest) s K := by
  have ht' : (ops[j]?).bind (·.dst) = some t := ht
  simp only [awpOps, ht']
  unfold gdv at h
  split at h
  · rename_i b hb
    try rw [hb]
    cases want with
    | true =>
      refine ⟨fun hbt => ?_, fun hbf => h.2 (by simpa using hbf)⟩
      exact h.1 hbt
    | false =>
      refine ⟨fun hbt => ?_, fun hbf => h.1 (by simpa using hbf)⟩
      exact h.2 hbt
  · rename_i hb
    try rw [hb]
    exact h
  · exact h.elim
end
end Go.Proofs.YtghdhjgoicnbcaaGreat.AM

namespace Go.Proofs.YtghdhjgoicnbcaaGreat.AM
open Go

/-- Objects are let go. -/
theorem Gh.drop (s : S Unit) (f : Nat → Bool) : Gh s ⟨s.sl, s.ob.filter (fun p => f p.1), s.nx⟩ := by
  rintro B a W ⟨d, rfl, hi, hs, hdef, hk, hn⟩
  let d' : S Value := ⟨d.sl, d.ob.filter (fun p => f p.1), d.nx⟩
  have hsub : (d.ob.filter (fun p => f p.1)).Sublist d.ob := List.filter_sublist
  have htop : ∀ l ∈ tops d', l ∈ tops d := fun l hl => by
    rcases mem_tops.1 hl with hl | hl
    · exact mem_tops.2 (.inl hl)
    · obtain ⟨p, hp, r, hr, hlr⟩ := mem_obLeaves.1 hl
      exact mem_tops.2 (.inr (mem_obLeaves.2 ⟨p, hsub.subset hp, r, hr, hlr⟩))
  have hsubo : (ownS d').Sublist (ownS d) := by
    have e : obLeaves d'.ob = (d.ob.filter (fun p => f p.1)).flatMap (fun p => p.2.rows.flatten) := rfl
    have e2 : obLeaves d.ob = d.ob.flatMap (fun p => p.2.rows.flatten) := rfl
    simp only [ownS, tops, List.flatMap_append, e, e2, List.flatMap_assoc]
    exact (sub_flatMap hsub _).append ((List.Sublist.refl _).append (sub_flatMap hsub _))
  refine ⟨d', by simp [erS, mapS, d', List.filter_map, Function.comp_def], ?_, hs, hdef, fun i hi2 => hk i ?_, hn⟩
  · exact hi.step (Nat.le_refl _) (Same.refl _) (fun _ _ _ => rfl) (fun l hl => ⟨(hi.good.wf l (htop l hl)).1, refOk_mono (fun i _ => look_filter) (hi.good.wf l (htop l hl)).2⟩) (fun p hp => hi.good.obs p (hsub.subset hp)) (hi.good.ids.sublist (hsub.map _))
      (fun p hp => ⟨hi.good.own p (hsubo.subset hp), .inl ⟨p, hsubo.subset hp, rfl⟩⟩) (hi.good.nodup.sublist (hsubo.map _)) (fun p hp => by
        obtain ⟨l, hl, hp⟩ := List.mem_flatMap.1 hp
        exact .of_mem (List.mem_flatMap.2 ⟨l, htop l hl, hp⟩)) (fun p hp => hi.hdr p (hsub.subset hp))
  · rcases hi2 with ⟨l, hl, h⟩ | h
    · exact .inl ⟨l, htop l hl, h⟩
    · exact .inr ((hsub.map _).subset h)
end Go.Proofs.YtghdhjgoicnbcaaGreat.AM

namespace Go.Proofs.YtghdhjgoicnbcaaGreat.AM
open Go

def nestL {δ : Type} : L δ → Bool
  | .os _ _ _ => true
  | l => plainL l
theorem nest_er (l : L Value) : nestL (erL l) = nestL l := by cases l <;> rfl
theorem nest_wf {l : L Value} (h : nestL l = true) (hw : wfL false l) : wfL true l := by
  cases l <;> simp_all [nestL, plainL, wfL]
def setLf {δ : Type} (u : U δ) (j : Nat) (l : L δ) : U δ := match u with
  | .one l0 => if j = 0 then .one l else .one l0
  | .agg ls => .agg (ls.set j l)
theorem setLf_leaves {δ : Type} {u : U δ} {j : Nat} {l : L δ} (h : j < (leavesU u).length) : leavesU (setLf u j l) = (leavesU u).set j l := by
  cases u with
  | one l0 =>
    simp only [leavesU, List.length_singleton] at h
    have : j = 0 := by omega
    subst this
    rfl
  | agg ls => rfl
theorem setLf_er (u : U Value) (j : Nat) (l : L Value) : erU (setLf u j l) = setLf (erU u) j (erL l) := by
  cases u with
  | one l0 => by_cases h : j = 0 <;> simp [setLf, mapU, h]
  | agg ls => simp [setLf, mapU, List.map_set]
theorem setLf_UR {u : U Value} {j : Nat} {l l0 : L Value} {x : Value} (h : UR u x) (hj : (leavesU u)[j]? = some l0) (hv : val l = val l0) : UR (setLf u j l) x := by
  cases u with
  | one l1 =>
    simp only [leavesU] at hj
    have : j = 0 := by
      rcases j with _ | j
      · rfl
      · simp at hj
    subst this
    simp at hj
    subst hj
    simp only [setLf, UR, if_true] at h ⊢
    rw [hv]; exact h
  | agg ls =>
    simp only [setLf, UR] at h ⊢
    rw [h]
    congr 2
    apply List.ext_getElem?
    intro i
    simp only [List.getElem?_map, List.getElem?_set]
    by_cases hi : j = i
    · subst hi
      simp only [leavesU] at hj
      have hlt := (List.getElem?_eq_some_iff.1 hj).1
      simp only [if_true, hlt, hj, Option.map_some, hv]
    · simp [hi]
theorem perm_set {α β : Type} {f : α → List β} {e : List β} {x x0 : α} : ∀ {ls : List α} {j : Nat}, ls[j]? = some x0 → (f x).Perm (e ++ f x0) → ((ls.set j x).flatMap f).Perm (e ++ ls.flatMap f)
  | [], j, h, _ => by simp at h
  | y :: ls, 0, h, hp => by
    simp only [List.getElem?_cons_zero, Option.some.injEq] at h
    subst h
    simp only [List.set_cons_zero, List.flatMap_cons, ← List.append_assoc]
    exact hp.append_right _
  | y :: ls, j + 1, h, hp => by
    simp only [List.getElem?_cons_succ] at h
    simp only [List.set_cons_succ, List.flatMap_cons]
    refine ((perm_set h hp).append_left (f y)).trans ?_
    rw [← List.append_assoc, ← List.append_assoc]
    exact List.perm_append_comm.append_right _
theorem filter_ne {δ : Type} {l1 l2 : List (Nat × Ob δ)} {id : Nat} {o : Ob δ} (h1 : ∀ p ∈ l1, p.1 ≠ id) (h2 : ∀ p ∈ l2, p.1 ≠ id) : (l1 ++ (id, o) :: l2).filter (fun p => !(p.1 == id)) = l1 ++ l2 := by
  rw [List.filter_append, List.filter_cons_of_neg (by simp), List.filter_eq_self.2 (fun p hp => by simpa using h1 p hp), List.filter_eq_self.2 (fun p hp => by simpa using h2 p hp)]
theorem Gh.fold {s : S Unit} {t j id len : Nat} {u : U Unit} (ht : s.sl[t]? = some (.u u)) (hj : (leavesU u)[j]? = some (.ref () id 0 len)) {o : Ob Unit} (ho : look s.ob id = some o) (hl : len = o.rows.length)
    (hn : o.rows.all (fun r => r.all nestL) = true) : Gh s ⟨s.sl.set t (.u (setLf u j (.os () o.n o.rows))), s.ob.filter (fun p => !(p.1 == id)), s.nx⟩ := by
  rintro B a W ⟨d, rfl, hi, hs, hdef, hk, hn0⟩
  obtain ⟨v1, hv1, hv2⟩ := erS_slot ht
  obtain ⟨u', rfl, rfl⟩ : ∃ u', v1 = .u u' ∧ erU u' = u := by
    cases v1 with
    | u x => exact ⟨x, rfl, by injection hv2⟩
    | tup xs => cases hv2
    | un => cases hv2
    | ud => cases hv2
  rw [leavesU_map, List.getElem?_map, Option.map_eq_some_iff] at hj
  obtain ⟨l', hj', hl'⟩ := hj
  obtain ⟨v', rfl⟩ := er_ref hl'
  obtain ⟨o', ho', rfl⟩ := look_lift ho
  have hlt : t < d.sl.length := (List.getElem?_eq_some_iff.1 hv1).1
  have hjlt : j < (leavesU u').length := (List.getElem?_eq_some_iff.1 hj').1
  have hmem : L.ref v' id 0 len ∈ tops d := mem_tops.2 (.inl ⟨.u u', List.mem_of_getElem? hv1, List.mem_of_getElem? hj'⟩)
  have hlen' : len = o'.rows.length := by simpa [erOb, mapOb] using hl
  subst hlen'
  obtain ⟨_, hform⟩ := (hi.good.wf _ hmem).2 o' ho'
  have hobs : _ ∧ ∀ r ∈ o'.rows, r.length = o'.n := hi.good.obs _ (find?_key ho')
  have hnest : ∀ r ∈ o'.rows, ∀ l ∈ r, nestL l = true := by
    simp only [erOb, mapOb, List.all_map, List.all_eq_true, Function.comp_def, nest_er] at hn
    exact hn
  have hos : isOwn v' o'.rows ∧ hdrOwn v' o'.n o'.rows = hdrOwn o'.h o'.n o'.rows := by
    rcases hform with ⟨h0, hv⟩ | ⟨b, x, c0, h0, hv⟩
    · have hr0 : o'.rows = [] := by
        rcases hobs.1 with ⟨_, h1⟩ | ⟨_, _, _, h1, _⟩
        · exact h1
        · simp only at h1; rw [h0] at h1; cases h1
      exact ⟨.inl ⟨hv, hr0⟩, by rw [hv, h0]⟩
    · rcases hv with hv | ⟨y, _, _, h9, _⟩
      · rcases hobs.1 with ⟨h7, _⟩ | ⟨b2, x2, c2, h7, h8, h9⟩
        · simp only at h7; rw [h0] at h7; cases h7
        · simp only at h7 h8 h9
          rw [h0] at h7
          cases h7
          simp only [Nat.zero_mul, Nat.add_zero, Nat.sub_zero] at hv
          exact ⟨.inr ⟨b, x, c0, hv, h8, h9⟩, by rw [hv, h0]; rfl⟩
      · omega
  have hwfo : wfL false (.os v' o'.n o'.rows) := ⟨hos.1, hobs.2, (wfR_iff _ _).2 fun r hr l hlr => nest_wf (hnest r hr l hlr) (has_ob hi.good ho' hr hlr).1⟩
  let nv : V Value := .u (setLf u' j (.os v' o'.n o'.rows))
  let d' : S Value := ⟨d.sl.set t nv, d.ob.filter (fun p => !(p.1 == id)), d.nx⟩
  have hlv : leavesV nv = (leavesU u').set j (.os v' o'.n o'.rows) := setLf_leaves hjlt
  have hsub : (d.ob.filter (fun p => !(p.1 == id))).Sublist d.ob := List.filter_sublist
  have htop : ∀ l ∈ tops d', l ∈ tops d ∨ l = .os v' o'.n o'.rows := fun l hl => by
    rcases mem_tops.1 hl with ⟨w, hw, hl2⟩ | hl2
    · rcases List.mem_or_eq_of_mem_set hw with hw | rfl
      · exact .inl (mem_tops.2 (.inl ⟨w, hw, hl2⟩))
      · rw [hlv] at hl2
        rcases List.mem_or_eq_of_mem_set hl2 with hl2 | rfl
        · exact .inl (mem_tops.2 (.inl ⟨.u u', List.mem_of_getElem? hv1, hl2⟩))
        · exact .inr rfl
    · obtain ⟨p, hp, r, hr, hlr⟩ := mem_obLeaves.1 hl2
      exact .inl (mem_tops.2 (.inr (mem_obLeaves.2 ⟨p, hsub.subset hp, r, hr, hlr⟩)))
  have hperm : (ownS d').Perm (ownS d) := by
    classical
    obtain ⟨l1, l2, hob, h1, h2⟩ := look_split ho' hi.good.ids
    have hf : d'.ob = l1 ++ l2 := by
      show d.ob.filter _ = _
      rw [hob]
      exact filter_ne h1 h2
    have hleaf : ((leavesV nv).flatMap ownL).Perm (ownL (.os v' o'.n o'.rows) ++ (leavesV (.u u')).flatMap ownL) := by
      rw [hlv]
      exact perm_set hj' (by simp [ownL])
    have hsl := perm_set (f := fun v => (leavesV v).flatMap ownL) hv1 hleaf
    refine List.perm_iff_count.2 fun q => ?_
    have h3 := List.perm_iff_count.1 hsl q
    have e1 : obLeaves ((id, o') :: l2) = o'.rows.flatten ++ obLeaves l2 := by simp [obLeaves]
    have e2 : d'.sl = d.sl.set t nv := rfl
    simp only [ownS, tops, hf, hob, e1, e2, obLeaves_append, List.flatMap_append, List.flatMap_assoc, List.flatMap_cons, List.count_append, ownL, hos.2, ownR_eq] at h3 ⊢
    omega
  refine ⟨d', ?_, ?_, ⟨by simpa [d'] using hs.1, fun i w hw => ?_⟩, hdef, fun i hi2 => hk i ?_, hn0⟩
  · simp only [erS, mapS, d', List.map_set, List.filter_map, Function.comp_def]
    congr 1
    congr 1
    show erV nv = _
    have := setLf_er u' j (.os v' o'.n o'.rows)
    show V.u (erU (setLf u' j (.os v' o'.n o'.rows))) = _
    rw [this]
    simp [mapL, mapR_eq, erOb, mapOb]
  · refine hi.step (Nat.le_refl _) (Same.refl _) (fun _ _ _ => rfl) (fun l hl => ?_) (fun p hp => hi.good.obs p (hsub.subset hp)) (hi.good.ids.sublist (hsub.map _))
      (fun p hp => ⟨hi.good.own p (hperm.mem_iff.1 hp), .inl ⟨p, hperm.mem_iff.1 hp, rfl⟩⟩) ((hperm.map (·.1)).nodup_iff.2 hi.good.nodup) (fun p hp => ?_) (fun p hp => hi.hdr p (hsub.subset hp))
    · rcases htop l hl with h | rfl
      · exact ⟨(hi.good.wf l h).1, refOk_mono (fun i _ => look_filter (f := fun i => !(i == id))) (hi.good.wf l h).2⟩
      · exact ⟨hwfo, by simp [refOk]⟩
    · obtain ⟨l, hl, hp⟩ := List.mem_flatMap.1 hp
      rcases htop l hl with h | rfl
      · exact .of_mem (List.mem_flatMap.2 ⟨l, h, hp⟩)
      · simp only [immL, immR_eq] at hp
        obtain ⟨l2, hl2, hp⟩ := List.mem_flatMap.1 hp
        obtain ⟨r, hr, hl2⟩ := List.mem_flatten.1 hl2
        exact (has_ob hi.good ho' hr hl2).2.2.1 p hp
  · simp only [d', List.getElem?_set] at hw
    by_cases hti : t = i
    · subst hti
      rw [if_pos rfl, if_pos hlt] at hw
      cases hw
      exact setLf_UR (hs.2 t _ hv1) hj' rfl
    · rw [if_neg hti] at hw
      exact hs.2 i w hw
  · rcases hi2 with ⟨l, hl, h⟩ | h
    · rcases htop l hl with h2 | rfl
      · exact .inl ⟨l, h2, h⟩
      · simp [idsL] at h
    · exact .inr ((hsub.map _).subset h)
end Go.Proofs.YtghdhjgoicnbcaaGreat.AM

namespace Go.Proofs.YtghdhjgoicnbcaaGreat.AM
open Go

end Go.Proofs.YtghdhjgoicnbcaaGreat.AM

namespace Go.Proofs.YtghdhjgoicnbcaaGreat.AM
open Go

def lkp {α : Type} : List (Nat × α) → Nat → Option α
  | [], _ => none
  | (k, v) :: l, t => match Nat.beq k t with
    | true => some v
    | false => lkp l t
theorem lkp_cons_self {α : Type} (l : List (Nat × α)) (k : Nat) (v : α) : lkp ((k, v) :: l) k = some v := by
  simp [lkp]
theorem lkp_cons_ne {α : Type} (l : List (Nat × α)) {k t : Nat} (v : α) (h : k ≠ t) : lkp ((k, v) :: l) t = lkp l t := by
  have : Nat.beq k t = false := by
    cases hb : Nat.beq k t
    · rfl
    · exact absurd (Nat.eq_of_beq_eq_true hb) h
  simp [lkp, this]
abbrev Asg := List (Nat × V Unit)
abbrev OAsg := List (Nat × Option (Ob Unit))
def slotV (asg : Asg) (t : Nat) : V Unit := (lkp asg t).getD .un
def slotsOf (N : Nat) (asg : Asg) : List (V Unit) := (List.range N).map (slotV asg)
def obAt (oa : OAsg) (i : Nat) : Option (Ob Unit) := (lkp oa i).bind id
def obOf (oa : OAsg) (nx : Nat) : List (Nat × Ob Unit) := (List.range nx).filterMap (fun i => (obAt oa i).map fun o => (i, o))
/-- A state: N slots; what was set (the latest first); objects (the latest first, none: gone); how many numbers are taken. -/
def St (N : Nat) (asg : Asg) (oa : OAsg) (nx : Nat) : S Unit := ⟨slotsOf N asg, obOf oa nx, nx⟩
def ev (N : Nat) (asg : Asg) : Operand → Option (V Unit)
  | .tmp t => match Nat.blt t N with
    | true => lkp asg t
    | false => none
  | .const v => (cst v).map .u
  | .func f => some (.u (.one (.fn () f [])))
  | .global _ => none
def lko (oa : OAsg) (nx id : Nat) : Option (Ob Unit) := match Nat.blt id nx with
  | true => obAt oa id
  | false => none
theorem blt_lt {a b : Nat} (h : Nat.blt a b = true) : a < b := by
  have : a + 1 ≤ b := by simpa [Nat.blt] using h
  omega
theorem slots_get {N : Nat} {asg : Asg} {t : Nat} (h : t < N) : (slotsOf N asg)[t]? = some (slotV asg t) := by
  simp [slotsOf, h]
theorem slots_lk {N : Nat} {asg : Asg} {t : Nat} {v : V Unit} (h : t < N) (hv : lkp asg t = some v) : (slotsOf N asg)[t]? = some v := by
  rw [slots_get h, slotV, hv]; rfl
theorem slots_set (N : Nat) (asg : Asg) (t : Nat) (v : V Unit) : slotsOf N ((t, v) :: asg) = (slotsOf N asg).set t v := by
  apply List.ext_getElem?
  intro j
  rw [List.getElem?_set]
  by_cases hj : j < N
  · rw [slots_get hj]
    by_cases hjt : t = j
    · subst hjt
      rw [if_pos rfl, if_pos (by simpa [slotsOf] using hj), slotV, lkp_cons_self]; rfl
    · rw [if_neg hjt, slots_get hj, slotV, lkp_cons_ne _ _ hjt, slotV]
  · have h1 : (slotsOf N ((t, v) :: asg))[j]? = none := by simp [slotsOf]; omega
    have h2 : (slotsOf N asg)[j]? = none := by simp [slotsOf]; omega
    rw [h1, h2]
    by_cases hjt : t = j
    · subst hjt
      rw [if_pos rfl, if_neg (by simpa [slotsOf] using hj)]
    · rw [if_neg hjt]
theorem ev_ok {N : Nat} {asg : Asg} {oa : OAsg} {nx : Nat} {x : Operand} {v : V Unit} (h : ev N asg x = some v) : evA (St N asg oa nx) x = some v := by
  cases x with
  | tmp t =>
    simp only [ev] at h
    split at h
    · rename_i hb
      exact slots_lk (blt_lt hb) h
    · cases h
  | const v => exact h
  | func f => exact h
  | global g => exact h
theorem look_map {l : List Nat} {g : Nat → Option (Ob Unit)} (id : Nat) : look (l.filterMap (fun i => (g i).map fun o => (i, o))) id = if id ∈ l then g id else none := by
  induction l with
  | nil => simp [look]
  | cons i l ih =>
    by_cases hi : i = id
    · subst hi
      cases hg : g i with
      | none =>
        rw [List.filterMap_cons_none (by simp [hg]), ih]
        simp [hg]
      | some o =>
        rw [List.filterMap_cons_some (by simp [hg]; rfl)]
        simp [look]
    · have : look ((i :: l).filterMap (fun i => (g i).map fun o => (i, o))) id = look (l.filterMap (fun i => (g i).map fun o => (i, o))) id := by
        cases hg : g i with
        | none => rw [List.filterMap_cons_none (by simp [hg])]
        | some o =>
          rw [List.filterMap_cons_some (by simp [hg]; rfl)]
          simp [look, hi]
      rw [this, ih]
      simp [Ne.symm hi]
theorem look_St {oa : OAsg} {nx id : Nat} : look (obOf oa nx) id = if id < nx then obAt oa id else none := by
  unfold obOf
  rw [look_map]
  simp
theorem lko_ok {N : Nat} {asg : Asg} {oa : OAsg} {nx id : Nat} {o : Ob Unit} (h : lko oa nx id = some o) : look (St N asg oa nx).ob id = some o := by
  unfold lko at h
  split at h
  · rename_i hb
    show look (obOf oa nx) id = _
    rw [look_St, if_pos (blt_lt hb), h]
  · cases h
theorem lko_lt {oa : OAsg} {nx id : Nat} {o : Ob Unit} (h : lko oa nx id = some o) : id < nx ∧ obAt oa id = some o := by
  unfold lko at h
  split at h
  · rename_i hb; exact ⟨blt_lt hb, h⟩
  · cases h
theorem obAt_self (oa : OAsg) (i : Nat) (o : Option (Ob Unit)) : obAt ((i, o) :: oa) i = o := by simp [obAt, lkp_cons_self]
theorem obAt_ne (oa : OAsg) {i j : Nat} (o : Option (Ob Unit)) (h : i ≠ j) : obAt ((i, o) :: oa) j = obAt oa j := by simp [obAt, lkp_cons_ne _ _ h]
theorem filterMap_congr' {α β : Type} {f g : α → Option β} {l : List α} (h : ∀ x ∈ l, f x = g x) : l.filterMap f = l.filterMap g := by
  induction l with
  | nil => rfl
  | cons a l ih =>
    have h1 := h a (by simp)
    have h2 := ih fun x hx => h x (List.mem_cons_of_mem _ hx)
    cases hg : g a with
    | none => rw [List.filterMap_cons_none (h1.trans hg), List.filterMap_cons_none hg, h2]
    | some b => rw [List.filterMap_cons_some (h1.trans hg), List.filterMap_cons_some hg, h2]
theorem obOf_new (oa : OAsg) (nx : Nat) (o : Ob Unit) : obOf ((nx, some o) :: oa) (nx + 1) = obOf oa nx ++ [(nx, o)] := by
  unfold obOf
  rw [List.range_succ, List.filterMap_append]
  congr 1
  · refine filterMap_congr' fun i hi => ?_
    rw [List.mem_range] at hi
    rw [obAt_ne _ _ (by omega)]
  · simp [obAt_self]
theorem obOf_upd {oa : OAsg} {nx id : Nat} {o : Ob Unit} (h : lko oa nx id = some o) (rows : List (List (L Unit))) : obOf ((id, some ⟨o.h, o.n, rows⟩) :: oa) nx = updOb (obOf oa nx) id rows := by
  obtain ⟨_, ho⟩ := lko_lt h
  unfold obOf updOb
  rw [List.map_filterMap]
  refine filterMap_congr' fun i _ => ?_
  by_cases hi : id = i
  · subst hi
    simp [obAt_self, ho]
  · rw [obAt_ne _ _ hi]
    cases hg : obAt oa i with
    | none => rfl
    | some o' => simp [Ne.symm hi]
theorem obOf_del {oa : OAsg} {nx id : Nat} : obOf ((id, none) :: oa) nx = (obOf oa nx).filter (fun p => !(p.1 == id)) := by
  unfold obOf
  rw [List.filter_filterMap]
  refine filterMap_congr' fun i _ => ?_
  by_cases hi : id = i
  · subst hi
    rw [obAt_self]
    cases hg : obAt oa id <;> simp [Option.filter]
  · rw [obAt_ne _ _ hi]
    cases hg : obAt oa i with
    | none => rfl
    | some o' => simp [Ne.symm hi, Option.filter]

theorem St_setSl (N : Nat) (asg : Asg) (oa : OAsg) (nx t : Nat) (v : V Unit) : setSl (St N asg oa nx) (some t) v = St N ((t, v) :: asg) oa nx := by
  simp only [St, setSl, slots_set]
theorem St_pure (N : Nat) (asg : Asg) (oa : OAsg) (nx nid t : Nat) (v : V Unit) (rd : List Nat) (hyp : Prop) : appE (St N asg oa nx) (some t) nid ⟨v, rd, [], [], [], hyp⟩ = St N ((t, v) :: asg) oa nx := by
  simp only [St, appE_p, slots_set]
theorem St_new (N : Nat) (asg : Asg) (oa : OAsg) (nx t : Nat) (v : V Unit) (rd : List Nat) (o : Ob Unit) (hyp : Prop) : appE (St N asg oa nx) (some t) nx ⟨v, rd, [o], [], [], hyp⟩ = St N ((t, v) :: asg) ((nx, some o) :: oa) (nx + 1) := by
  simp only [St, appE_n, slots_set, obOf_new]
theorem St_upd {N : Nat} {asg : Asg} {oa : OAsg} {nx nid id : Nat} {o : Ob Unit} (h : lko oa nx id = some o) (v : V Unit) (rd : List Nat) (rows : List (List (L Unit))) (hyp : Prop) :
    appE (St N asg oa nx) none nid ⟨v, rd, [], [(id, rows)], [], hyp⟩ = St N asg ((id, some ⟨o.h, o.n, rows⟩) :: oa) nx := by
  simp only [St, appE_u, obOf_upd h]
theorem app_del {δ : Type} (s : S δ) (dst : Option Nat) (nid : Nat) (v : V δ) (o : Ob δ) (id : Nat) : app s dst nid v [o] [] [id] = setSl ⟨s.sl, s.ob.filter (fun p => !(p.1 == id)) ++ [(nid, o)], s.nx + 1⟩ dst v := by
  simp [app, updP_nil]
  congr 3
theorem obOf_delnew {oa : OAsg} {nx id : Nat} (o : Ob Unit) : obOf ((nx, some o) :: (id, none) :: oa) (nx + 1) = (obOf oa nx).filter (fun p => !(p.1 == id)) ++ [(nx, o)] := by
  rw [obOf_new, obOf_del]
theorem St_del (N : Nat) (asg : Asg) (oa : OAsg) (nx t : Nat) (v : V Unit) (rd : List Nat) (o : Ob Unit) (id : Nat) (hyp : Prop) :
    appE (St N asg oa nx) (some t) nx ⟨v, rd, [o], [], [id], hyp⟩ = St N ((t, v) :: asg) ((nx, some o) :: (id, none) :: oa) (nx + 1) := by
  simp only [St, appE, app_del, setSl, slots_set, obOf_delnew]
end Go.Proofs.YtghdhjgoicnbcaaGreat.AM

namespace Go.Proofs.YtghdhjgoicnbcaaGreat.AM
open Go

section
variable {P : Program}
class PlainY (Y : Sys P) : Prop where
  h : ∀ {o : Oper} {s : S Unit} {nid : Nat} {e : Eff}, opF P o.op (evA s) (look s.ob) nid = some e → Y.E o s nid e
instance : PlainY (sysC P) := ⟨fun h => .inl h⟩
/-- What is asked: pr = 1: nothing. -/
structure Rd (pr : Nat) (s : S Unit) (rd : List Nat) : Prop where
  no : pr = 1 → rd = []
  is : ∀ id ∈ rd, look s.ob id ≠ none
theorem rd0 {pr : Nat} {s : S Unit} : Rd pr s [] := ⟨fun _ => rfl, fun _ h => by cases h⟩
theorem rd1 {pr id : Nat} {s : S Unit} {o : Ob Unit} (hp : Nat.beq pr 1 = false) (h : look s.ob id = some o) : Rd pr s [id] where
  no := by rintro rfl; cases hp
  is := fun i hi => by simp only [List.mem_singleton] at hi; rw [hi, h]; simp
/-- An operation's step. pr = 0: any; 1: only a slot is set, no object is asked; 2: only a slot is set. -/
def aopK (Y : Sys P) (pr : Nat) (o : Oper) (s : S Unit) (K : S Unit → Prop) : Prop :=
  ∃ e, (pr ≠ 0 → opF P o.op (evA s) (look s.ob) s.nx = some e ∧ e.news = [] ∧ e.upd = [] ∧ e.del = [] ∧ Rd pr s e.rd) ∧ Y.E o s s.nx e ∧ ((pr = 0 → e.hyp) → K (appE s o.dst s.nx e))
variable {Y : Sys P} [PlainY Y]
omit [PlainY Y] in
theorem n_ {ops rest : List Oper} {dst : Option Nat} {op : Op} {ty : TypeId} {pos : String} {aft : Array Edge} {s : S Unit} {K : S Unit → Prop}
    (h : aopK Y 0 ⟨dst, op, ty, pos, aft, none⟩ s (fun s' => awpOps Y ops rest s' K)) : awpOps Y ops (⟨dst, op, ty, pos, aft, none⟩ :: rest) s K := by
  obtain ⟨e, _, h1, h2⟩ := h
  exact ⟨e, h1, fun h => h2 fun _ => h⟩
theorem aopK_r {pr : Nat} {o : Oper} {s : S Unit} {K : S Unit → Prop} {v : V Unit} {rd : List Nat} {hyp : Prop} (h : opF P o.op (evA s) (look s.ob) s.nx = some ⟨v, rd, [], [], [], hyp⟩) (hrd : Rd pr s rd)
    (hK : (pr = 0 → hyp) → K (appE s o.dst s.nx ⟨v, rd, [], [], [], hyp⟩)) : aopK Y pr o s K :=
  ⟨_, fun _ => ⟨h, rfl, rfl, rfl, hrd⟩, PlainY.h h, hK⟩
theorem aopK_0 {o : Oper} {s : S Unit} {K : S Unit → Prop} {e : Eff} (h : opF P o.op (evA s) (look s.ob) s.nx = some e) (hK : e.hyp → K (appE s o.dst s.nx e)) : aopK Y 0 o s K :=
  ⟨e, fun h => absurd rfl h, PlainY.h h, fun h => hK (h rfl)⟩
variable {pr N nx t : Nat} {asg : Asg} {oa : OAsg} {ty : TypeId} {pos : String} {aft : Array Edge} {K : S Unit → Prop}
theorem lO_ev {x : Operand} {l : L Unit} (h : ev N asg x = some (.u (.one l))) : lO (evA (St N asg oa nx) x) = some l := by rw [ev_ok h]; rfl
theorem uO_ev {x : Operand} {u : U Unit} (h : ev N asg x = some (.u u)) : uO (evA (St N asg oa nx) x) = some u := by rw [ev_ok h]; rfl

theorem x_mv {x : Operand} {v : V Unit} (hv : ev N asg x = some v) (hn : noOsV v = true) (hK : K (St N ((t, v) :: asg) oa nx)) : aopK Y pr ⟨some t, .move x, ty, pos, aft, none⟩ (St N asg oa nx) K :=
  aopK_r (v := v) (rd := []) (hyp := True) (by simp only [opF, mvF, ev_ok hv, hn, if_true]) rd0 (fun _ => by rw [St_pure]; exact hK)
theorem x_as {x : Operand} {v : V Unit} (hv : ev N asg x = some v) (hn : noOsV v = true) (hK : K (St N ((t, v) :: asg) oa nx)) : aopK Y pr ⟨some t, .assign x, ty, pos, aft, none⟩ (St N asg oa nx) K :=
  aopK_r (v := v) (rd := []) (hyp := True) (by simp only [opF, mvF, ev_ok hv, hn, if_true]) rd0 (fun _ => by rw [St_pure]; exact hK)
theorem x_pk {c x y : Operand} {b : Bool} {v : V Unit} (hc : ev N asg c = some (.u (.one (.bool b)))) (hv : (match b with | true => ev N asg x | false => ev N asg y) = some v) (hn : noOsV v = true)
    (hK : K (St N ((t, v) :: asg) oa nx)) : aopK Y pr ⟨some t, .pick c x y, ty, pos, aft, none⟩ (St N asg oa nx) K :=
  aopK_r (v := v) (rd := []) (hyp := True) (by
    simp only [opF, pickF, lO_ev hc]
    cases b
    · simp only [mvF, Bool.false_eq_true, if_false, ev_ok hv, hn, if_true]
    · simp only [mvF, if_true, ev_ok hv, hn]) rd0 (fun _ => by rw [St_pure]; exact hK)
theorem x_bin {op : BinOp} {tt t2 : TypeId} {x y : Operand} {i : TI} {l m z : L Unit} (ht : tiOf P tt = some i) (h1 : ev N asg x = some (.u (.one l))) (h2 : ev N asg y = some (.u (.one m))) (hb : binF op i l m = some z)
    (hK : K (St N ((t, .u (.one z)) :: asg) oa nx)) : aopK Y pr ⟨some t, .binOp op tt x y t2, ty, pos, aft, none⟩ (St N asg oa nx) K :=
  aopK_r (v := one1 z) (rd := []) (hyp := True) (by simp only [opF, biE, ht, lO_ev h1, lO_ev h2, hb, Option.map_some]) rd0 (fun _ => by rw [St_pure]; exact hK)
theorem x_un {op : UnOp} {tt : TypeId} {x : Operand} {l z : L Unit} (h1 : ev N asg x = some (.u (.one l))) (hb : unF op l = some z)
    (hK : K (St N ((t, .u (.one z)) :: asg) oa nx)) : aopK Y pr ⟨some t, .unOp op tt x, ty, pos, aft, none⟩ (St N asg oa nx) K :=
  aopK_r (v := one1 z) (rd := []) (hyp := True) (by simp only [opF, unE, lO_ev h1, hb, Option.map_some]) rd0 (fun _ => by rw [St_pure]; exact hK)
theorem x_cvi {ts td : TypeId} {x : Operand} {i j : TI} {k k' : IntKind} {n : Int} (ht : tiOf P ts = some i) (ht2 : tiOf P td = some j) (hk : j.kd = .int k) (h1 : ev N asg x = some (.u (.one (.int k' n))))
    (hK : K (St N ((t, .u (.one (.int k (k.wrap n)))) :: asg) oa nx)) : aopK Y pr ⟨some t, .convert ts td x, ty, pos, aft, none⟩ (St N asg oa nx) K :=
  aopK_r (v := one1 (.int k (k.wrap n))) (rd := []) (hyp := True) (by simp only [opF, cvE, ht, ht2, lO_ev h1, hk]) rd0 (fun _ => by rw [St_pure]; exact hK)
theorem x_ncp {x : Operand} {id e j : Nat} {o : Ob Unit} (hp : Nat.beq pr 1 = false) (h1 : ev N asg x = some (.u (.one (.ptr () id e j)))) (ho : lko oa nx id = some o)
    (hK : K (St N ((t, .u (.one (.ptr () id e j))) :: asg) oa nx)) : aopK Y pr ⟨some t, .nilCheck x, ty, pos, aft, none⟩ (St N asg oa nx) K :=
  aopK_r (v := one1 (.ptr () id e j)) (rd := [id]) (hyp := True) (by simp only [opF, lO_ev h1, lko_ok ho, Option.bind_some]) (rd1 hp (lko_ok ho)) (fun _ => by rw [St_pure]; exact hK)
theorem x_nci {x : Operand} {cs : List (L Unit)} (h1 : ev N asg x = some (.u (.one (.ip () cs))))
    (hK : K (St N ((t, .u (.one (.ip () cs))) :: asg) oa nx)) : aopK Y pr ⟨some t, .nilCheck x, ty, pos, aft, none⟩ (St N asg oa nx) K :=
  aopK_r (v := one1 (.ip () cs)) (rd := []) (hyp := True) (by simp only [opF, lO_ev h1]) rd0 (fun _ => by rw [St_pure]; exact hK)
-- fields
def fldF (P : Program) (s : TypeId) (f : Nat) : Option (Nat × TI) := (tiOf P s).bind fun i => match i.kd with
  | .struct => (i.fields[f]?).bind fun p => (tiOf P p.2).bind fun k => if k.size = 0 then none else some (p.1, k)
  | _ => none
theorem fldF_spec {s : TypeId} {f : Nat} {off : Nat} {k : TI} (h : fldF P s f = some (off, k)) : ∃ i p, tiOf P s = some i ∧ i.kd = .struct ∧ i.fields[f]? = some p ∧ tiOf P p.2 = some k ∧ k.size ≠ 0 ∧ p.1 = off := by
  unfold fldF at h
  obtain ⟨i, hi, h⟩ := bind_some h
  split at h
  · rename_i hk
    obtain ⟨p, hp, h⟩ := bind_some h
    obtain ⟨k', hk', h⟩ := bind_some h
    split at h
    · cases h
    · rename_i hs
      cases h
      exact ⟨i, p, hi, hk, hp, hk', hs, rfl⟩
  · cases h
theorem x_fap {ts : TypeId} {x : Operand} {f id e j off : Nat} {k : TI} {o : Ob Unit} (hp : Nat.beq pr 1 = false) (hf : fldF P ts f = some (off, k)) (h1 : ev N asg x = some (.u (.one (.ptr () id e j)))) (ho : lko oa nx id = some o)
    (hK : K (St N ((t, .u (.one (.ptr () id e (j + off)))) :: asg) oa nx)) : aopK Y pr ⟨some t, .fieldAddr ts x f, ty, pos, aft, none⟩ (St N asg oa nx) K := by
  obtain ⟨i, p, a1, a2, a3, a4, a5, rfl⟩ := fldF_spec hf
  exact aopK_r (v := one1 (.ptr () id e (j + p.1))) (rd := [id]) (hyp := True) (by simp only [opF, faF, a1, a2, a3, a4, Option.bind_some, if_neg a5, lO_ev h1, lko_ok ho]) (rd1 hp (lko_ok ho)) (fun _ => by rw [St_pure]; exact hK)
theorem x_fai {ts : TypeId} {x : Operand} {f off : Nat} {k : TI} {cs : List (L Unit)} (hf : fldF P ts f = some (off, k)) (h1 : ev N asg x = some (.u (.one (.ip () cs))))
    (hK : K (St N ((t, .u (.one (.ip () (cs.drop off)))) :: asg) oa nx)) : aopK Y pr ⟨some t, .fieldAddr ts x f, ty, pos, aft, none⟩ (St N asg oa nx) K := by
  obtain ⟨i, p, a1, a2, a3, a4, a5, rfl⟩ := fldF_spec hf
  exact aopK_r (v := one1 (.ip () (cs.drop p.1))) (rd := []) (hyp := True) (by simp only [opF, faF, a1, a2, a3, a4, Option.bind_some, if_neg a5, lO_ev h1]) rd0 (fun _ => by rw [St_pure]; exact hK)
theorem x_fd {ts : TypeId} {x : Operand} {f off : Nat} {k : TI} {ls : List (L Unit)} {u : U Unit} (hf : fldF P ts f = some (off, k)) (h1 : ev N asg x = some (.u (.agg ls))) (hu : pk k ls off = some u) (hn : noOsU u = true)
    (hK : K (St N ((t, .u u) :: asg) oa nx)) : aopK Y pr ⟨some t, .field ts x f, ty, pos, aft, none⟩ (St N asg oa nx) K := by
  obtain ⟨i, p, a1, a2, a3, a4, a5, rfl⟩ := fldF_spec hf
  exact aopK_r (v := .u u) (rd := []) (hyp := True) (by simp only [opF, fdF, a1, a2, a3, a4, Option.bind_some, uO_ev h1, hu, hn, if_true]) rd0 (fun _ => by rw [St_pure]; exact hK)
-- loads
theorem pk_all {δ : Type} {i : TI} {r : List (L δ)} (h : i.agg = true) (hl : r.length = i.size) : pk i r 0 = some (.agg r) := by
  simp only [pk, h, if_true, Nat.zero_add, List.drop_zero]
  rw [if_pos (by omega), List.take_of_length_le (by omega)]
theorem x_ldp {tt : TypeId} {x : Operand} {id e j : Nat} {i : TI} {o : Ob Unit} {r : List (L Unit)} {u : U Unit} (hp : Nat.beq pr 1 = false) (ht : tiOf P tt = some i) (h1 : ev N asg x = some (.u (.one (.ptr () id e j)))) (ho : lko oa nx id = some o)
    (hr : o.rows[e]? = some r) (hu : pk i r j = some u) (hn : noOsU u = true) (hK : K (St N ((t, .u u) :: asg) oa nx)) : aopK Y pr ⟨some t, .load tt x, ty, pos, aft, none⟩ (St N asg oa nx) K :=
  aopK_r (v := .u u) (rd := [id]) (hyp := True) (by simp only [opF, ldF, ht, Option.bind_some, lO_ev h1, lko_ok ho, hr, hu, hn, if_true]) (rd1 hp (lko_ok ho)) (fun _ => by rw [St_pure]; exact hK)
theorem x_ldi {tt : TypeId} {x : Operand} {i : TI} {cs : List (L Unit)} {u : U Unit} (ht : tiOf P tt = some i) (h1 : ev N asg x = some (.u (.one (.ip () cs))))
    (hu : pk i cs 0 = some u) (hn : noOsU u = true) (hK : K (St N ((t, .u u) :: asg) oa nx)) : aopK Y pr ⟨some t, .load tt x, ty, pos, aft, none⟩ (St N asg oa nx) K :=
  aopK_r (v := .u u) (rd := []) (hyp := True) (by simp only [opF, ldF, ht, Option.bind_some, lO_ev h1, hu, hn, if_true]) rd0 (fun _ => by rw [St_pure]; exact hK)
-- elements
def at_ {α : Type} [Inhabited α] (xs : List α) (n : Int) : α := xs.getD n.toNat default
theorem at_get {α : Type} [Inhabited α] {xs : List α} {n : Int} (h : 0 ≤ n ∧ n < (xs.length : Int)) : xs[n.toNat]? = some (at_ xs n) := by
  have : n.toNat < xs.length := by omega
  simp [at_, this]
theorem map_at {α : Type} [Inhabited α] {xs : List α} {n : Int} (enc : α → List (L Unit)) (h : 0 ≤ n ∧ n < (xs.length : Int)) : (xs.map enc)[n.toNat]? = some (enc (at_ xs n)) := by
  rw [List.getElem?_map, at_get h]; rfl
def elS (P : Program) (t : TypeId) : Option Nat := (tiOf P t).bind fun i => match i.kd with
  | .slice => (tiOf P i.elem).map fun ie => ie.size
  | _ => none
theorem elS_spec {tt : TypeId} {m : Nat} (h : elS P tt = some m) : ∃ i ie, tiOf P tt = some i ∧ i.kd = .slice ∧ tiOf P i.elem = some ie ∧ ie.size = m := by
  unfold elS at h
  obtain ⟨i, hi, h⟩ := bind_some h
  split at h
  · rename_i hk
    rw [Option.map_eq_some_iff] at h
    obtain ⟨ie, h1, h2⟩ := h
    exact ⟨i, ie, hi, hk, h1, h2⟩
  · cases h
theorem x_ixb {α : Type} [Inhabited α] {tt : TypeId} {x y : Operand} {m : Nat} {xs : List α} {enc : α → List (L Unit)} {k : IntKind} {n : Int} (he : elS P tt = some m) (h1 : ev N asg x = some (.u (.one (.bs () m (xs.map enc)))))
    (h2 : ev N asg y = some (.u (.one (.int k n)))) (hb : 0 ≤ n ∧ n < (xs.length : Int)) (hK : K (St N ((t, .u (.one (.ip () (enc (at_ xs n))))) :: asg) oa nx)) : aopK Y pr ⟨some t, .indexAddr tt x y, ty, pos, aft, none⟩ (St N asg oa nx) K := by
  obtain ⟨i, ie, a1, a2, a3, rfl⟩ := elS_spec he
  exact aopK_r (v := one1 (.ip () (enc (at_ xs n)))) (rd := []) (hyp := True) (by simp only [opF, ixF, a1, a2, a3, Option.bind_some, lO_ev h1, lO_ev h2, if_true, List.length_map, if_pos hb, map_at enc hb]) rd0 (fun _ => by rw [St_pure]; exact hK)
theorem x_ixr {tt : TypeId} {x y : Operand} {m id off len : Nat} {k : IntKind} {n : Int} {rows : List (List (L Unit))} (hp : Nat.beq pr 1 = false) (he : elS P tt = some m) (h1 : ev N asg x = some (.u (.one (.ref () id off len)))) (ho : lko oa nx id = some ⟨(), m, rows⟩)
    (h2 : ev N asg y = some (.u (.one (.int k n)))) (hb : 0 ≤ n ∧ n < (len : Int)) (hK : K (St N ((t, .u (.one (.ptr () id (off + n.toNat) 0))) :: asg) oa nx)) : aopK Y pr ⟨some t, .indexAddr tt x y, ty, pos, aft, none⟩ (St N asg oa nx) K := by
  obtain ⟨i, ie, a1, a2, a3, rfl⟩ := elS_spec he
  exact aopK_r (v := one1 (.ptr () id (off + n.toNat) 0)) (rd := [id]) (hyp := True) (by simp only [opF, ixF, a1, a2, a3, Option.bind_some, lO_ev h1, lO_ev h2, lko_ok ho, if_true, if_pos hb]) (rd1 hp (lko_ok ho)) (fun _ => by rw [St_pure]; exact hK)
theorem x_st {tt : TypeId} {x y : Operand} {id e j : Nat} {i : TI} {o : Ob Unit} {r : List (L Unit)} {u : U Unit} {rows : List (List (L Unit))} (ht : tiOf P tt = some i) (h1 : ev N asg x = some (.u (.one (.ptr () id e j)))) (h2 : ev N asg y = some (.u u))
    (ho : lko oa nx id = some o) (hr : o.rows[e]? = some r) (hn : noOsU u = true) (hl : Nat.beq (leavesU u).length i.size = true) (hj : Nat.ble (j + i.size) r.length = true) (hrows : o.rows.set e (putC r j (leavesU u)) = rows)
    (hK : K (St N asg ((id, some ⟨(), o.n, rows⟩) :: oa) nx)) : aopK Y 0 ⟨none, .store tt x y, ty, pos, aft, none⟩ (St N asg oa nx) K :=
  aopK_0 (e := { v := .ud, rd := [id], upd := [(id, o.rows.set e (putC r j (leavesU u)))] }) (by
    simp only [opF, stF, ht, Option.bind_some, lO_ev h1, uO_ev h2, lko_ok ho, hr, hn, if_true, if_pos (Nat.eq_of_beq_eq_true hl), if_pos (Nat.le_of_ble_eq_true hj)]) (fun _ => by rw [hrows, St_upd ho]; exact hK)
theorem x_ste {α : Type} {tt : TypeId} {x y : Operand} {id e j m : Nat} {i : TI} {xs : List α} {enc : α → List (L Unit)} {a v : α} {u : U Unit} (ht : tiOf P tt = some i) (h1 : ev N asg x = some (.u (.one (.ptr () id e j)))) (h2 : ev N asg y = some (.u u))
    (ho : lko oa nx id = some ⟨(), m, xs.map enc⟩) (hr : xs[e]? = some a) (hn : noOsU u = true) (hl : Nat.beq (leavesU u).length i.size = true) (hj : Nat.ble (j + i.size) (enc a).length = true) (hv : putC (enc a) j (leavesU u) = enc v)
    (hK : K (St N asg ((id, some ⟨(), m, (xs.set e v).map enc⟩) :: oa) nx)) : aopK Y 0 ⟨none, .store tt x y, ty, pos, aft, none⟩ (St N asg oa nx) K :=
  x_st ht h1 h2 ho (r := enc a) (by simp [hr]) hn hl hj (by rw [hv, List.map_set]) hK
/-- An element of an own slice, whole: its place. -/
theorem x_ix0 {tt : TypeId} {x y : Operand} {m id len : Nat} {k : IntKind} {n : Int} {rows : List (List (L Unit))} (hp : Nat.beq pr 1 = false) (he : elS P tt = some m) (h1 : ev N asg x = some (.u (.one (.ref () id 0 len)))) (ho : lko oa nx id = some ⟨(), m, rows⟩)
    (h2 : ev N asg y = some (.u (.one (.int k n)))) (hb : 0 ≤ n ∧ n < (len : Int)) (hK : K (St N ((t, .u (.one (.ptr () id n.toNat 0))) :: asg) oa nx)) : aopK Y pr ⟨some t, .indexAddr tt x y, ty, pos, aft, none⟩ (St N asg oa nx) K :=
  x_ixr hp he h1 ho h2 hb (by rw [Nat.zero_add]; exact hK)
theorem x_ldn {α : Type} [Inhabited α] {tt : TypeId} {x : Operand} {id j m : Nat} {n : Int} {i : TI} {xs : List α} {enc : α → List (L Unit)} {u : U Unit} (hp : Nat.beq pr 1 = false) (ht : tiOf P tt = some i) (h1 : ev N asg x = some (.u (.one (.ptr () id n.toNat j))))
    (ho : lko oa nx id = some ⟨(), m, xs.map enc⟩) (he : 0 ≤ n ∧ n < (xs.length : Int)) (hu : pk i (enc (at_ xs n)) j = some u) (hn : noOsU u = true) (hK : K (St N ((t, .u u) :: asg) oa nx)) : aopK Y pr ⟨some t, .load tt x, ty, pos, aft, none⟩ (St N asg oa nx) K :=
  x_ldp hp ht h1 ho (r := enc (at_ xs n)) (map_at enc he) hu hn hK
theorem x_stn {α : Type} [Inhabited α] {tt : TypeId} {x y : Operand} {id j m : Nat} {n : Int} {i : TI} {xs : List α} {enc : α → List (L Unit)} (v : α) {u : U Unit} (ht : tiOf P tt = some i) (h1 : ev N asg x = some (.u (.one (.ptr () id n.toNat j)))) (h2 : ev N asg y = some (.u u))
    (ho : lko oa nx id = some ⟨(), m, xs.map enc⟩) (he : 0 ≤ n ∧ n < (xs.length : Int)) (hn : noOsU u = true) (hl : Nat.beq (leavesU u).length i.size = true) (hj : Nat.ble (j + i.size) (enc (at_ xs n)).length = true) (hv : putC (enc (at_ xs n)) j (leavesU u) = enc v)
    (hK : K (St N asg ((id, some ⟨(), m, (xs.set n.toNat v).map enc⟩) :: oa) nx)) : aopK Y 0 ⟨none, .store tt x y, ty, pos, aft, none⟩ (St N asg oa nx) K :=
  x_ste ht h1 h2 ho (at_get he) hn hl hj hv hK
-- lengths
def lnF (P : Program) (t : TypeId) : Option TK := (tiOf P t).map (·.kd)
theorem lnF_spec {tt : TypeId} {k : TK} (h : lnF P tt = some k) : ∃ i, tiOf P tt = some i ∧ i.kd = k := by
  unfold lnF at h; rw [Option.map_eq_some_iff] at h; exact h
theorem x_lnb {tt : TypeId} {x : Operand} {m : Nat} {α : Type} {enc : α → List (L Unit)} {xs : List α} (ht : lnF P tt = some .slice) (h1 : ev N asg x = some (.u (.one (.bs () m (xs.map enc)))))
    (hK : (pr = 0 → xs.length ≤ 140737488355328) → K (St N ((t, .u (.one (.int .i64 (xs.length : Int)))) :: asg) oa nx)) : aopK Y pr ⟨some t, .call ⟨.builtin .len, #[x], #[tt]⟩, ty, pos, aft, none⟩ (St N asg oa nx) K := by
  obtain ⟨i, a1, a2⟩ := lnF_spec ht
  exact aopK_r (v := one1 (.int .i64 (xs.length : Int))) (rd := []) (hyp := xs.length ≤ LIM) (by simp [opF, lenF, a1, a2, lO_ev h1]) rd0 (fun h => by rw [St_pure]; exact hK h)
theorem x_lnr {tt : TypeId} {x : Operand} {id off len : Nat} {o : Ob Unit} (hp : Nat.beq pr 1 = false) (ht : lnF P tt = some .slice) (h1 : ev N asg x = some (.u (.one (.ref () id off len)))) (ho : lko oa nx id = some o)
    (hK : (pr = 0 → len ≤ 140737488355328) → K (St N ((t, .u (.one (.int .i64 (len : Int)))) :: asg) oa nx)) : aopK Y pr ⟨some t, .call ⟨.builtin .len, #[x], #[tt]⟩, ty, pos, aft, none⟩ (St N asg oa nx) K := by
  obtain ⟨i, a1, a2⟩ := lnF_spec ht
  exact aopK_r (v := one1 (.int .i64 (len : Int))) (rd := [id]) (hyp := len ≤ LIM) (by simp [opF, lenF, a1, a2, lO_ev h1, lko_ok ho]) (rd1 hp (lko_ok ho)) (fun h => by rw [St_pure]; exact hK h)
/-- A text's bytes. -/
def bts (l : List UInt8) : ByteArray := ⟨l.toArray⟩
theorem bts_size (l : List UInt8) : (bts l).size = l.length := by simp [bts, ByteArray.size]
theorem x_lns {tt : TypeId} {x : Operand} {s : List UInt8} (ht : lnF P tt = some .str) (h1 : ev N asg x = some (.u (.one (.str (bts s)))))
    (hK : K (St N ((t, .u (.one (.int .i64 (s.length : Int)))) :: asg) oa nx)) : aopK Y pr ⟨some t, .call ⟨.builtin .len, #[x], #[tt]⟩, ty, pos, aft, none⟩ (St N asg oa nx) K := by
  obtain ⟨i, a1, a2⟩ := lnF_spec ht
  exact aopK_r (v := one1 (.int .i64 (s.length : Int))) (rd := []) (hyp := True) (by simp [opF, lenF, a1, a2, lO_ev h1, bts_size]) rd0 (fun _ => by rw [St_pure]; exact hK)
theorem x_mn {x y : Operand} {tys : Array TypeId} {k k' : IntKind} {a b : Int} (h1 : ev N asg x = some (.u (.one (.int k a)))) (h2 : ev N asg y = some (.u (.one (.int k' b))))
    (hK : K (St N ((t, .u (.one (.int k (min a b)))) :: asg) oa nx)) : aopK Y pr ⟨some t, .call ⟨.builtin .min, #[x, y], tys⟩, ty, pos, aft, none⟩ (St N asg oa nx) K :=
  aopK_r (v := one1 (.int k (min a b))) (rd := []) (hyp := True) (by
    simp only [opF, mmF, lO_ev h1, lO_ev h2, Bool.false_eq_true, if_false, Option.some.injEq, Eff.mk.injEq, and_true, one1]
    have : (if b < a then b else a) = min a b := by by_cases h : b < a <;> simp [h] <;> omega
    rw [this]) rd0 (fun _ => by rw [St_pure]; exact hK)
-- numbers
theorem x_addn {tt t2 : TypeId} {x y : Operand} {i : TI} {a b : Int} (ht : tiOf P tt = some i) (h1 : ev N asg x = some (.u (.one (.int .i64 a)))) (h2 : ev N asg y = some (.u (.one (.int .i64 b)))) (hb : -9223372036854775808 ≤ a + b ∧ a + b ≤ 9223372036854775807)
    (hK : K (St N ((t, .u (.one (.int .i64 (a + b)))) :: asg) oa nx)) : aopK Y pr ⟨some t, .binOp .add tt x y t2, ty, pos, aft, none⟩ (St N asg oa nx) K := by
  refine x_bin ht h1 h2 (z := .int .i64 (a + b)) ?_ hK
  have : IntKind.i64.wrap (a + b) = a + b := IntWalk.i64_in _ (by omega)
  show some (L.int .i64 (IntKind.i64.wrap (a + b))) = _
  rw [this]
/-- In the range of int64. -/
def inI (n : Int) : Prop := -9223372036854775808 ≤ n ∧ n ≤ 9223372036854775807
instance (n : Int) : Decidable (inI n) := inferInstanceAs (Decidable (_ ∧ _))
theorem x_addc {tt t2 : TypeId} {x y : Operand} {i : TI} {a b : Int} (ht : tiOf P tt = some i) (h1 : ev N asg x = some (.u (.one (.int .i64 a)))) (h2 : ev N asg y = some (.u (.one (.int .i64 b)))) (hb : inI (a + b))
    (hK : K (St N ((t, .u (.one (.int .i64 (a + b)))) :: asg) oa nx)) : aopK Y pr ⟨some t, .binOp .add tt x y t2, ty, pos, aft, none⟩ (St N asg oa nx) K := x_addn ht h1 h2 hb hK
theorem x_subc {tt t2 : TypeId} {x y : Operand} {i : TI} {a b : Int} (ht : tiOf P tt = some i) (h1 : ev N asg x = some (.u (.one (.int .i64 a)))) (h2 : ev N asg y = some (.u (.one (.int .i64 b)))) (hb : inI (a - b))
    (hK : K (St N ((t, .u (.one (.int .i64 (a - b)))) :: asg) oa nx)) : aopK Y pr ⟨some t, .binOp .sub tt x y t2, ty, pos, aft, none⟩ (St N asg oa nx) K := by
  refine x_bin ht h1 h2 (z := .int .i64 (a - b)) ?_ hK
  show some (L.int .i64 (IntKind.i64.wrap (a - b))) = _
  rw [IntWalk.i64_in _ hb]
theorem x_quo {tt t2 : TypeId} {x y : Operand} {i : TI} {k : IntKind} {a b : Int} (ht : tiOf P tt = some i) (h1 : ev N asg x = some (.u (.one (.int k a)))) (h2 : ev N asg y = some (.u (.one (.int k b)))) (hb : b ≠ 0)
    (hK : K (St N ((t, .u (.one (.int k (k.wrap (a.tdiv b))))) :: asg) oa nx)) : aopK Y pr ⟨some t, .binOp .quo tt x y t2, ty, pos, aft, none⟩ (St N asg oa nx) K :=
  x_bin ht h1 h2 (z := .int k (k.wrap (a.tdiv b))) (by simp [binF, hb]) hK
theorem x_rem {tt t2 : TypeId} {x y : Operand} {i : TI} {k : IntKind} {a b : Int} (ht : tiOf P tt = some i) (h1 : ev N asg x = some (.u (.one (.int k a)))) (h2 : ev N asg y = some (.u (.one (.int k b)))) (hb : b ≠ 0)
    (hK : K (St N ((t, .u (.one (.int k (a.tmod b)))) :: asg) oa nx)) : aopK Y pr ⟨some t, .binOp .rem tt x y t2, ty, pos, aft, none⟩ (St N asg oa nx) K :=
  x_bin ht h1 h2 (z := .int k (a.tmod b)) (by simp [binF, hb]) hK
theorem x_shl {tt t2 : TypeId} {x y : Operand} {i : TI} {k k' : IntKind} {a b : Int} (ht : tiOf P tt = some i) (h1 : ev N asg x = some (.u (.one (.int k a)))) (h2 : ev N asg y = some (.u (.one (.int k' b)))) (hb : 0 ≤ b)
    (hK : K (St N ((t, .u (.one (.int k (k.wrap (a * 2 ^ min b.toNat k.bits))))) :: asg) oa nx)) : aopK Y pr ⟨some t, .binOp .shl tt x y t2, ty, pos, aft, none⟩ (St N asg oa nx) K :=
  x_bin ht h1 h2 (z := .int k (k.wrap (a * 2 ^ min b.toNat k.bits))) (by have : ¬ b < 0 := by omega
                                                                         simp [binF, this]) hK
theorem x_shr {tt t2 : TypeId} {x y : Operand} {i : TI} {k k' : IntKind} {a b : Int} (ht : tiOf P tt = some i) (h1 : ev N asg x = some (.u (.one (.int k a)))) (h2 : ev N asg y = some (.u (.one (.int k' b)))) (hb : 0 ≤ b)
    (hK : K (St N ((t, .u (.one (.int k (a / 2 ^ min b.toNat k.bits)))) :: asg) oa nx)) : aopK Y pr ⟨some t, .binOp .shr tt x y t2, ty, pos, aft, none⟩ (St N asg oa nx) K :=
  x_bin ht h1 h2 (z := .int k (a / 2 ^ min b.toNat k.bits)) (by have : ¬ b < 0 := by omega
                                                                simp [binF, this]) hK
def sat (s : List UInt8) (n : Int) : Int := ((s.getD n.toNat 0).toNat : Int)
theorem x_sx {tt : TypeId} {x y : Operand} {s : List UInt8} {k : IntKind} {n : Int} (ht : lnF P tt = some .str) (h1 : ev N asg x = some (.u (.one (.str (bts s))))) (h2 : ev N asg y = some (.u (.one (.int k n)))) (hb : 0 ≤ n ∧ n < (s.length : Int))
    (hK : K (St N ((t, .u (.one (.int .u8 (sat s n)))) :: asg) oa nx)) : aopK Y pr ⟨some t, .index tt x y, ty, pos, aft, none⟩ (St N asg oa nx) K := by
  obtain ⟨i, a1, a2⟩ := lnF_spec ht
  have hlt : n.toNat < s.length := by omega
  have hg : (bts s)[n.toNat]? = some (s.getD n.toNat 0) := by
    have : n.toNat < (bts s).size := by rw [bts_size]; exact hlt
    rw [getElem?_pos (bts s) n.toNat this]
    simp [bts, hlt, ByteArray.getElem_eq_getElem_data]
  exact aopK_r (v := one1 (.int .u8 (sat s n))) (rd := []) (hyp := True) (by simp only [opF, siF, a1, a2, Option.bind_some, lO_ev h1, lO_ev h2, if_pos hb.1, hg, sat]) rd0 (fun _ => by rw [St_pure]; exact hK)
-- what is made
theorem x_bx {tt : TypeId} {x : Operand} {u : U Unit} {n : Nat} {r : List (L Unit)} (h1 : ev N asg x = some (.u u)) (hn : noOsU u = true) (hr : leavesU u = r) (hl : r.length = n)
    (hK : K (St N ((t, .u (.one (.ptr () nx 0 0))) :: asg) ((nx, some ⟨(), n, [r]⟩) :: oa) (nx + 1))) : aopK Y 0 ⟨some t, .box tt x, ty, pos, aft, none⟩ (St N asg oa nx) K := by
  subst hr hl
  refine aopK_0 (e := { v := one1 (.ptr () nx 0 0), news := [⟨(), (leavesU u).length, [leavesU u]⟩] }) (by simp only [opF, bxF, uO_ev h1, hn, if_true]; rfl) (fun _ => ?_)
  show K (appE (St N asg oa nx) (some t) nx _)
  rw [St_new]; exact hK
theorem x_al {tt : TypeId} {i : TI} {n : Nat} {r : List (L Unit)} (ht : tiOf P tt = some i) (hr : i.zero.map zL = r) (hl : i.zero.length = n)
    (hK : K (St N ((t, .u (.one (.ptr () nx 0 0))) :: asg) ((nx, some ⟨(), n, [r]⟩) :: oa) (nx + 1))) : aopK Y 0 ⟨some t, .alloc tt, ty, pos, aft, none⟩ (St N asg oa nx) K := by
  subst hr hl
  refine aopK_0 (e := { v := one1 (.ptr () nx 0 0), news := [⟨(), i.zero.length, [i.zero.map zL]⟩] }) (by simp only [opF, alF, ht, Option.bind_some]; rfl) (fun _ => ?_)
  show K (appE (St N asg oa nx) (some t) nx _)
  rw [St_new]; exact hK
/-- A slice type's elements: size, bytes, what they are at first. -/
def elF (P : Program) (t : TypeId) : Option (Nat × Nat × List Z) := (tiOf P t).bind fun i => match i.kd with
  | .slice => (tiOf P i.elem).bind fun ie => if ie.zero.length = ie.size ∧ 0 < ie.size then some (ie.size, ie.bytes, ie.zero) else none
  | _ => none
theorem elF_spec {tt : TypeId} {m b : Nat} {z : List Z} (h : elF P tt = some (m, b, z)) : ∃ i ie, tiOf P tt = some i ∧ i.kd = .slice ∧ tiOf P i.elem = some ie ∧ ie.size = m ∧ ie.bytes = b ∧ ie.zero = z ∧ ie.zero.length = ie.size ∧ 0 < ie.size := by
  unfold elF at h
  obtain ⟨i, hi, h⟩ := bind_some h
  split at h
  · rename_i hk
    obtain ⟨ie, h1, h⟩ := bind_some h
    split at h
    · rename_i hc; cases h; exact ⟨i, ie, hi, hk, h1, rfl, rfl, rfl, hc.1, hc.2⟩
    · cases h
  · cases h
theorem x_bu {tt : TypeId} {ps : Array (Nat × Operand)} {i : TI} {us : List (Nat × U Unit)} {cells : List (L Unit)} (ht : tiOf P tt = some i) (hk : i.kd = .struct) (hp : partsE (ev N asg) ps.toList = some us) (hf : fillP (i.places[·]?) us (i.zero.map zL) = some cells)
    (hK : K (St N ((t, .u (.agg cells)) :: asg) oa nx)) : aopK Y pr ⟨some t, .build tt ps, ty, pos, aft, none⟩ (St N asg oa nx) K := by
  have hp' : ∀ {ps us}, partsE (ev N asg) ps = some us → partsE (evA (St N asg oa nx)) ps = some us := by
    intro ps
    induction ps with
    | nil => intro us h; exact h
    | cons p ps ih =>
      intro us h
      obtain ⟨j, x⟩ := p
      simp only [partsE] at h ⊢
      obtain ⟨u, hu, h⟩ := bind_some h
      have : uO (evA (St N asg oa nx) x) = some u := by
        unfold uO at hu
        split at hu
        · rename_i hx; cases hu; exact uO_ev hx
        · cases hu
      rw [this]
      simp only [Option.bind_some]
      split at h
      · rename_i hn
        rw [Option.map_eq_some_iff] at h
        obtain ⟨us', h1, h2⟩ := h
        rw [if_pos hn, ih h1, ← h2]; rfl
      · cases h
  exact aopK_r (v := .u (.agg cells)) (rd := []) (hyp := True) (by simp only [opF, buF, ht, Option.bind_some, hk, hp' hp, hf]) rd0 (fun _ => by rw [St_pure]; exact hK)
theorem partsE_ev {ps : List (Nat × Operand)} {us : List (Nat × U Unit)} : partsE (ev N asg) ps = some us → partsE (evA (St N asg oa nx)) ps = some us := by
  induction ps generalizing us with
  | nil => intro h; exact h
  | cons p ps ih =>
    intro h
    obtain ⟨j, x⟩ := p
    simp only [partsE] at h ⊢
    obtain ⟨u, hu, h⟩ := bind_some h
    have : uO (evA (St N asg oa nx) x) = some u := by
      unfold uO at hu
      split at hu
      · rename_i hx; cases hu; exact uO_ev hx
      · cases hu
    rw [this]
    simp only [Option.bind_some]
    split at h
    · rename_i hn
      rw [Option.map_eq_some_iff] at h
      obtain ⟨us', h1, h2⟩ := h
      rw [if_pos hn, ih h1, ← h2]; rfl
    · cases h
theorem x_bs {tt : TypeId} {len : Nat} {ps : Array (Nat × Operand)} {m b : Nat} {z : List Z} {us : List (Nat × U Unit)} {rows : List (List (L Unit))} (he : elF P tt = some (m, b, z)) (hl : Nat.ble (len * m) 16777216 = true) (hp : partsE (ev N asg) ps.toList = some us)
    (hf : fillR m us (List.replicate len (z.map zL)) = some rows)
    (hK : K (St N ((t, .u (.one (.ref () nx 0 len))) :: asg) ((nx, some ⟨(), m, rows⟩) :: oa) (nx + 1))) : aopK Y 0 ⟨some t, .buildSlice tt len ps, ty, pos, aft, none⟩ (St N asg oa nx) K := by
  obtain ⟨i, ie, a1, a2, a3, a4, a5, a6, a7, a8⟩ := elF_spec he
  subst a4 a5 a6
  refine aopK_0 (e := { v := one1 (.ref () nx 0 len), news := [⟨(), ie.size, rows⟩] }) (by
    simp only [opF, bsF, a1, a2, a3, Option.bind_some, if_pos (And.intro a7 (And.intro a8 (Nat.le_of_ble_eq_true hl))), partsE_ev hp, hf]; rfl) (fun _ => ?_)
  show K (appE (St N asg oa nx) (some t) nx _)
  rw [St_new]; exact hK
theorem x_bsm {α : Type} {enc : α → List (L Unit)} (xs : List α) {tt : TypeId} {len : Nat} {ps : Array (Nat × Operand)} {m b : Nat} {z : List Z} {us : List (Nat × U Unit)} (he : elF P tt = some (m, b, z)) (hl : Nat.ble (len * m) 16777216 = true) (hp : partsE (ev N asg) ps.toList = some us)
    (hf : fillR m us (List.replicate len (z.map zL)) = some (xs.map enc)) (hn : len = xs.length)
    (hK : K (St N ((t, .u (.one (.ref () nx 0 xs.length))) :: asg) ((nx, some ⟨(), m, xs.map enc⟩) :: oa) (nx + 1))) : aopK Y 0 ⟨some t, .buildSlice tt len ps, ty, pos, aft, none⟩ (St N asg oa nx) K := by
  subst hn
  exact x_bs he hl hp hf hK
theorem x_cvn {ts td : TypeId} {x : Operand} {i j : TI} {k' : IntKind} {n : Int} (ht : tiOf P ts = some i) (ht2 : tiOf P td = some j) (hk : j.kd = .int .i64) (h1 : ev N asg x = some (.u (.one (.int k' n)))) (hb : -9223372036854775808 ≤ n ∧ n ≤ 9223372036854775807)
    (hK : K (St N ((t, .u (.one (.int .i64 n))) :: asg) oa nx)) : aopK Y pr ⟨some t, .convert ts td x, ty, pos, aft, none⟩ (St N asg oa nx) K :=
  x_cvi ht ht2 hk h1 (by rw [IntWalk.i64_in _ hb]; exact hK)
theorem capsE_ev {xs : List Operand} {ls : List (L Unit)} : capsE (ev N asg) xs = some ls → capsE (evA (St N asg oa nx)) xs = some ls := by
  induction xs generalizing ls with
  | nil => intro h; exact h
  | cons x xs ih =>
    intro h
    simp only [capsE] at h ⊢
    obtain ⟨l, hl, h⟩ := bind_some h
    have : lO (evA (St N asg oa nx) x) = some l := by
      unfold lO at hl
      split at hl
      · rename_i hx; cases hl; exact lO_ev hx
      · cases hl
    rw [this]
    simp only [Option.bind_some]
    split at h
    · rename_i hn
      rw [Option.map_eq_some_iff] at h
      obtain ⟨ls', h1, h2⟩ := h
      rw [if_pos hn, ih h1, ← h2]; rfl
    · cases h
theorem x_mf {g : FuncId} {caps : Array Operand} {ls : List (L Unit)} (hc : capsE (ev N asg) caps.toList = some ls)
    (hK : K (St N ((t, .u (.one (.fn () g ls))) :: asg) oa nx)) : aopK Y pr ⟨some t, .makeFunc (.func g) #[] caps, ty, pos, aft, none⟩ (St N asg oa nx) K :=
  aopK_r (v := one1 (.fn () g ls)) (rd := []) (hyp := True) (by simp [opF, mfF, capsE_ev hc]) rd0 (fun _ => by rw [St_pure]; exact hK)
theorem x_ex {x : Operand} {n : Nat} {xs : List (U Unit)} {u : U Unit} (h1 : ev N asg x = some (.tup xs)) (hu : xs[n]? = some u) (hn : noOsU u = true)
    (hK : K (St N ((t, .u u) :: asg) oa nx)) : aopK Y pr ⟨some t, .extract x n, ty, pos, aft, none⟩ (St N asg oa nx) K :=
  aopK_r (v := .u u) (rd := []) (hyp := True) (by simp only [opF, exF, ev_ok h1, hu, Option.bind_some, hn, if_true]) rd0 (fun _ => by rw [St_pure]; exact hK)
-- append
theorem argR_ev {l : L Unit} {n : Nat} {q : List (List (L Unit)) × List Nat} (h : argR (lko oa nx) n (some l) = some q) : argR (look (St N asg oa nx).ob) n (some l) = some q := by
  unfold argR at h ⊢
  split at h
  · exact h
  · rename_i h1; cases h1; exact h
  · rename_i h1
    cases h1
    obtain ⟨o, ho, h⟩ := bind_some h
    simp only [lko_ok ho, Option.bind_some]
    exact h
  · cases h
theorem argR_b {α : Type} {enc : α → List (L Unit)} {xs : List α} {n : Nat} (lk : Lk) : argR lk n (some (.bs () n (xs.map enc))) = some (xs.map enc, []) := by simp [argR]
theorem argR_r {α : Type} {enc : α → List (L Unit)} {xs : List α} {n id : Nat} (ho : lko oa nx id = some ⟨(), n, xs.map enc⟩) : argR (lko oa nx) n (some (.ref () id 0 xs.length)) = some (xs.map enc, [id]) := by
  simp only [argR, ho, Option.bind_some, if_true, List.drop_zero]
  rw [List.take_of_length_le (by simp)]
def encN {α : Type} (enc : α → List (L Unit)) : Prop := ∀ x, (enc x).all noOs = true
theorem nosR_map {α : Type} {enc : α → List (L Unit)} (h : encN enc) (xs : List α) : nosR (xs.map enc) = true := by
  simp only [nosR, List.all_map, List.all_eq_true]
  exact fun x _ => by have := h x; simp only [List.all_eq_true] at this; simpa using this
theorem elF_ap {tt : TypeId} {m b : Nat} {z : List Z} (h : elF P tt = some (m, b, z)) : ∃ i ie, tiOf P tt = some i ∧ i.kd = .slice ∧ tiOf P i.elem = some ie ∧ ie.size = m ∧ ie.bytes = b ∧ ie.zero.length = ie.size := by
  obtain ⟨i, ie, a1, a2, a3, a4, a5, a6, a7, a8⟩ := elF_spec h
  exact ⟨i, ie, a1, a2, a3, a4, a5, a7⟩
theorem x_apr {α : Type} {enc : α → List (L Unit)} {xs ys : List α} {tt t2 : TypeId} {x y : Operand} {m b id : Nat} {z : List Z} {rd : List Nat} {l : L Unit} (he : elF P tt = some (m, b, z)) (ht2 : lnF P t2 = some .slice) (hN : encN enc)
    (h1 : ev N asg x = some (.u (.one (.ref () id 0 xs.length)))) (ho : lko oa nx id = some ⟨(), m, xs.map enc⟩) (h2 : ev N asg y = some (.u (.one l))) (hq : argR (lko oa nx) m (some l) = some (ys.map enc, rd))
    (hb : (xs.length + ys.length) * b ≤ 140737488355328 ∧ xs.length + ys.length ≤ LIM)
    (hK : K (St N ((t, .u (.one (.ref () nx 0 (xs ++ ys).length))) :: asg) ((nx, some ⟨(), m, (xs ++ ys).map enc⟩) :: (id, none) :: oa) (nx + 1))) :
    aopK Y 0 ⟨some t, .call ⟨.builtin .append, #[x, y], #[tt, t2]⟩, ty, pos, aft, none⟩ (St N asg oa nx) K := by
  obtain ⟨i, ie, a1, a2, a3, a4, a5, a6⟩ := elF_ap he
  obtain ⟨i2, c1, c2⟩ := lnF_spec ht2
  subst a4 a5
  refine aopK_0 (e := { v := one1 (.ref () nx 0 (xs.length + ys.length)), rd := id :: rd, news := [⟨(), ie.size, xs.map enc ++ ys.map enc⟩], del := [id] }) (by
    have e1 := argR_ev (N := N) (asg := asg) hq
    have e2 := argR_ev (N := N) (asg := asg) (argR_r ho)
    simp only [opF, lO_ev h1, lO_ev h2]
    simp [apF, a1, a2, a3, a6, c1, c2, e1, e2, nosR_map hN, hb]; rfl) (fun _ => ?_)
  show K (appE (St N asg oa nx) (some t) nx _)
  rw [St_del]
  simp only [List.length_append, List.map_append] at hK
  exact hK
theorem x_apn {α : Type} {enc : α → List (L Unit)} {ys : List α} {tt t2 : TypeId} {x y : Operand} {m b : Nat} {z : List Z} {rd : List Nat} {l : L Unit} (he : elF P tt = some (m, b, z)) (ht2 : lnF P t2 = some .slice) (hN : encN enc)
    (h1 : ev N asg x = some (.u (.one .nl))) (h2 : ev N asg y = some (.u (.one l))) (hq : argR (lko oa nx) m (some l) = some (ys.map enc, rd)) (hb : ys.length * b ≤ 140737488355328 ∧ ys.length ≤ LIM)
    (hK : K (St N ((t, .u (.one (.ref () nx 0 ys.length))) :: asg) ((nx, some ⟨(), m, ys.map enc⟩) :: oa) (nx + 1))) :
    aopK Y 0 ⟨some t, .call ⟨.builtin .append, #[x, y], #[tt, t2]⟩, ty, pos, aft, none⟩ (St N asg oa nx) K := by
  obtain ⟨i, ie, a1, a2, a3, a4, a5, a6⟩ := elF_ap he
  obtain ⟨i2, c1, c2⟩ := lnF_spec ht2
  subst a4 a5
  refine aopK_0 (e := { v := one1 (.ref () nx 0 ys.length), rd := rd, news := [⟨(), ie.size, ys.map enc⟩] }) (by
    have e1 := argR_ev (N := N) (asg := asg) hq
    simp only [opF, lO_ev h1, lO_ev h2]
    simp [apF, a1, a2, a3, a6, c1, c2, e1, nosR_map hN, hb]; rfl) (fun _ => ?_)
  show K (appE (St N asg oa nx) (some t) nx _)
  rw [St_new]; exact hK
end
end Go.Proofs.YtghdhjgoicnbcaaGreat.AM

namespace Go.Proofs.YtghdhjgoicnbcaaGreat.AM
open Go

section
variable {P : Program} {Y : Sys P} {B : Bd} {Q : Exit → S Unit → Prop} {s : S Unit}
theorem c_reg {id : Nat} {ops : List Oper} (h : awpOps Y ops ops s (Q .normal)) : Wp (P := P) B (.region id ops.toArray false) Q s := awp_sound (Y := Y) _ (by rw [awp_region]; exact h)
theorem c_skip (h : Q .normal s) : Wp (P := P) B .skip Q s := fun _ _ hr => wp_skip ⟨_, hr, h⟩
theorem c_ret (h : Q .ret s) : Wp (P := P) B .ret Q s := fun _ _ hr => wp_ret ⟨_, hr, h⟩
theorem c_exit {id : Nat} (h : Q (.exit id) s) : Wp (P := P) B (.exit id) Q s := fun _ _ hr => wp_exit ⟨_, hr, h⟩
theorem z_ {ops : List Oper} {K : S Unit → Prop} (h : K s) : awpOps Y ops [] s K := h
end
section
variable {P : Program} {Y : Sys P} {B : Bd} {Q : Exit → S Unit → Prop} {N nx : Nat} {asg : Asg} {oa : OAsg} {K : S Unit → Prop}
theorem St_get {t : Nat} {v : V Unit} (hN : Nat.blt t N = true) (h : lkp asg t = some v) : (St N asg oa nx).sl[t]? = some v := slots_lk (blt_lt hN) h
theorem stB_St (t : Nat) (b : Bool) : stB (St N asg oa nx) t b = St N ((t, .u (.one (.bool b))) :: asg) oa nx := St_setSl ..
variable {ops rest : List Oper} {op : Op} {ty : TypeId} {pos : String} {aft : Array Edge} {j t : Nat} {want : Bool}
theorem g_t {dst : Option Nat} (ht : dstOf ops j = some t) (hN : Nat.blt t N = true) (hv : lkp asg t = some (.u (.one (.bool want)))) (h : awpOps Y ops (⟨dst, op, ty, pos, aft, none⟩ :: rest) (St N asg oa nx) K) :
    awpOps Y ops (⟨dst, op, ty, pos, aft, some (j, want)⟩ :: rest) (St N asg oa nx) K := by
  refine ops_w ht ?_
  have hg := St_get (oa := oa) (nx := nx) hN hv
  rw [hg]
  cases want
  · rw [gdv_f]; exact ⟨fun h => (by cases h), fun _ => by rw [stB_self hg]; exact h⟩
  · rw [gdv_t]; exact ⟨fun _ => by rw [stB_self hg]; exact h, fun h => (by cases h)⟩
theorem g_f {d : Nat} (ht : dstOf ops j = some t) (hN : Nat.blt t N = true) (hv : lkp asg t = some (.u (.one (.bool (!want))))) (h : awpOps Y ops rest (St N ((d, .ud) :: asg) oa nx) K) :
    awpOps Y ops (⟨some d, op, ty, pos, aft, some (j, want)⟩ :: rest) (St N asg oa nx) K := by
  refine ops_w ht ?_
  have hg := St_get (oa := oa) (nx := nx) hN hv
  rw [hg]
  cases want
  · rw [gdv_f]; exact ⟨fun _ => by have := stB_self hg; simp only [Bool.not_false] at this; rw [this, St_setSl]; exact h, fun h => (by cases h)⟩
  · rw [gdv_t]; exact ⟨fun h => (by cases h), fun _ => by have := stB_self hg; simp only [Bool.not_true] at this; rw [this, St_setSl]; exact h⟩
theorem g_fn (ht : dstOf ops j = some t) (hN : Nat.blt t N = true) (hv : lkp asg t = some (.u (.one (.bool (!want))))) (h : awpOps Y ops rest (St N asg oa nx) K) :
    awpOps Y ops (⟨none, op, ty, pos, aft, some (j, want)⟩ :: rest) (St N asg oa nx) K := by
  refine ops_w ht ?_
  have hg := St_get (oa := oa) (nx := nx) hN hv
  rw [hg]
  cases want
  · rw [gdv_f]; exact ⟨fun _ => by have := stB_self hg; simp only [Bool.not_false] at this; rw [this]; exact h, fun h => (by cases h)⟩
  · rw [gdv_t]; exact ⟨fun h => (by cases h), fun _ => by have := stB_self hg; simp only [Bool.not_true] at this; rw [this]; exact h⟩
theorem g_u {d : Nat} (ht : dstOf ops j = some t) (hN : Nat.blt t N = true) (hv : lkp asg t = some .ud) (h : awpOps Y ops rest (St N ((d, .ud) :: asg) oa nx) K) :
    awpOps Y ops (⟨some d, op, ty, pos, aft, some (j, want)⟩ :: rest) (St N asg oa nx) K := by
  refine ops_w ht ?_
  rw [St_get (oa := oa) (nx := nx) hN hv, gdv_u, St_setSl]; exact h
theorem g_un (ht : dstOf ops j = some t) (hN : Nat.blt t N = true) (hv : lkp asg t = some .ud) (h : awpOps Y ops rest (St N asg oa nx) K) :
    awpOps Y ops (⟨none, op, ty, pos, aft, some (j, want)⟩ :: rest) (St N asg oa nx) K := by
  refine ops_w ht ?_
  rw [St_get (oa := oa) (nx := nx) hN hv, gdv_u]; exact h
theorem c_s {b : Bool} {x y : Code} (hN : Nat.blt t N = true) (hv : lkp asg t = some (.u (.one (.bool b)))) (h1 : b = true → Wp (P := P) B x Q (St N ((t, .u (.one (.bool true))) :: asg) oa nx))
    (h2 : b = false → Wp (P := P) B y Q (St N ((t, .u (.one (.bool false))) :: asg) oa nx)) : Wp (P := P) B (.cond (.tmp t) x y) Q (St N asg oa nx) := by
  intro a W hr
  have hr' := hr
  obtain ⟨d, he, hi, hs, hdef, hk⟩ := hr'
  have hb : (erS d).sl[t]? = some (.u (.one (.bool b))) := by rw [he]; exact St_get hN hv
  have hv2 := slot_bool hs hb
  have he2 : a.eval (.tmp t) = .bool b := by simp [Act.eval, hv2]
  have key : ∀ c : Bool, b = c → St N ((t, .u (.one (.bool c))) :: asg) oa nx = St N asg oa nx := fun c hc => by
    subst hc
    rw [← stB_St]
    exact stB_self (St_get hN hv)
  refine wp_cond_split he2 (fun hb' => ?_) (fun hb' => ?_)
  · have := h1 hb'; rw [key _ hb'] at this; exact this a W hr
  · have := h2 hb'; rw [key _ hb'] at this; exact this a W hr
theorem c_t {x y : Code} (hN : Nat.blt t N = true) (hv : lkp asg t = some (.u (.one (.bool true)))) (h1 : Wp (P := P) B x Q (St N asg oa nx)) : Wp (P := P) B (.cond (.tmp t) x y) Q (St N asg oa nx) := by
  have hg := stB_self (St_get (oa := oa) (nx := nx) hN hv)
  rw [stB_St] at hg
  exact c_s hN hv (fun _ => by rw [hg]; exact h1) (fun h => by cases h)
theorem c_f {x y : Code} (hN : Nat.blt t N = true) (hv : lkp asg t = some (.u (.one (.bool false)))) (h1 : Wp (P := P) B y Q (St N asg oa nx)) : Wp (P := P) B (.cond (.tmp t) x y) Q (St N asg oa nx) := by
  have hg := stB_self (St_get (oa := oa) (nx := nx) hN hv)
  rw [stB_St] at hg
  exact c_s hN hv (fun h => by cases h) (fun _ => by rw [hg]; exact h1)
end

-- what an operation's effect hangs on
section
variable {P : Program}
theorem partsE_ops {ρ ρ' : Env} : ∀ {ps : List (Nat × Operand)}, (∀ x ∈ ps.map (·.2), ρ' x = ρ x) → partsE ρ' ps = partsE ρ ps
  | [], _ => rfl
  | (i, x) :: ps, h => by
    simp only [partsE, h x (by simp), partsE_ops (ps := ps) fun y hy => h y (by simp at hy ⊢; exact .inr hy)]
theorem capsE_ops {ρ ρ' : Env} : ∀ {xs : List Operand}, (∀ x ∈ xs, ρ' x = ρ x) → capsE ρ' xs = capsE ρ xs
  | [], _ => rfl
  | x :: xs, h => by
    simp only [capsE, h x (by simp), capsE_ops (xs := xs) fun y hy => h y (by simp [hy])]
theorem bdE_ops {ρ ρ' : Env} {x : Option Operand} {k : Nat} (h : ∀ y ∈ x, ρ' y = ρ y) : bdE ρ' x k = bdE ρ x k := by
  cases x with
  | none => rfl
  | some y => simp only [bdE, h y (by simp)]
/-- An effect hangs on the operands. -/
theorem opF_ops {op : Op} {ρ ρ' : Env} {lk : Lk} {nid : Nat} (hρ : ∀ x ∈ op.operands, ρ' x = ρ x) : opF P op ρ' lk nid = opF P op ρ lk nid := by
  cases op <;> simp only [Op.operands] at hρ <;> simp only [opF]
  case build t ps => simp only [buF, partsE_ops (ps := ps.toList) fun x hx => hρ x (by simpa using hx)]
  case buildSlice t l ps => simp only [bsF, partsE_ops (ps := ps.toList) fun x hx => hρ x (by simpa using hx)]
  case makeFunc f a c =>
    unfold mfF
    split
    · rw [capsE_ops (xs := c.toList) fun x hx => hρ x (by simp at hx ⊢; exact .inr hx)]
    · rfl
  case slice t x lo hi mx =>
    cases mx with
    | none => simp only [slF, hρ x (by simp), bdE_ops (ρ := ρ) (ρ' := ρ') (x := lo) fun y hy => hρ y (by simp at hy; simp [hy]), bdE_ops (ρ := ρ) (ρ' := ρ') (x := hi) fun y hy => hρ y (by simp at hy; simp [hy])]
    | some m => rfl
  case call c =>
    obtain ⟨callee, args, tys⟩ := c
    obtain ⟨args⟩ := args
    cases callee with
    | value f => rfl
    | invoke r m => rfl
    | builtin b =>
      have : ∀ x ∈ args, ρ' x = ρ x := fun x hx => hρ x (by simp [Call.operands, hx])
      cases b <;> simp only
      all_goals first
        | rfl
        | (match args, this with
           | [], _ => rfl
           | [x], this => simp only [this x (by simp)]
           | [x, y], this => simp only [this x (by simp), this y (by simp)]
           | x :: y :: z :: l, _ => rfl)
  all_goals first
    | rfl
    | (simp at hρ; simp [pickF, unE, biE, cvE, mvF, hρ]; done)
/-- An effect that only sets a slot hangs on the operands, and on the objects that it asks. -/
theorem opF_loc {op : Op} {ρ : Env} {lk lk' : Lk} {nid nid' : Nat} {v : V Unit} {rd : List Nat} {hyp : Prop}
    (h : opF P op ρ lk nid = some ⟨v, rd, [], [], [], hyp⟩) (hlk : ∀ id ∈ rd, lk' id = lk id) : opF P op ρ lk' nid' = some ⟨v, rd, [], [], [], hyp⟩ := by
  have bindE : ∀ {α : Type} {x : Option α} {f g : α → Option Eff}, x.bind f = some ⟨v, rd, [], [], [], hyp⟩ → (∀ a, x = some a → f a = some ⟨v, rd, [], [], [], hyp⟩ → g a = some ⟨v, rd, [], [], [], hyp⟩) → x.bind g = some ⟨v, rd, [], [], [], hyp⟩ := by
    intro α x f g h1 h2
    obtain ⟨a, ha, h1⟩ := bind_some h1
    rw [ha, Option.bind_some]
    exact h2 a ha h1
  have key : ∀ {id : Nat} {f : Ob Unit → Option Eff}, (lk id).bind f = some ⟨v, rd, [], [], [], hyp⟩ → id ∈ rd → (lk' id).bind f = some ⟨v, rd, [], [], [], hyp⟩ := by
    intro id f h1 h2
    rw [hlk id h2]; exact h1
  cases op <;> simp only [opF] at h ⊢ <;> try exact h
  case alloc t =>
    obtain ⟨i, _, h⟩ := bind_some h
    cases h
  case box t x =>
    unfold bxF at h
    split at h
    · split at h <;> cases h
    · cases h
  case buildSlice t l ps =>
    unfold bsF at h
    obtain ⟨i, _, h⟩ := bind_some h
    split at h
    · obtain ⟨ie, _, h⟩ := bind_some h
      split at h
      · obtain ⟨us, _, h⟩ := bind_some h
        obtain ⟨rows, _, h⟩ := bind_some h
        cases h
      · cases h
    · cases h
  case load t x =>
    unfold ldF at h ⊢
    refine bindE h fun i _ h => ?_
    split at h
    · refine key h ?_
      obtain ⟨o, _, h⟩ := bind_some h
      obtain ⟨r, _, h⟩ := bind_some h
      obtain ⟨u, _, h⟩ := bind_some h
      split at h
      · injection h with h; injection h with _ h2; rw [← h2]; exact List.mem_singleton.2 rfl
      · cases h
    · exact h
    · cases h
  case store t x y =>
    unfold stF at h
    obtain ⟨i, _, h⟩ := bind_some h
    split at h
    · obtain ⟨o, _, h⟩ := bind_some h
      obtain ⟨r, _, h⟩ := bind_some h
      split at h
      · split at h
        · split at h <;> cases h
        · cases h
      · cases h
    · cases h
  case nilCheck x =>
    split at h
    · refine key h ?_
      obtain ⟨o, _, h⟩ := bind_some h
      injection h with h; injection h with _ h2; rw [← h2]; exact List.mem_singleton.2 rfl
    · exact h
    · cases h
  case makeSlice t x y =>
    unfold mkF at h
    obtain ⟨i, _, h⟩ := bind_some h
    split at h
    · obtain ⟨ie, _, h⟩ := bind_some h
      split at h
      · split at h
        · split at h <;> cases h
        · cases h
      · cases h
    · cases h
  case slice t x lo hi mx =>
    cases mx with
    | some m => exact h
    | none =>
      simp only [slF] at h ⊢
      refine bindE h fun i _ h => ?_
      split at h
      · exact h
      · refine bindE h fun ie _ h => ?_
        split at h
        · exact h
        · refine key h ?_
          obtain ⟨o, _, h⟩ := bind_some h
          obtain ⟨l, _, h⟩ := bind_some h
          obtain ⟨u, _, h⟩ := bind_some h
          split at h
          · split at h
            · injection h with h; injection h with _ h2; rw [← h2]; exact List.mem_singleton.2 rfl
            · cases h
          · cases h
        · cases h
      · cases h
  case fieldAddr t x f =>
    unfold faF at h ⊢
    refine bindE h fun i _ h => ?_
    split at h
    · refine bindE h fun p _ h => ?_
      refine bindE h fun k _ h => ?_
      split at h
      · cases h
      · rename_i hs
        rw [if_neg hs]
        split at h
        · refine key h ?_
          obtain ⟨o, _, h⟩ := bind_some h
          injection h with h; injection h with _ h2; rw [← h2]; exact List.mem_singleton.2 rfl
        · exact h
        · cases h
    · cases h
  case indexAddr t x y =>
    unfold ixF at h ⊢
    refine bindE h fun i _ h => ?_
    split at h
    · refine bindE h fun ie _ h => ?_
      split at h
      · split at h
        · exact h
        · refine key h ?_
          obtain ⟨o, _, h⟩ := bind_some h
          split at h
          · split at h
            · injection h with h; injection h with _ h2; rw [← h2]; exact List.mem_singleton.2 rfl
            · cases h
          · cases h
        · cases h
      · cases h
    · cases h
  case call c =>
    split at h
    · split at h
      · unfold lenF at h ⊢
        split at h
        · refine bindE h fun i _ h => ?_
          split at h
          · exact h
          · exact h
          · exact h
          · refine key h ?_
            obtain ⟨o, _, h⟩ := bind_some h
            injection h with h; injection h with _ h2; rw [← h2]; exact List.mem_singleton.2 rfl
          · cases h
        · cases h
      · cases h
    · exact h
    · exact h
    · split at h
      · unfold apF at h
        split at h
        · obtain ⟨i, _, h⟩ := bind_some h
          obtain ⟨i2, _, h⟩ := bind_some h
          split at h
          · obtain ⟨ie, _, h⟩ := bind_some h
            split at h
            · split at h
              · obtain ⟨q, _, h⟩ := bind_some h
                split at h
                · split at h <;> cases h
                · cases h
              · obtain ⟨p, _, h⟩ := bind_some h
                obtain ⟨q, _, h⟩ := bind_some h
                split at h
                · split at h <;> cases h
                · cases h
              · cases h
            · cases h
          · cases h
        · cases h
      · cases h
    · cases h
end
end Go.Proofs.YtghdhjgoicnbcaaGreat.AM

namespace Go.Proofs.YtghdhjgoicnbcaaGreat.AM
open Go

section
variable {P : Program}
/-- A system whose effects hang on what is looked at alone. -/
structure LocY (Y : Sys P) : Prop where
  op : ∀ {o : Oper} {s s' : S Unit} {nid : Nat} {e : Eff}, Y.E o s nid e → (∀ x ∈ o.op.operands, evA s' x = evA s x) → s'.ob = s.ob → Y.E o s' nid e
variable (Y : Sys P)
def guardB (ops : List Oper) (o : Oper) (s : S Unit) : Option Bool := match o.guard with
  | none => some true
  | some (j, want) => match dstOf ops j with
    | none => none
    | some t => match s.sl[t]? with
      | some (.u (.one (.bool b))) => some (b == want)
      | some .ud => some false
      | _ => none
def d1 (ops : List Oper) (o : Oper) (s : S Unit) (K : S Unit → Prop) : Prop := match guardB ops o s with
  | some true => ∃ e, Y.E o s s.nx e ∧ (e.hyp → K (appE s o.dst s.nx e))
  | some false => K (setSl s o.dst .ud)
  | none => False
def aAny (ops : List Oper) : Nat → Array Bool → S Unit → (S Unit → Prop) → Prop
  | 0, L, s, K => Region.ready .any ops.toArray L = [] ∧ K s
  | fuel + 1, L, s, K => (Region.ready .any ops.toArray L = [] → K s) ∧
      ∀ i ∈ Region.ready .any ops.toArray L, ∀ o, ops[i]? = some o → d1 Y ops o s (fun s' => aAny ops fuel (L.setIfInBounds i true) s' K)
variable {Y}
theorem guardB_wanted {ops : List Oper} {o : Oper} {d : S Value} {a : Act} (hs : SlR d a) {b : Bool} (h : guardB ops o (erS d) = some b) : Region.wanted o (yielded ops.toArray a.tmps) = b := by
  unfold guardB at h
  split at h
  · rename_i hg
    cases h
    exact wanted_none hg
  · rename_i j want hg
    split at h
    · cases h
    · rename_i t ht
      have ht' : ((ops.toArray)[j]?).bind (·.dst) = some t := by rw [List.getElem?_toArray]; exact ht
      split at h
      · rename_i b' hb
        cases h
        exact wanted_bool hg ht' (slot_bool hs hb)
      · rename_i hb
        cases h
        exact wanted_ud hg ht' (slot_ud hs hb)
      · cases h
theorem d1_sound {ops : List Oper} {o : Oper} {i : Nat} {s : S Unit} {a : Act} {W : World} {B : Bd} {K' : S Unit → Prop} {Kc : Act → World → Prop} {Q : Exit → Act → World → Prop} (hi : ops[i]? = some o) (h : d1 Y ops o s K') (hr : Rel B s a W)
    (hK : ∀ s a W, K' s → Rel B s a W → Kc a W) : wpOp P ops.toArray Q i Kc a W := by
  unfold wpOp
  rw [List.getElem?_toArray, hi]
  simp only
  unfold d1 at h
  split at h
  · rename_i hg
    have hr' := hr
    obtain ⟨d, rfl, hi', hs, _⟩ := hr'
    rw [guardB_wanted hs hg, if_pos rfl]
    obtain ⟨e, he, hK'⟩ := h
    obtain ⟨h1, h2⟩ := hr.step (Y.ok he)
    exact .inl (wp_any_post (Oper.wp_mono (fun a' W' hr' => hK _ a' W' (hK' h1) hr') h2))
  · rename_i hg
    have hr' := hr
    obtain ⟨d, rfl, hi', hs, _⟩ := hr'
    rw [guardB_wanted hs hg, if_neg (by simp)]
    exact hK _ _ _ h (hr.skip o.dst)
  · cases h
theorem aAny_sound {ops : List Oper} {B : Bd} {K : S Unit → Prop} {Q : Exit → Act → World → Prop} (hK : ∀ s a W, K s → Rel B s a W → Q .normal a W) : ∀ (fuel : Nat) (L : Array Bool) (s : S Unit) (a : Act) (W : World), aAny Y ops fuel L s K → Rel B s a W →
    wpAny P .any ops.toArray Q fuel L a W
  | 0, L, s, a, W, h, hr => ⟨h.1, hK s a W h.2 hr⟩
  | fuel + 1, L, s, a, W, h, hr => by
    refine ⟨fun h0 => hK s a W (h.1 h0) hr, fun i hi => ?_⟩
    obtain ⟨_, o, ho, _⟩ := mem_ready.1 hi
    rw [List.getElem?_toArray] at ho
    exact d1_sound ho (h.2 i hi o ho) hr fun s a W h hr => aAny_sound hK fuel _ s a W h hr
theorem Rel.keeps {B : Bd} {s : S Unit} {a : Act} {W W' : World} (h : Rel B s a W) (hk : Keeps W W') : Rel B s a W' := by
  obtain ⟨d, e, hi, h2⟩ := h
  exact ⟨d, e, hi.put hk none (v := .ud) rfl (by simp [leavesV]) (by simp [leavesV]), h2⟩
theorem c_drw {B : Bd} {id : Nat} {ops : List Oper} {Q : Exit → S Unit → Prop} {s : S Unit} (hm : P.follows .mixedOrders = true) (h : aAny Y ops ops.length (Array.replicate ops.length false) s (Q .normal)) : Wp (P := P) B (.region id ops.toArray true) Q s := by
  intro a W hr
  refine wp_region_any hm ?_
  have := aAny_sound (Y := Y) (B := B) (K := Q .normal) (Q := fun e a' W' => ∃ s', Rel B s' a' W' ∧ Q e s') (fun s a W h hr => ⟨s, hr, h⟩) ops.length (Array.replicate ops.length false) s a { W with drawn := W.drawn + 1 } h (hr.keeps (keeps_of_heap rfl))
  simpa using this

-- an operation that only sets a slot may be taken first
theorem evA_set {s : S Unit} {dst : Option Nat} {v : V Unit} {x : Operand} (h : ∀ d, dst = some d → x ≠ .tmp d) : evA (setSl s dst v) x = evA s x := by
  cases dst with
  | none => rfl
  | some d =>
    cases x with
    | tmp t =>
      have hne : d ≠ t := fun e => h d rfl (e ▸ rfl)
      simp only [evV, setSl, List.getElem?_set, if_neg hne]
    | _ => rfl
theorem looks_op {ops : List Oper} {o : Oper} {d : Nat} (h : d ∉ o.looksAt ops.toArray) : ∀ x ∈ o.op.operands, x ≠ .tmp d := fun x hx e => by
  subst e
  exact h (List.mem_append_left _ (List.mem_filterMap.2 ⟨.tmp d, by simpa using hx, rfl⟩))
theorem guardB_set {ops : List Oper} {o : Oper} {s : S Unit} {dst : Option Nat} {v : V Unit} (h : ∀ d, dst = some d → d ∉ o.looksAt ops.toArray) : guardB ops o (setSl s dst v) = guardB ops o s := by
  cases dst with
  | none => rfl
  | some d =>
    unfold guardB
    cases hg : o.guard with
    | none => rfl
    | some gw =>
      obtain ⟨j, want⟩ := gw
      simp only
      cases ht : dstOf ops j with
      | none => rfl
      | some t =>
        have hne : d ≠ t := fun e => h d rfl (by
          subst e
          have ht' : ((ops.toArray)[j]?).bind (·.dst) = some d := by rw [List.getElem?_toArray]; exact ht
          refine List.mem_append_right _ ?_
          simp only [hg, ht', Option.toList_some, List.mem_singleton])
        simp only [setSl, List.getElem?_set, if_neg hne]
theorem setSl_comm {δ : Type} (s : S δ) {x y : Option Nat} (v u : V δ) (h : ∀ d, x = some d → y ≠ some d) : setSl (setSl s x v) y u = setSl (setSl s y u) x v := by
  cases x with
  | none => rfl
  | some d =>
    cases y with
    | none => rfl
    | some e =>
      have hne : d ≠ e := fun he => h d rfl (he ▸ rfl)
      simp only [setSl, List.set_comm _ _ hne]
theorem appE_set (s : S Unit) {x y : Option Nat} (v : V Unit) (nid : Nat) (e : Eff) (h : ∀ d, x = some d → y ≠ some d) : appE (setSl s x v) y nid e = setSl (appE s y nid e) x v := by
  unfold appE app
  rw [← setSl_comm _ _ _ h]
  cases x <;> rfl
/-- What a plain operation makes, or that it is passed over. -/
def PY (ops : List Oper) (o : Oper) (s : S Unit) (v : V Unit) (rd : List Nat) : Prop :=
  (guardB ops o s = some true ∧ (∀ id ∈ rd, look s.ob id ≠ none) ∧ ∃ hyp, opF P o.op (evA s) (look s.ob) s.nx = some ⟨v, rd, [], [], [], hyp⟩) ∨ (guardB ops o s = some false ∧ v = .ud ∧ rd = [])
theorem look_news {ob : List (Nat × Ob Unit)} {news : List (Ob Unit)} {nid id : Nat} (h : look ob id ≠ none) : look (ob ++ (news.zipIdx nid).map (fun q => (q.2, q.1))) id = look ob id := by
  unfold look at h ⊢
  rw [List.find?_append]
  cases hf : ob.find? (fun p => p.1 == id) with
  | none => rw [hf] at h; exact absurd rfl h
  | some p => rfl
theorem quiet_ob {s : S Unit} {dst : Option Nat} {nid : Nat} {e : Eff} (hu : e.upd = []) (hd : e.del = []) {id : Nat} (h : look s.ob id ≠ none) : look (appE s dst nid e).ob id = look s.ob id := by
  unfold appE
  rw [hu, hd, app_many, setSl_ob]
  exact look_news h
theorem aAny_take [PlainY Y] (hY : LocY Y) {ops : List Oper} {i : Nat} {o : Oper} {v : V Unit} {rd : List Nat} {K : S Unit → Prop} (hi : ops[i]? = some o) : ∀ (fuel : Nat) (L : Array Bool) (s : S Unit),
    (∀ j oj, ops[j]? = some oj → j ≠ i → L.getD j true = false → (∀ e ∈ oj.after, Region.binds .any e = true → e.on ≠ i) → o.apart ops.toArray oj = true ∧ (rd = [] ∨ ∀ s nid e, Y.E oj s nid e → e.upd = [] ∧ e.del = [])) →
    i ∈ Region.ready .any ops.toArray L → PY (P := P) ops o s v rd → aAny Y ops fuel (L.setIfInBounds i true) (setSl s o.dst v) K → aAny Y ops (fuel + 1) L s K := by
  have self : ∀ (fuel : Nat) (L : Array Bool) (s : S Unit), PY (P := P) ops o s v rd → aAny Y ops fuel (L.setIfInBounds i true) (setSl s o.dst v) K → d1 Y ops o s (fun s' => aAny Y ops fuel (L.setIfInBounds i true) s' K) := by
    intro fuel L s hy H
    unfold d1
    rcases hy with ⟨hg, _, hyp, he⟩ | ⟨hg, hv, _⟩
    · rw [hg]
      refine ⟨_, PlainY.h he, fun _ => ?_⟩
      have : appE s o.dst s.nx ⟨v, rd, [], [], [], hyp⟩ = setSl s o.dst v := by
        unfold appE
        rw [app_many]
        simp
      rw [this]
      exact H
    · rw [hg]
      subst hv
      exact H
  intro fuel
  induction fuel with
  | zero =>
    intro L s _ hr hy H
    refine ⟨fun h => (by rw [h] at hr; cases hr), fun j hj oj hoj => ?_⟩
    by_cases hji : j = i
    · subst hji
      rw [hi] at hoj
      cases hoj
      exact self 0 L s hy H
    · have := ready_mono hj hji
      rw [H.1] at this
      cases this
  | succ fuel ih =>
    intro L s hfree hr hy H
    refine ⟨fun h => (by rw [h] at hr; cases hr), fun j hj oj hoj => ?_⟩
    by_cases hji : j = i
    · subst hji
      rw [hi] at hoj
      cases hoj
      exact self _ L s hy H
    · have h1 := H.2 j (ready_mono hj hji) oj hoj
      obtain ⟨hjun, oj', hoj', hall⟩ := mem_ready.1 hj
      rw [List.getElem?_toArray, hoj] at hoj'
      cases hoj'
      have hnot : ∀ e ∈ oj.after, Region.binds .any e = true → e.on ≠ i := fun e he hb heq => by
        have h1 := hall e he hb
        have h0 := (mem_ready.1 hr).1
        rw [heq] at h1
        rcases Nat.lt_or_ge i L.size with h' | h'
        · simp [h'] at h0 h1; rw [h0] at h1; cases h1
        · simp [Array.getElem?_eq_none h'] at h1
      obtain ⟨hap, hq⟩ := hfree j oj hoj hji hjun hnot
      obtain ⟨a1, a2, a3⟩ := Oper.apart_spec hap
      have hfree' : ∀ k ok, ops[k]? = some ok → k ≠ i → (L.setIfInBounds j true).getD k true = false → (∀ e ∈ ok.after, Region.binds .any e = true → e.on ≠ i) → o.apart ops.toArray ok = true ∧ (rd = [] ∨ ∀ s nid e, Y.E ok s nid e → e.upd = [] ∧ e.del = []) :=
        fun k ok hk hki hun hno => by
          refine hfree k ok hk hki ?_ hno
          by_cases hjk : j = k
          · subst hjk; exact hjun
          · rw [getD_set_ne true hjk] at hun; exact hun
      unfold d1 at h1 ⊢
      rw [guardB_set a1] at h1
      -- what stays of the operation's own
      have stay : ∀ s', (∀ x ∈ o.op.operands, evA s' x = evA s x) → guardB ops o s' = guardB ops o s → (∀ id ∈ rd, look s'.ob id = look s.ob id) → PY (P := P) ops o s' v rd := by
        intro s' e1 e2 e3
        rcases hy with ⟨hg, hpr, hyp, he⟩ | ⟨hg, hv, hrd0⟩
        · refine .inl ⟨e2.trans hg, fun id hid => by rw [e3 id hid]; exact hpr id hid, hyp, ?_⟩
          rw [opF_ops e1]
          exact opF_loc he e3
        · exact .inr ⟨e2.trans hg, hv, hrd0⟩
      have hne : ∀ id ∈ rd, look s.ob id ≠ none := fun id hid => by
        rcases hy with ⟨_, hpr, _⟩ | ⟨_, _, h0⟩
        · exact hpr id hid
        · rw [h0] at hid; cases hid
      split at h1
      · rename_i hg
        obtain ⟨e, he, hK⟩ := h1
        have hnx : (setSl s o.dst v).nx = s.nx := setSl_nx _ _ _
        rw [hnx] at he hK
        have he' : Y.E oj s s.nx e := hY.op he (fun x hx => (evA_set fun d hd hxd => looks_op (a1 d hd) x hx hxd).symm) (setSl_ob _ _ _).symm
        refine ⟨e, he', fun hh => ?_⟩
        replace hK := hK hh
        rw [appE_set s v _ e (fun d hd => a2 d hd)] at hK
        rw [Array.setIfInBounds_comm _ _ (Ne.symm hji)] at hK
        have e1 : ∀ s0 : S Unit, appE s0 oj.dst s0.nx e = setSl { appE s0 none s0.nx e with sl := s0.sl } oj.dst e.v := fun s0 => by unfold appE app; rfl
        have e2 : ∀ x ∈ o.op.operands, evA (appE s oj.dst s.nx e) x = evA s x := fun x hx => by
          rw [e1, evA_set fun d hd hxd => looks_op (a3 d hd) x hx hxd]
        have e3 : guardB ops o (appE s oj.dst s.nx e) = guardB ops o s := by
          rw [e1, guardB_set a3]
          rfl
        refine ih (L.setIfInBounds j true) _ hfree' (ready_mono hr (Ne.symm hji)) (stay _ e2 e3 fun id hid => ?_) hK
        rcases hq with h0 | hq
        · rw [h0] at hid; cases hid
        · obtain ⟨hu, hd⟩ := hq _ _ _ he'
          exact quiet_ob hu hd (hne id hid)
      · rename_i hg
        rw [setSl_comm _ _ _ (fun d hd => a2 d hd), Array.setIfInBounds_comm _ _ (Ne.symm hji)] at h1
        refine ih (L.setIfInBounds j true) _ hfree' (ready_mono hr (Ne.symm hji)) (stay _ (fun x hx => evA_set fun d hd hxd => looks_op (a3 d hd) x hx hxd) (guardB_set a3) fun id _ => by rw [setSl_ob]) h1
      · cases h1

-- what the operations ask, and what they leave alone
/-- Operations that leave all objects as they are. -/
def quietB : Op → Bool
  | .store _ _ _ => false
  | .call c => match c.callee with
    | .builtin .append => false
    | _ => true
  | _ => true
def QE (x : Option Eff) : Prop := ∀ e, x = some e → e.upd = [] ∧ e.del = []
theorem QE.none : QE none := fun _ h => by cases h
theorem QE.mk {v : V Unit} {rd : List Nat} {news : List (Ob Unit)} {hyp : Prop} : QE (some ⟨v, rd, news, [], [], hyp⟩) := fun _ h => by cases h; exact ⟨rfl, rfl⟩
theorem QE.bind {α : Type} {x : Option α} {f : α → Option Eff} (h : ∀ a, QE (f a)) : QE (x.bind f) := fun e he => by
  obtain ⟨a, _, h2⟩ := bind_some he
  exact h a e h2
theorem QE.map {α : Type} {x : Option α} {f : α → Eff} (h : ∀ a, QE (some (f a))) : QE (x.map f) := fun e he => by
  rw [Option.map_eq_some_iff] at he
  obtain ⟨a, _, h2⟩ := he
  exact h a e (by rw [h2])
theorem QE.ite {c : Prop} [Decidable c] {x y : Option Eff} (h1 : QE x) (h2 : QE y) : QE (if c then x else y) := by split <;> assumption
theorem opF_quiet {op : Op} {ρ : Env} {lk : Lk} {nid : Nat} (hq : quietB op = true) : QE (opF P op ρ lk nid) := by
  have mv : ∀ x, QE (mvF x) := fun x => by unfold mvF; split <;> first | exact QE.none | exact QE.ite QE.mk QE.none
  cases op <;> simp only [opF]
  case store => cases hq
  case call c =>
    split
    · split
      · unfold lenF
        split
        · refine QE.bind fun _ => ?_
          split <;> first | exact QE.none | exact QE.mk | exact QE.bind fun _ => QE.mk
        · exact QE.none
      · exact QE.none
    · split
      · unfold mmF; split <;> first | exact QE.none | exact QE.mk
      · exact QE.none
    · split
      · unfold mmF; split <;> first | exact QE.none | exact QE.mk
      · exact QE.none
    · rename_i hc
      simp only [quietB, hc] at hq
      cases hq
    · exact QE.none
  case move => exact mv _
  case assign => exact mv _
  case pick => unfold pickF; split <;> first | exact mv _ | exact QE.none
  case alloc => exact QE.bind fun _ => QE.mk
  case box => unfold bxF; split <;> first | exact QE.ite QE.mk QE.none | exact QE.none
  case build => refine QE.bind fun _ => ?_; split <;> first | exact QE.none | exact QE.bind fun _ => QE.bind fun _ => QE.mk
  case buildSlice => refine QE.bind fun _ => ?_; split <;> first | exact QE.none | exact QE.bind fun _ => QE.ite (QE.bind fun _ => QE.bind fun _ => QE.mk) QE.none
  case load => refine QE.bind fun _ => ?_; split <;> first | exact QE.none | exact QE.bind fun _ => QE.bind fun _ => QE.bind fun _ => QE.ite QE.mk QE.none | exact QE.bind fun _ => QE.ite QE.mk QE.none
  case nilCheck => split <;> first | exact QE.none | exact QE.mk | exact QE.bind fun _ => QE.mk
  case binOp => unfold biE; split <;> first | exact QE.none | exact QE.map fun _ => QE.mk
  case unOp => unfold unE; split <;> first | exact QE.none | exact QE.map fun _ => QE.mk
  case convert => unfold cvE; split <;> first | exact QE.none | (split <;> first | exact QE.none | exact QE.mk)
  case makeFunc => unfold mfF; split <;> first | exact QE.none | exact QE.ite (QE.map fun _ => QE.mk) QE.none
  case makeSlice =>
    refine QE.bind fun _ => ?_
    split
    · refine QE.bind fun _ => ?_
      split
      · exact QE.ite (QE.ite QE.mk QE.none) QE.none
      · exact QE.none
    · exact QE.none
  case slice t x lo hi mx =>
    cases mx with
    | some m => exact QE.none
    | none =>
      simp only [slF]
      refine QE.bind fun _ => ?_
      split
      · split
        · exact QE.bind fun _ => QE.bind fun _ => QE.ite QE.mk QE.none
        · exact QE.none
      · refine QE.bind fun _ => ?_
        split
        · exact QE.bind fun _ => QE.bind fun _ => QE.ite (QE.ite QE.mk QE.none) QE.none
        · exact QE.bind fun _ => QE.bind fun _ => QE.bind fun _ => QE.ite (QE.ite QE.mk QE.none) QE.none
        · exact QE.none
      · exact QE.none
  case fieldAddr =>
    refine QE.bind fun _ => ?_
    split
    · refine QE.bind fun _ => QE.bind fun _ => QE.ite QE.none ?_
      split <;> first | exact QE.none | exact QE.mk | exact QE.bind fun _ => QE.mk
    · exact QE.none
  case field =>
    refine QE.bind fun _ => ?_
    split
    · refine QE.bind fun _ => QE.bind fun _ => ?_
      split <;> first | exact QE.none | exact QE.bind fun _ => QE.ite QE.mk QE.none
    · exact QE.none
  case indexAddr =>
    refine QE.bind fun _ => ?_
    split
    · refine QE.bind fun _ => ?_
      split
      · split
        · exact QE.ite (QE.ite (QE.bind fun _ => QE.mk) QE.none) QE.none
        · exact QE.bind fun _ => QE.ite (QE.ite QE.mk QE.none) QE.none
        · exact QE.none
      · exact QE.none
    · exact QE.none
  case index => refine QE.bind fun _ => ?_; split <;> first | exact QE.none | exact QE.ite (QE.bind fun _ => QE.mk) QE.none
  case extract => unfold exF; split <;> first | exact QE.none | exact QE.bind fun _ => QE.ite QE.mk QE.none
  all_goals exact QE.none
theorem argsE_ops {lk : Lk} {ρ ρ' : Env} : ∀ {xs : List Operand}, (∀ x ∈ xs, ρ' x = ρ x) → argsE lk ρ' xs = argsE lk ρ xs
  | [], _ => rfl
  | x :: xs, h => by
    simp only [argsE, h x (by simp), argsE_ops (xs := xs) fun y hy => h y (by simp [hy])]
theorem locC : LocY (sysC P) := ⟨fun {o s s' nid e} h hρ hob => by
  rcases h with h | ⟨c, f, caps, us, rd, cs, rd2, r, h1, h2, h3, h4, h5⟩
  · refine .inl ?_
    rw [hob, opF_ops hρ]; exact h
  · refine .inr ⟨c, f, caps, us, rd, cs, rd2, r, h1, ?_, ?_, by rw [hob]; exact h4, h5⟩
    · rw [h1] at hρ
      unfold calE at h2 ⊢
      split at h2
      · rename_i x hx
        rw [hρ x (by simp [Op.operands, Call.operands, hx])]
        exact h2
      · cases h2
    · rw [hob, argsE_ops fun x hx => hρ x (by rw [h1]; simp only [Op.operands, Call.operands, Array.mem_append]; exact .inr (by simpa using hx))]
      exact h3⟩
class QuietY (Y : Sys P) where
  q : Op → Bool
  ok : ∀ {o : Oper} {s : S Unit} {nid : Nat} {e : Eff}, q o.op = true → Y.E o s nid e → e.upd = [] ∧ e.del = []
  loc : LocY Y
  bare : ∀ {dst : Option Nat} {op : Op} {ty : TypeId} {pos : String} {aft : Array Edge} {g : Option (Nat × Bool)} {s : S Unit} {nid : Nat} {e : Eff}, Y.E ⟨dst, op, ty, pos, aft, none⟩ s nid e → Y.E ⟨dst, op, ty, pos, aft, g⟩ s nid e
instance : QuietY (sysC P) := ⟨quietB, fun {o s nid e} hq h => by
  rcases h with h | ⟨c, f, caps, us, rd, cs, rd2, r, h1, h2, h3, h4, h5, h6, h7, rfl⟩
  · exact opF_quiet hq e h
  · exact ⟨rfl, rfl⟩, locC, fun h => h⟩
/-- May the operation be taken first? pr = 1: it asks no object; 2: the others leave the objects as they are. -/
def takeB (q : Op → Bool) (pr : Nat) (ops : Array Oper) (L : Array Bool) (i : Nat) : Bool :=
  (Region.ready .any ops L).contains i && Region.free .any ops L i && (Nat.beq pr 1 || (List.range ops.size).all fun j => j == i || L.getD j true || match ops[j]? with
    | some oj => oj.after.any (fun e => Region.binds .any e && e.on == i) || q oj.op
    | none => true)
section
variable {Y : Sys P} [PlainY Y] [QuietY Y]
theorem take_core {ops : List Oper} {i pr fuel : Nat} {o : Oper} {v : V Unit} {rd : List Nat} {L : Array Bool} {s : S Unit} {K : S Unit → Prop} (hi : ops[i]? = some o) (hb : takeB (QuietY.q Y) pr ops.toArray L i = true) (hrd : pr = 1 → rd = [])
    (hy : PY (P := P) ops o s v rd) (H : aAny Y ops fuel (L.setIfInBounds i true) (setSl s o.dst v) K) : aAny Y ops (fuel + 1) L s K := by
  simp only [takeB, Bool.and_eq_true, Bool.or_eq_true] at hb
  obtain ⟨⟨h1, h2⟩, h3⟩ := hb
  have hi' : (ops.toArray)[i]? = some o := by rw [List.getElem?_toArray]; exact hi
  refine aAny_take QuietY.loc hi fuel L s (fun j oj hj hji hun hno => ⟨Region.free_spec hi' h2 j oj (by rw [List.getElem?_toArray]; exact hj) hji hun hno, ?_⟩) (by simpa using h1) hy H
  rcases h3 with h3 | h3
  · exact .inl (hrd (Nat.eq_of_beq_eq_true h3))
  · right
    intro s nid e he
    refine QuietY.ok (Y := Y) ?_ he
    rw [List.all_eq_true] at h3
    have hj' : (ops.toArray)[j]? = some oj := by rw [List.getElem?_toArray]; exact hj
    have := h3 j (by rw [List.mem_range]; exact (Array.getElem?_eq_some_iff.1 hj').1)
    simp only [hj', Bool.or_eq_true, beq_iff_eq, hji, hun, false_or, Bool.false_eq_true] at this
    rcases this with this | this
    · obtain ⟨e', he', hb⟩ := Array.any_eq_true'.1 this
      simp only [Bool.and_eq_true, beq_iff_eq] at hb
      exact absurd hb.2 (hno e' he' hb.1)
    · exact this
variable {N nx t fuel : Nat} {asg : Asg} {oa : OAsg} {K : S Unit → Prop} {ops : List Oper} {L : Array Bool} {dst : Option Nat} {op : Op} {ty : TypeId} {pos : String} {aft : Array Edge} {j : Nat} {want : Bool}
omit [PlainY Y] [QuietY Y] in
theorem aopK_pure {pr : Nat} {o : Oper} {s : S Unit} (hpr : pr ≠ 0) (h : aopK Y pr o s K) : ∃ v rd hyp, opF P o.op (evA s) (look s.ob) s.nx = some ⟨v, rd, [], [], [], hyp⟩ ∧ Rd pr s rd ∧ K (setSl s o.dst v) := by
  obtain ⟨⟨v, rd, news, upd, del, hyp⟩, h1, _, h2⟩ := h
  obtain ⟨e1, e2, e3, e4, e5⟩ := h1 hpr
  simp only at e2 e3 e4
  subst e2 e3 e4
  refine ⟨v, rd, hyp, e1, e5, ?_⟩
  have := h2 fun h => absurd h hpr
  have e : appE s o.dst s.nx ⟨v, rd, [], [], [], hyp⟩ = setSl s o.dst v := by
    unfold appE; rw [app_many]; simp
  rwa [e] at this
/-- An operation is taken. -/
theorem t_ (i pr : Nat) (hi : ops[i]? = some ⟨dst, op, ty, pos, aft, none⟩) (hb : takeB (QuietY.q Y) (pr + 1) ops.toArray L i = true)
    (h : aopK Y (pr + 1) ⟨dst, op, ty, pos, aft, none⟩ (St N asg oa nx) (fun s' => aAny Y ops fuel (L.setIfInBounds i true) s' K)) : aAny Y ops (fuel + 1) L (St N asg oa nx) K := by
  obtain ⟨v, rd, hyp, h1, h2, h3⟩ := aopK_pure (by omega) h
  exact take_core hi hb h2.no (.inl ⟨rfl, h2.is, hyp, h1⟩) h3
theorem guard_St {o : Oper} (hg : o.guard = some (j, want)) (ht : dstOf ops j = some t) (hN : Nat.blt t N = true) {b : Bool} (hv : lkp asg t = some (.u (.one (.bool b)))) : guardB ops o (St N asg oa nx) = some (b == want) := by
  simp only [guardB, hg, ht, St_get hN hv]
theorem t_g (i pr : Nat) (hi : ops[i]? = some ⟨dst, op, ty, pos, aft, some (j, want)⟩) (hb : takeB (QuietY.q Y) (pr + 1) ops.toArray L i = true) (ht : dstOf ops j = some t) (hN : Nat.blt t N = true) (hv : lkp asg t = some (.u (.one (.bool want))))
    (h : aopK Y (pr + 1) ⟨dst, op, ty, pos, aft, none⟩ (St N asg oa nx) (fun s' => aAny Y ops fuel (L.setIfInBounds i true) s' K)) : aAny Y ops (fuel + 1) L (St N asg oa nx) K := by
  obtain ⟨v, rd, hyp, h1, h2, h3⟩ := aopK_pure (by omega) h
  exact take_core hi hb h2.no (.inl ⟨by rw [guard_St rfl ht hN hv]; simp, h2.is, hyp, h1⟩) h3
theorem t_f {d : Nat} (i : Nat) (hi : ops[i]? = some ⟨some d, op, ty, pos, aft, some (j, want)⟩) (hb : takeB (QuietY.q Y) 1 ops.toArray L i = true) (ht : dstOf ops j = some t) (hN : Nat.blt t N = true) (hv : lkp asg t = some (.u (.one (.bool (!want)))))
    (h : aAny Y ops fuel (L.setIfInBounds i true) (St N ((d, .ud) :: asg) oa nx) K) : aAny Y ops (fuel + 1) L (St N asg oa nx) K := by
  refine take_core (pr := 1) (rd := []) hi hb (fun _ => rfl) (.inr ⟨?_, rfl, rfl⟩) (by rw [St_setSl]; exact h)
  rw [guard_St rfl ht hN hv]
  cases want <;> rfl
/-- The one operation that can come next. -/
def onlyB (ops : Array Oper) (L : Array Bool) (i : Nat) : Bool := (Region.ready .any ops L) == [i]
omit [PlainY Y] [QuietY Y] in
theorem o_ (i : Nat) (hi : ops[i]? = some ⟨dst, op, ty, pos, aft, none⟩) (hb : onlyB ops.toArray L i = true)
    (h : aopK Y 0 ⟨dst, op, ty, pos, aft, none⟩ (St N asg oa nx) (fun s' => aAny Y ops fuel (L.setIfInBounds i true) s' K)) : aAny Y ops (fuel + 1) L (St N asg oa nx) K := by
  have hr : Region.ready .any ops.toArray L = [i] := by simpa [onlyB] using hb
  refine ⟨fun h0 => (by rw [h0] at hr; cases hr), fun k hk o ho => ?_⟩
  rw [hr, List.mem_singleton] at hk
  subst hk
  rw [hi] at ho
  cases ho
  obtain ⟨e, _, h1, h2⟩ := h
  exact ⟨e, h1, fun hh => h2 fun _ => hh⟩
omit [PlainY Y] in
theorem o_g (i : Nat) (hi : ops[i]? = some ⟨dst, op, ty, pos, aft, some (j, want)⟩) (hb : onlyB ops.toArray L i = true) (ht : dstOf ops j = some t) (hN : Nat.blt t N = true) (hv : lkp asg t = some (.u (.one (.bool want))))
    (h : aopK Y 0 ⟨dst, op, ty, pos, aft, none⟩ (St N asg oa nx) (fun s' => aAny Y ops fuel (L.setIfInBounds i true) s' K)) : aAny Y ops (fuel + 1) L (St N asg oa nx) K := by
  have hr : Region.ready .any ops.toArray L = [i] := by simpa [onlyB] using hb
  refine ⟨fun h0 => (by rw [h0] at hr; cases hr), fun k hk o ho => ?_⟩
  rw [hr, List.mem_singleton] at hk
  subst hk
  rw [hi] at ho
  cases ho
  obtain ⟨e, _, h1, h2⟩ := h
  unfold d1
  rw [guard_St rfl ht hN hv]
  simp only [beq_self_eq_true]
  exact ⟨e, QuietY.bare h1, fun hh => h2 fun _ => hh⟩
omit [PlainY Y] [QuietY Y] in
theorem a_nil (hb : (Region.ready .any ops.toArray L).isEmpty = true) {s : S Unit} (h : K s) : aAny Y ops 0 L s K := ⟨by simpa using hb, h⟩
end
end
end Go.Proofs.YtghdhjgoicnbcaaGreat.AM

namespace Go.Proofs.YtghdhjgoicnbcaaGreat.AM
open Go

section ren
variable {δ : Type}
mutual
def renL (g : Nat → Nat) : L δ → L δ
  | .ref v id off len => .ref v (g id) off len
  | .ptr v id e j => .ptr v (g id) e j
  | .fn v f caps => .fn v f (renC g caps)
  | l => l
def renC (g : Nat → Nat) : List (L δ) → List (L δ)
  | [] => []
  | l :: ls => renL g l :: renC g ls
end
theorem renC_eq (g : Nat → Nat) : ∀ ls : List (L δ), renC g ls = ls.map (renL g)
  | [] => rfl
  | l :: ls => by simp [renC, renC_eq g ls]
def renU (g : Nat → Nat) : U δ → U δ
  | .one l => .one (renL g l)
  | .agg ls => .agg (ls.map (renL g))
def renV (g : Nat → Nat) : V δ → V δ
  | .u x => .u (renU g x)
  | .tup xs => .tup (xs.map (renU g))
  | .un => .un
  | .ud => .ud
def renOb (g : Nat → Nat) (o : Ob δ) : Ob δ := ⟨o.h, o.n, o.rows.map (fun r => r.map (renL g))⟩
theorem leavesU_ren (g : Nat → Nat) (u : U δ) : leavesU (renU g u) = (leavesU u).map (renL g) := by cases u <;> simp [leavesU, renU]
theorem leavesV_ren (g : Nat → Nat) (v : V δ) : leavesV (renV g v) = (leavesV v).map (renL g) := by
  cases v with
  | u x => exact leavesU_ren g x
  | tup xs => simp [leavesV, renV, List.map_flatMap, List.flatMap_map, leavesU_ren]
  | un => rfl
  | ud => rfl
mutual
theorem idsL_ren (g : Nat → Nat) : ∀ l : L δ, idsL (renL g l) = (idsL l).map g
  | .int _ _ | .bool _ | .str _ | .nl | .nilp | .bs _ _ _ | .os _ _ _ | .ip _ _ => by simp [renL, idsL]
  | .ref _ _ _ _ | .ptr _ _ _ _ => by simp [renL, idsL]
  | .fn _ _ caps => by simp [renL, idsL, idsC_ren g caps]
theorem idsC_ren (g : Nat → Nat) : ∀ ls : List (L δ), idsC (renC g ls) = (idsC ls).map g
  | [] => rfl
  | l :: ls => by simp [renC, idsC, idsL_ren g l, idsC_ren g ls]
end
end ren
mutual
theorem val_ren (g : Nat → Nat) : ∀ l : L Value, val (renL g l) = val l
  | .int _ _ | .bool _ | .str _ | .nl | .nilp | .bs _ _ _ | .os _ _ _ | .ip _ _ | .ref _ _ _ _ | .ptr _ _ _ _ | .fn _ _ _ => by simp [renL, val]
end
theorem own_ren (g : Nat → Nat) (l : L Value) : ownL (renL g l) = ownL l := by cases l <;> simp [renL, ownL]
mutual
theorem imm_ren (g : Nat → Nat) : ∀ l : L Value, immL (renL g l) = immL l
  | .int _ _ | .bool _ | .str _ | .nl | .nilp | .bs _ _ _ | .os _ _ _ | .ip _ _ | .ref _ _ _ _ | .ptr _ _ _ _ => by simp [renL, immL]
  | .fn _ _ caps => by simp [renL, immL, immC_ren g caps]
theorem immC_ren (g : Nat → Nat) : ∀ ls : List (L Value), immC (renC g ls) = immC ls
  | [] => rfl
  | l :: ls => by simp [renC, immC, imm_ren g l, immC_ren g ls]
end
mutual
theorem wf_ren (g : Nat → Nat) (ns : Bool) : ∀ l : L Value, wfL ns (renL g l) ↔ wfL ns l
  | .int _ _ | .bool _ | .str _ | .nl | .nilp | .bs _ _ _ | .os _ _ _ | .ip _ _ | .ref _ _ _ _ | .ptr _ _ _ _ => by simp [renL, wfL]
  | .fn v f caps => by
    have : (renC g caps).map val = caps.map val := by rw [renC_eq, List.map_map]; exact List.map_congr_left fun l _ => val_ren g l
    simp [renL, wfL, this, wfC_ren g false caps]
theorem wfC_ren (g : Nat → Nat) (ns : Bool) : ∀ ls : List (L Value), wfC ns (renC g ls) ↔ wfC ns ls
  | [] => by simp [renC]
  | l :: ls => by simp [renC, wfC, wf_ren g ns l, wfC_ren g ns ls]
end
-- what is forgotten can be named anew
mutual
theorem er_ren (g : Nat → Nat) : ∀ (l' : L Unit) (l : L Value), erL l = renL g l' → ∃ l2 : L Value, erL l2 = l' ∧ renL g l2 = l
  | .int k n, l, h => ⟨l, h, by cases l <;> simp_all [mapL, renL]⟩
  | .bool b, l, h => ⟨l, h, by cases l <;> simp_all [mapL, renL]⟩
  | .str s, l, h => ⟨l, h, by cases l <;> simp_all [mapL, renL]⟩
  | .nl, l, h => ⟨l, h, by cases l <;> simp_all [mapL, renL]⟩
  | .nilp, l, h => ⟨l, h, by cases l <;> simp_all [mapL, renL]⟩
  | .bs v n rows, l, h => ⟨l, h, by cases l <;> simp_all [mapL, renL]⟩
  | .os v n rows, l, h => ⟨l, h, by cases l <;> simp_all [mapL, renL]⟩
  | .ip v cs, l, h => ⟨l, h, by cases l <;> simp_all [mapL, renL]⟩
  | .ref v id off len, l, h => by
    cases l <;> simp [mapL, renL] at h
    rename_i v' id' off' len'
    obtain ⟨rfl, rfl, rfl⟩ := h
    exact ⟨.ref v' id off' len', by simp [mapL], by simp [renL]⟩
  | .ptr v id e j, l, h => by
    cases l <;> simp [mapL, renL] at h
    rename_i v' id' off' len'
    obtain ⟨rfl, rfl, rfl⟩ := h
    exact ⟨.ptr v' id off' len', by simp [mapL], by simp [renL]⟩
  | .fn v f caps, l, h => by
    cases l <;> simp [mapL, renL] at h
    rename_i v' f' caps'
    obtain ⟨rfl, h⟩ := h
    obtain ⟨c2, h1, h2⟩ := erC_ren g caps caps' h
    exact ⟨.fn v' f' c2, by simp [mapL, h1], by simp [renL, h2]⟩
theorem erC_ren (g : Nat → Nat) : ∀ (ls' : List (L Unit)) (ls : List (L Value)), mapC (fun _ => ()) ls = renC g ls' → ∃ l2 : List (L Value), mapC (fun _ => ()) l2 = ls' ∧ renC g l2 = ls
  | [], ls, h => by
    cases ls with
    | nil => exact ⟨[], rfl, rfl⟩
    | cons l ls => simp [mapC, renC] at h
  | l' :: ls', ls, h => by
    cases ls with
    | nil => simp [mapC, renC] at h
    | cons l ls =>
      simp only [mapC, renC, List.cons.injEq] at h
      obtain ⟨l2, h1, h2⟩ := er_ren g l' l h.1
      obtain ⟨ls2, h3, h4⟩ := erC_ren g ls' ls h.2
      exact ⟨l2 :: ls2, by simp [mapC, h1, h3], by simp [renC, h2, h4]⟩
end
theorem erLs_ren (g : Nat → Nat) {ls' : List (L Unit)} {ls : List (L Value)} (h : ls.map erL = ls'.map (renL g)) : ∃ l2 : List (L Value), l2.map erL = ls' ∧ l2.map (renL g) = ls := by
  have := erC_ren g ls' ls (by rw [mapC_eq, renC_eq]; exact h)
  simpa [mapC_eq, renC_eq] using this
theorem erU_ren (g : Nat → Nat) {u' : U Unit} {u : U Value} (h : erU u = renU g u') : ∃ u2 : U Value, erU u2 = u' ∧ renU g u2 = u := by
  cases u' with
  | one l' => cases u with
    | one l =>
      simp only [mapU, renU, U.one.injEq] at h
      obtain ⟨l2, h1, h2⟩ := er_ren g l' l h
      exact ⟨.one l2, by simp [mapU, h1], by simp [renU, h2]⟩
    | agg ls => cases h
  | agg ls' => cases u with
    | one l => cases h
    | agg ls =>
      simp only [mapU, renU, U.agg.injEq] at h
      obtain ⟨l2, h1, h2⟩ := erLs_ren g h
      exact ⟨.agg l2, by simp [mapU, h1], by simp [renU, h2]⟩
theorem erUs_ren (g : Nat → Nat) : ∀ {us' : List (U Unit)} {us : List (U Value)}, us.map erU = us'.map (renU g) → ∃ u2 : List (U Value), u2.map erU = us' ∧ u2.map (renU g) = us
  | [], us, h => ⟨[], rfl, by simpa using h.symm⟩
  | u' :: us', us, h => by
    cases us with
    | nil => simp at h
    | cons u us =>
      simp only [List.map_cons, List.cons.injEq] at h
      obtain ⟨u2, h1, h2⟩ := erU_ren g h.1
      obtain ⟨us2, h3, h4⟩ := erUs_ren g h.2
      exact ⟨u2 :: us2, by simp [h1, h3], by simp [h2, h4]⟩
theorem erV_ren (g : Nat → Nat) {v' : V Unit} {v : V Value} (h : erV v = renV g v') : ∃ v2 : V Value, erV v2 = v' ∧ renV g v2 = v := by
  cases v' with
  | u x' => cases v with
    | u x =>
      simp only [mapV, renV, V.u.injEq] at h
      obtain ⟨l2, h1, h2⟩ := erU_ren g h
      exact ⟨.u l2, by simp [mapV, h1], by simp [renV, h2]⟩
    | _ => cases h
  | tup xs' => cases v with
    | tup xs =>
      simp only [mapV, renV, V.tup.injEq] at h
      obtain ⟨l2, h1, h2⟩ := erUs_ren g h
      exact ⟨.tup l2, by simp [mapV, h1], by simp [renV, h2]⟩
    | _ => cases h
  | un => cases v with
    | un => exact ⟨.un, rfl, rfl⟩
    | _ => cases h
  | ud => cases v with
    | ud => exact ⟨.ud, rfl, rfl⟩
    | _ => cases h
theorem erRows_ren (g : Nat → Nat) : ∀ {rs' : List (List (L Unit))} {rs : List (List (L Value))}, rs.map (fun r => r.map erL) = rs'.map (fun r => r.map (renL g)) → ∃ r2 : List (List (L Value)), r2.map (fun r => r.map erL) = rs' ∧ r2.map (fun r => r.map (renL g)) = rs
  | [], rs, h => ⟨[], rfl, by simpa using h.symm⟩
  | r' :: rs', rs, h => by
    cases rs with
    | nil => simp at h
    | cons r rs =>
      simp only [List.map_cons, List.cons.injEq] at h
      obtain ⟨r2, h1, h2⟩ := erLs_ren g h.1
      obtain ⟨rs2, h3, h4⟩ := erRows_ren g h.2
      exact ⟨r2 :: rs2, by simp [h1, h3], by simp [h2, h4]⟩
theorem VR_ren (g : Nat → Nat) {v : V Value} {x : Value} (h : VR (renV g v) x) : VR v x := by
  have hu : ∀ {u : U Value} {x : Value}, UR (renU g u) x → UR u x := fun {u x} h => by
    cases u with
    | one l => simp only [renU, UR, val_ren] at h ⊢; exact h
    | agg ls =>
      simp only [renU, UR, List.map_map] at h ⊢
      rw [h]
      congr 2
      exact List.map_congr_left fun l _ => val_ren g l
  cases v with
  | u y => exact hu h
  | tup xs =>
    obtain ⟨vs, h1, h2, h3⟩ := h
    refine ⟨vs, h1, by simpa using h2, fun i y z hy hz => hu (h3 i (renU g y) z (by rw [List.getElem?_map, hy]; rfl) hz)⟩
  | un => trivial
  | ud => exact h
/-- Part of a list, once each: the list is that and some more. -/
theorem perm_part {α : Type} : ∀ {l' l : List α}, l'.Nodup → (∀ x ∈ l', x ∈ l) → ∃ rest, l.Perm (l' ++ rest)
  | [], l, _, _ => ⟨l, .refl _⟩
  | x :: l', l, hn, h => by
    rw [List.nodup_cons] at hn
    obtain ⟨l1, l2, rfl⟩ := List.append_of_mem (h x (by simp))
    obtain ⟨rest, hr⟩ := perm_part (l' := l') (l := l1 ++ l2) hn.2 fun y hy => by
      have := h y (by simp [hy])
      simp only [List.mem_append, List.mem_cons] at this ⊢
      rcases this with h1 | rfl | h1
      · exact .inl h1
      · exact absurd hy hn.1
      · exact .inr h1
    exact ⟨rest, List.perm_middle.trans (hr.cons x)⟩
theorem slots_sub {g : Nat → Nat} {f : L Value → List OwnE} (hf : ∀ l, f (renL g l) = f l) : ∀ {sl' sl : List (V Value)}, sl'.length = sl.length → (∀ (t : Nat) v, sl'[t]? = some v → v = .un ∨ sl[t]? = some (renV g v)) →
    (sl'.flatMap (fun v => (leavesV v).flatMap f)).Sublist (sl.flatMap (fun v => (leavesV v).flatMap f))
  | [], sl, _, _ => List.nil_sublist _
  | v :: sl', [], h, _ => by simp at h
  | v :: sl', w :: sl, h, hs => by
    simp only [List.flatMap_cons]
    refine List.Sublist.append ?_ (slots_sub hf (by simpa using h) fun t v hv => by simpa using hs (t + 1) v (by simpa using hv))
    rcases hs 0 v rfl with rfl | h0
    · exact List.nil_sublist _
    · simp only [List.getElem?_cons_zero, Option.some.injEq] at h0
      rw [h0, leavesV_ren, List.flatMap_map]
      simp only [hf]
      exact List.Sublist.refl _
mutual
theorem refOk_ren {g : Nat → Nat} {ob ob' : List (Nat × Ob Value)} (hl : ∀ i o, look ob' i = some o → look ob (g i) = some (renOb g o)) : ∀ l : L Value, refOk ob (renL g l) → refOk ob' l
  | .int _ _, _ | .bool _, _ | .str _, _ | .nl, _ | .nilp, _ | .bs _ _ _, _ | .os _ _ _, _ | .ip _ _, _ => by simp [refOk]
  | .ref v id off len, h => fun o ho => by
    have := h _ (hl id o ho)
    simpa [renOb] using this
  | .ptr v id e j, h => fun o ho => by
    have := h _ (hl id o ho)
    simpa [renOb] using this
  | .fn v f caps, h => by
    simp only [renL, refOk] at h ⊢
    exact refOkC_ren hl caps h
theorem refOkC_ren {g : Nat → Nat} {ob ob' : List (Nat × Ob Value)} (hl : ∀ i o, look ob' i = some o → look ob (g i) = some (renOb g o)) : ∀ ls : List (L Value), refOkC ob (renC g ls) → refOkC ob' ls
  | [], _ => by simp [refOkC]
  | l :: ls, h => by
    simp only [renC, refOkC] at h ⊢
    exact ⟨refOk_ren hl l h.1, refOkC_ren hl ls h.2⟩
end
theorem GhB.view {B : Bd} {s s' : S Unit} (g : Nat → Nat) (hlen : s'.sl.length = s.sl.length) (hsl : ∀ (t : Nat) v', s'.sl[t]? = some v' → v' = .un ∨ s.sl[t]? = some (renV g v'))
    (hob : ∀ p ∈ s'.ob, look s.ob (g p.1) = some (renOb g p.2)) (hids : (s'.ob.map (·.1)).Nodup) (hinj : ∀ i j, i < s'.nx → j < s'.nx → g i = g j → i = j) (hkn : ∀ i, Knows s' i → i < s'.nx)
    (hn : B.n0 ≤ s'.nx) (hg : ∀ i, i < B.n0 → g i = i) : GhB B s s' := by
  rintro a W ⟨d, rfl, hi, hs, hdef, hk, hn0⟩
  -- the state's slots and objects, numbered anew
  have exSl : ∀ {sl' : List (V Unit)} {sl : List (V Value)}, sl'.length = (sl.map erV).length → (∀ (t : Nat) v', sl'[t]? = some v' → v' = .un ∨ (sl.map erV)[t]? = some (renV g v')) →
      ∃ sl2 : List (V Value), sl2.map erV = sl' ∧ sl2.length = sl.length ∧ ∀ (t : Nat) v, sl2[t]? = some v → v = .un ∨ sl[t]? = some (renV g v) := by
    intro sl'
    induction sl' with
    | nil =>
      intro sl h _
      cases sl with
      | nil => exact ⟨[], rfl, rfl, by simp⟩
      | cons v sl => simp at h
    | cons v' sl' ih =>
      intro sl h hs
      cases sl with
      | nil => simp at h
      | cons v sl =>
        obtain ⟨sl2, h1, h2, h3⟩ := ih (sl := sl) (by simpa using h) (fun t w hw => by simpa using hs (t + 1) w (by simpa using hw))
        rcases hs 0 v' rfl with rfl | h0
        · refine ⟨.un :: sl2, by simp [h1, erV, mapV], by simp [h2], fun t w hw => ?_⟩
          cases t with
          | zero => simp at hw; exact .inl hw.symm
          | succ t => simpa using h3 t w (by simpa using hw)
        · simp only [List.map_cons, List.getElem?_cons_zero, Option.some.injEq] at h0
          obtain ⟨v2, e1, e2⟩ := erV_ren g h0
          refine ⟨v2 :: sl2, by simp [h1, e1], by simp [h2], fun t w hw => ?_⟩
          cases t with
          | zero => simp at hw; subst hw; right; simp [e2]
          | succ t => simpa using h3 t w (by simpa using hw)
  have exOb : ∀ {ob' : List (Nat × Ob Unit)}, (∀ p ∈ ob', look (erS d).ob (g p.1) = some (renOb g p.2)) → ∃ ob2 : List (Nat × Ob Value), ob2.map (fun p => (p.1, erOb p.2)) = ob' ∧ ∀ p ∈ ob2, (g p.1, renOb g p.2) ∈ d.ob := by
    intro ob'
    induction ob' with
    | nil => intro _; exact ⟨[], rfl, by simp⟩
    | cons p ob' ih =>
      intro h
      obtain ⟨ob2, h1, h2⟩ := ih fun q hq => h q (by simp [hq])
      obtain ⟨o, ho, he⟩ := look_lift (h p (by simp))
      obtain ⟨i, ⟨oh, on, orr⟩⟩ := p
      have he' : o.n = on ∧ o.rows.map (fun r => r.map erL) = orr.map (fun r => r.map (renL g)) := by
        simp only [erOb, mapOb, renOb, Ob.mk.injEq] at he
        exact ⟨he.2.1, he.2.2⟩
      obtain ⟨r2, e1, e2⟩ := erRows_ren g he'.2
      refine ⟨(i, ⟨o.h, o.n, r2⟩) :: ob2, ?_, fun q hq => ?_⟩
      · rw [List.map_cons, h1]
        simp only [erOb, mapOb, e1, he'.1]
      · rcases List.mem_cons.1 hq with rfl | hq
        · simp only [renOb, e2]
          exact find?_key ho
        · exact h2 q hq
  obtain ⟨sl2, a1, a2, a3⟩ := exSl (sl' := s'.sl) (sl := d.sl) hlen hsl
  obtain ⟨ob2, b1, b2⟩ := exOb hob
  let d' : S Value := ⟨sl2, ob2, s'.nx⟩
  have he : erS d' = s' := by
    have : erS d' = ⟨sl2.map erV, ob2.map (fun p => (p.1, erOb p.2)), s'.nx⟩ := rfl
    rw [this, a1, b1]
  have hkn' : ∀ i, Knows d' i → i < s'.nx := fun i hi => hkn i (by
    rcases hi with ⟨l, hl, hi⟩ | hi
    · refine .inl ⟨erL l, ?_, by rw [idsL_er]; exact hi⟩
      rw [← he]
      rcases mem_tops.1 hl with ⟨v, hv, hl2⟩ | hl2
      · refine mem_tops.2 (.inl ⟨erV v, List.mem_map.2 ⟨v, hv, rfl⟩, ?_⟩)
        rw [leavesV_map]; exact List.mem_map.2 ⟨l, hl2, rfl⟩
      · obtain ⟨p, hp, r, hr, hlr⟩ := mem_obLeaves.1 hl2
        refine mem_tops.2 (.inr (mem_obLeaves.2 ⟨(p.1, erOb p.2), List.mem_map.2 ⟨p, hp, rfl⟩, r.map erL, ?_, List.mem_map.2 ⟨l, hlr, rfl⟩⟩))
        exact List.mem_map.2 ⟨r, hr, rfl⟩
    · refine .inr ?_
      rw [← he]
      obtain ⟨p, hp, rfl⟩ := List.mem_map.1 hi
      exact List.mem_map.2 ⟨(p.1, erOb p.2), List.mem_map.2 ⟨p, hp, rfl⟩, rfl⟩)
  have hids2 : (ob2.map (·.1)).Nodup := by
    have : ob2.map (·.1) = s'.ob.map (·.1) := by rw [← b1, List.map_map]; rfl
    rw [this]; exact hids
  have htop : ∀ l ∈ tops d', renL g l ∈ tops d := fun l hl => by
    rcases mem_tops.1 hl with ⟨v, hv, hl2⟩ | hl2
    · obtain ⟨t, ht⟩ := List.mem_iff_getElem?.1 hv
      rcases a3 t v ht with rfl | h
      · simp [leavesV] at hl2
      · exact mem_tops.2 (.inl ⟨_, List.mem_of_getElem? h, by rw [leavesV_ren]; exact List.mem_map.2 ⟨l, hl2, rfl⟩⟩)
    · obtain ⟨p, hp, r, hr, hlr⟩ := mem_obLeaves.1 hl2
      exact mem_tops.2 (.inr (mem_obLeaves.2 ⟨_, b2 p hp, r.map (renL g), List.mem_map.2 ⟨r, hr, rfl⟩, List.mem_map.2 ⟨l, hlr, rfl⟩⟩))
  have hlook : ∀ i o, look ob2 i = some o → look d.ob (g i) = some (renOb g o) := fun i o ho => look_mem hi.good.ids (b2 _ (find?_key ho))
  have hrows : ∀ o : Ob Value, (renOb g o).rows.length = o.rows.length := fun o => by simp [renOb]
  have refL : ∀ l : L Value, refOk d.ob (renL g l) → refOk ob2 l := refOk_ren hlook
  obtain ⟨rest, hperm⟩ := perm_part (l' := ob2.map (fun p => (g p.1, renOb g p.2))) (l := d.ob) (by
    have hnd : (ob2.map (fun p => g p.1)).Nodup := by
      rw [List.nodup_iff_pairwise_ne, List.pairwise_map]
      have h1 : ob2.Pairwise (fun p q => p.1 ≠ q.1) := by
        have := List.nodup_iff_pairwise_ne.1 hids2
        rwa [List.pairwise_map] at this
      refine List.Pairwise.imp_of_mem (fun hp hq hne heq => hne (hinj _ _ ?_ ?_ heq)) h1
      · exact hkn' _ (.inr (List.mem_map.2 ⟨_, hp, rfl⟩))
      · exact hkn' _ (.inr (List.mem_map.2 ⟨_, hq, rfl⟩))
    rw [List.nodup_iff_pairwise_ne, List.pairwise_map] at hnd ⊢
    exact hnd.imp fun h e => h (congrArg (·.1) e)) (fun x hx => by
    obtain ⟨p, hp, rfl⟩ := List.mem_map.1 hx
    exact b2 p hp)
  have hown : ∃ more, (ownS d).Perm (ownS d' ++ more) := by
    have e1 : (d.ob.flatMap (fun p => hdrOwn p.2.h p.2.n p.2.rows)).Perm (ob2.flatMap (fun p => hdrOwn p.2.h p.2.n p.2.rows) ++ rest.flatMap (fun p => hdrOwn p.2.h p.2.n p.2.rows)) := by
      refine (hperm.flatMap_right _).trans ?_
      rw [List.flatMap_append, List.flatMap_map]
      refine List.Perm.append_right _ (List.Perm.of_eq ?_)
      congr 1
      funext p
      have hv : valR (renOb g p.2).rows = valR p.2.rows := by
        simp only [valR, renOb, List.map_flatten, List.map_map]
        congr 1
        refine List.map_congr_left fun r _ => ?_
        simp only [Function.comp_apply, List.map_map]
        exact List.map_congr_left fun l _ => val_ren g l
      simp only [hdrOwn, hv]
      rfl
    have e2 : ((obLeaves d.ob).flatMap ownL).Perm ((obLeaves ob2).flatMap ownL ++ (obLeaves rest).flatMap ownL) := by
      have e0 : ∀ ob : List (Nat × Ob Value), (obLeaves ob).flatMap ownL = ob.flatMap (fun p => p.2.rows.flatten.flatMap ownL) := fun ob => by simp only [obLeaves, List.flatMap_assoc]
      rw [e0, e0, e0]
      refine (hperm.flatMap_right _).trans ?_
      rw [List.flatMap_append, List.flatMap_map]
      refine List.Perm.append_right _ (List.Perm.of_eq ?_)
      congr 1
      funext p
      simp only [renOb, ← List.map_flatten, List.flatMap_map, own_ren]
    obtain ⟨m3, e3⟩ : ∃ m3, ((d.sl.flatMap leavesV).flatMap ownL).Perm ((sl2.flatMap leavesV).flatMap ownL ++ m3) := by
      rw [List.flatMap_assoc, List.flatMap_assoc]
      have := slots_sub (g := g) (f := ownL) (own_ren g) (sl' := sl2) (sl := d.sl) a2 a3
      exact this.exists_perm_append
    refine ⟨rest.flatMap (fun p => hdrOwn p.2.h p.2.n p.2.rows) ++ (m3 ++ (obLeaves rest).flatMap ownL), ?_⟩
    classical
    refine List.perm_iff_count.2 fun a => ?_
    have c1 := List.perm_iff_count.1 e1 a
    have c2 := List.perm_iff_count.1 e2 a
    have c3 := List.perm_iff_count.1 e3 a
    simp only [ownS, tops, d', List.flatMap_append, List.count_append] at c1 c2 c3 ⊢
    omega
  obtain ⟨more, hown⟩ := hown
  have hmem : ∀ p ∈ ownS d', p ∈ ownS d := fun p hp => hown.mem_iff.2 (List.mem_append_left _ hp)
  refine ⟨d', he, ?_, ⟨by rw [hs.1]; exact a2.symm, fun i v hv => ?_⟩, hdef, hkn', hn⟩
  · refine hi.step (Nat.le_refl _) (Same.refl _) (fun _ _ _ => rfl) (fun l hl => ?_) (fun p hp => ?_) hids2 (fun p hp => ⟨hi.good.own p (hmem p hp), .inl ⟨p, hmem p hp, rfl⟩⟩) ?_ (fun p hp => ?_) (fun p hp hlt => ?_)
    · have := hi.good.wf _ (htop l hl)
      exact ⟨(wf_ren g false l).1 this.1, refL l this.2⟩
    · have := hi.good.obs _ (b2 p hp)
      simp only [renOb, List.length_map, List.mem_map, List.map_eq_nil_iff] at this
      refine ⟨this.1, fun r hr => ?_⟩
      have h2 := this.2 _ ⟨r, hr, rfl⟩
      simpa using h2
    · have := (hown.map (·.1)).nodup_iff.1 hi.good.nodup
      rw [List.map_append, List.nodup_append] at this
      exact this.1
    · obtain ⟨l, hl, hp⟩ := List.mem_flatMap.1 hp
      exact .of_mem (List.mem_flatMap.2 ⟨_, htop l hl, by rw [imm_ren]; exact hp⟩)
    · have := hi.hdr _ (b2 p hp)
      simp only [renOb, hg p.1 hlt] at this
      exact this hlt
  · rcases a3 i v hv with rfl | h
    · trivial
    · exact VR_ren g (hs.2 i _ h)
end Go.Proofs.YtghdhjgoicnbcaaGreat.AM

namespace Go.Proofs.YtghdhjgoicnbcaaGreat.AM
open Go

/-- Rounds of a loop: a state goes on, or something comes of it. -/
def iterO {σ ρ : Type} (body : σ → Option (σ ⊕ ρ)) : Nat → σ → Option ρ
  | 0, _ => none
  | n + 1, s => match body s with
    | none => none
    | some (.inl s') => iterO body n s'
    | some (.inr r) => some r
theorem iterO_mono {σ ρ : Type} {body : σ → Option (σ ⊕ ρ)} : ∀ {n m : Nat} {s : σ} {r : ρ}, n ≤ m → iterO body n s = some r → iterO body m s = some r
  | 0, _, _, _, _, h => by cases h
  | n + 1, 0, _, _, hle, _ => by omega
  | n + 1, m + 1, s, r, hle, h => by
    simp only [iterO] at h ⊢
    split at h
    · cases h
    · exact iterO_mono (by omega) h
    · exact h
open Classical in
/-- What comes of a loop in the end. -/
noncomputable def loopO {σ ρ : Type} (body : σ → Option (σ ⊕ ρ)) (s : σ) : Option ρ := if h : ∃ r n, iterO body n s = some r then some h.choose else none
theorem loopO_iff {σ ρ : Type} {body : σ → Option (σ ⊕ ρ)} {s : σ} {r : ρ} : loopO body s = some r ↔ ∃ n, iterO body n s = some r := by
  unfold loopO
  constructor
  · intro h
    split at h
    · rename_i hx
      cases h
      exact hx.choose_spec
    · cases h
  · rintro ⟨n, h⟩
    have hx : ∃ r n, iterO body n s = some r := ⟨r, n, h⟩
    rw [dif_pos hx]
    obtain ⟨m, hm⟩ := hx.choose_spec
    have h1 := iterO_mono (Nat.le_max_left n m) h
    have h2 := iterO_mono (Nat.le_max_right n m) hm
    rw [h1] at h2
    exact h2.symm
theorem loopO_step {σ ρ : Type} (body : σ → Option (σ ⊕ ρ)) (s : σ) : loopO body s = (body s).bind fun x => match x with | .inl s' => loopO body s' | .inr r => some r := by
  cases hb : body s with
  | none =>
    cases h : loopO body s with
    | none => rfl
    | some r =>
      obtain ⟨n, hn⟩ := loopO_iff.1 h
      cases n with
      | zero => cases hn
      | succ n => simp [iterO, hb] at hn
  | some x =>
    cases x with
    | inr r =>
      exact loopO_iff.2 ⟨1, by simp [iterO, hb]⟩
    | inl s' =>
      simp only [Option.bind_some]
      cases h : loopO body s' with
      | some r =>
        obtain ⟨n, hn⟩ := loopO_iff.1 h
        exact loopO_iff.2 ⟨n + 1, by simp [iterO, hb, hn]⟩
      | none =>
        cases h2 : loopO body s with
        | none => rfl
        | some r =>
          obtain ⟨n, hn⟩ := loopO_iff.1 h2
          cases n with
          | zero => cases hn
          | succ n =>
            simp only [iterO, hb] at hn
            rw [loopO_iff.2 ⟨n, hn⟩] at h
            cases h
theorem of_bind {α β : Type} {x : Option α} {f : α → Option β} {r : β} (h : x.bind f = some r) : ∃ a, x = some a ∧ f a = some r := bind_some h
theorem of_ite {c : Prop} [Decidable c] {β : Type} {x : Option β} {r : β} (h : (if c then x else none) = some r) : c ∧ x = some r := by
  by_cases hc : c
  · rw [if_pos hc] at h; exact ⟨hc, h⟩
  · rw [if_neg hc] at h; cases h

section
variable {P : Program} {B : Bd}
theorem Wp.ghb {c : Code} {Q : Exit → S Unit → Prop} {s : S Unit} (s' : S Unit) (hg : GhB B s s') (h : Wp (P := P) B c Q s') : Wp (P := P) B c Q s := fun a W hr => h a W (hg a W hr)
/-- Where ways meet again. -/
def jn (B : Bd) (sJ : S Unit) (Q : Exit → S Unit → Prop) : Exit → S Unit → Prop
  | .normal, s => GhB B s sJ
  | e, s => Q e s
theorem c_cut {c : Code} {Q : Exit → S Unit → Prop} {s : S Unit} (sJ : S Unit) (h1 : Wp (P := P) B c (jn B sJ Q) s) (h2 : Q .normal sJ) : Wp (P := P) B c Q s := fun a W hr =>
  wp_mono (h1 a W hr) fun e a' W' ⟨s', hr', hq⟩ => by
    cases e with
    | normal => exact ⟨sJ, hq a' W' hr', h2⟩
    | _ => exact ⟨s', hr', hq⟩
/-- A loop. -/
theorem c_loop {c : Code} {Q : Exit → S Unit → Prop} {s : S Unit} {σ ρ : Type} {body : σ → Option (σ ⊕ ρ)} {st0 : σ} {r : ρ} (hl : loopO body st0 = some r) (S' : σ → S Unit) (R : ρ → Exit × S Unit) (h0 : GhB B s (S' st0))
    (round : ∀ st x, body st = some x → Wp (P := P) B c (fun e s' => match x with | .inl st' => e = .normal ∧ GhB B s' (S' st') | .inr r' => e = (R r').1 ∧ GhB B s' (R r').2) (S' st))
    (hx : ∀ y, (R y).1 ≠ .normal) (hQ : Q (R r).1 (R r).2) : Wp (P := P) B (.loop c) Q s := by
  obtain ⟨n, hn⟩ := loopO_iff.1 hl
  refine Wp.ghb (S' st0) h0 ?_
  clear h0
  have key : ∀ (n : Nat) (st : σ), iterO body n st = some r → ∀ a W, Rel B (S' st) a W → ∀ b k cs, ∃ e a' w', (∃ s', Rel B s' a' w' ∧ Q e s') ∧ Arrives P (lone (b.at a (.code c :: .inLoop c :: k)) cs W) b k cs e a' w' := by
    intro n
    induction n with
    | zero => intro st h; cases h
    | succ n ih =>
      intro st h a W hr b k cs
      simp only [iterO] at h
      split at h
      · cases h
      · rename_i st' hb
        obtain ⟨e, a₁, w₁, ⟨s₁, hr₁, he, hg⟩, harr⟩ := round st _ hb a W hr b (.inLoop c :: k) cs
        subst he
        obtain ⟨e₂, a₂, w₂, hq₂, harr₂⟩ := ih st' h a₁ w₁ (hg a₁ w₁ hr₁) b k cs
        exact ⟨e₂, a₂, w₂, hq₂, .of_steps (Steps.trans harr (.one step_inLoop)) harr₂⟩
      · rename_i r' hb
        cases h
        obtain ⟨e, a₁, w₁, ⟨s₁, hr₁, he, hg⟩, harr⟩ := round st _ hb a W hr b (.inLoop c :: k) cs
        have hq : ∃ s', Rel B s' a₁ w₁ ∧ Q e s' := ⟨_, hg a₁ w₁ hr₁, he ▸ hQ⟩
        have hx := hx r
        rw [← he] at hx
        cases e with
        | normal => exact absurd rfl hx
        | exit id => exact ⟨_, a₁, w₁, hq, .pass (x := .inLoop c) rfl (fun _ _ => .inl (by simp)) harr⟩
        | goto l => exact ⟨_, a₁, w₁, hq, .pass (x := .inLoop c) rfl (fun _ _ => .inl (by simp)) harr⟩
        | ret => exact ⟨_, a₁, w₁, hq, .pass (x := .inLoop c) rfl (fun _ _ => .inl (by simp)) harr⟩
        | panic ch => exact ⟨_, a₁, w₁, hq, .pass (x := .inLoop c) rfl (fun _ _ => .inl (by simp)) harr⟩
        | outgrown => exact ⟨_, a₁, w₁, hq, .pass (x := .inLoop c) rfl (fun _ _ => .inl (by simp)) harr⟩
  intro a W hr b k cs
  obtain ⟨e, a', w', hq, harr⟩ := key n st0 hn a W hr b k cs
  exact ⟨e, a', w', hq, .of_steps (.one step_loop) harr⟩

-- a state seen anew
/-- An element's cells name no object. -/
class EncO {α : Type} (enc : α → List (L Unit)) : Prop where
  h : ∀ x, (enc x).all nestL = true
/-- An element's cells are values, or rows to read. -/
class EncB {α : Type} (enc : α → List (L Unit)) : Prop where
  h : ∀ x, (enc x).all plainL = true
theorem plain_nest {δ : Type} {l : L δ} (h : plainL l = true) : nestL l = true := by cases l <;> simp_all [plainL, nestL]
instance {α : Type} (enc : α → List (L Unit)) [EncB enc] : EncO enc := ⟨fun x => by
  have := EncB.h (enc := enc) x
  rw [List.all_eq_true] at this ⊢
  exact fun l hl => plain_nest (this l hl)⟩
theorem encB_N {α : Type} (enc : α → List (L Unit)) [EncB enc] : encN enc := fun x => by
  have := EncB.h (enc := enc) x
  rw [List.all_eq_true] at this ⊢
  exact fun l hl => plain_noOs (this l hl)
theorem nest_ids {δ : Type} {l : L δ} (h : nestL l = true) : idsL l = [] := by cases l <;> simp_all [plainL, nestL, idsL]
theorem nest_ren {δ : Type} (g : Nat → Nat) {l : L δ} (h : nestL l = true) : renL g l = l := by cases l <;> simp_all [plainL, nestL, renL]
theorem renOb_map {α : Type} {enc : α → List (L Unit)} [EncO enc] (g : Nat → Nat) (m : Nat) (xs : List α) : renOb g ⟨(), m, xs.map enc⟩ = ⟨(), m, xs.map enc⟩ := by
  simp only [renOb, List.map_map]
  congr 1
  refine List.map_congr_left fun x _ => ?_
  have := EncO.h (enc := enc) x
  rw [List.all_eq_true] at this
  simp only [Function.comp_apply]
  conv => rhs; rw [← List.map_id (enc x)]
  exact List.map_congr_left fun l hl => nest_ren g (this l hl)
/-- From new numbers to old ones. -/
def gOf (l : List Nat) (i : Nat) : Nat := l.getD i 0
inductive SubA (l : List Nat) (asg : Asg) : Asg → Prop
  | nil : SubA l asg []
  | cons {t : Nat} {v : V Unit} {r : Asg} (h : lkp asg t = some (renV (gOf l) v)) (hk : knowsV l.length v = true) (hr : SubA l asg r) : SubA l asg ((t, v) :: r)
inductive SubO (l : List Nat) (oa : OAsg) (nx : Nat) : OAsg → Prop
  | nil : SubO l oa nx []
  | lit {i : Nat} {o : Ob Unit} {r : OAsg} (h : lko oa nx (gOf l i) = some (renOb (gOf l) o)) (hk : knowsR l.length o.rows = true) (hr : SubO l oa nx r) : SubO l oa nx ((i, some o) :: r)
  | map {α : Type} {enc : α → List (L Unit)} [EncO enc] {i m : Nat} {xs : List α} {r : OAsg} (h : lko oa nx (gOf l i) = some ⟨(), m, xs.map enc⟩) (hr : SubO l oa nx r) : SubO l oa nx ((i, some ⟨(), m, xs.map enc⟩) :: r)
theorem SubA.get {l : List Nat} {asg asg' : Asg} (h : SubA l asg asg') {t : Nat} {v : V Unit} (hv : lkp asg' t = some v) : lkp asg t = some (renV (gOf l) v) ∧ knowsV l.length v = true := by
  induction h with
  | nil => cases hv
  | @cons t' v' r h hk hr ih =>
    by_cases ht : t' = t
    · subst ht
      rw [lkp_cons_self] at hv
      cases hv
      exact ⟨h, hk⟩
    · rw [lkp_cons_ne _ _ ht] at hv
      exact ih hv
theorem SubO.get {l : List Nat} {oa oa' : OAsg} {nx : Nat} (h : SubO l oa nx oa') {i : Nat} {o : Ob Unit} (hv : obAt oa' i = some o) : lko oa nx (gOf l i) = some (renOb (gOf l) o) ∧ knowsR l.length o.rows = true := by
  induction h with
  | nil => cases hv
  | @lit i' o' r h hk hr ih =>
    by_cases ht : i' = i
    · subst ht
      rw [obAt_self] at hv
      cases hv
      exact ⟨h, hk⟩
    · rw [obAt_ne _ _ ht] at hv
      exact ih hv
  | @map α enc _ i' m xs r h hr ih =>
    by_cases ht : i' = i
    · subst ht
      rw [obAt_self] at hv
      cases hv
      refine ⟨by rw [renOb_map]; exact h, ?_⟩
      simp only [knowsR, List.all_map, List.all_eq_true]
      intro x _
      have := EncO.h (enc := enc) x
      rw [List.all_eq_true] at this
      simp only [Function.comp_apply, List.all_eq_true]
      intro c hc i hi
      rw [nest_ids (this c hc)] at hi
      cases hi
    · rw [obAt_ne _ _ ht] at hv
      exact ih hv
theorem mem_obOf {oa : OAsg} {nx : Nat} {p : Nat × Ob Unit} (h : p ∈ obOf oa nx) : p.1 < nx ∧ obAt oa p.1 = some p.2 := by
  unfold obOf at h
  rw [List.mem_filterMap] at h
  obtain ⟨i, hi, h⟩ := h
  rw [Option.map_eq_some_iff] at h
  obtain ⟨o, ho, rfl⟩ := h
  exact ⟨by simpa using hi, ho⟩
theorem obOf_keys (oa : OAsg) (nx : Nat) : ((obOf oa nx).map (·.1)).Nodup := by
  have : (obOf oa nx).map (·.1) = (List.range nx).filter (fun i => (obAt oa i).isSome) := by
    unfold obOf
    rw [List.map_filterMap]
    rw [← List.filterMap_eq_filter]
    refine filterMap_congr' fun i _ => ?_
    cases h : obAt oa i <;> simp [Option.guard, h]
  rw [this]
  exact List.nodup_range.sublist List.filter_sublist
/-- A state seen anew: l: for each new number the old one. -/
theorem w_ (l : List Nat) {N nx : Nat} {asg asg' : Asg} {oa oa' : OAsg} (hA : SubA l asg asg') (hO : SubO l oa nx oa') (hn : l.Nodup) (hB : ∀ i, i < B.n0 → l[i]? = some i) : GhB B (St N asg oa nx) (St N asg' oa' l.length) := by
  have hgo : ∀ i, i < l.length → l[i]? = some (gOf l i) := fun i hi => by simp [gOf, hi]
  refine GhB.view (gOf l) (by simp [St, slotsOf]) (fun t v' hv => ?_) (fun p hp => ?_) (obOf_keys _ _) (fun i j hi hj e => ?_) (fun i hi => ?_) ?_ (fun i hi => ?_)
  · have ht : t < N := by
      have := (List.getElem?_eq_some_iff.1 hv).1
      simpa [St, slotsOf] using this
    have e : (St N asg' oa' l.length).sl[t]? = some (slotV asg' t) := slots_get ht
    rw [e] at hv
    cases hv
    cases h : lkp asg' t with
    | none => left; simp [slotV, h]
    | some v =>
      right
      have : slotV asg' t = v := by simp [slotV, h]
      rw [this]
      exact slots_lk ht (hA.get h).1
  · obtain ⟨h1, h2⟩ := mem_obOf hp
    exact lko_ok (N := N) (asg := asg) (hO.get h2).1
  · have h1 := hgo i hi
    have h2 := hgo j hj
    rw [← e] at h2
    exact (List.getElem?_inj hi hn).1 (h1.trans h2.symm)
  · show i < l.length
    rcases hi with ⟨c, hc, hi⟩ | hi
    · rcases mem_tops.1 hc with ⟨v, hv, hc⟩ | hc
      · simp only [St, slotsOf, List.mem_map, List.mem_range] at hv
        obtain ⟨t, ht, rfl⟩ := hv
        cases h : lkp asg' t with
        | none => simp [slotV, h, leavesV] at hc
        | some v =>
          have e : slotV asg' t = v := by simp [slotV, h]
          rw [e] at hc
          have := (hA.get h).2
          simp only [knowsV, List.all_eq_true] at this
          exact blt_lt (this c hc i hi)
      · obtain ⟨p, hp, r, hr, hcr⟩ := mem_obLeaves.1 hc
        obtain ⟨h1, h2⟩ := mem_obOf hp
        have := (hO.get h2).2
        simp only [knowsR, List.all_eq_true] at this
        exact blt_lt (this r hr c hcr i hi)
    · obtain ⟨p, hp, rfl⟩ := List.mem_map.1 hi
      exact (mem_obOf hp).1
  · show B.n0 ≤ l.length
    rcases Nat.lt_or_ge l.length B.n0 with h | h
    · have := hB l.length h
      simp at this
    · exact h
  · have := hB i hi
    simp [gOf, this]
theorem hB_0 {l : List Nat} (h : B.n0 = 0) : ∀ i, i < B.n0 → l[i]? = some i := fun i hi => by omega
theorem hB_n {l : List Nat} (n : Nat) (h : B.n0 = n) (hl : (List.range n).all (fun i => l[i]? == some i) = true) : ∀ i, i < B.n0 → l[i]? = some i := fun i hi => by
  rw [List.all_eq_true] at hl
  have := hl i (by rw [List.mem_range]; omega)
  simpa using this
end
end Go.Proofs.YtghdhjgoicnbcaaGreat.AM

namespace Go.Proofs.YtghdhjgoicnbcaaGreat.AM
open Go

def asgOf (k : Nat) : List (U Unit) → Asg
  | [] => []
  | u :: us => (k, .u u) :: asgOf (k + 1) us
def oaOf (k : Nat) : List (Ob Unit) → OAsg
  | [] => []
  | o :: os => (k, some o) :: oaOf (k + 1) os
theorem asgOf_get : ∀ (us : List (U Unit)) (k t : Nat), lkp (asgOf k us) t = if k ≤ t then (us[t - k]?).map .u else none
  | [], k, t => by simp [asgOf, lkp]
  | u :: us, k, t => by
    by_cases h : k = t
    · subst h; simp [asgOf, lkp_cons_self]
    · rw [asgOf, lkp_cons_ne _ _ h, asgOf_get us (k + 1) t]
      by_cases hk : k + 1 ≤ t
      · rw [if_pos hk, if_pos (by omega)]
        have : t - k = (t - (k + 1)) + 1 := by omega
        rw [this, List.getElem?_cons_succ]
      · rw [if_neg hk, if_neg (by omega)]
theorem oaOf_get : ∀ (os : List (Ob Unit)) (k t : Nat), obAt (oaOf k os) t = if k ≤ t then os[t - k]? else none
  | [], k, t => by simp [oaOf, obAt, lkp]
  | o :: os, k, t => by
    by_cases h : k = t
    · subst h; simp [oaOf, obAt_self]
    · rw [oaOf, obAt_ne _ _ h, oaOf_get os (k + 1) t]
      by_cases hk : k + 1 ≤ t
      · rw [if_pos hk, if_pos (by omega)]
        have : t - k = (t - (k + 1)) + 1 := by omega
        rw [this, List.getElem?_cons_succ]
      · rw [if_neg hk, if_neg (by omega)]
mutual
theorem renL_id {δ : Type} : ∀ l : L δ, renL (fun i => i) l = l
  | .int _ _ | .bool _ | .str _ | .nl | .nilp | .bs _ _ _ | .os _ _ _ | .ip _ _ | .ref _ _ _ _ | .ptr _ _ _ _ => by simp [renL]
  | .fn v f caps => by simp [renL, renC_id caps]
theorem renC_id {δ : Type} : ∀ ls : List (L δ), renC (fun i => i) ls = ls
  | [] => rfl
  | l :: ls => by simp [renC, renL_id l, renC_id ls]
end
theorem renU_id {δ : Type} (u : U δ) : renU (fun i => i) u = u := by
  cases u with
  | one l => simp [renU, renL_id]
  | agg ls => simp only [renU, U.agg.injEq]; conv => rhs; rw [← List.map_id ls]
              exact List.map_congr_left fun l _ => renL_id l
theorem renV_id {δ : Type} (v : V δ) : renV (fun i => i) v = v := by
  cases v with
  | u x => simp [renV, renU_id]
  | tup xs => simp only [renV, V.tup.injEq]; conv => rhs; rw [← List.map_id xs]
              exact List.map_congr_left fun l _ => renU_id l
  | un => rfl
  | ud => rfl
theorem renOb_id {δ : Type} (o : Ob δ) : renOb (fun i => i) o = o := by
  obtain ⟨h, n, rows⟩ := o
  simp only [renOb, Ob.mk.injEq, true_and]
  conv => rhs; rw [← List.map_id rows]
  refine List.map_congr_left fun r _ => ?_
  simp only [id]
  conv => rhs; rw [← List.map_id r]
  exact List.map_congr_left fun l _ => renL_id l
theorem keyed_obOf (obs : List (Ob Unit)) : obOf (oaOf 0 obs) obs.length = keyed obs := by
  unfold obOf keyed
  apply List.ext_getElem?
  intro i
  have e : ∀ n, n ≤ obs.length → (List.range n).filterMap (fun i => (obAt (oaOf 0 obs) i).map fun o => (i, o)) = ((obs.take n).zipIdx).map (fun q => (q.2, q.1)) := by
    intro n
    induction n with
    | zero => intro _; rfl
    | succ n ih =>
      intro hn
      rw [List.range_succ, List.filterMap_append, ih (by omega)]
      have hlt : n < obs.length := by omega
      rw [List.take_succ_eq_append_getElem hlt, List.zipIdx_append, List.map_append]
      congr 1
      have : obAt (oaOf 0 obs) n = some obs[n] := by
        rw [oaOf_get]; simp [hlt]
      simp [this, List.length_take, Nat.min_eq_left (show n ≤ obs.length by omega)]
  rw [e _ (Nat.le_refl _), List.take_length]
theorem sim_st {P : Program} {f : FuncId} {fn : Func} {c : Code} (hf : P.funcs[f]? = some fn) (hb : fn.body = some c) {args : List (U Unit)} {obs obs' : List (Ob Unit)} {r : V Unit} {N k0 : Nat} (hN : fn.ntmps = N) (hk0 : obs.length = k0) (hn : Nat.ble args.length N = true)
    {rs : List ResultVar} (hrs : fn.results.toList = rs) (hk : args.all (fun u => (leavesU u).all fun l => (idsL l).all fun i => Nat.blt i obs.length) = true) (hk2 : obs.all (fun o => knowsR obs.length o.rows) = true)
    (hw : ∀ B, B.n0 = k0 → Wp (P := P) B c (RetQ P B rs obs r obs') (St N (asgOf 0 args) (oaOf 0 obs) k0)) : Sim P f args obs r obs' := by
  subst hN hk0
  have hn' := Nat.le_of_ble_eq_true hn
  refine sim_of_wp hf hb hn' hrs rfl fun B hB => Wp.ghb _ ?_ (hw B hB)
  refine GhB.view (fun i => i) (by simp [St, slotsOf]; omega) (fun t v' hv => ?_) (fun p hp => ?_) (obOf_keys _ _) (fun i j _ _ h => h) (fun i hi => ?_) (by rw [hB]; exact Nat.le_refl _) (fun _ _ => rfl)
  · have ht : t < fn.ntmps := by
      have := (List.getElem?_eq_some_iff.1 hv).1
      simpa [St, slotsOf] using this
    have e : (St fn.ntmps (asgOf 0 args) (oaOf 0 obs) obs.length).sl[t]? = some (slotV (asgOf 0 args) t) := slots_get ht
    rw [e] at hv
    cases hv
    rw [renV_id]
    simp only [slotV, asgOf_get, Nat.zero_le, if_true, Nat.sub_zero]
    by_cases h : t < args.length
    · right
      rw [List.getElem?_append_left (by simpa using h), List.getElem?_map, List.getElem?_eq_getElem h]
      rfl
    · left
      rw [List.getElem?_eq_none (by omega)]
      rfl
  · rw [renOb_id]
    show look (keyed obs) p.1 = some p.2
    rw [← keyed_obOf]
    exact look_mem (obOf_keys _ _) hp
  · show i < obs.length
    rcases hi with ⟨c, hc, hi⟩ | hi
    · rcases mem_tops.1 hc with ⟨v, hv, hc⟩ | hc
      · simp only [St, slotsOf, List.mem_map, List.mem_range] at hv
        obtain ⟨t, ht, rfl⟩ := hv
        simp only [slotV, asgOf_get, Nat.zero_le, if_true, Nat.sub_zero] at hc
        by_cases h : t < args.length
        · rw [List.getElem?_eq_getElem h] at hc
          simp only [Option.map_some, Option.getD_some, leavesV] at hc
          simp only [List.all_eq_true] at hk
          exact blt_lt (hk _ (List.getElem_mem h) c hc i hi)
        · rw [List.getElem?_eq_none (by omega)] at hc
          simp [leavesV] at hc
      · obtain ⟨p, hp, r, hr, hcr⟩ := mem_obLeaves.1 hc
        obtain ⟨h1, h2⟩ := mem_obOf hp
        have h3 : obs[p.1]? = some p.2 := by simpa [oaOf_get] using h2
        simp only [List.all_eq_true, knowsR] at hk2
        exact blt_lt (hk2 _ (List.mem_of_getElem? h3) r hr c hcr i hi)
    · obtain ⟨p, hp, rfl⟩ := List.mem_map.1 hi
      exact (mem_obOf hp).1

-- the end
def Rt (us : List (U Unit)) (oa : OAsg) (nx : Nat) : S Unit := ⟨us.map .u, obOf oa nx, nx⟩
section
variable {P : Program} {B : Bd} {N nx : Nat} {asg : Asg} {oa : OAsg}
theorem r_nil : resUs P (St N asg oa nx).sl (look (St N asg oa nx).ob) [] = some [] := rfl
theorem r_tmp {t : Nat} {u : U Unit} {rs : List ResultVar} {us : List (U Unit)} (hN : Nat.blt t N = true) (hv : lkp asg t = some (.u u)) (hn : noOsU u = true) (h : resUs P (St N asg oa nx).sl (look (St N asg oa nx).ob) rs = some us) :
    resUs P (St N asg oa nx).sl (look (St N asg oa nx).ob) (.tmp t :: rs) = some (u :: us) := by
  simp only [resUs, resU, St_get (oa := oa) (nx := nx) hN hv, uO, Option.bind_some, hn, if_true, h, Option.map_some]
theorem r_cell {a ty id e j : Nat} {i : TI} {o : Ob Unit} {r : List (L Unit)} {u : U Unit} {rs : List ResultVar} {us : List (U Unit)} (hN : Nat.blt a N = true) (ht : tiOf P ty = some i) (hv : lkp asg a = some (.u (.one (.ptr () id e j))))
    (ho : lko oa nx id = some o) (hr : o.rows[e]? = some r) (hu : pk i r j = some u) (hn : noOsU u = true) (h : resUs P (St N asg oa nx).sl (look (St N asg oa nx).ob) rs = some us) :
    resUs P (St N asg oa nx).sl (look (St N asg oa nx).ob) (.cell a ty :: rs) = some (u :: us) := by
  simp only [resUs, resU, ht, St_get (oa := oa) (nx := nx) hN hv, lO, Option.bind_some, lko_ok ho, hr, hu, hn, if_true, h, Option.map_some]
/-- An own slice goes inline. -/
theorem f_fold {α : Type} {enc : α → List (L Unit)} [EncO enc] {us us' : List (U Unit)} {u : U Unit} {m id : Nat} {xs : List α} (t j : Nat) (ht : us[t]? = some u) (hj : (leavesU u)[j]? = some (.ref () id 0 xs.length)) (ho : lko oa nx id = some ⟨(), m, xs.map enc⟩)
    (hu : us.set t (setLf u j (.os () m (xs.map enc))) = us') : GhB B (Rt us oa nx) (Rt us' ((id, none) :: oa) nx) := by
  subst hu
  have h := Gh.fold (s := Rt us oa nx) (t := t) (j := j) (id := id) (len := xs.length) (u := u) (by simp [Rt, ht]) hj (o := ⟨(), m, xs.map enc⟩) (lko_ok (N := 0) (asg := []) ho) (by simp) (by
    simp only [List.all_map, List.all_eq_true]
    intro x _
    simpa using EncO.h (enc := enc) x)
  have e : (⟨(Rt us oa nx).sl.set t (.u (setLf u j (.os () m (xs.map enc)))), (Rt us oa nx).ob.filter (fun p => !(p.1 == id)), nx⟩ : S Unit) = Rt (us.set t (setLf u j (.os () m (xs.map enc)))) ((id, none) :: oa) nx := by
    simp only [Rt, obOf_del, List.map_set]
  rw [← e]
  exact h.b
theorem f_done {us : List (U Unit)} : GhB B (Rt us oa nx) ⟨us.map .u, keyed [], nx⟩ := by
  have h := Gh.drop (Rt us oa nx) (fun _ => false)
  have e : (⟨(Rt us oa nx).sl, (Rt us oa nx).ob.filter (fun _ => false), nx⟩ : S Unit) = ⟨us.map .u, keyed [], nx⟩ := by
    simp [Rt, keyed]
  rw [← e]
  exact h.b
/-- A slice that is nil, as an own one without elements, or one to read. -/
theorem f_nl {us us' : List (U Unit)} {u : U Unit} (t j m : Nat) (o : Bool) (ht : us[t]? = some u) (hj : (leavesU u)[j]? = some .nl) (hu : us.set t (setLf u j (match o with | true => .os () m [] | false => .bs () m [])) = us') : GhB B (Rt us oa nx) (Rt us' oa nx) := by
  subst hu
  rintro a W ⟨d, he, hi, hs, hdef, hk, hn0⟩
  have hsl : d.sl.map erV = us.map .u := congrArg S.sl he
  have hob : (erS d).ob = obOf oa nx := congrArg S.ob he
  have hnx : d.nx = nx := congrArg S.nx he
  have h1 : (d.sl.map erV)[t]? = some (.u u) := by rw [hsl, List.getElem?_map, ht]; rfl
  rw [List.getElem?_map, Option.map_eq_some_iff] at h1
  obtain ⟨v, hv, hvu⟩ := h1
  obtain ⟨u', rfl, rfl⟩ : ∃ u', v = .u u' ∧ erU u' = u := by
    cases v with
    | u x => exact ⟨x, rfl, by injection hvu⟩
    | tup xs => cases hvu
    | un => cases hvu
    | ud => cases hvu
  rw [leavesU_map, List.getElem?_map, Option.map_eq_some_iff] at hj
  obtain ⟨l', hj', hl'⟩ := hj
  obtain rfl : l' = .nl := by cases l' <;> simp [mapL] at hl'; rfl
  have hjlt : j < (leavesU u').length := (List.getElem?_eq_some_iff.1 hj').1
  have htlt : t < d.sl.length := (List.getElem?_eq_some_iff.1 hv).1
  let nl' : L Value := match o with | true => .os (.slice none 0 0) m [] | false => .bs (.slice none 0 0) m []
  have hno : ownL nl' = [] := by cases o <;> simp [nl', ownL, hdrOwn, ownR]
  have him : immL nl' = [] := by cases o <;> simp [nl', immL, hdrImm, immR]
  have hids : idsL nl' = [] := by cases o <;> rfl
  have hwf : wfL false nl' := by
    cases o
    · exact ⟨⟨none, 0, rfl, Nat.le_refl _, by simp [LIM], fun h => absurd rfl h⟩, by simp, trivial⟩
    · exact ⟨.inl ⟨rfl, rfl⟩, by simp, trivial⟩
  have hval : val nl' = val (.nl : L Value) := by cases o <;> rfl
  let nv : V Value := .u (setLf u' j nl')
  have hlv : leavesV nv = (leavesU u').set j nl' := setLf_leaves hjlt
  let d' : S Value := ⟨d.sl.set t nv, d.ob, d.nx⟩
  have htop : ∀ l ∈ tops d', l ∈ tops d ∨ l = nl' := fun l hl => by
    rcases mem_tops.1 hl with ⟨w, hw, hl2⟩ | hl2
    · rcases List.mem_or_eq_of_mem_set hw with hw | rfl
      · exact .inl (mem_tops.2 (.inl ⟨w, hw, hl2⟩))
      · rw [hlv] at hl2
        rcases List.mem_or_eq_of_mem_set hl2 with hl2 | rfl
        · exact .inl (mem_tops.2 (.inl ⟨.u u', List.mem_of_getElem? hv, hl2⟩))
        · exact .inr rfl
    · exact .inl (mem_tops.2 (.inr hl2))
  have hown : (ownS d').Perm (ownS d) := by
    have h1 : ((leavesV nv).flatMap ownL).Perm ([] ++ (leavesV (.u u')).flatMap ownL) := by
      rw [hlv]
      exact perm_set (e := []) hj' (by simp [hno, ownL])
    have h2 := perm_set (f := fun v => (leavesV v).flatMap ownL) (e := []) hv h1
    simp only [ownS, tops, List.flatMap_append, List.flatMap_assoc, d'] at h2 ⊢
    simp only [List.nil_append] at h2
    exact (h2.append_right _).append_left _
  refine ⟨d', ?_, ?_, ⟨by simpa [d'] using hs.1, fun i w hw => ?_⟩, hdef, fun i hi2 => hk i ?_, hn0⟩
  · have e1 : (d'.sl.map erV) = (us.set t (setLf (erU u') j (match o with | true => .os () m [] | false => .bs () m []))).map .u := by
      simp only [d', List.map_set, hsl]
      congr 1
      show V.u (erU (setLf u' j nl')) = _
      rw [setLf_er]
      cases o <;> simp [nl', mapL, mapR]
    have : erS d' = ⟨d'.sl.map erV, (erS d).ob, d.nx⟩ := rfl
    rw [this, e1, hob, hnx]
    rfl
  · refine hi.step (Nat.le_refl _) (Same.refl _) (fun _ _ _ => rfl) (fun l hl => ?_) hi.good.obs hi.good.ids (fun p hp => ⟨hi.good.own p (hown.mem_iff.1 hp), .inl ⟨p, hown.mem_iff.1 hp, rfl⟩⟩) ((hown.map (·.1)).nodup_iff.2 hi.good.nodup) (fun p hp => ?_) hi.hdr
    · rcases htop l hl with h | rfl
      · exact hi.good.wf l h
      · exact ⟨hwf, refOk_free hids⟩
    · obtain ⟨l, hl, hp⟩ := List.mem_flatMap.1 hp
      rcases htop l hl with h | rfl
      · exact .of_mem (List.mem_flatMap.2 ⟨l, h, hp⟩)
      · rw [him] at hp; cases hp
  · simp only [d', List.getElem?_set] at hw
    by_cases hti : t = i
    · subst hti
      rw [if_pos rfl, if_pos htlt] at hw
      cases hw
      exact setLf_UR (hs.2 t _ hv) hj' hval
    · rw [if_neg hti] at hw
      exact hs.2 i w hw
  · rcases hi2 with ⟨l, hl, h⟩ | h
    · rcases htop l hl with h2 | rfl
      · exact .inl ⟨l, h2, h⟩
      · rw [hids] at h; cases h
    · exact .inr h
/-- A function that was handed no objects ends. -/
theorem ret0 {rs : List ResultVar} {us us' : List (U Unit)} {r : V Unit} {e : Exit} {nx' : Nat} (he : (match e with | .normal => true | .ret => true | _ => false) = true) (hr : resUs P (St N asg oa nx).sl (look (St N asg oa nx).ob) rs = some us)
    (hg : GhB B (Rt us oa nx) ⟨us'.map .u, keyed [], nx'⟩) (hrr : resR us' = r) (hk : us'.all (fun u => (leavesU u).all fun l => (idsL l).isEmpty) = true) : RetQ P B rs [] r [] e (St N asg oa nx) := by
  refine ⟨by cases e <;> simp_all, us, hr, us', nx', hg, hrr, rfl, Nat.le_refl _, ?_, rfl⟩
  simp only [List.all_eq_true, List.isEmpty_iff] at hk ⊢
  intro u hu l hl i hi
  rw [hk u hu l hl] at hi
  cases hi
end

-- calls
section
variable {P : Program} {N nx : Nat} {asg : Asg} {oa : OAsg}
/-- A leaf as the callee has it; leaves; arguments. -/
def BorL (k : Nat) (N : Nat) (asg : Asg) (oa : OAsg) (nx : Nat) (l l' : L Unit) : Prop := ∃ rd, borL (look (St N asg oa nx).ob) k l = some (l', rd)
def BorC (k : Nat) (N : Nat) (asg : Asg) (oa : OAsg) (nx : Nat) (ls ls' : List (L Unit)) : Prop := ∃ rd, mapO (borL (look (St N asg oa nx).ob) k) ls = some (ls', rd)
def BorA (N : Nat) (asg : Asg) (oa : OAsg) (nx : Nat) (xs : List Operand) (us : List (U Unit)) : Prop := ∃ rd, argsE (look (St N asg oa nx).ob) (evA (St N asg oa nx)) xs = some (us, rd)
theorem b_s {k : Nat} {l : L Unit} (h : plainL l = true) : BorL (k + 1) N asg oa nx l l := ⟨[], by cases l <;> simp_all [plainL, borL]⟩
theorem b_ip {k : Nat} {cs : List (L Unit)} : BorL (k + 1) N asg oa nx (.ip () cs) (.ip () cs) := ⟨[], rfl⟩
theorem all_plain_map {α : Type} {enc : α → List (L Unit)} [EncB enc] (xs : List α) : (xs.map enc).all (fun r => r.all plainL) = true := by
  simp only [List.all_map, List.all_eq_true]
  intro x _
  simpa using EncB.h (enc := enc) x
theorem b_r {α : Type} {enc : α → List (L Unit)} [EncB enc] {k id m : Nat} {xs : List α} (ho : lko oa nx id = some ⟨(), m, xs.map enc⟩) : BorL (k + 1) N asg oa nx (.ref () id 0 xs.length) (.bs () m (xs.map enc)) := by
  refine ⟨[id], ?_⟩
  have e : ((xs.map enc).drop 0).take xs.length = xs.map enc := by rw [List.drop_zero, List.take_of_length_le (by simp)]
  simp only [borL, lko_ok ho, Option.bind_some, e, all_plain_map, if_true]
theorem c_n {k : Nat} : BorC k N asg oa nx [] [] := ⟨[], rfl⟩
theorem c_c {k : Nat} {l l' : L Unit} {ls ls' : List (L Unit)} (h : BorL k N asg oa nx l l') (ht : BorC k N asg oa nx ls ls') : BorC k N asg oa nx (l :: ls) (l' :: ls') := by
  obtain ⟨rd, h⟩ := h
  obtain ⟨rd2, ht⟩ := ht
  exact ⟨rd ++ rd2, by simp only [mapO, h, ht, Option.bind_some]⟩
/-- Leaves that are values, or rows to read, all at once. -/
theorem c_all {k : Nat} {ls : List (L Unit)} (h : ls.all plainL = true) : BorC (k + 1) N asg oa nx ls ls := by
  induction ls with
  | nil => exact c_n
  | cons l ls ih =>
    simp only [List.all_cons, Bool.and_eq_true] at h
    exact c_c (b_s h.1) (ih h.2)
theorem b_p {k id j n : Nat} {r cs : List (L Unit)} (ho : lko oa nx id = some ⟨(), n, [r]⟩) (h : BorC k N asg oa nx (r.drop j) cs) (hp : cs.all plainL = true) : BorL (k + 1) N asg oa nx (.ptr () id 0 j) (.ip () cs) := by
  obtain ⟨rd, h⟩ := h
  exact ⟨id :: rd, by simp only [borL, lko_ok ho, Option.bind_some, List.getElem?_cons_zero, h, hp, if_true]⟩
theorem b_f {k : Nat} {f : FuncId} {caps cs : List (L Unit)} (h : BorC k N asg oa nx caps cs) : BorL (k + 1) N asg oa nx (.fn () f caps) (.fn () f cs) := by
  obtain ⟨rd, h⟩ := h
  exact ⟨rd, by simp only [borL, h, Option.bind_some]⟩
theorem a_n : BorA N asg oa nx [] [] := ⟨[], rfl⟩
theorem a_1 {x : Operand} {xs : List Operand} {l l' : L Unit} {us : List (U Unit)} (hv : ev N asg x = some (.u (.one l))) (h : BorL 4 N asg oa nx l l') (ht : BorA N asg oa nx xs us) : BorA N asg oa nx (x :: xs) (.one l' :: us) := by
  obtain ⟨rd, h⟩ := h
  obtain ⟨rd2, ht⟩ := ht
  exact ⟨rd ++ rd2, by simp only [argsE, uO_ev hv, borU, h, Option.map_some, Option.bind_some, ht]⟩
theorem a_a {x : Operand} {xs : List Operand} {ls ls' : List (L Unit)} {us : List (U Unit)} (hv : ev N asg x = some (.u (.agg ls))) (h : BorC 4 N asg oa nx ls ls') (ht : BorA N asg oa nx xs us) : BorA N asg oa nx (x :: xs) (.agg ls' :: us) := by
  obtain ⟨rd, h⟩ := h
  obtain ⟨rd2, ht⟩ := ht
  exact ⟨rd ++ rd2, by simp only [argsE, uO_ev hv, borU, h, Option.map_some, Option.bind_some, ht]⟩
def pushO : List (Nat × Ob Unit) → OAsg → OAsg
  | [], oa => oa
  | (i, o) :: l, oa => pushO l ((i, some o) :: oa)
theorem obOf_push : ∀ (l : List (Nat × Ob Unit)) (oa : OAsg) (nx : Nat), l.map (·.1) = List.range' nx l.length → obOf (pushO l oa) (nx + l.length) = obOf oa nx ++ l
  | [], oa, nx, _ => by simp [pushO]
  | (i, o) :: l, oa, nx, h => by
    simp only [List.map_cons, List.length_cons, List.range'_succ, List.cons.injEq] at h
    obtain ⟨rfl, h⟩ := h
    have := obOf_push l ((i, some o) :: oa) (i + 1) h
    simp only [pushO, List.length_cons]
    rw [show i + (l.length + 1) = i + 1 + l.length by omega, this, obOf_new]
    simp
variable {t : Nat} {ty : TypeId} {pos : String} {aft : Array Edge} {K : S Unit → Prop}
theorem St_call {r : V Unit} {v : V Unit} {nobs : List (Nat × Ob Unit)} {rd : List Nat} (hroot : rootV (fun _ => ()) nx r = (v, nobs)) :
    appE (St N asg oa nx) (some t) nx ⟨(rootV (fun _ => ()) nx r).1, rd, (rootV (fun _ => ()) nx r).2.map (·.2), [], [], True⟩ = St N ((t, v) :: asg) (pushO nobs oa) (nx + nobs.length) := by
  have hk : nobs.map (·.1) = List.range' nx nobs.length := by
    have := rootLs_keys (fun _ : Unit => ()) nx (leavesV r)
    have h2 := (rootV_leaves (fun _ : Unit => ()) nx r).2
    rw [← h2, hroot] at this
    exact this
  have hre := rekey nx nobs hk
  simp only [St, hroot, appE, app_many, hre, obOf_push nobs oa nx hk, List.length_map, setSl, slots_set]
/-- A call. -/
theorem x_call {x : Operand} {args : Array Operand} {ats : Array TypeId} {f : FuncId} {caps cs : List (L Unit)} {us : List (U Unit)} {r v : V Unit} {nobs : List (Nat × Ob Unit)} {oa' : OAsg} {nx' : Nat} (hf : ev N asg x = some (.u (.one (.fn () f caps)))) (ha : BorA N asg oa nx args.toList us)
    (hc : BorC 4 N asg oa nx caps cs) (hent : Ent P f) (hsim : Sim P f (us ++ cs.map .one) [] r []) (himf : immFreeV r = true) (hroot : rootV (fun _ => ()) nx r = (v, nobs)) (hoa : pushO nobs oa = oa') (hnx : nx + nobs.length = nx')
    (hK : K (St N ((t, v) :: asg) oa' nx')) : aopK (sysC P) 0 ⟨some t, .call ⟨.value x, args, ats⟩, ty, pos, aft, none⟩ (St N asg oa nx) K := by
  subst hoa hnx
  obtain ⟨rd, ha⟩ := ha
  obtain ⟨rd2, hc⟩ := hc
  refine ⟨⟨(rootV (fun _ => ()) nx r).1, rd ++ rd2, (rootV (fun _ => ()) nx r).2.map (·.2), [], [], True⟩, fun h => absurd rfl h, .inr ⟨⟨.value x, args, ats⟩, f, caps, us, rd, cs, rd2, r, rfl, ?_, ha, hc, hent, hsim, himf, rfl⟩, fun _ => ?_⟩
  · simp only [calE, lO_ev hf]
  · show K (appE (St N asg oa nx) (some t) nx _)
    rw [St_call hroot]
    exact hK
end
end Go.Proofs.YtghdhjgoicnbcaaGreat.AM

namespace Go.Proofs.YtghdhjgoicnbcaaGreat.AM
open Go
def iL (n : Int) : List (L Unit) := [.int .i64 n]
instance : EncB iL := ⟨fun _ => rfl⟩
def iK (k : IntKind) (n : Int) : List (L Unit) := [.int k n]
instance (k : IntKind) : EncB (iK k) := ⟨fun _ => rfl⟩
def bL (b : Bool) : List (L Unit) := [.bool b]
instance : EncB bL := ⟨fun _ => rfl⟩
def sL (s : List UInt8) : List (L Unit) := [.str (bts s)]
instance : EncB sL := ⟨fun _ => rfl⟩
def sl (o : Bool) (n : Nat) (rows : List (List (L Unit))) : L Unit := match o with | true => .os () n rows | false => .bs () n rows
def lL {α : Type} (o : Bool) (n : Nat) (enc : α → List (L Unit)) (xs : List α) : List (L Unit) := [sl o n (List.map enc xs)]
instance {α : Type} (n : Nat) (enc : α → List (L Unit)) : EncB (lL false n enc) := ⟨fun _ => rfl⟩
instance {α : Type} (o : Bool) (n : Nat) (enc : α → List (L Unit)) : EncO (lL o n enc) := ⟨fun _ => by cases o <;> rfl⟩
/-- An element's cells hold nothing that is only read. -/
class EncF {α : Type} (enc : α → List (L Unit)) : Prop where
  h : ∀ x, immFreeC (enc x) = true
theorem immF_map {α : Type} {enc : α → List (L Unit)} [EncF enc] : ∀ xs : List α, immFreeR (List.map enc xs) = true
  | [] => rfl
  | x :: xs => by simp only [List.map_cons, immFreeR, EncF.h (enc := enc) x, immF_map xs, Bool.and_self]
instance : EncF iL := ⟨fun _ => rfl⟩
instance (k : IntKind) : EncF (iK k) := ⟨fun _ => rfl⟩
instance : EncF bL := ⟨fun _ => rfl⟩
instance : EncF sL := ⟨fun _ => rfl⟩
instance {α : Type} (n : Nat) (enc : α → List (L Unit)) [EncF enc] : EncF (lL true n enc) := ⟨fun _ => by simp only [lL, sl, immFreeC, immFreeL, immF_map, Bool.and_self]⟩
end Go.Proofs.YtghdhjgoicnbcaaGreat.AM

namespace Go.Proofs.YtghdhjgoicnbcaaGreat.AM
open Go

/-- All steps that hold. -/
def sysA (P : Program) : Sys P := { E := StepOk P, ok := id }
instance {P : Program} : PlainY (sysA P) := ⟨stepOk_op⟩
section
variable {P : Program} {N nx t : Nat} {asg : Asg} {oa : OAsg} {ty : TypeId} {pos : String} {aft : Array Edge} {K : S Unit → Prop}
/-- What holds in the smaller system holds. -/
theorem aopK_A {o : Oper} {s : S Unit} (h : aopK (sysC P) 0 o s K) : aopK (sysA P) 0 o s K := by
  obtain ⟨e, _, h1, h2⟩ := h
  exact ⟨e, fun h => absurd rfl h, (sysC P).ok h1, h2⟩
-- structs of numbers, compared
end
end Go.Proofs.YtghdhjgoicnbcaaGreat.AM

namespace Go.Proofs.YtghdhjgoicnbcaaGreat.AM
open Go

/-- What an object owns. -/
def ownOb (p : Nat × Ob Value) : List OwnE := hdrOwn p.2.h p.2.n p.2.rows ++ p.2.rows.flatten.flatMap ownL
theorem own_split (d : S Value) : (ownS d).Perm (d.ob.flatMap ownOb ++ (d.sl.flatMap leavesV).flatMap ownL) := by
  classical
  refine List.perm_iff_count.2 fun q => ?_
  have key : ∀ ob : List (Nat × Ob Value), List.count q (ob.flatMap ownOb) = List.count q (ob.flatMap (fun p => hdrOwn p.2.h p.2.n p.2.rows)) + List.count q ((obLeaves ob).flatMap ownL) := by
    intro ob
    induction ob with
    | nil => rfl
    | cons p ob ih =>
      have e : obLeaves (p :: ob) = p.2.rows.flatten ++ obLeaves ob := by simp [obLeaves]
      simp only [List.flatMap_cons, List.count_append, e, List.flatMap_append, ih, ownOb]
      omega
  simp only [ownS, tops, List.flatMap_append, List.count_append, key]
  omega
theorem flat_ren (g : Nat → Nat) (rows : List (List (L Value))) : (rows.map (fun r => r.map (renL g))).flatten = rows.flatten.map (renL g) := by
  rw [List.map_flatten]
theorem valR_ren (g : Nat → Nat) (rows : List (List (L Value))) : valR (rows.map (fun r => r.map (renL g))) = valR rows := by
  unfold valR
  rw [flat_ren, List.map_map]
  exact List.map_congr_left fun l _ => val_ren g l
theorem hdrOwn_ren (g : Nat → Nat) (h : Value) (n : Nat) (rows : List (List (L Value))) : hdrOwn h n (rows.map (fun r => r.map (renL g))) = hdrOwn h n rows := by
  unfold hdrOwn
  split
  · rw [valR_ren]
  · rfl
theorem ownOb_ren (g : Nat → Nat) (i j : Nat) (o : Ob Value) : ownOb (i, renOb g o) = ownOb (j, o) := by
  unfold ownOb
  simp only [renOb, hdrOwn_ren, flat_ren, List.flatMap_map]
  congr 1
  exact flatMap_congr' fun l _ => own_ren g l
where
  flatMap_congr' {α β : Type} {f h : α → List β} : ∀ {l : List α}, (∀ x ∈ l, f x = h x) → l.flatMap f = l.flatMap h
  | [], _ => rfl
  | x :: l, hx => by
    simp only [List.flatMap_cons, hx x (by simp)]
    rw [flatMap_congr' fun y hy => hx y (by simp [hy])]
mutual
/-- A leaf named anew stands as it stood, if the objects' headers are the same. -/
theorem refOk_tr {g : Nat → Nat} {ob ob' : List (Nat × Ob Value)} : ∀ {l : L Value}, (∀ i ∈ idsL l, ∀ o', look ob' (g i) = some o' → ∃ o, look ob i = some o ∧ o.h = o'.h ∧ o.n = o'.n ∧ o.rows.length = o'.rows.length) → refOk ob l → refOk ob' (renL g l)
  | .int _ _, _, _ | .bool _, _, _ | .str _, _, _ | .nl, _, _ | .nilp, _, _ | .bs _ _ _, _, _ | .os _ _ _, _, _ | .ip _ _, _, _ => by simp [renL, refOk]
  | .ref v id off len, hl, h => by
    simp only [renL, refOk] at h ⊢
    intro o' ho'
    obtain ⟨o, h1, h2, h3, h4⟩ := hl id (by simp [idsL]) o' ho'
    have := h o h1
    rwa [h2, h3, h4] at this
  | .ptr v id e j, hl, h => by
    simp only [renL, refOk] at h ⊢
    intro o' ho'
    obtain ⟨o, h1, h2, h3, h4⟩ := hl id (by simp [idsL]) o' ho'
    have := h o h1
    rwa [h2, h3] at this
  | .fn v f caps, hl, h => by
    simp only [renL, refOk] at h ⊢
    exact refOkC_tr (fun i hi => hl i (by simpa [idsL] using hi)) h
theorem refOkC_tr {g : Nat → Nat} {ob ob' : List (Nat × Ob Value)} : ∀ {ls : List (L Value)}, (∀ i ∈ idsC ls, ∀ o', look ob' (g i) = some o' → ∃ o, look ob i = some o ∧ o.h = o'.h ∧ o.n = o'.n ∧ o.rows.length = o'.rows.length) → refOkC ob ls → refOkC ob' (renC g ls)
  | [], _, _ => by simp [renC, refOkC]
  | l :: ls, hl, h => by
    simp only [renC, refOkC] at h ⊢
    exact ⟨refOk_tr (fun i hi => hl i (by simp [idsC, hi])) h.1, refOkC_tr (fun i hi => hl i (by simp [idsC, hi])) h.2⟩
end
mutual
theorem renL_self : ∀ l : L Value, renL (fun i => i) l = l
  | .int _ _ | .bool _ | .str _ | .nl | .nilp | .bs _ _ _ | .os _ _ _ | .ip _ _ | .ref _ _ _ _ | .ptr _ _ _ _ => by simp [renL]
  | .fn _ _ caps => by simp [renL, renC_self caps]
theorem renC_self : ∀ ls : List (L Value), renC (fun i => i) ls = ls
  | [] => rfl
  | l :: ls => by simp [renC, renL_self l, renC_self ls]
end
theorem refOk_same {ob ob' : List (Nat × Ob Value)} {l : L Value} (hl : ∀ i ∈ idsL l, ∀ o', look ob' i = some o' → ∃ o, look ob i = some o ∧ o.h = o'.h ∧ o.n = o'.n ∧ o.rows.length = o'.rows.length) (h : refOk ob l) : refOk ob' l := by
  have := refOk_tr (g := fun i => i) hl h
  rwa [renL_self] at this
mutual
theorem renL_er (g : Nat → Nat) : ∀ l : L Value, erL (renL g l) = renL g (erL l)
  | .int _ _ | .bool _ | .str _ | .nl | .nilp | .bs _ _ _ | .os _ _ _ | .ip _ _ | .ref _ _ _ _ | .ptr _ _ _ _ => by simp [renL, mapL]
  | .fn _ _ caps => by simp [renL, mapL, renC_er g caps]
theorem renC_er (g : Nat → Nat) : ∀ ls : List (L Value), mapC (fun _ => ()) (renC g ls) = renC g (mapC (fun _ => ()) ls)
  | [] => rfl
  | l :: ls => by simp [renC, mapC, renL_er g l, renC_er g ls]
end
theorem renU_er (g : Nat → Nat) (u : U Value) : erU (renU g u) = renU g (erU u) := by
  cases u with
  | one l => simp [renU, mapU, renL_er]
  | agg ls => simp [renU, mapU, Function.comp_def, renL_er]
theorem renV_er (g : Nat → Nat) (v : V Value) : erV (renV g v) = renV g (erV v) := by
  cases v with
  | u x => simp [renV, mapV, renU_er]
  | tup xs => simp [renV, mapV, Function.comp_def, renU_er]
  | un => rfl
  | ud => rfl
theorem renOb_er (g : Nat → Nat) (o : Ob Value) : erOb (renOb g o) = renOb g (erOb o) := by
  simp [renOb, mapOb, Function.comp_def, renL_er]
theorem UR_ren' (g : Nat → Nat) {u : U Value} {x : Value} : UR (renU g u) x ↔ UR u x := by
  cases u with
  | one l => simp [UR, renU, val_ren]
  | agg ls =>
    have : (ls.map (renL g)).map val = ls.map val := by rw [List.map_map]; exact List.map_congr_left fun l _ => val_ren g l
    simp only [UR, renU, this]
theorem VR_ren' (g : Nat → Nat) {v : V Value} {x : Value} (h : VR v x) : VR (renV g v) x := by
  cases v with
  | u y => exact (UR_ren' g).2 h
  | tup xs =>
    obtain ⟨vs, h1, h2, h3⟩ := h
    refine ⟨vs, h1, by simpa using h2, fun i y z hy hz => ?_⟩
    rw [List.getElem?_map, Option.map_eq_some_iff] at hy
    obtain ⟨y0, hy0, rfl⟩ := hy
    exact (UR_ren' g).2 (h3 i y0 z hy0 hz)
  | un => trivial
  | ud => exact h
theorem updP_key {δ : Type} (upd : List (Nat × List (List (L δ)))) (p : Nat × Ob δ) : (updP upd p).1 = p.1 := by
  unfold updP; split <;> rfl
theorem lookup_map {α β : Type} (f : α → β) (k : Nat) : ∀ l : List (Nat × α), (l.map fun p => (p.1, f p.2)).lookup k = (l.lookup k).map f
  | [] => rfl
  | (a, b) :: l => by
    simp only [List.map_cons, List.lookup_cons]
    split
    · rfl
    · exact lookup_map f k l
theorem updP_er (upd : List (Nat × List (List (L Value)))) (p : Nat × Ob Value) : (fun q : Nat × Ob Value => (q.1, erOb q.2)) (updP upd p) = updP (upd.map fun q => (q.1, q.2.map fun r => r.map erL)) (p.1, erOb p.2) := by
  unfold updP
  simp only [lookup_map (f := fun rows : List (List (L Value)) => rows.map fun r => r.map erL)]
  cases upd.lookup p.1 with
  | none => rfl
  | some rows => rfl
theorem lookup_none {α : Type} {k : Nat} : ∀ {l : List (Nat × α)}, k ∉ l.map (·.1) → l.lookup k = none
  | [], _ => rfl
  | (a, b) :: l, h => by
    simp only [List.map_cons, List.mem_cons, not_or] at h
    rw [List.lookup_cons]
    have : (k == a) = false := by simpa using h.1
    rw [this]
    exact lookup_none h.2
theorem lookup_get {α : Type} : ∀ {l : List (Nat × α)} {i : Nat} {p : Nat × α}, (l.map (·.1)).Nodup → l[i]? = some p → l.lookup p.1 = some p.2
  | [], i, p, _, h => by simp at h
  | (a, b) :: l, 0, p, _, h => by
    simp at h; subst h
    simp [List.lookup_cons]
  | (a, b) :: l, i + 1, p, hn, h => by
    simp only [List.getElem?_cons_succ] at h
    simp only [List.map_cons, List.nodup_cons] at hn
    rw [List.lookup_cons]
    have : (p.1 == a) = false := by
      simp only [beq_eq_false_iff_ne, ne_eq]
      rintro rfl
      exact hn.1 (List.mem_map.2 ⟨p, List.mem_of_getElem? h, rfl⟩)
    rw [this]
    exact lookup_get hn.2 h
theorem look_perm {δ : Type} {ob ob' : List (Nat × Ob δ)} (hn : (ob.map (·.1)).Nodup) (hp : ob.Perm ob') (i : Nat) : look ob i = look ob' i := by
  have hn' : (ob'.map (·.1)).Nodup := (hp.map (·.1)).nodup_iff.1 hn
  cases h : look ob i with
  | some o => exact (look_mem hn' (hp.mem_iff.1 (find?_key h))).symm
  | none =>
    cases h' : look ob' i with
    | none => rfl
    | some o => rw [look_mem hn (hp.mem_iff.2 (find?_key h'))] at h; cases h
end Go.Proofs.YtghdhjgoicnbcaaGreat.AM

namespace Go.Proofs.YtghdhjgoicnbcaaGreat.AM
open Go

/-- The callee's numbers, in the caller. -/
def gG (hs : List Nat) (nid i : Nat) : Nat := match hs[i]? with
  | some h => h
  | none => nid + (i - hs.length)
theorem gG_lt {hs : List Nat} {nid i h : Nat} (hi : hs[i]? = some h) : gG hs nid i = h := by simp [gG, hi]
theorem gG_ge {hs : List Nat} {nid i : Nat} (hi : hs.length ≤ i) : gG hs nid i = nid + (i - hs.length) := by
  simp [gG, List.getElem?_eq_none hi]
/-- The leaf's numbers are below k; no own row stands inline. -/
def okK {δ : Type} (k : Nat) (l : L δ) : Bool := noOs l && (idsL l).all fun i => Nat.blt i k
/-- A leaf as the callee has it: named anew; a nil slice may stand as rows to read. -/
inductive NlL (g : Nat → Nat) : L Unit → L Unit → Prop
  | same {l0 l : L Unit} (h : l0 = renL g l) : NlL g l0 l
  | nl {m : Nat} : NlL g .nl (.bs () m [])
inductive ArgsG (s : S Unit) (g : Nat → Nat) (hs : List Nat) (lent : Bool) : List Operand → List (U Unit) → Prop
  | nil : ArgsG s g hs lent [] []
  | given {x : Operand} {xs : List Operand} {u : U Unit} {us : List (U Unit)} : uO (evA s x) = some (renU g u) → (leavesU u).all (okK hs.length) = true → ArgsG s g hs lent xs us → ArgsG s g hs lent (x :: xs) (u :: us)
  | givn {x : Operand} {xs : List Operand} {ls0 ls : List (L Unit)} {us : List (U Unit)} : uO (evA s x) = some (.agg ls0) → All2 (NlL g) ls0 ls → ls.all (okK hs.length) = true → ArgsG s g hs lent xs us → ArgsG s g hs lent (x :: xs) (.agg ls :: us)
  | lent {x : Operand} {xs : List Operand} {u0 u : U Unit} {rd : List Nat} {us : List (U Unit)} : lent = true → uO (evA s x) = some u0 → borU (look s.ob) u0 = some (u, rd) → (∀ i ∈ rd, i ∉ hs) → ArgsG s g hs lent xs us → ArgsG s g hs lent (x :: xs) (u :: us)
/-- A call that hands objects over. -/
def CallG (P : Program) (o : Oper) (s : S Unit) (nid : Nat) (e : Eff) : Prop :=
  ∃ (c : Call) (f : FuncId) (caps cs : List (L Unit)) (us : List (U Unit)) (hs : List Nat) (obs obs' : List (Ob Unit)) (r : V Unit) (lent : Bool), o.op = .call c ∧ calE (evA s) c.callee = some (f, caps) ∧ hs.Nodup ∧ All2 (fun h ob => look s.ob h = some (renOb (gG hs nid) ob)) hs obs ∧
    (∀ ob ∈ obs, knowsR hs.length ob.rows = true) ∧ ArgsG s (gG hs nid) hs lent c.args.toList us ∧ caps = cs.map (renL (gG hs nid)) ∧ cs.all (okK hs.length) = true ∧
    Ent P f ∧ Sim P f (us ++ cs.map .one) obs r obs' ∧ (lent = false ∨ (immFreeV r = true ∧ ∀ ob ∈ obs', immFreeR ob.rows = true)) ∧
    e = { v := (rootV (fun _ => ()) (nid + (obs'.length - hs.length)) (renV (gG hs nid) r)).1, rd := [],
          news := (obs'.drop hs.length).map (renOb (gG hs nid)) ++ (rootV (fun _ => ()) (nid + (obs'.length - hs.length)) (renV (gG hs nid) r)).2.map (·.2),
          upd := hs.zip ((obs'.take hs.length).map fun ob => (renOb (gG hs nid) ob).rows) }

-- what is lent, seen where what is handed over is away
theorem mapO_loc {f f' : L Unit → Option (L Unit × List Nat)} : ∀ {ls : List (L Unit)} {p : List (L Unit) × List Nat}, mapO f ls = some p → (∀ l y, f l = some y → (∀ i ∈ y.2, i ∈ p.2) → f' l = some y) → mapO f' ls = some p
  | [], p, h, _ => h
  | l :: ls, p, h, hr => by
    simp only [mapO] at h ⊢
    obtain ⟨y, hy, h⟩ := bind_some h
    obtain ⟨ys, hys, h⟩ := bind_some h
    cases h
    rw [hr l y hy (fun i hi => List.mem_append_left _ hi), mapO_loc hys (fun l' y' h1 h2 => hr l' y' h1 fun i hi => List.mem_append_right _ (h2 i hi))]
    rfl
theorem borL_loc {lk lk' : Lk} : ∀ (k : Nat) {l : L Unit} {p : L Unit × List Nat}, borL lk k l = some p → (∀ i ∈ p.2, lk' i = lk i) → borL lk' k l = some p
  | 0, _, _, h, _ => by cases h
  | k + 1, l, p, h, hl => by
    cases l with
    | ref v id off len =>
      simp only [borL] at h ⊢
      obtain ⟨o, ho, h⟩ := bind_some h
      split at h
      · rename_i hp
        cases h
        rw [hl id (by simp), ho, Option.bind_some, if_pos hp]
      · cases h
    | ptr v id e j =>
      simp only [borL] at h ⊢
      obtain ⟨o, ho, h⟩ := bind_some h
      obtain ⟨r, hr, h⟩ := bind_some h
      obtain ⟨q, hq, h⟩ := bind_some h
      split at h
      · rename_i hp
        cases h
        rw [hl id (by simp), ho]
        simp only [Option.bind_some, hr]
        rw [mapO_loc hq (fun l' y' h1 h2 => borL_loc k h1 fun i hi => hl i (by simp [h2 i hi]))]
        rw [Option.bind_some, if_pos hp]
      · cases h
    | fn v f caps =>
      simp only [borL] at h ⊢
      obtain ⟨q, hq, h⟩ := bind_some h
      cases h
      rw [mapO_loc hq (fun l' y' h1 h2 => borL_loc k h1 fun i hi => hl i (h2 i hi))]
      rfl
    | os v n rows => simp [borL] at h
    | _ => simpa [borL] using h
theorem borU_loc {lk lk' : Lk} {u : U Unit} {p : U Unit × List Nat} (h : borU lk u = some p) (hl : ∀ i ∈ p.2, lk' i = lk i) : borU lk' u = some p := by
  cases u with
  | one l =>
    simp only [borU, Option.map_eq_some_iff] at h ⊢
    obtain ⟨q, hq, rfl⟩ := h
    exact ⟨q, borL_loc 4 hq hl, rfl⟩
  | agg ls =>
    simp only [borU, Option.map_eq_some_iff] at h ⊢
    obtain ⟨q, hq, rfl⟩ := h
    exact ⟨q, mapO_loc hq (fun l' y' h1 h2 => borL_loc 4 h1 fun i hi => hl i (h2 i hi)), rfl⟩
/-- An argument as the callee has it. -/
structure ArgK (W : World) (d dr : S Value) (dcob : List (Nat × Ob Value)) (k : Nat) (lent : Bool) (u : U Value) (x : Value) : Prop where
  ur : UR u x
  leaf : ∀ l ∈ leavesU u, noOs l = true ∧ (∀ i ∈ idsL l, i < k) ∧ wfL false l ∧ refOk dcob l ∧ ∀ p ∈ immL l, p.2 = [] ∨ SubIn p (immS d) ∨ (lent = true ∧ ImmFact W p ∧ ∃ q ∈ ownS dr, q.1 = p.1.block)
theorem okK_iff {k : Nat} {l : L Unit} : okK k l = true ↔ noOs l = true ∧ ∀ i ∈ idsL l, i < k := by
  unfold okK
  simp only [Bool.and_eq_true, List.all_eq_true]
  constructor
  · rintro ⟨h1, h2⟩
    exact ⟨h1, fun i hi => blt_lt (h2 i hi)⟩
  · rintro ⟨h1, h2⟩
    exact ⟨h1, fun i hi => by have := h2 i hi; simp [Nat.blt]; omega⟩
theorem nl_lift {W : World} {d : S Value} {dcob : List (Nat × Ob Value)} {g : Nat → Nat} {k : Nat} (hdc : ∀ i ob, look dcob i = some ob → look d.ob (g i) = some (renOb g ob)) : ∀ {ls0 : List (L Value)} {l0 ls : List (L Unit)}, ls0.map erL = l0 → All2 (NlL g) l0 ls → (∀ l ∈ ls0, Has d l) → ls.all (okK k) = true →
    ∃ ls2 : List (L Value), ls2.map erL = ls ∧ ls2.map val = ls0.map val ∧ ∀ l ∈ ls2, noOs l = true ∧ (∀ i ∈ idsL l, i < k) ∧ wfL false l ∧ refOk dcob l ∧ ∀ p ∈ immL l, p.2 = [] ∨ SubIn p (immS d) := by
  intro ls0 l0 ls he h
  induction h generalizing ls0 with
  | nil =>
    intro _ _
    cases ls0 with
    | nil => exact ⟨[], rfl, rfl, by simp⟩
    | cons a b => simp at he
  | cons h1 _ ih =>
    rename_i x y xs ys _
    intro hh hk
    cases ls0 with
    | nil => simp at he
    | cons a b =>
      simp only [List.map_cons, List.cons.injEq] at he
      simp only [List.all_cons, Bool.and_eq_true] at hk
      obtain ⟨ls2, e1, e2, e3⟩ := ih he.2 (fun l hl => hh l (by simp [hl])) hk.2
      cases h1 with
      | same h =>
        obtain ⟨cs, c1, c2⟩ := erLs_ren g (ls := [a]) (ls' := [y]) (by simp [he.1, h])
        obtain ⟨a2, rfl⟩ : ∃ a2, cs = [a2] := by
          cases cs with
          | nil => simp at c1
          | cons q qs => cases qs with
            | nil => exact ⟨q, rfl⟩
            | cons _ _ => simp at c1
        simp only [List.map_cons, List.map_nil, List.cons.injEq, and_true] at c1 c2
        have hha := hh a (by simp)
        rw [← c2] at hha
        have ho := hk.1
        rw [← c1, okK_iff, noOs_er, idsL_er] at ho
        refine ⟨a2 :: ls2, by simp [c1, e1], by simp [e2, ← c2, val_ren], fun l hl => ?_⟩
        rcases List.mem_cons.1 hl with rfl | hl
        · exact ⟨ho.1, ho.2, (wf_ren g false _).1 hha.1, refOk_ren hdc _ hha.2.1, fun p hp => .inr (hha.2.2.1 p (by rwa [imm_ren]))⟩
        · exact e3 l hl
      | nl =>
        rename_i m
        obtain rfl : a = .nl := er_nl he.1
        refine ⟨.bs (.slice none 0 0) m [] :: ls2, by simp [mapL, mapR, e1], by simp [e2, val], fun l hl => ?_⟩
        rcases List.mem_cons.1 hl with rfl | hl
        · exact ⟨rfl, by simp [idsL], ⟨⟨none, 0, rfl, Nat.le_refl _, by simp [LIM], fun h => absurd rfl h⟩, by simp, trivial⟩, by simp [refOk], fun p hp => by simp [immL, hdrImm, immR] at hp⟩
        · exact e3 l hl
theorem argsG_ok {W : World} {d dr : S Value} {dcob : List (Nat × Ob Value)} {a : Act} {g : Nat → Nat} {hs : List Nat} {lent : Bool} (hg : Good W d) (hgr : Good W dr) (hs1 : SlR d a) (hs2 : SlR dr a) (hsl : dr.sl = d.sl)
    (hlk : ∀ i, i ∉ hs → look dr.ob i = look d.ob i) (himm : ∀ p ∈ immS dr, p ∈ immS d) (hdc : ∀ i ob, look dcob i = some ob → look d.ob (g i) = some (renOb g ob)) :
    ∀ {xs : List Operand} {us : List (U Unit)}, ArgsG (erS d) g hs lent xs us → ∃ us', us'.map erU = us ∧ All2 (ArgK W d dr dcob hs.length lent) us' (xs.map a.eval) := by
  intro xs us h
  induction h with
  | nil => exact ⟨[], rfl, .nil⟩
  | given h1 h2 _ ih =>
    rename_i x xs u us _
    obtain ⟨us', e1, e2⟩ := ih
    obtain ⟨u0, k1, k2, k3⟩ := u_ok hg hs1 h1
    obtain ⟨u2, k4, k5⟩ := erU_ren g k1
    subst k5
    refine ⟨u2 :: us', by simp [k4, e1], .cons ⟨(UR_ren' g).1 k2, fun l hl => ?_⟩ e2⟩
    rw [leavesU_ren] at k3
    have hh := k3 (renL g l) (List.mem_map.2 ⟨l, hl, rfl⟩)
    have ho : okK hs.length (erL l) = true := by
      rw [List.all_eq_true] at h2
      refine h2 _ ?_
      rw [← k4]
      cases u2 with
      | one l0 => simp only [leavesU, List.mem_singleton] at hl; subst hl; simp [mapU, leavesU]
      | agg ls => simp only [mapU, leavesU] at hl ⊢; exact List.mem_map.2 ⟨l, hl, rfl⟩
    rw [okK_iff, noOs_er, idsL_er] at ho
    refine ⟨ho.1, ho.2, (wf_ren g false l).1 hh.1, refOk_ren hdc l hh.2.1, fun p hp => .inr (.inl (hh.2.2.1 p (by rwa [imm_ren])))⟩
  | givn h1 h2 h3 _ ih =>
    rename_i x xs ls0 ls us _
    obtain ⟨us', e1, e2⟩ := ih
    obtain ⟨u0, k1, k2, k3⟩ := u_ok hg hs1 h1
    obtain ⟨ls1, rfl, hls⟩ : ∃ ls1 : List (L Value), u0 = .agg ls1 ∧ ls1.map erL = ls0 := by
      cases u0 with
      | one l => cases k1
      | agg ls1 => exact ⟨ls1, rfl, by injection k1⟩
    obtain ⟨ls2, f1, f2, f3⟩ := nl_lift (W := W) hdc hls h2 (fun l hl => k3 l hl) h3
    refine ⟨.agg ls2 :: us', by simp [mapU, f1, e1], .cons ⟨?_, fun l hl => ?_⟩ e2⟩
    · simp only [UR] at k2 ⊢
      rw [k2, f2]
    · obtain ⟨a1, a2, a3, a4, a5⟩ := f3 l hl
      exact ⟨a1, a2, a3, a4, fun p hp => (a5 p hp).imp id .inl⟩
  | lent h0 h1 h2 h3 _ ih =>
    rename_i x xs u0 u rd us _
    obtain ⟨us', e1, e2⟩ := ih
    have hev : evA (erS dr) x = evA (erS d) x := by
      cases x <;> simp [evV, erS, mapS, hsl]
    rw [← hev] at h1
    obtain ⟨u1, k1, k2, k3⟩ := u_ok hgr hs2 h1
    subst k1
    have h2' := borU_loc (lk' := look (erS dr).ob) h2 (fun i hi => by
      have := hlk i (h3 i hi)
      have e : ∀ (s : S Value) i, look (erS s).ob i = (look s.ob i).map erOb := fun s i => by
        unfold look
        simp only [erS, mapS, List.find?_map, Option.map_map]
        rfl
      rw [e, e, this])
    obtain ⟨u2, k4, k5⟩ := borU_ok hgr k2 k3 h2'
    refine ⟨u2 :: us', by simp [k4, e1], .cons ⟨k5.ur, fun l hl => ?_⟩ e2⟩
    obtain ⟨a1, a2, a3, a4⟩ := k5.leaf l hl
    refine ⟨a1, by rw [a2]; simp, a3, refOk_free a2, fun p hp => ?_⟩
    rcases a4 p hp with b | b | ⟨b1, b2⟩
    · exact .inl b
    · exact .inr (.inl (b.trans fun q hq => .of_mem (himm q hq)))
    · exact .inr (.inr ⟨h0, b1, b2⟩)
/-- The value of a call comes into its slot. -/
theorem inv_slot {B : Bd} {W : World} {sl : List (V Value)} {ob : List (Nat × Ob Value)} {nx : Nat} {rv : V Value} (hi : Inv B W ⟨sl ++ [rv], ob, nx⟩) (hno : ∀ l ∈ leavesV rv, noOs l = true) (dst : Option Nat) :
    Inv B W (setSl ⟨sl, ob, nx⟩ dst rv) ∧ ∀ l ∈ tops (setSl ⟨sl, ob, nx⟩ dst rv), l ∈ tops (⟨sl ++ [rv], ob, nx⟩ : S Value) := by
  let d1 : S Value := ⟨sl ++ [rv], ob, nx⟩
  let d2 : S Value := setSl ⟨sl, ob, nx⟩ dst rv
  have hd2ob : d2.ob = d1.ob := setSl_ob _ _ _
  have hno' : (leavesV rv).flatMap ownL = [] := List.flatMap_eq_nil_iff.2 fun l hl => ownL_noOs (hno l hl)
  have htop2 : ∀ l ∈ tops d2, l ∈ tops d1 := fun l hl => by
    rcases mem_tops.1 hl with ⟨u, hu, hl2⟩ | hl2
    · refine mem_tops.2 (.inl ⟨u, ?_, hl2⟩)
      show u ∈ sl ++ [rv]
      cases hdst : dst with
      | none =>
        simp only [d2, hdst, setSl] at hu
        exact List.mem_append_left _ hu
      | some t =>
        simp only [d2, hdst, setSl] at hu
        rcases List.mem_or_eq_of_mem_set hu with hu | rfl
        · exact List.mem_append_left _ hu
        · exact List.mem_append_right _ (by simp)
    · rw [hd2ob] at hl2
      exact mem_tops.2 (.inr hl2)
  have hsub2 : (ownS d2).Sublist (ownS d1) := by
    simp only [ownS, tops, hd2ob, List.flatMap_append]
    refine (List.Sublist.refl _).append (List.Sublist.append ?_ (List.Sublist.refl _))
    rw [List.flatMap_assoc, List.flatMap_assoc]
    have e : d1.sl.flatMap (fun x => List.flatMap ownL (leavesV x)) = sl.flatMap (fun x => List.flatMap ownL (leavesV x)) := by
      simp only [d1, List.flatMap_append, List.flatMap_cons, List.flatMap_nil, List.append_nil, hno']
    rw [e]
    cases hdst : dst with
    | none =>
      simp only [d2, hdst, setSl]
      exact List.Sublist.refl _
    | some t =>
      simp only [d2, hdst, setSl]
      exact flatMap_set_sublist (fun x => List.flatMap ownL (leavesV x)) _ hno' _ _
  refine ⟨hi.step (Nat.le_refl _) (Same.refl _) (fun _ _ _ => rfl) (fun l hl => by rw [hd2ob]; exact hi.good.wf l (htop2 l hl)) (by rw [hd2ob]; exact hi.good.obs) (by rw [hd2ob]; exact hi.good.ids)
    (fun p hp => ⟨hi.good.own p (hsub2.subset hp), .inl ⟨p, hsub2.subset hp, rfl⟩⟩) (hi.good.nodup.sublist (hsub2.map _)) (fun p hp => by
      obtain ⟨l, hl, hp⟩ := List.mem_flatMap.1 hp
      exact .of_mem (List.mem_flatMap.2 ⟨l, htop2 l hl, hp⟩)) (by rw [hd2ob]; exact hi.hdr), htop2⟩
end Go.Proofs.YtghdhjgoicnbcaaGreat.AM

namespace Go.Proofs.YtghdhjgoicnbcaaGreat.AM
open Go

theorem erOb_ren (g : Nat → Nat) {o' : Ob Unit} {o : Ob Value} (h : erOb o = renOb g o') : ∃ o2 : Ob Value, erOb o2 = o' ∧ renOb g o2 = o := by
  obtain ⟨hh, n, rows⟩ := o
  obtain ⟨hh', n', rows'⟩ := o'
  simp only [mapOb, renOb, Ob.mk.injEq] at h
  obtain ⟨_, rfl, h3⟩ := h
  obtain ⟨r2, h4, h5⟩ := erRows_ren g h3
  exact ⟨⟨hh, n, r2⟩, by simp [mapOb, h4], by simp [renOb, h5]⟩
theorem hand_lift {d : S Value} {g : Nat → Nat} : ∀ {hs : List Nat} {obs : List (Ob Unit)}, All2 (fun h ob => look (erS d).ob h = some (renOb g ob)) hs obs →
    ∃ hobs : List (Ob Value), hobs.map erOb = obs ∧ All2 (fun h ob => look d.ob h = some (renOb g ob)) hs hobs
  | _, _, .nil => ⟨[], rfl, .nil⟩
  | _, _, .cons h t => by
    obtain ⟨hobs, e1, e2⟩ := hand_lift t
    obtain ⟨o', k1, k2⟩ := look_lift h
    obtain ⟨o2, k3, k4⟩ := erOb_ren g k2
    subst k4
    exact ⟨o2 :: hobs, by simp [k3, e1], .cons k1 e2⟩
/-- The pairs of numbers and objects. -/
def pairs (g : Nat → Nat) (hs : List Nat) (obs : List (Ob Value)) : List (Nat × Ob Value) := (hs.zip obs).map fun q => (q.1, renOb g q.2)
theorem pairs_keys {g : Nat → Nat} : ∀ {hs : List Nat} {obs : List (Ob Value)}, hs.length = obs.length → (pairs g hs obs).map (·.1) = hs
  | [], [], _ => rfl
  | h :: hs, o :: obs, hl => by
    have := pairs_keys (g := g) (hs := hs) (obs := obs) (by simpa using hl)
    simp only [pairs] at this
    simp [pairs, this]
  | [], _ :: _, hl => by simp at hl
  | _ :: _, [], hl => by simp at hl
theorem pairs_own {g : Nat → Nat} : ∀ {hs : List Nat} {obs : List (Ob Value)}, hs.length = obs.length → (pairs g hs obs).flatMap ownOb = obs.flatMap (fun o => ownOb (0, o))
  | [], [], _ => rfl
  | h :: hs, o :: obs, hl => by
    have := pairs_own (g := g) (hs := hs) (obs := obs) (by simpa using hl)
    simp only [pairs] at this
    simp only [pairs, List.zip_cons_cons, List.map_cons, List.flatMap_cons, this, ownOb_ren g h 0 o]
  | [], _ :: _, hl => by simp at hl
  | _ :: _, [], hl => by simp at hl
theorem pairs_get {g : Nat → Nat} {hs : List Nat} {obs : List (Ob Value)} {i h : Nat} {o : Ob Value} (h1 : hs[i]? = some h) (h2 : obs[i]? = some o) : (pairs g hs obs)[i]? = some (h, renOb g o) := by
  have : (hs.zip obs)[i]? = some (h, o) := by rw [List.getElem?_zip_eq_some]; exact ⟨h1, h2⟩
  simp [pairs, this]
theorem zipIdx_own : ∀ (n : Nat) (obs : List (Ob Value)), ((obs.zipIdx n).map (fun q => (q.2, q.1))).flatMap ownOb = obs.flatMap (fun o => ownOb (0, o))
  | n, [] => rfl
  | n, o :: obs => by
    simp only [List.zipIdx_cons, List.map_cons, List.flatMap_cons, zipIdx_own (n + 1) obs]
    rfl
theorem zipIdx_keys {δ : Type} : ∀ (n : Nat) (obs : List (Ob δ)), ((obs.zipIdx n).map (fun q => (q.2, q.1))).map (·.1) = List.range' n obs.length
  | n, [] => rfl
  | n, o :: obs => by
    simp only [List.zipIdx_cons, List.map_cons, List.length_cons, List.range'_succ, zipIdx_keys (n + 1) obs]
theorem zipIdx_mem {δ : Type} {n : Nat} {obs : List (Ob δ)} {p : Nat × Ob δ} (h : p ∈ (obs.zipIdx n).map (fun q => (q.2, q.1))) : n ≤ p.1 ∧ obs[p.1 - n]? = some p.2 := by
  obtain ⟨q, hq, rfl⟩ := List.mem_map.1 h
  rw [List.mem_zipIdx_iff_le_and_getElem?_sub] at hq
  exact hq
theorem zipIdx_mk {δ : Type} {n i : Nat} {obs : List (Ob δ)} {o : Ob δ} (h : obs[i]? = some o) : (n + i, o) ∈ (obs.zipIdx n).map (fun q => (q.2, q.1)) := by
  refine List.mem_map.2 ⟨(o, n + i), ?_, rfl⟩
  rw [List.mem_zipIdx_iff_le_and_getElem?_sub]
  exact ⟨by simp, by simpa using h⟩
theorem keyed_look {δ : Type} {obs : List (Ob δ)} {i : Nat} {o : Ob δ} : look (keyed obs) i = some o ↔ obs[i]? = some o := by
  constructor
  · intro h
    have := zipIdx_mem (n := 0) (find?_key h)
    simpa using this.2
  · intro h
    refine look_mem (by rw [keyed_keys]; exact List.nodup_range) ?_
    have := zipIdx_mk (n := 0) h
    simpa [keyed] using this
/-- What the objects of a list own. -/
theorem own_obs (ob : List (Nat × Ob Value)) : (ob.flatMap ownOb).Perm (ob.flatMap (fun p => hdrOwn p.2.h p.2.n p.2.rows) ++ (obLeaves ob).flatMap ownL) := by
  have := own_split ⟨[], ob, 0⟩
  simp only [List.flatMap_nil, List.append_nil] at this
  refine this.symm.trans ?_
  simp only [ownS, tops, List.flatMap_nil, List.nil_append]
  exact .refl _
theorem slots_no {us : List (U Value)} (h : ∀ u ∈ us, ∀ l ∈ leavesU u, noOs l = true) : ((us.map V.u).flatMap leavesV).flatMap ownL = [] := by
  rw [List.flatMap_eq_nil_iff]
  intro l hl
  obtain ⟨v, hv, hl⟩ := List.mem_flatMap.1 hl
  obtain ⟨u, hu, rfl⟩ := List.mem_map.1 hv
  exact ownL_noOs (h u hu l hl)
/-- The world that a callee sees: the arguments and what is handed over. -/
theorem hand_in {B : Bd} {d : S Value} {W : World} {g : Nat → Nat} {hs : List Nat} {hobs : List (Ob Value)} (hi : Inv B W d) (hn : hs.Nodup) (ha : All2 (fun h ob => look d.ob h = some (renOb g ob)) hs hobs)
    (hgi : ∀ i h, hs[i]? = some h → g i = h) :
    ∃ rest, d.ob.Perm (pairs g hs hobs ++ rest) ∧ (∀ i, i ∉ hs → look rest i = look d.ob i) ∧ (∀ p ∈ rest, p.1 ∉ hs) ∧ Good W ⟨d.sl, rest, d.nx⟩ ∧ (∀ p ∈ immS ⟨d.sl, rest, d.nx⟩, p ∈ immS d) ∧
      (∀ i ob, look (keyed hobs) i = some ob → look d.ob (g i) = some (renOb g ob)) ∧
      ∀ us : List (U Value), (∀ u ∈ us, ∀ l ∈ leavesU u, noOs l = true) → (ownS d).Perm (ownS ⟨us.map .u, keyed hobs, hobs.length⟩ ++ ownS ⟨d.sl, rest, d.nx⟩) := by
  have hlen := all2_len ha
  have hkeys := pairs_keys (g := g) hlen
  have hmem : ∀ p ∈ pairs g hs hobs, p ∈ d.ob := by
    intro p hp
    obtain ⟨q, hq, rfl⟩ := List.mem_map.1 hp
    obtain ⟨i, hi1⟩ := List.getElem?_of_mem hq
    rw [List.getElem?_zip_eq_some] at hi1
    exact find?_key (all2_get ha i _ _ hi1.1 hi1.2)
  have hnp : (pairs g hs hobs).Nodup := by
    have : ((pairs g hs hobs).map (·.1)).Nodup := by rw [hkeys]; exact hn
    exact (List.pairwise_map.1 this).imp fun h e => h (congrArg Prod.fst e)
  obtain ⟨rest, hperm⟩ := perm_part hnp hmem
  have hids : ((pairs g hs hobs ++ rest).map (·.1)).Nodup := (hperm.map (·.1)).nodup_iff.1 hi.good.ids
  rw [List.map_append, List.nodup_append, hkeys] at hids
  have hrk : ∀ p ∈ rest, p.1 ∉ hs := fun p hp hm => hids.2.2 p.1 hm p.1 (List.mem_map.2 ⟨p, hp, rfl⟩) rfl
  have hrm : ∀ p ∈ rest, p ∈ d.ob := fun p hp => hperm.mem_iff.2 (List.mem_append_right _ hp)
  have hlook : ∀ i, i ∉ hs → look rest i = look d.ob i := fun i hi1 => by
    rw [look_perm hi.good.ids hperm]
    unfold look
    rw [List.find?_append]
    have : (pairs g hs hobs).find? (fun p => p.1 == i) = none := by
      rw [List.find?_eq_none]
      intro p hp
      simp only [beq_iff_eq]
      rintro rfl
      have : p.1 ∈ (pairs g hs hobs).map (·.1) := List.mem_map.2 ⟨p, hp, rfl⟩
      rw [hkeys] at this
      exact hi1 this
    rw [this, Option.none_or]
  have hsome : ∀ i o, look rest i = some o → look d.ob i = some o := fun i o h => look_mem hi.good.ids (hrm _ (find?_key h))
  have htop : ∀ l ∈ tops (⟨d.sl, rest, d.nx⟩ : S Value), l ∈ tops d := fun l hl => by
    rcases mem_tops.1 hl with h | h
    · exact mem_tops.2 (.inl h)
    · obtain ⟨p, hp, r, hr, hl⟩ := mem_obLeaves.1 h
      exact mem_tops.2 (.inr (mem_obLeaves.2 ⟨p, hrm p hp, r, hr, hl⟩))
  have himm : ∀ p ∈ immS (⟨d.sl, rest, d.nx⟩ : S Value), p ∈ immS d := fun p hp => by
    obtain ⟨l, hl, hp⟩ := List.mem_flatMap.1 hp
    exact List.mem_flatMap.2 ⟨l, htop l hl, hp⟩
  have hown : ∀ us : List (U Value), (∀ u ∈ us, ∀ l ∈ leavesU u, noOs l = true) → (ownS d).Perm (ownS ⟨us.map .u, keyed hobs, hobs.length⟩ ++ ownS ⟨d.sl, rest, d.nx⟩) := by
    intro us hus
    have e1 := own_split d
    have e2 := own_split ⟨us.map .u, keyed hobs, hobs.length⟩
    have e3 := own_split ⟨d.sl, rest, d.nx⟩
    simp only [slots_no hus, List.append_nil] at e2 e3
    have e4 : (keyed hobs).flatMap ownOb = (pairs g hs hobs).flatMap ownOb := by rw [pairs_own hlen]; exact zipIdx_own 0 hobs
    rw [e4] at e2
    have e5 : (d.ob.flatMap ownOb).Perm ((pairs g hs hobs).flatMap ownOb ++ rest.flatMap ownOb) := by
      rw [← List.flatMap_append]
      exact hperm.flatMap_right _
    refine e1.trans ?_
    refine ((e5.append_right _).trans ?_)
    rw [List.append_assoc]
    exact (e2.symm.append e3.symm)
  refine ⟨rest, hperm, hlook, hrk, ?_, himm, ?_, hown⟩
  · have hp0 := hown [] (by simp)
    have hsub : ∀ q ∈ ownS (⟨d.sl, rest, d.nx⟩ : S Value), q ∈ ownS d := fun q hq => hp0.mem_iff.2 (List.mem_append_right _ hq)
    have hnd := (hp0.map (·.1)).nodup_iff.1 hi.good.nodup
    rw [List.map_append, List.nodup_append] at hnd
    exact {
      wf := fun l hl => by
        have := hi.good.wf l (htop l hl)
        exact ⟨this.1, refOk_same (fun i _ o' ho' => ⟨o', hsome i o' ho', rfl, rfl, rfl⟩) this.2⟩
      obs := fun p hp => hi.good.obs p (hrm p hp)
      ids := hids.2.1
      own := fun p hp => hi.good.own p (hsub p hp)
      nodup := hnd.2.1
      imm := fun p hp hne => by
        obtain ⟨h1, h2⟩ := hi.good.imm p (himm p hp) hne
        exact ⟨h1, fun q hq => h2 q (hsub q hq)⟩ }
  · intro i ob h
    have h1 := keyed_look.1 h
    have hlt := (List.getElem?_eq_some_iff.1 h1).1
    have h2 : hs[i]? = some hs[i] := List.getElem?_eq_getElem (by omega)
    rw [hgi i _ h2]
    exact all2_get ha i _ _ h2 h1
end Go.Proofs.YtghdhjgoicnbcaaGreat.AM

namespace Go.Proofs.YtghdhjgoicnbcaaGreat.AM
open Go

theorem keyed_of {ob : List (Nat × Ob Value)} {obs' : List (Ob Unit)} (h : ob.map (fun p => (p.1, erOb p.2)) = keyed obs') : ob = keyed (ob.map (·.2)) ∧ (ob.map (·.2)).map erOb = obs' := by
  have h1 : ob.map (·.1) = List.range obs'.length := by
    have := congrArg (List.map (·.1)) h
    rw [keyed_keys, List.map_map] at this
    exact this
  have h2 : (ob.map (·.2)).map erOb = obs' := by
    have := congrArg (List.map (·.2)) h
    have e : (keyed obs').map (·.2) = obs' := by
      have : ∀ (n : Nat) (l : List (Ob Unit)), ((l.zipIdx n).map (fun q => (q.2, q.1))).map (·.2) = l := by
        intro n l
        induction l generalizing n with
        | nil => rfl
        | cons x l ih => simp only [List.zipIdx_cons, List.map_cons, ih]
      exact this 0 obs'
    rw [e, List.map_map] at this
    rw [List.map_map]
    exact this
  refine ⟨?_, h2⟩
  have hl : obs'.length = ob.length := by rw [← h2]; simp
  have := rekey 0 ob (by rw [h1, hl, List.range_eq_range'])
  exact this.symm
theorem upd_pairs {g : Nat → Nat} {hs : List Nat} {hobs nobs : List (Ob Value)} (hn : hs.Nodup) (hl : hs.length = hobs.length) (hl2 : nobs.length = hobs.length) (hh : ∀ (i : Nat) (o o' : Ob Value), hobs[i]? = some o → nobs[i]? = some o' → o'.h = o.h ∧ o'.n = o.n) :
    (pairs g hs hobs).map (updP (hs.zip (nobs.map fun ob => (renOb g ob).rows))) = pairs g hs nobs := by
  apply List.ext_getElem?
  intro i
  rw [List.getElem?_map]
  by_cases hi : i < hs.length
  · have h1 : hs[i]? = some hs[i] := List.getElem?_eq_getElem hi
    have h2 : hobs[i]? = some (hobs[i]'(by omega)) := List.getElem?_eq_getElem (by omega)
    have h3 : nobs[i]? = some (nobs[i]'(by omega)) := List.getElem?_eq_getElem (by omega)
    rw [pairs_get h1 h2, pairs_get h1 h3, Option.map_some]
    have hz : (hs.zip (nobs.map fun ob => (renOb g ob).rows))[i]? = some (hs[i], (renOb g (nobs[i]'(by omega))).rows) := by
      rw [List.getElem?_zip_eq_some]
      exact ⟨h1, by rw [List.getElem?_map, h3]; rfl⟩
    have hk : ((hs.zip (nobs.map fun ob => (renOb g ob).rows)).map (·.1)).Nodup := by
      rw [List.map_fst_zip (by simp; omega)]
      exact hn
    have := lookup_get hk hz
    simp only at this
    unfold updP
    simp only [this]
    obtain ⟨e1, e2⟩ := hh i _ _ h2 h3
    simp only [renOb, e1, e2]
  · rw [List.getElem?_eq_none (by simp [pairs]; omega), List.getElem?_eq_none (by simp [pairs]; omega)]
    rfl
theorem upd_rest {upd : List (Nat × List (List (L Value)))} {rest : List (Nat × Ob Value)} (h : ∀ p ∈ rest, p.1 ∉ upd.map (·.1)) : rest.map (updP upd) = rest := by
  conv => rhs; rw [← List.map_id rest]
  refine List.map_congr_left fun p hp => ?_
  unfold updP
  rw [lookup_none (h p hp)]
  rfl
set_option maxHeartbeats 4000000 in
theorem stepOk_callG {P : Program} {o : Oper} {s : S Unit} {nid : Nat} {e : Eff} (h : CallG P o s nid e) : StepOk P o s nid e := by
  obtain ⟨c, f, caps, cs, us, hs, obs, obs', r, lent, ho, hcal, hnd, hhand, hkn, hargs, hcaps, hcsk, hent, hsim, himf, rfl⟩ := h
  intro B d a W hd hi hsl hf hdef
  subst hd
  refine ⟨trivial, ?_⟩
  generalize hgd : gG hs nid = g at *
  have hgi : ∀ i h, hs[i]? = some h → g i = h := fun i h h1 => by rw [← hgd]; exact gG_lt h1
  have hge : ∀ i, hs.length ≤ i → g i = nid + (i - hs.length) := fun i h1 => by rw [← hgd]; exact gG_ge h1
  -- the callee
  obtain ⟨x, hx, v, hlx⟩ : ∃ x, c.callee = .value x ∧ ∃ v, lO (evA (erS d) x) = some (.fn v f caps) := by
    unfold calE at hcal
    split at hcal
    · rename_i x hcx
      split at hcal
      · rename_i v f' caps' hl
        cases hcal
        exact ⟨x, hcx, v, hl⟩
      · cases hcal
    · cases hcal
  obtain ⟨l', h1, h2, h3⟩ := leaf_ok hi.good hsl hlx
  obtain ⟨v', caps', rfl, hc'⟩ : ∃ v' caps', l' = .fn v' f caps' ∧ caps'.map erL = caps := by
    cases l' <;> simp [mapL] at h1
    rename_i v' f' c'
    exact ⟨v', c', by rw [h1.1], by rw [← h1.2, mapC_eq]⟩
  obtain ⟨_, hv', hw'⟩ := h3.1
  have hcap : ∀ l ∈ caps', Has d l := fun l hl => by
    refine ⟨(wfC_iff _ _).1 hw' l hl, (refOkC_iff _ _).1 h3.2.1 l hl, fun p hp => h3.2.2.1 p ?_, fun i hi => h3.2.2.2 i ?_⟩
    · simp only [immL, immC_eq]
      exact List.mem_flatMap.2 ⟨l, hl, hp⟩
    · simp only [idsL, idsC_eq]
      exact List.mem_flatMap.2 ⟨l, hl, hi⟩
  obtain ⟨cs', hcs1, hcs2⟩ := erLs_ren g (hc'.trans hcaps)
  -- what is handed over
  obtain ⟨hobs, hob1, hob2⟩ := hand_lift hhand
  have hlen := all2_len hob2
  obtain ⟨rest, hperm, hrl, hrk, hgr, hrimm, hdc, hown⟩ := hand_in hi hnd hob2 hgi
  obtain ⟨us', hus1, hus2⟩ := argsG_ok (dr := ⟨d.sl, rest, d.nx⟩) (dcob := keyed hobs) hi.good hgr hsl ⟨hsl.1, hsl.2⟩ rfl hrl hrimm hdc hargs
  have hrun : (execOp a.eval o).run P W = .ok (.enter f (c.args.toList.map a.eval ++ cs'.map val).toArray) W := by
    simp only [execOp, ho, resolve, hx, h2, val, hv', Deferred.ofValue, pure_bind, invoke]
    rw [run_callFunc hent]
    congr 2
    apply Array.ext'
    have e : caps'.map val = cs'.map val := by rw [← hcs2, List.map_map]; exact List.map_congr_left fun l _ => val_ren g l
    simp [e]
  let args' : List (U Value) := us' ++ cs'.map U.one
  let dc : S Value := ⟨args'.map V.u, keyed hobs, hobs.length⟩
  have hargl : ∀ u ∈ args', ∀ l ∈ leavesU u, noOs l = true ∧ (∀ i ∈ idsL l, i < hs.length) ∧ wfL false l ∧ refOk (keyed hobs) l ∧ ∀ p ∈ immL l, p.2 = [] ∨ SubIn p (immS d) ∨ (lent = true ∧ ImmFact W p ∧ ∃ q ∈ ownS (⟨d.sl, rest, d.nx⟩ : S Value), q.1 = p.1.block) := by
    intro u hu l hl
    rcases List.mem_append.1 hu with hu | hu
    · obtain ⟨i, hi1⟩ := List.mem_iff_getElem?.1 hu
      have hl2 := all2_len hus2
      have hlt : i < (c.args.toList.map a.eval).length := by rw [← hl2]; exact (List.getElem?_eq_some_iff.1 hi1).1
      exact (all2_get hus2 i u _ hi1 (List.getElem?_eq_getElem hlt)).leaf l hl
    · obtain ⟨l0, hl0, rfl⟩ := List.mem_map.1 hu
      simp only [leavesU, List.mem_singleton] at hl
      subst hl
      have hh := hcap (renL g l) (by rw [← hcs2]; exact List.mem_map.2 ⟨l, hl0, rfl⟩)
      have hk := List.all_eq_true.1 hcsk (erL l) (by rw [← hcs1]; exact List.mem_map.2 ⟨l, hl0, rfl⟩)
      rw [okK_iff, noOs_er, idsL_er] at hk
      exact ⟨hk.1, hk.2, (wf_ren g false l).1 hh.1, refOk_ren hdc l hh.2.1, fun p hp => .inr (.inl (hh.2.2.1 p (by rwa [imm_ren])))⟩
  have hno : ∀ u ∈ args', ∀ l ∈ leavesU u, noOs l = true := fun u hu l hl => (hargl u hu l hl).1
  have hperm0 := hown args' hno
  have hnd0 := (hperm0.map (·.1)).nodup_iff.1 hi.good.nodup
  rw [List.map_append, List.nodup_append] at hnd0
  -- the leaves of what is handed over
  have hrow : ∀ (i : Nat) ob, hobs[i]? = some ob → ∃ h, hs[i]? = some h ∧ look d.ob h = some (renOb g ob) := fun i ob hi1 => by
    have hlt := (List.getElem?_eq_some_iff.1 hi1).1
    exact ⟨_, List.getElem?_eq_getElem (by omega), all2_get hob2 i _ _ (List.getElem?_eq_getElem (by omega)) hi1⟩
  have hrowl : ∀ p ∈ keyed hobs, ∀ r ∈ p.2.rows, ∀ l ∈ r, renL g l ∈ tops d := fun p hp r hr l hl => by
    have h5 := (zipIdx_mem (n := 0) hp).2
    obtain ⟨h, _, h7⟩ := hrow _ _ h5
    exact mem_tops.2 (.inr (mem_obLeaves.2 ⟨_, find?_key h7, r.map (renL g), List.mem_map.2 ⟨r, hr, rfl⟩, List.mem_map.2 ⟨l, hl, rfl⟩⟩))
  have hids : ∀ l ∈ tops dc, ∀ i ∈ idsL l, i < obs.length := by
    intro l hl i hi1
    have hol : obs.length = hs.length := by rw [← hob1, List.length_map, hlen]
    rcases mem_tops.1 hl with ⟨u0, hu0, hl⟩ | hl
    · obtain ⟨u, hu1, rfl⟩ := List.mem_map.1 hu0
      rw [hol]
      exact (hargl u hu1 l hl).2.1 i hi1
    · obtain ⟨p, hp, r, hr, hl⟩ := mem_obLeaves.1 hl
      have h5 := (zipIdx_mem (n := 0) hp).2
      have h6 := hkn (erOb p.2) (by rw [← hob1]; exact List.mem_map.2 ⟨_, List.mem_of_getElem? h5, rfl⟩)
      simp only [knowsR, mapOb, List.all_map, List.all_eq_true, Function.comp_def] at h6
      have := h6 r hr l hl i (by rw [idsL_er]; exact hi1)
      rw [hol]
      exact blt_lt this
  have himmdc : ∀ p ∈ immS dc, p.2 = [] ∨ SubIn p (immS d) ∨ (lent = true ∧ ImmFact W p ∧ ∃ q ∈ ownS (⟨d.sl, rest, d.nx⟩ : S Value), q.1 = p.1.block) := by
    intro p hp
    obtain ⟨l, hl, hp⟩ := List.mem_flatMap.1 hp
    rcases mem_tops.1 hl with ⟨u0, hu0, hl⟩ | hl
    · obtain ⟨u, hu1, rfl⟩ := List.mem_map.1 hu0
      exact (hargl u hu1 l hl).2.2.2.2 p hp
    · obtain ⟨q, hq, r, hr, hl⟩ := mem_obLeaves.1 hl
      exact .inr (.inl (.of_mem (List.mem_flatMap.2 ⟨_, hrowl q hq r hr l hl, by rwa [imm_ren]⟩)))
  have hgood : Good W dc := {
    wf := fun l hl => by
      rcases mem_tops.1 hl with ⟨u0, hu0, hl⟩ | hl
      · obtain ⟨u, hu1, rfl⟩ := List.mem_map.1 hu0
        have := hargl u hu1 l hl
        exact ⟨this.2.2.1, this.2.2.2.1⟩
      · obtain ⟨p, hp, r, hr, hl⟩ := mem_obLeaves.1 hl
        have := hi.good.wf _ (hrowl p hp r hr l hl)
        exact ⟨(wf_ren g false l).1 this.1, refOk_ren hdc l this.2⟩
    obs := fun p hp => by
      have h5 := (zipIdx_mem (n := 0) hp).2
      obtain ⟨h, _, h7⟩ := hrow _ _ h5
      have := hi.good.obs _ (find?_key h7)
      simp only [renOb, List.map_eq_nil_iff, List.length_map] at this
      refine ⟨this.1, fun r hr => ?_⟩
      have := this.2 (r.map (renL g)) (List.mem_map.2 ⟨r, hr, rfl⟩)
      simpa using this
    ids := by
      show ((keyed hobs).map (·.1)).Nodup
      rw [keyed_keys]; exact List.nodup_range
    own := fun p hp => hi.good.own p (hperm0.mem_iff.2 (List.mem_append_left _ hp))
    nodup := hnd0.1
    imm := fun p hp hne => by
      rcases himmdc p hp with h0 | h0 | ⟨_, h0, q, hq, hqe⟩
      · exact absurd h0 hne
      · rcases h0 with h0 | ⟨q, hq, hs'⟩
        · exact absurd h0 hne
        · obtain ⟨k1, k2⟩ := hi.good.imm q hq (hs'.ne hne)
          exact ⟨hs'.fact k1, fun q2 hq2 => by rw [hs'.1]; exact k2 q2 (hperm0.mem_iff.2 (List.mem_append_left _ hq2))⟩
      · exact ⟨h0, fun q2 hq2 e => hnd0.2.2 q2.1 (List.mem_map.2 ⟨q2, hq2, rfl⟩) q.1 (List.mem_map.2 ⟨q, hq, rfl⟩) (e.trans hqe.symm)⟩ }
  have hall : All2 UR args' (c.args.toList.map a.eval ++ cs'.map val) :=
    all2_append (all2_imp (fun _ _ h => h.ur) hus2) (all2_map fun l _ => rfl)
  have hobk : (erS dc).ob = obs.zipIdx.map (fun q => (q.2, q.1)) := by
    rw [← hob1]
    simp only [dc, erS, mapS, keyed, List.zipIdx_map, List.map_map]
    rfl
  have hcalls := hsim W dc args' _ rfl (by simp [args', hus1, ← hcs1, mapU, Function.comp_def]) hall hobk hgood hids
  unfold Oper.wp
  rw [hrun]
  simp only [Oper.upon]
  refine Calls.mono hcalls fun e W' he => ?_
  obtain ⟨y, d', rv, rfl, hd'sl, hrv, hd'ob, hvr, hend⟩ := he
  have hd'ob2 : d'.ob.map (fun p => (p.1, erOb p.2)) = keyed obs' := hd'ob
  obtain ⟨hk1, hk2⟩ := keyed_of hd'ob2
  generalize hno2 : d'.ob.map (·.2) = nobs at hk1 hk2
  have hm : obs'.length = nobs.length := by rw [← hk2]; simp
  have hk0 : hobs.length = hs.length := hlen.symm
  have hdcob : dc.ob.length = hs.length := by simp [dc, keyed, hk0]
  -- headers
  have hhdr := hend.hdr
  rw [hdcob] at hhdr
  have hkm : hs.length ≤ nobs.length := by
    have := congrArg List.length hhdr
    simp only [List.length_map, List.length_take, hdcob] at this
    rw [hk1] at this
    simp [keyed] at this
    omega
  have hh2 : ∀ (i : Nat) (o o' : Ob Value), hobs[i]? = some o → nobs[i]? = some o' → o'.h = o.h ∧ o'.n = o.n ∧ o'.rows.length = o.rows.length := by
    intro i o1 o2 ho1 ho2
    have hlt := (List.getElem?_eq_some_iff.1 ho1).1
    have e := congrArg (fun l => l[i]?) hhdr
    simp only [List.getElem?_map, List.getElem?_take] at e
    rw [if_pos (by omega)] at e
    have e1 : dc.ob[i]? = some (i, o1) := by
      show (keyed hobs)[i]? = _
      simp [keyed, List.getElem?_map, List.getElem?_zipIdx, ho1]
    have e2 : d'.ob[i]? = some (i, o2) := by
      rw [hk1]
      simp [keyed, List.getElem?_map, List.getElem?_zipIdx, ho2]
    rw [e1, e2] at e
    simp only [Option.map_some, Option.some.injEq, Prod.mk.injEq, true_and] at e
    exact e
  -- the state behind the call
  have hlen2 : nobs.length = obs'.length := hm.symm
  generalize hrr : rootV hdV (nid + (nobs.length - hs.length)) (renV g rv) = rr
  obtain ⟨rv', ro⟩ := rr
  have herv := rootV_er (nid + (nobs.length - hs.length)) (renV g rv)
  rw [renV_er, hrv, hrr] at herv
  simp only at herv
  rw [hm] at hf ⊢
  rw [herv] at hf ⊢
  simp only [List.length_append, List.length_map, List.length_drop, hm] at hf ⊢
  obtain ⟨hlv, hlo⟩ := rootV_leaves hdV (nid + (nobs.length - hs.length)) (renV g rv)
  have hmm := rootLs_mem (nid + (nobs.length - hs.length)) (leavesV (renV g rv))
  have hrokeys := rootLs_keys hdV (nid + (nobs.length - hs.length)) (leavesV (renV g rv))
  have hroown := rootLs_own (nid + (nobs.length - hs.length)) (leavesV (renV g rv))
  rw [← hlv, ← hlo] at hmm
  rw [← hlo] at hrokeys
  rw [← hlv, ← hlo] at hroown
  rw [hrr] at hmm hrokeys hroown
  simp only at hmm hrokeys hroown
  have hrvk : ∀ l ∈ leavesV rv, l ∈ tops d' := fun l hl => mem_tops.2 (.inl ⟨rv, by rw [hd'sl]; simp, hl⟩)
  let nk := nobs.take hs.length
  let nn := nobs.drop hs.length
  let updV : List (Nat × List (List (L Value))) := hs.zip (nk.map fun ob => (renOb g ob).rows)
  let obU := d.ob.map (updP updV)
  let newsA : List (Nat × Ob Value) := ((nn.map (renOb g)).zipIdx nid).map (fun q => (q.2, q.1))
  let ob1 := obU ++ (newsA ++ ro)
  let d1 : S Value := ⟨d.sl ++ [rv'], ob1, d.nx + (nobs.length - hs.length + ro.length)⟩
  have hnkl : nk.length = hobs.length := by simp [nk]; omega
  have hnkg : ∀ (i : Nat) o', nk[i]? = some o' → nobs[i]? = some o' ∧ i < hs.length := fun i o' h => by
    have hlt := (List.getElem?_eq_some_iff.1 h).1
    simp only [nk, List.getElem?_take] at h
    split at h
    · exact ⟨h, by omega⟩
    · cases h
  have hnng : ∀ (i : Nat) o', nn[i]? = some o' → nobs[hs.length + i]? = some o' := fun i o' h => by
    simp only [nn, List.getElem?_drop] at h
    exact h
  have hU : obU.Perm (pairs g hs nk ++ rest) := by
    have h5 := hperm.map (updP updV)
    rw [List.map_append, upd_pairs hnd hlen hnkl (fun i o1 o2 a1 a2 => by
      have := hh2 i o1 o2 a1 (hnkg i o2 a2).1
      exact ⟨this.1, this.2.1⟩), upd_rest (upd := updV) (rest := rest) (fun p hp => by
      have e : updV.map (·.1) = hs := List.map_fst_zip (by simp [hnkl]; omega)
      rw [e]
      exact hrk p hp)] at h5
    exact h5
  have hUk : obU.map (·.1) = d.ob.map (·.1) := by
    simp only [obU, List.map_map]
    exact List.map_congr_left fun p _ => updP_key updV p
  have hnewk : (newsA ++ ro).map (·.1) = List.range' nid (nobs.length - hs.length + ro.length) := by
    have e1 : newsA.map (·.1) = List.range' nid (nobs.length - hs.length) := by
      rw [zipIdx_keys]
      simp [nn]
    rw [List.map_append, e1, hrokeys, List.range'_append_1]
  have hnk : ∀ i, Knows d i → i ∉ (newsA ++ ro).map (·.1) := fun i hk hm2 => by
    rw [hnewk, List.mem_range'_1] at hm2
    have := hf.1 i hk
    omega
  have hnodup : (ob1.map (·.1)).Nodup := by
    show ((obU ++ (newsA ++ ro)).map (·.1)).Nodup
    rw [List.map_append, List.nodup_append]
    refine ⟨by rw [hUk]; exact hi.good.ids, by rw [hnewk]; exact List.nodup_range', fun i hi2 j hj e => ?_⟩
    subst e
    rw [hUk] at hi2
    exact hnk i (.inr hi2) hj
  -- members
  have hpk : ∀ p ∈ pairs g hs nk, ∃ (j h : Nat) (ob ob0 : Ob Value), hs[j]? = some h ∧ nobs[j]? = some ob ∧ hobs[j]? = some ob0 ∧ p = (h, renOb g ob) ∧ look d.ob h = some (renOb g ob0) := by
    intro p hp
    obtain ⟨q, hq, rfl⟩ := List.mem_map.1 hp
    obtain ⟨j, hj⟩ := List.getElem?_of_mem hq
    rw [List.getElem?_zip_eq_some] at hj
    obtain ⟨a1, a2⟩ := hnkg j _ hj.2
    have a3 : hobs[j]? = some (hobs[j]'(by omega)) := List.getElem?_eq_getElem (by omega)
    exact ⟨j, _, _, _, hj.1, a1, a3, rfl, all2_get hob2 j _ _ hj.1 a3⟩
  have hrestm : ∀ p ∈ rest, p ∈ d.ob := fun p hp => hperm.mem_iff.2 (List.mem_append_right _ hp)
  have hnewm : ∀ p ∈ newsA, ∃ (j : Nat) (ob : Ob Value), nobs[j]? = some ob ∧ hs.length ≤ j ∧ p = (nid + (j - hs.length), renOb g ob) := by
    intro p hp
    obtain ⟨a1, a2⟩ := zipIdx_mem hp
    rw [List.getElem?_map, Option.map_eq_some_iff] at a2
    obtain ⟨ob, a3, a4⟩ := a2
    refine ⟨hs.length + (p.1 - nid), ob, hnng _ _ a3, by omega, ?_⟩
    rw [a4]
    refine Prod.ext ?_ rfl
    simp only
    omega
  have hd'm : ∀ (j : Nat) ob, nobs[j]? = some ob → (j, ob) ∈ d'.ob := fun j ob h => by
    rw [hk1]
    have := zipIdx_mk (n := 0) h
    simpa [keyed] using this
  have hd'l : ∀ (j : Nat) ob, nobs[j]? = some ob → ∀ r ∈ ob.rows, ∀ l ∈ r, l ∈ tops d' := fun j ob h r hr l hl =>
    mem_tops.2 (.inr (mem_obLeaves.2 ⟨_, hd'm j ob h, r, hr, hl⟩))
  have hkn' : ∀ l ∈ tops d', ∀ i ∈ idsL l, i < nobs.length := fun l hl i hi1 => by
    have := hend.known l hl i hi1
    rw [hk1] at this
    simpa [keyed] using this
  have hL1 : ∀ (j : Nat) ob, nobs[j]? = some ob → look ob1 (g j) = some (renOb g ob) := fun j ob h => by
    refine look_mem hnodup ?_
    rcases Nat.lt_or_ge j hs.length with hj | hj
    · have a1 : hs[j]? = some hs[j] := List.getElem?_eq_getElem hj
      rw [hgi j _ a1]
      refine List.mem_append_left _ (hU.mem_iff.2 (List.mem_append_left _ ?_))
      have a2 : nk[j]? = some ob := by simp [nk, List.getElem?_take, hj, h]
      exact List.mem_of_getElem? (pairs_get a1 a2)
    · rw [hge j hj]
      refine List.mem_append_right _ (List.mem_append_left _ ?_)
      exact zipIdx_mk (by
        rw [List.getElem?_map]
        have : nn[j - hs.length]? = some ob := by
          simp only [nn, List.getElem?_drop]
          rw [show hs.length + (j - hs.length) = j by omega]
          exact h
        rw [this]
        rfl)
  have hA : ∀ l ∈ tops d', wfL false (renL g l) ∧ refOk ob1 (renL g l) := fun l hl => by
    have h5 := hend.good.wf l hl
    refine ⟨(wf_ren g false l).2 h5.1, refOk_tr (fun i hi1 o' ho' => ?_) h5.2⟩
    have hlt := hkn' l hl i hi1
    have a1 : nobs[i]? = some nobs[i] := List.getElem?_eq_getElem hlt
    rw [hL1 i _ a1] at ho'
    cases ho'
    refine ⟨nobs[i], ?_, rfl, rfl, by simp [renOb]⟩
    rw [hk1]
    exact keyed_look.2 a1
  have hB : ∀ l, Has d l → refOk ob1 l := fun l hh => by
    refine refOk_same (fun i hi1 o' ho' => ?_) hh.2.1
    have hkw := hh.2.2.2 i hi1
    have hmem1 := find?_key ho'
    rcases List.mem_append.1 hmem1 with h5 | h5
    · rcases List.mem_append.1 (hU.mem_iff.1 h5) with h5 | h5
      · obtain ⟨j, h, ob, ob0, a1, a2, a3, a4, a5⟩ := hpk _ h5
        cases a4
        have := hh2 j ob0 ob a3 a2
        exact ⟨_, a5, by simp [renOb, this.1], by simp [renOb, this.2.1], by simp [renOb, this.2.2]⟩
      · exact ⟨o', look_mem hi.good.ids (hrestm _ h5), rfl, rfl, rfl⟩
    · exact absurd (List.mem_map.2 ⟨_, h5, rfl⟩) (hnk i hkw)
  have hrvl : ∀ v' m' rows, (.os v' m' rows : L Value) ∈ leavesV (renV g rv) → (.os v' m' rows : L Value) ∈ leavesV rv := fun v' m' rows h => by
    rw [leavesV_ren] at h
    obtain ⟨l0, a1, a2⟩ := List.mem_map.1 h
    cases l0 <;> simp only [renL, reduceCtorEq] at a2
    cases a2
    exact a1
  have hro : ∀ p ∈ ro, ∃ v' m' rows, (.os v' m' rows : L Value) ∈ leavesV rv ∧ p.2 = ⟨hdV v', m', rows⟩ ∧ isOwn v' rows ∧ (∀ r ∈ rows, r.length = m') ∧ wfR true rows := fun p hp => by
    obtain ⟨v', m', rows, a1, a2⟩ := hmm.2 p hp
    have a3 := hrvl _ _ _ a1
    have := (hend.good.wf _ (hrvk _ a3)).1
    exact ⟨v', m', rows, a3, a2, this.1, this.2.1, this.2.2⟩
  have hrol : ∀ p ∈ ro, ∀ r ∈ p.2.rows, ∀ l ∈ r, wfL true l ∧ ∀ q ∈ immL l, q ∈ immS d' := fun p hp r hr l hl => by
    obtain ⟨v', m', rows, a1, a2, _, _, a5⟩ := hro p hp
    rw [a2] at hr
    refine ⟨(wfR_iff _ _).1 a5 r hr l hl, fun q hq => List.mem_flatMap.2 ⟨_, hrvk _ a1, ?_⟩⟩
    simp only [immL, immR_eq]
    exact List.mem_flatMap.2 ⟨l, List.mem_flatten.2 ⟨r, hr, hl⟩, hq⟩
  have hwfo : ∀ l ∈ leavesV rv', wfL false l ∧ refOk ob1 l ∧ noOs l = true ∧ (∀ i ∈ idsL l, (∃ j, j < nobs.length ∧ i = g j) ∨ i ∈ ro.map (·.1)) ∧ ∀ q ∈ immL l, q ∈ immS d' := fun l hl => by
    rcases hmm.1 l hl with ⟨a1, a2⟩ | ⟨i, v', m', rows, rfl, a2, a3⟩
    · rw [leavesV_ren] at a1
      obtain ⟨l0, a3, rfl⟩ := List.mem_map.1 a1
      have := hA l0 (hrvk l0 a3)
      refine ⟨this.1, this.2, a2, fun i hi1 => ?_, fun q hq => ?_⟩
      · rw [idsL_ren] at hi1
        obtain ⟨j, a4, rfl⟩ := List.mem_map.1 hi1
        exact .inl ⟨j, hkn' l0 (hrvk l0 a3) j a4, rfl⟩
      · rw [imm_ren] at hq
        exact List.mem_flatMap.2 ⟨l0, hrvk l0 a3, hq⟩
    · have a4 := (hend.good.wf _ (hrvk _ (hrvl _ _ _ a2))).1
      have hown2 := a4.1
      have hv2 : ∃ a n c, v' = .slice a n c := by
        rcases hown2 with ⟨rfl, _⟩ | ⟨_, _, _, rfl, _⟩ <;> exact ⟨_, _, _, rfl⟩
      refine ⟨⟨rfl, hv2⟩, fun o2 ho2 => ?_, rfl, fun j hj => ?_, fun q hq => by simp [immL] at hq⟩
      · rw [look_mem hnodup (List.mem_append_right _ (List.mem_append_right _ a3))] at ho2
        cases ho2
        refine ⟨by simp, ?_⟩
        rcases hown2 with ⟨rfl, _⟩ | ⟨b, x, c, rfl, _⟩
        · exact .inl ⟨rfl, rfl⟩
        · exact .inr ⟨b, x, c, rfl, .inl (by simp)⟩
      · simp only [idsL, List.mem_singleton] at hj
        subst hj
        exact .inr (List.mem_map.2 ⟨_, a3, rfl⟩)
  -- what stands on top
  have htop1 : ∀ l ∈ tops d1, l ∈ tops d ∨ (∃ l0 ∈ tops d', l = renL g l0) ∨ l ∈ leavesV rv' ∨ ∃ p ∈ ro, ∃ r ∈ p.2.rows, l ∈ r := fun l hl => by
    rcases mem_tops.1 hl with ⟨u, hu, hl2⟩ | hl
    · rcases List.mem_append.1 hu with hu | hu
      · exact .inl (mem_tops.2 (.inl ⟨u, hu, hl2⟩))
      · simp only [List.mem_singleton] at hu
        subst hu
        exact .inr (.inr (.inl hl2))
    · obtain ⟨p, hp, r, hr, hl⟩ := mem_obLeaves.1 hl
      rcases List.mem_append.1 hp with hp | hp
      · rcases List.mem_append.1 (hU.mem_iff.1 hp) with hp | hp
        · obtain ⟨j, h, ob, ob0, a1, a2, a3, rfl, a5⟩ := hpk _ hp
          obtain ⟨r0, b1, rfl⟩ := List.mem_map.1 hr
          obtain ⟨l0, b2, rfl⟩ := List.mem_map.1 hl
          exact .inr (.inl ⟨l0, hd'l j ob a2 r0 b1 l0 b2, rfl⟩)
        · exact .inl (mem_tops.2 (.inr (mem_obLeaves.2 ⟨p, hrestm p hp, r, hr, hl⟩)))
      · rcases List.mem_append.1 hp with hp | hp
        · obtain ⟨j, ob, a1, a2, rfl⟩ := hnewm _ hp
          obtain ⟨r0, b1, rfl⟩ := List.mem_map.1 hr
          obtain ⟨l0, b2, rfl⟩ := List.mem_map.1 hl
          exact .inr (.inl ⟨l0, hd'l j ob a1 r0 b1 l0 b2, rfl⟩)
        · exact .inr (.inr (.inr ⟨p, hp, r, hr, hl⟩))
  have hinv1 : Inv B W' d1 := by
    refine call_core hi (rest := ownS ⟨d.sl, rest, d.nx⟩) hperm0 ?_ hend ?_ (fun p hp => ?_) (fun l hl => ?_) (fun p hp => ?_) hnodup (fun p hp hlt => ?_)
    · rcases himf with h5 | ⟨h5, h6⟩
      · left
        intro q hq hne
        rcases himmdc q hq with h7 | h7 | ⟨h7, _⟩
        · exact absurd h7 hne
        · rcases h7 with h7 | ⟨q', hq', hs'⟩
          · exact absurd h7 hne
          · exact ⟨q', hq', hs'.ne hne, hs'.1.symm⟩
        · rw [h5] at h7; cases h7
      · right
        simp only [immS, List.flatMap_eq_nil_iff]
        intro l hl
        rcases mem_tops.1 hl with ⟨u, hu, hl⟩ | hl
        · rw [hd'sl] at hu
          simp only [List.mem_singleton] at hu
          subst hu
          rw [← hrv] at h5
          simp only [immFreeV, leavesV_map, List.all_map, List.all_eq_true, Function.comp_def] at h5
          exact immFree_er (h5 l hl)
        · obtain ⟨p, hp, r, hr, hl⟩ := mem_obLeaves.1 hl
          have h7 := h6 (erOb p.2) (by rw [← hk2, ← hno2]; exact List.mem_map.2 ⟨p.2, List.mem_map.2 ⟨p, hp, rfl⟩, rfl⟩)
          have h8 : immR p.2.rows = [] := immFreeR_er (by rw [mapR_eq]; exact h7)
          rw [immR_eq, List.flatMap_eq_nil_iff] at h8
          exact h8 l (List.mem_flatten.2 ⟨r, hr, hl⟩)
    · classical
      refine List.perm_iff_count.2 fun q => ?_
      have c1 := List.perm_iff_count.1 (own_split d1) q
      have c2 := List.perm_iff_count.1 (own_split d') q
      have c3 := List.perm_iff_count.1 (own_split ⟨d.sl, rest, d.nx⟩) q
      have c4 := List.perm_iff_count.1 (hU.flatMap_right ownOb) q
      have c5 := List.perm_iff_count.1 (own_obs ro) q
      have c6 := List.perm_iff_count.1 hroown.2 q
      have c7 : newsA.flatMap ownOb = nn.flatMap (fun o => ownOb (0, o)) := by
        rw [zipIdx_own, List.flatMap_map]
        exact ownOb_ren.flatMap_congr' fun o _ => ownOb_ren g 0 0 o
      have c8 : (pairs g hs nk).flatMap ownOb = nk.flatMap (fun o => ownOb (0, o)) := pairs_own (by rw [hnkl, hk0])
      have c9 : d'.ob.flatMap ownOb = nk.flatMap (fun o => ownOb (0, o)) ++ nn.flatMap (fun o => ownOb (0, o)) := by
        rw [← List.flatMap_append, List.take_append_drop, hk1]
        exact zipIdx_own 0 nobs
      have c10 : (leavesV (renV g rv)).flatMap ownL = (leavesV rv).flatMap ownL := by
        rw [leavesV_ren, List.flatMap_map]
        exact ownOb_ren.flatMap_congr' fun l _ => own_ren g l
      rw [c10] at c6
      rw [c9] at c2
      simp only [List.flatMap_append, c8, List.count_append] at c4
      simp only [d1, ob1, List.flatMap_append, c7, List.flatMap_cons, List.flatMap_nil, List.append_nil, hroown.1, List.count_append] at c1
      simp only [hd'sl, List.flatMap_cons, List.flatMap_nil, List.append_nil, List.count_append] at c2
      simp only [List.count_append] at c3 c5 c6 ⊢
      have c11 : List.count q (ownS d1) = _ := c1
      omega
    · obtain ⟨l, hl, hp⟩ := List.mem_flatMap.1 hp
      rcases htop1 l hl with h5 | ⟨l0, h5, rfl⟩ | h5 | ⟨q, hq, r', hr', h5⟩
      · exact .inl (.of_mem (List.mem_flatMap.2 ⟨l, h5, hp⟩))
      · rw [imm_ren] at hp
        exact .inr (List.mem_flatMap.2 ⟨l0, h5, hp⟩)
      · exact .inr ((hwfo l h5).2.2.2.2 p hp)
      · exact .inr ((hrol q hq r' hr' l h5).2 p hp)
    · rcases htop1 l hl with h5 | ⟨l0, h5, rfl⟩ | h5 | ⟨q, hq, r', hr', h5⟩
      · have hh := has_top hi.good h5
        exact ⟨hh.1, hB l hh⟩
      · exact hA l0 h5
      · exact ⟨(hwfo l h5).1, (hwfo l h5).2.1⟩
      · have := wf_weak (hrol q hq r' hr' l h5).1
        exact ⟨this.1, this.2.1 _⟩
    · have hren : ∀ (j : Nat) ob, nobs[j]? = some ob → (((renOb g ob).h = .slice none 0 0 ∧ (renOb g ob).rows = []) ∨ ∃ b x c, (renOb g ob).h = .slice (some ⟨b, x, none⟩) 0 c ∧ (renOb g ob).rows.length ≤ c ∧ (renOb g ob).rows.length ≤ LIM) ∧ ∀ r ∈ (renOb g ob).rows, r.length = (renOb g ob).n := fun j ob h => by
        have := hend.good.obs _ (hd'm j ob h)
        simp only at this
        refine ⟨by simpa [renOb] using this.1, fun r hr => ?_⟩
        obtain ⟨r0, b1, rfl⟩ := List.mem_map.1 hr
        simpa [renOb] using this.2 r0 b1
      rcases List.mem_append.1 hp with hp | hp
      · rcases List.mem_append.1 (hU.mem_iff.1 hp) with hp | hp
        · obtain ⟨j, h, ob, ob0, a1, a2, a3, rfl, a5⟩ := hpk _ hp
          exact hren j ob a2
        · exact hi.good.obs p (hrestm p hp)
      · rcases List.mem_append.1 hp with hp | hp
        · obtain ⟨j, ob, a1, a2, rfl⟩ := hnewm _ hp
          exact hren j ob a1
        · obtain ⟨v', m', rows, _, a2, a3, a4, _⟩ := hro p hp
          rw [a2]
          refine ⟨?_, a4⟩
          rcases a3 with ⟨rfl, rfl⟩ | ⟨b, x, c, rfl, a5, a6⟩
          · exact .inl ⟨rfl, rfl⟩
          · exact .inr ⟨b, x, c, rfl, a5, a6⟩
    · rcases List.mem_append.1 hp with hp | hp
      · rcases List.mem_append.1 (hU.mem_iff.1 hp) with hp | hp
        · obtain ⟨j, h, ob, ob0, a1, a2, a3, rfl, a5⟩ := hpk _ hp
          have := hi.hdr _ (find?_key a5) hlt
          simp only [renOb] at this ⊢
          rw [(hh2 j ob0 ob a3 a2).1]
          exact this
        · exact hi.hdr p (hrestm p hp) hlt
      · have : p.1 ∈ (newsA ++ ro).map (·.1) := List.mem_map.2 ⟨p, hp, rfl⟩
        rw [hnewk, List.mem_range'_1] at this
        have := hf.2
        omega
  obtain ⟨hinv2, htop2⟩ := inv_slot (sl := d.sl) (ob := ob1) (nx := d.nx + (nobs.length - hs.length + ro.length)) hinv1 (fun l hl => (hwfo l hl).2.2.1) o.dst
  refine ⟨setSl ⟨d.sl, ob1, d.nx + (nobs.length - hs.length + ro.length)⟩ o.dst rv', ?_, hinv2, SlR.put (d := ⟨d.sl, ob1, d.nx + (nobs.length - hs.length + ro.length)⟩) ⟨hsl.1, hsl.2⟩ o.dst ?_, by rw [put_defers']; exact hdef, fun i hk => ?_⟩
  · have k1 : updV.map (fun q => (q.1, q.2.map fun r => r.map erL)) = hs.zip ((obs'.take hs.length).map fun ob => (renOb g ob).rows) := by
      rw [← hk2, ← List.map_take, List.map_map]
      simp only [updV, nk]
      rw [List.zip_map_right, List.zip_map_right, List.map_map]
      refine List.map_congr_left fun q _ => ?_
      simp only [Function.comp, Prod.map, id]
      refine Prod.ext rfl ?_
      show _ = (renOb g (erOb q.2)).rows
      rw [← renOb_er]
      rfl
    have k2 : (obs'.drop hs.length).map (renOb g) = (nn.map (renOb g)).map erOb := by
      rw [← hk2, ← List.map_drop, List.map_map, List.map_map]
      exact List.map_congr_left fun ob _ => (renOb_er g ob).symm
    have k3 : (((ro.map (fun p => (p.1, erOb p.2))).map (·.2)).zipIdx (nid + (nobs.length - hs.length))).map (fun q => (q.2, q.1)) = ro.map (fun p => (p.1, erOb p.2)) := by
      refine rekey _ _ ?_
      rw [List.map_map, List.length_map, ← hrokeys]
      rfl
    rw [erS_setSl]
    unfold appE app
    congr 1
    simp only [erS, mapS, S.mk.injEq, true_and]
    refine ⟨?_, ?_⟩
    · have k4 : obU.map (fun p => (p.1, erOb p.2)) = (d.ob.map (fun p => (p.1, erOb p.2))).map (updP (hs.zip ((obs'.take hs.length).map fun ob => (renOb g ob).rows))) := by
        rw [← k1, List.map_map, List.map_map]
        exact List.map_congr_left fun p _ => updP_er updV p
      have k5 : (d.ob.map (fun p => (p.1, erOb p.2))).filter (fun p => !([] : List Nat).contains p.1) = d.ob.map (fun p => (p.1, erOb p.2)) := List.filter_eq_self.2 (fun _ _ => rfl)
      have k6 : nn.length = nobs.length - hs.length := by simp [nn]
      rw [k5, ← k4, k2, List.zipIdx_append]
      simp only [List.length_map, ob1, List.map_append, k6]
      rw [k3]
      congr 2
      simp only [newsA, List.zipIdx_map, List.map_map]
      rfl
    · simp [hm]
  · have := rootV_VR (n := nid + (nobs.length - hs.length)) (VR_ren' g hvr)
    rw [hrr] at this
    exact this
  · have hgk : ∀ j, j < nobs.length → Knows d (g j) ∨ (nid ≤ g j ∧ g j < nid + (nobs.length - hs.length + ro.length)) := fun j hj => by
      rcases Nat.lt_or_ge j hs.length with h5 | h5
      · have a1 : hs[j]? = some hs[j] := List.getElem?_eq_getElem h5
        rw [hgi j _ a1]
        have a2 := all2_get hob2 j _ _ a1 (List.getElem?_eq_getElem (by omega))
        exact .inl (.inr (List.mem_map.2 ⟨_, find?_key a2, rfl⟩))
      · rw [hge j h5]
        exact .inr (by omega)
    rcases hk with ⟨l, hl, hi2⟩ | hi2
    · rcases htop1 l (htop2 l hl) with h5 | ⟨l0, h5, rfl⟩ | h5 | ⟨q, hq, r', hr', h5⟩
      · exact .inl (.inl ⟨l, h5, hi2⟩)
      · rw [idsL_ren] at hi2
        obtain ⟨j, a4, rfl⟩ := List.mem_map.1 hi2
        exact hgk j (hkn' l0 h5 j a4)
      · rcases (hwfo l h5).2.2.2.1 i hi2 with ⟨j, hj, rfl⟩ | h6
        · exact hgk j hj
        · have : i ∈ (newsA ++ ro).map (·.1) := by rw [List.map_append]; exact List.mem_append_right _ h6
          rw [hnewk, List.mem_range'_1] at this
          exact .inr this
      · rw [(wf_weak (hrol q hq r' hr' l h5).1).2.2] at hi2; cases hi2
    · rw [setSl_ob] at hi2
      have hi2 : i ∈ (obU ++ (newsA ++ ro)).map (·.1) := hi2
      rw [List.map_append, List.mem_append] at hi2
      rcases hi2 with hi2 | hi2
      · rw [hUk] at hi2
        exact .inl (.inr hi2)
      · rw [hnewk, List.mem_range'_1] at hi2
        exact .inr hi2
end Go.Proofs.YtghdhjgoicnbcaaGreat.AM
