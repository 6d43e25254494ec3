import Derived.Test.YtmckcjoacfekcaaAm5
/-! The calculus, sixth part: operations that read memory. -/
namespace Go.Proofs.Ytmckcjoacfekcaa.AM
open Go

-- leaves inside rows that are read
mutual
theorem wf_weak : ∀ {l : L Value}, wfL true l → wfL false l ∧ (∀ ob, refOk ob l) ∧ idsL l = []
  | .int _ _, _ => by simp [wfL, refOk, idsL]
  | .bool _, _ => by simp [wfL, refOk, idsL]
  | .str _, _ => by simp [wfL, refOk, idsL]
  | .nl, _ => by simp [wfL, refOk, idsL]
  | .nilp, _ => by simp [wfL, refOk, idsL]
  | .bs _ _ _, h => by simpa [wfL, refOk, idsL] using h
  | .os _ _ _, h => by simpa [wfL, refOk, idsL] using h
  | .ref _ _ _ _, h => by simp [wfL] at h
  | .ptr _ _ _ _, h => by simp [wfL] at h
  | .ip _ _, h => by simp [wfL] at h
  | .fn _ _ _, h => by simp [wfL] at h
end
theorem flat_get {α : Type} {n : Nat} : ∀ {rows : List (List α)} {i j : Nat} {r : List α} {x : α}, (∀ r ∈ rows, r.length = n) → rows[i]? = some r → r[j]? = some x → rows.flatten[i * n + j]? = some x
  | [], i, j, r, x, _, hi, _ => by simp at hi
  | q :: qs, 0, j, r, x, hl, hi, hj => by
    simp only [List.getElem?_cons_zero, Option.some.injEq] at hi
    subst hi
    have : j < q.length := (List.getElem?_eq_some_iff.1 hj).1
    rw [List.flatten_cons, Nat.zero_mul, Nat.zero_add, List.getElem?_append_left this]
    exact hj
  | q :: qs, i + 1, j, r, x, hl, hi, hj => by
    have hq : q.length = n := hl q (by simp)
    simp only [List.getElem?_cons_succ] at hi
    rw [List.flatten_cons, List.getElem?_append_right (by rw [hq, Nat.add_mul]; omega), hq]
    have := flat_get (fun r hr => hl r (List.mem_cons_of_mem _ hr)) hi hj
    rw [← this]
    congr 1
    rw [Nat.add_mul]
    omega
theorem valR_get {n : Nat} {rows : List (List (L Value))} {i j : Nat} {r : List (L Value)} {x : L Value} (hl : ∀ r ∈ rows, r.length = n) (hi : rows[i]? = some r) (hj : r[j]? = some x) :
    (valR rows)[i * n + j]? = some (val x) := by
  unfold valR
  rw [List.getElem?_map, flat_get hl hi hj]
  rfl
theorem mem_immR {rows : List (List (L Value))} {r : List (L Value)} {l : L Value} {p} (hr : r ∈ rows) (hl : l ∈ r) (hp : p ∈ immL l) : p ∈ immR rows := by
  rw [immR_eq]
  exact List.mem_flatMap.2 ⟨l, List.mem_flatten.2 ⟨r, hr, hl⟩, hp⟩
theorem has_nested {d : S Value} {l : L Value} (h : wfL true l) (hi : ∀ p ∈ immL l, SubIn p (immS d)) : Has d l :=
  ⟨(wf_weak h).1, (wf_weak h).2.1 _, hi, fun i hi => by rw [(wf_weak h).2.2] at hi; cases hi⟩
/-- An element of a row that is read: a place. -/
theorem has_row {d : S Value} {v : Value} {n : Nat} {rows : List (List (L Value))} (h : Has d (.bs v n rows)) {i : Nat} {r : List (L Value)} (hr : rows[i]? = some r) :
    ∃ b o c, v = .slice (some ⟨b, o, none⟩) rows.length c ∧ Has d (.ip (.pointer (some ⟨b, o + i * n, none⟩)) r) := by
  obtain ⟨⟨a, c, hv, hlen, hlim, ha⟩, hl, hw⟩ := h.1
  have hne : rows ≠ [] := by rintro rfl; simp at hr
  obtain ⟨b, o, rfl⟩ := ha hne
  have hm := List.mem_of_getElem? hr
  refine ⟨b, o, c, hv, ⟨⟨rfl, ⟨b, _, rfl⟩, ?_⟩, by simp [refOk], fun p hp => ?_, by simp [idsL]⟩⟩
  · rw [wfC_iff]
    rw [wfR_iff] at hw
    exact hw r hm
  · simp only [immL, hdrImm, List.mem_append, List.mem_singleton] at hp
    rcases hp with rfl | hp
    · have hs : Sub ((⟨b, o + i * n, none⟩ : Addr), r.map val) ((⟨b, o, none⟩ : Addr), valR rows) := by
        refine ⟨rfl, i * n, rfl, fun j u hj => ?_⟩
        simp only [List.getElem?_map, Option.map_eq_some_iff] at hj
        obtain ⟨x, hx, rfl⟩ := hj
        exact valR_get hl hr hx
      by_cases hrn : r = []
      · left; simp [hrn]
      · have := h.2.2.1 (⟨b, o, none⟩, valR rows) (by simp [immL, hv, hdrImm])
        rcases this with h0 | ⟨q, hq, hs'⟩
        · left
          have := hs.ne (by simpa using hrn)
          exact absurd h0 this
        · exact .inr ⟨q, hq, hs.trans hs'⟩
    · rw [immC_eq] at hp
      obtain ⟨l, hl2, hp2⟩ := List.mem_flatMap.1 hp
      exact h.2.2.1 p (by simp only [immL, List.mem_append]; exact .inr (mem_immR hm hl2 hp2))
theorem has_ip_leaf {d : S Value} {v : Value} {cells : List (L Value)} (h : Has d (.ip v cells)) {l : L Value} (hl : l ∈ cells) : Has d l := by
  obtain ⟨_, _, hw⟩ := h.1
  rw [wfC_iff] at hw
  refine has_nested (hw l hl) (fun p hp => h.2.2.1 p ?_)
  simp only [immL, List.mem_append]
  right
  rw [immC_eq]
  exact List.mem_flatMap.2 ⟨l, hl, hp⟩
theorem has_ip_drop {d : S Value} {b o : Nat} {cells : List (L Value)} (h : Has d (.ip (.pointer (some ⟨b, o, none⟩)) cells)) (k : Nat) : Has d (.ip (.pointer (some ⟨b, o + k, none⟩)) (cells.drop k)) := by
  refine ⟨⟨rfl, ⟨b, _, rfl⟩, ?_⟩, by simp [refOk], fun p hp => ?_, by simp [idsL]⟩
  · have := h.1.2.2
    rw [wfC_iff] at this ⊢
    exact fun l hl => this l (List.mem_of_mem_drop hl)
  · simp only [immL, hdrImm, List.mem_append, List.mem_singleton] at hp
    rcases hp with rfl | hp
    · have hs : Sub ((⟨b, o + k, none⟩ : Addr), (cells.drop k).map val) ((⟨b, o, none⟩ : Addr), cells.map val) := by
        refine ⟨rfl, k, rfl, fun j u hj => ?_⟩
        simpa [List.getElem?_map, List.getElem?_drop] using hj
      by_cases hrn : cells.drop k = []
      · left; simp [hrn]
      · have := h.2.2.1 (⟨b, o, none⟩, cells.map val) (by simp [immL, hdrImm])
        rcases this with h0 | ⟨q, hq, hs'⟩
        · exact absurd h0 (hs.ne (by simpa using hrn))
        · exact .inr ⟨q, hq, hs.trans hs'⟩
    · rw [immC_eq] at hp
      obtain ⟨l, hl2, hp2⟩ := List.mem_flatMap.1 hp
      refine h.2.2.1 p ?_
      simp only [immL, List.mem_append]
      right
      rw [immC_eq]
      exact List.mem_flatMap.2 ⟨l, List.mem_of_mem_drop hl2, hp2⟩
theorem has_ip_cell {W : World} {d : S Value} (hg : Good W d) {b o : Nat} {cells : List (L Value)} (h : Has d (.ip (.pointer (some ⟨b, o, none⟩)) cells)) {j : Nat} {l : L Value} (hj : cells[j]? = some l) :
    W.cell? ⟨b, o + j, none⟩ = some (val l) := by
  rcases h.2.2.1 (⟨b, o, none⟩, cells.map val) (by simp [immL, hdrImm]) with h0 | ⟨q, hq, hs⟩
  · rw [List.map_eq_nil_iff] at h0
    subst h0
    simp at hj
  · have hne : cells.map val ≠ [] := by
      rintro h0
      rw [List.map_eq_nil_iff] at h0
      subst h0
      simp at hj
    exact (hs.fact (hg.imm q hq (hs.ne hne)).1) j (val l) (by simp [hj])

-- the objects that a state has, with and without what stands at the machine
theorem look_er (d : S Value) (id : Nat) : look (erS d).ob id = (look d.ob id).map erOb := by
  unfold look erS mapS
  rw [List.find?_map]
  simp only [Option.map_map, Function.comp_def]
theorem look_lift {d : S Value} {id : Nat} {o : Ob Unit} (h : look (erS d).ob id = some o) : ∃ o', look d.ob id = some o' ∧ erOb o' = o := by
  rw [look_er, Option.map_eq_some_iff] at h
  exact h
theorem has_ob {W : World} {d : S Value} (hg : Good W d) {id : Nat} {o : Ob Value} (ho : look d.ob id = some o) {r : List (L Value)} (hr : r ∈ o.rows) {l : L Value} (hl : l ∈ r) : Has d l :=
  has_top hg (mem_tops.2 (.inr (mem_obLeaves.2 ⟨_, find?_key ho, r, hr, hl⟩)))
theorem ob_cell {W : World} {d : S Value} (hg : Good W d) {id : Nat} {o : Ob Value} (ho : look d.ob id = some o) {b x c : Nat} (hh : o.h = .slice (some ⟨b, x, none⟩) 0 c)
    {e j : Nat} {r : List (L Value)} {l : L Value} (hr : o.rows[e]? = some r) (hj : r[j]? = some l) : W.cell? ⟨b, x + (e * o.n + j), none⟩ = some (val l) := by
  have hm := find?_key ho
  have : (b, x, c * o.n, valR o.rows) ∈ ownS d := by
    simp only [ownS, List.mem_append]
    left
    exact List.mem_flatMap.2 ⟨(id, o), hm, by simp [hdrOwn, hh]⟩
  obtain ⟨arr, ty, h1, h2, h3, h4⟩ := hg.own _ this
  have hv := valR_get (hg.obs _ hm).2 hr hj
  have := h4 _ _ hv
  simp only [World.cell?, h1]
  simpa using this
theorem addr_add (b o k : Nat) : (⟨b, o, none⟩ : Addr).add k = ⟨b, o + k, none⟩ := by unfold Addr.add; split <;> simp_all

-- a value out of cells
def pk {δ : Type} (i : TI) (cells : List (L δ)) (off : Nat) : Option (U δ) :=
  if i.agg then (if off + i.size ≤ cells.length then some (.agg ((cells.drop off).take i.size)) else none) else (cells[off]?).map .one
theorem pk_er (i : TI) (cells : List (L Value)) (off : Nat) : (pk i cells off).map erU = pk i (cells.map erL) off := by
  unfold pk
  split
  · rw [List.length_map]
    split
    · simp [mapU, List.map_take, List.map_drop]
    · rfl
  · rw [List.getElem?_map]
    cases cells[off]? <;> rfl
theorem pk_mem {δ : Type} {i : TI} {cells : List (L δ)} {off : Nat} {u : U δ} (h : pk i cells off = some u) : ∀ l ∈ leavesU u, l ∈ cells := by
  unfold pk at h
  split at h
  · split at h
    · cases h
      exact fun l hl => List.mem_of_mem_drop (List.mem_of_mem_take hl)
    · cases h
  · rw [Option.map_eq_some_iff] at h
    obtain ⟨l, hl, rfl⟩ := h
    intro l' hl'
    simp only [leavesU, List.mem_singleton] at hl'
    subst hl'
    exact List.mem_of_getElem? hl
def noOsU {δ : Type} (u : U δ) : Bool := (leavesU u).all noOs
theorem noOsU_er (u : U Value) : noOsU (erU u) = noOsU u := by
  simp only [noOsU, leavesU_map, List.all_map]
  congr 1
  funext l
  exact noOs_er l
theorem run_pk {P : Program} {W : World} {t : TypeId} {i : TI} (ht : tiOf P t = some i) {b o off : Nat} {cells : List (L Value)} {u : U Value} (h : pk i cells off = some u)
    (hc : ∀ (j : Nat) l, cells[j]? = some l → W.cell? ⟨b, o + j, none⟩ = some (val l)) : ∃ x, (Instr.loadAt t (.pointer (some ⟨b, o + off, none⟩))).run P W = .ok x W ∧ UR u x := by
  obtain ⟨info, d, z, hi, hu, _, _, _, hagg, hsz, _⟩ := tiOf_spec ht
  have hsize : ∀ w : World, (sizeOf t).run P w = .ok info.size w := fun w => by simp [sizeOf, typeInfo, hi]
  have hisagg : ∀ w : World, (isAgg t).run P w = .ok (isAggD d) w := fun w => by
    unfold isAgg
    rw [Sem.run_bind, run_underlying hu]
    cases d <;> rfl
  unfold pk at h
  simp only [Instr.loadAt, Instr.sureAddr, Sem.run_bind, Sem.run_pure, Result.andThen_ok, loadVar, hisagg]
  rw [hagg] at h
  split at h
  · rename_i hag
    split at h
    · rename_i hle
      cases h
      rw [hag]
      simp only [if_true, Sem.run_bind, hsize, Result.andThen_ok]
      have hl : ((cells.drop off).take i.size).length = info.size := by rw [List.length_take, List.length_drop, ← hsz]; omega
      have := run_loadCells_list (P := P) W ⟨b, o + off, none⟩ (((cells.drop off).take i.size).map val) (fun j v hj => by
        rw [List.getElem?_map, Option.map_eq_some_iff] at hj
        obtain ⟨l, hl, rfl⟩ := hj
        rw [addr_add, Nat.add_assoc]
        refine hc _ _ ?_
        rw [List.getElem?_take] at hl
        split at hl
        · rwa [List.getElem?_drop] at hl
        · cases hl)
      rw [List.length_map, hl] at this
      rw [this]
      exact ⟨_, rfl, rfl⟩
    · cases h
  · rename_i hag
    rw [Option.map_eq_some_iff] at h
    obtain ⟨l, hl, rfl⟩ := h
    have hag' : isAggD d = false := by simpa using hag
    rw [hag']
    simp only [Bool.false_eq_true, if_false, run_load, hc _ _ hl]
    exact ⟨_, rfl, rfl⟩

-- loads
def ldF (P : Program) (t : TypeId) (lk : Lk) (l : Option (L Unit)) : Option Eff :=
  (tiOf P t).bind fun i => match l with
    | some (.ptr _ id e j) => (lk id).bind fun o => (o.rows[e]?).bind fun r => (pk i r j).bind fun u => if noOsU u then some { v := .u u, rd := [id] } else none
    | some (.ip _ cells) => (pk i cells 0).bind fun u => if noOsU u then some { v := .u u } else none
    | _ => none
theorem bind_some {α β : Type} {x : Option α} {f : α → Option β} {y : β} (h : x.bind f = some y) : ∃ a, x = some a ∧ f a = some y := by
  cases x with
  | none => cases h
  | some a => exact ⟨a, rfl, h⟩
theorem rows_er {o : Ob Value} {e : Nat} {r : List (L Unit)} (h : (erOb o).rows[e]? = some r) : ∃ r', o.rows[e]? = some r' ∧ r'.map erL = r := by
  simp only [erOb, mapOb, List.getElem?_map, Option.map_eq_some_iff] at h
  exact h
theorem ld_ok {P : Program} {B : Bd} {o : Oper} {a : Act} {W : World} {d : S Value} {nid : Nat} {e : Eff} (hi : Inv B W d) (hs : SlR d a) {t : TypeId} {x : Operand} (ho : o.op = .load t x)
    (he : ldF P t (look (erS d).ob) (lO (evA (erS d) x)) = some e) : Done P B o a W d nid e := by
  unfold ldF at he
  obtain ⟨i, ht, he⟩ := bind_some he
  split at he
  · rename_i v id e' j hx
    obtain ⟨ob, hob, he⟩ := bind_some he
    obtain ⟨r, hr, he⟩ := bind_some he
    obtain ⟨u, hu, he⟩ := bind_some he
    split at he
    · rename_i hno
      cases he
      obtain ⟨l', h1, h2, h3⟩ := leaf_ok hi.good hs hx
      obtain ⟨v', rfl⟩ := er_ptr h1
      obtain ⟨ob', ho', rfl⟩ := look_lift hob
      obtain ⟨b, y, c0, hh, hv⟩ := h3.2.1 ob' ho'
      obtain ⟨r', hr', rfl⟩ := rows_er hr
      rw [← pk_er, Option.map_eq_some_iff] at hu
      obtain ⟨u', hu', rfl⟩ := hu
      obtain ⟨x', hx', hur⟩ := run_pk (W := W) ht (b := b) (o := y + e' * ob'.n) hu' (fun k l hk => by rw [Nat.add_assoc]; exact ob_cell hi.good ho' hh hr' hk)
      refine done_pure hi hs (v := .u u') (x := x') ?_ hur (by rw [← noOsV_er]; exact hno) (fun l hl => has_ob hi.good ho' (List.mem_of_getElem? hr') (pk_mem hu' l hl)) trivial
      simp only [execOp, ho, h2, val, hv]
      rw [← Nat.add_assoc, Sem.run_bind, hx']
      rfl
    · cases he
  · rename_i v cells hx
    obtain ⟨u, hu, he⟩ := bind_some he
    split at he
    · rename_i hno
      cases he
      obtain ⟨l', h1, h2, h3⟩ := leaf_ok hi.good hs hx
      obtain ⟨v', c', rfl, rfl⟩ := er_ip h1
      rw [mapC_eq, ← pk_er, Option.map_eq_some_iff] at hu
      obtain ⟨u', hu', rfl⟩ := hu
      obtain ⟨_, ⟨b, y, rfl⟩, _⟩ := h3.1
      obtain ⟨x', hx', hur⟩ := run_pk (W := W) ht (b := b) (o := y) hu' (fun k l hk => has_ip_cell hi.good h3 hk)
      refine done_pure hi hs (v := .u u') (x := x') ?_ hur (by rw [← noOsV_er]; exact hno) (fun l hl => has_ip_leaf h3 (pk_mem hu' l hl)) trivial
      simp only [execOp, ho, h2, val]
      rw [Nat.add_zero] at hx'
      rw [Sem.run_bind, hx']
      rfl
    · cases he
  · cases he
end Go.Proofs.Ytmckcjoacfekcaa.AM
