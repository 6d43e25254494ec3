import Derived.Test.YtmckcjoacfekcaaAm10
import Derived.Great.BuildSlice
/-! The calculus, eleventh part: structs and slices that are built, slices appended and cut, functions made. -/
namespace Go.Proofs.Ytmckcjoacfekcaa.AM
open Go

inductive All2 {α β : Type} (R : α → β → Prop) : List α → List β → Prop
  | nil : All2 R [] []
  | cons {x : α} {y : β} {xs : List α} {ys : List β} : R x y → All2 R xs ys → All2 R (x :: xs) (y :: ys)
-- parts
def partsE {δ : Type} (ρ : Operand → Option (V δ)) : List (Nat × Operand) → Option (List (Nat × U δ))
  | [] => some []
  | (i, x) :: ps => (uO (ρ x)).bind fun u => if noOsU u then (partsE ρ ps).map fun us => (i, u) :: us else none
theorem parts_ok {W : World} {d : S Value} {a : Act} (h : Good W d) (hs : SlR d a) : ∀ {ps : List (Nat × Operand)} {us : List (Nat × U Unit)}, partsE (evA (erS d)) ps = some us →
    ∃ us' : List (Nat × U Value), us'.map (fun p => (p.1, erU p.2)) = us ∧ All2 (fun p q => q.1 = p.1 ∧ UR p.2 q.2) us' (ps.map fun p => (p.1, a.eval p.2)) ∧ ∀ p ∈ us', ∀ l ∈ leavesU p.2, Has d l ∧ noOs l = true
  | [], us, he => by
    cases he
    exact ⟨[], rfl, .nil, by simp⟩
  | (i, x) :: ps, us, he => by
    unfold partsE at he
    obtain ⟨u, hu, he⟩ := bind_some he
    split at he
    · rename_i hno
      rw [Option.map_eq_some_iff] at he
      obtain ⟨us1, hus1, rfl⟩ := he
      obtain ⟨u', h1, h2, h3⟩ := u_ok h hs hu
      obtain ⟨us', g1, g2, g3⟩ := parts_ok h hs hus1
      subst h1
      rw [noOsU_er] at hno
      refine ⟨(i, u') :: us', by simp [g1], .cons ⟨rfl, h2⟩ g2, fun p hp => ?_⟩
      rcases List.mem_cons.1 hp with rfl | hp
      · intro l hl
        simp only [noOsU, List.all_eq_true] at hno
        exact ⟨h3 l hl, hno l hl⟩
      · exact g3 p hp
    · cases he
def fillP {δ : Type} (place : Nat → Option (Nat × Nat)) : List (Nat × U δ) → List (L δ) → Option (List (L δ))
  | [], cells => some cells
  | (i, u) :: rest, cells => (place i).bind fun p => if (leavesU u).length = p.2 ∧ p.1 + p.2 ≤ cells.length then fillP place rest (putC cells p.1 (leavesU u)) else none
theorem fillP_er (place : Nat → Option (Nat × Nat)) : ∀ (us : List (Nat × U Value)) (cells : List (L Value)),
    fillP place (us.map fun p => (p.1, erU p.2)) (cells.map erL) = (fillP place us cells).map (List.map erL)
  | [], cells => rfl
  | (i, u) :: us, cells => by
    simp only [List.map_cons, fillP, leavesU_map, List.length_map]
    cases place i with
    | none => rfl
    | some p =>
      simp only [Option.bind_some]
      split
      · rw [← putC_map, fillP_er place us]
      · rfl
theorem fold_put : ∀ (l : List Value) (k off : Nat) (cells : Array Value), off + k + l.length ≤ cells.size →
    (l.zipIdx k).foldl (fun cs p => cs.setIfInBounds (off + p.2) p.1) cells = (putC cells.toList (off + k) l).toArray
  | [], k, off, cells, h => by simp [putC]
  | v :: l, k, off, cells, h => by
    simp only [List.length_cons] at h
    rw [List.zipIdx_cons, List.foldl_cons, fold_put l (k + 1) off _ (by simp; omega)]
    congr 1
    simp only [Array.toList_setIfInBounds]
    apply List.ext_getElem?
    intro j
    rw [putC_get (by simp; omega), putC_get (by simp; omega)]
    simp only [List.length_cons]
    by_cases h1 : off + k + 1 ≤ j ∧ j < off + k + 1 + l.length
    · rw [if_pos (by omega), if_pos (by omega)]
      have : j - (off + k) = (j - (off + (k + 1))) + 1 := by omega
      rw [this, List.getElem?_cons_succ]
    · rw [if_neg (by omega)]
      by_cases h2 : j = off + k
      · subst h2
        rw [if_pos (by omega), Nat.sub_self, List.getElem?_cons_zero, List.getElem?_set_self (by simp; omega)]
      · rw [if_neg (by omega), List.getElem?_set_ne (Ne.symm h2)]
theorem fill_ok {place : Nat → Option (Nat × Nat)} : ∀ {us : List (Nat × U Value)} {ps : List (Nat × Value)} {cells cells' : List (L Value)}, All2 (fun p q => q.1 = p.1 ∧ UR p.2 q.2) us ps →
    (∀ p ∈ us, ∀ l ∈ leavesU p.2, wfL false l) → fillP place us cells = some cells' → Instr.fill place (cells.map val).toArray ps = some (cells'.map val).toArray
  | [], [], cells, cells', _, _, h => by cases h; rfl
  | (i, u) :: us, (i', x) :: ps, cells, cells', hf, hw, h => by
    cases hf with
    | cons hp hf =>
      obtain ⟨rfl, hx⟩ := hp
      simp only [fillP] at h
      obtain ⟨p, hp, h⟩ := bind_some h
      obtain ⟨off, size⟩ := p
      split at h
      · rename_i hb
        have hc := cells_u hx (hw _ (by simp))
        simp only at hb
        simp only [Instr.fill, hp, hc, List.size_toArray, List.length_map]
        rw [if_neg (by simp [hb.1]; omega)]
        have := fold_put ((leavesU u).map val) 0 off (cells.map val).toArray (by simp; omega)
        simp only [Nat.add_zero, ← putC_map] at this
        have e : (((leavesU u).map val).toArray.zipIdx.foldl (fun cs x => match x with | (c, j) => cs.setIfInBounds (off + j) c) (cells.map val).toArray) = ((putC cells off (leavesU u)).map val).toArray := by
          rw [← this]
          simp
        rw [e]
        exact fill_ok hf (fun p hp => hw p (List.mem_cons_of_mem _ hp)) h
      · cases h
theorem fillP_mem {δ : Type} {place : Nat → Option (Nat × Nat)} : ∀ {us : List (Nat × U δ)} {cells cells' : List (L δ)}, fillP place us cells = some cells' → ∀ l ∈ cells', l ∈ cells ∨ ∃ p ∈ us, l ∈ leavesU p.2
  | [], cells, cells', h, l, hl => by cases h; exact .inl hl
  | (i, u) :: us, cells, cells', h, l, hl => by
    simp only [fillP] at h
    obtain ⟨p, hp, h⟩ := bind_some h
    split at h
    · rcases fillP_mem h l hl with h1 | ⟨q, hq, h1⟩
      · rcases mem_putC h1 with h1 | h1
        · exact .inl h1
        · exact .inr ⟨(i, u), by simp, h1⟩
      · exact .inr ⟨q, List.mem_cons_of_mem _ hq, h1⟩
    · cases h

-- structs
def buF (P : Program) (t : TypeId) (ps : Array (Nat × Operand)) (ρ : Env) : Option Eff :=
  (tiOf P t).bind fun i => match i.kd with
    | .struct => (partsE ρ ps.toList).bind fun us => (fillP (i.places[·]?) us (i.zero.map zL)).bind fun cells => some { v := .u (.agg cells) }
    | _ => none
theorem placesL_mapM {P : Program} : ∀ {fs : List Field} {ps : List (Nat × Nat)}, placesL P fs = some ps → fs.mapM (fun f => (P.info? f.type).map fun i => (f.offset, i.size)) = some ps
  | [], ps, h => by cases h; rfl
  | f :: fs, ps, h => by
    unfold placesL at h
    cases h1 : P.info? f.type with
    | none => simp [h1] at h
    | some i =>
      cases h2 : placesL P fs with
      | none => simp [h1, h2] at h
      | some qs =>
        simp [h1, h2] at h
        subst h
        simp [List.mapM_cons, h1, placesL_mapM h2]
theorem er_zeros (zs : List Z) : (zs.map (zL (δ := Value))).map erL = zs.map zL := by
  rw [List.map_map]
  exact List.map_congr_left fun z _ => er_zL z
theorem val_zeros (zs : List Z) : (zs.map (zL (δ := Value))).map val = zs.map zV := by
  rw [List.map_map]
  exact List.map_congr_left fun z _ => val_zL z
theorem bu_ok {P : Program} {B : Bd} {o : Oper} {a : Act} {W : World} {d : S Value} {nid : Nat} {e : Eff} (hi : Inv B W d) (hs : SlR d a) {t : TypeId} {ps : Array (Nat × Operand)} (ho : o.op = .build t ps)
    (he : buF P t ps (evA (erS d)) = some e) : Done P B o a W d nid e := by
  unfold buF at he
  obtain ⟨i, ht, he⟩ := bind_some he
  obtain ⟨info, td, z, hinf, hu, hz, hzs, hkd, _, _, _, _, _, hpl⟩ := tiOf_spec ht
  split at he
  · rename_i hk
    obtain ⟨fs, rfl⟩ := kdD_struct (hkd.symm.trans hk)
    obtain ⟨us, hus, he⟩ := bind_some he
    obtain ⟨cells, hc, he⟩ := bind_some he
    cases he
    obtain ⟨us', h1, h2, h3⟩ := parts_ok hi.good hs hus
    subst h1
    rw [← er_zeros, fillP_er, Option.map_eq_some_iff] at hc
    obtain ⟨cells', hc', rfl⟩ := hc
    have hfill := fill_ok h2 (fun p hp l hl => (h3 p hp l hl).1.1) hc'
    rw [val_zeros, hzs] at hfill
    have hall : ∀ l ∈ cells', Has d l ∧ noOs l = true := fun l hl => by
      rcases fillP_mem hc' l hl with h | ⟨p, hp, h⟩
      · obtain ⟨z, _, rfl⟩ := List.mem_map.1 h
        exact has_zL z
      · exact h3 p hp l h
    refine done_pure hi hs (v := .u (.agg cells')) (x := .agg (cells'.map val).toArray) ?_ rfl (by simpa [noOsV, leavesV, leavesU, List.all_eq_true] using fun l hl => (hall l hl).2) (fun l hl => (hall l hl).1) trivial
    simp only [execOp, ho]
    have hb : P.built t (ps.map fun x => match x with | (i, x) => (i, a.eval x)).toList = some (cells'.map val).toArray := by
      simp only [Program.built, hinf, hu, hz]
      simp only [placesD] at hpl
      rw [placesL_mapM hpl]
      simp only [Array.toList_map]
      simpa using hfill
    rw [Sem.run_bind, run_build W t _ _ hb]
    rfl
  · cases he

-- slices
def fillR {δ : Type} (n : Nat) : List (Nat × U δ) → List (List (L δ)) → Option (List (List (L δ)))
  | [], rows => some rows
  | (i, u) :: rest, rows => if (leavesU u).length = n ∧ i < rows.length then fillR n rest (rows.set i (leavesU u)) else none
theorem fillR_er (n : Nat) : ∀ (us : List (Nat × U Value)) (rows : List (List (L Value))), fillR n (us.map fun p => (p.1, erU p.2)) (rowsE rows) = (fillR n us rows).map rowsE
  | [], rows => rfl
  | (i, u) :: us, rows => by
    simp only [List.map_cons, fillR, leavesU_map, List.length_map, rowsE]
    split
    · have := fillR_er n us (rows.set i (leavesU u))
      simp only [rowsE, List.map_set] at this
      exact this
    · rfl
theorem fillR_ok {n : Nat} : ∀ {us : List (Nat × U Value)} {rows rows' : List (List (L Value))}, (∀ r ∈ rows, r.length = n) → (∀ r ∈ rows, ∀ l ∈ r, ∃ z, l = zL z) → fillR n us rows = some rows' →
    (∀ r ∈ rows', r.length = n) ∧ rows'.length = rows.length ∧ ∀ r ∈ rows', ∀ l ∈ r, (∃ r0 ∈ rows, l ∈ r0) ∨ ∃ p ∈ us, l ∈ leavesU p.2
  | [], rows, rows', hl, _, h => by cases h; exact ⟨hl, rfl, fun r hr l h => .inl ⟨r, hr, h⟩⟩
  | (i, u) :: us, rows, rows', hl, hz, h => by
    unfold fillR at h
    split at h
    · rename_i hb
      have key : ∀ (us : List (Nat × U Value)) (rows rows' : List (List (L Value))), (∀ r ∈ rows, r.length = n) → fillR n us rows = some rows' →
          (∀ r ∈ rows', r.length = n) ∧ rows'.length = rows.length ∧ ∀ r ∈ rows', ∀ l ∈ r, (∃ r0 ∈ rows, l ∈ r0) ∨ ∃ p ∈ us, l ∈ leavesU p.2 := by
        intro us
        induction us with
        | nil => intro rows rows' hl h; cases h; exact ⟨hl, rfl, fun r hr l h => .inl ⟨r, hr, h⟩⟩
        | cons p us ih =>
          intro rows rows' hl h
          obtain ⟨i, u⟩ := p
          unfold fillR at h
          split at h
          · rename_i hb
            obtain ⟨h1, h2, h3⟩ := ih _ _ (fun r hr => by
              rcases mem_set_rows hr with hr | rfl
              · exact hl r hr
              · exact hb.1) h
            refine ⟨h1, by simpa using h2, fun r hr l hlr => ?_⟩
            rcases h3 r hr l hlr with ⟨r0, hr0, h4⟩ | ⟨p, hp, h4⟩
            · rcases mem_set_rows hr0 with hr0 | rfl
              · exact .inl ⟨r0, hr0, h4⟩
              · exact .inr ⟨(i, u), by simp, h4⟩
            · exact .inr ⟨p, List.mem_cons_of_mem _ hp, h4⟩
          · cases h
      exact key ((i, u) :: us) rows rows' hl (by unfold fillR; rw [if_pos hb]; exact h)
    · cases h
theorem fillR_fill {n : Nat} : ∀ {us : List (Nat × U Value)} {ps : List (Nat × Value)} {rows rows' : List (List (L Value))}, (∀ r ∈ rows, r.length = n) → All2 (fun p q => q.1 = p.1 ∧ UR p.2 q.2) us ps →
    (∀ p ∈ us, ∀ l ∈ leavesU p.2, wfL false l) → fillR n us rows = some rows' → Instr.fill (fun i => some (i * n, n)) (valR rows).toArray ps = some (valR rows').toArray
  | [], [], rows, rows', _, _, _, h => by cases h; rfl
  | (i, u) :: us, (i', x) :: ps, rows, rows', hl, hf, hw, h => by
    cases hf with
    | cons hp hf =>
      obtain ⟨rfl, hx⟩ := hp
      unfold fillR at h
      split at h
      · rename_i hb
        have hc := cells_u hx (hw _ (by simp))
        simp only at hb hf hx hc ⊢
        have hlen := valR_len hl
        have hle : (i' + 1) * n ≤ rows.length * n := Nat.mul_le_mul_right _ hb.2
        rw [Nat.add_mul, Nat.one_mul] at hle
        simp only [Instr.fill, hc, List.size_toArray, List.length_map, hb.1, hlen]
        rw [if_neg (by simp; omega)]
        have := fold_put ((leavesU u).map val) 0 (i' * n) (valR rows).toArray (by simp [hlen, hb.1]; omega)
        simp only [Nat.add_zero] at this
        have e : (((leavesU u).map val).toArray.zipIdx.foldl (fun cs x => match x with | (c, j) => cs.setIfInBounds (i' * n + j) c) (valR rows).toArray) = (valR (rows.set i' (leavesU u))).toArray := by
          rw [valR_set hl (List.getElem?_eq_getElem hb.2) hb.1]
          have h3 : putC (valR rows) (i' * n) ((leavesU u).map val) = (valR rows).take (i' * n) ++ (leavesU u).map val ++ (valR rows).drop (i' * n + n) := by
            unfold putC
            rw [List.length_map, hb.1]
          rw [← h3, ← this]
          simp
        rw [e]
        exact fillR_fill (fun r hr => by
          rcases mem_set_rows hr with hr | rfl
          · exact hl r hr
          · exact hb.1) hf (fun p hp => hw p (List.mem_cons_of_mem _ hp)) h
      · cases h
def bsF (P : Program) (t : TypeId) (len : Nat) (ps : Array (Nat × Operand)) (ρ : Env) (nid : Nat) : Option Eff :=
  (tiOf P t).bind fun i => match i.kd with
    | .slice => (tiOf P i.elem).bind fun ie => if ie.zero.length = ie.size ∧ 0 < ie.size ∧ len * ie.size ≤ 16777216 then
        (partsE ρ ps.toList).bind fun us => (fillR ie.size us (List.replicate len (ie.zero.map zL))).bind fun rows => some { v := one1 (.ref () nid 0 len), news := [⟨(), ie.size, rows⟩] } else none
    | _ => none
theorem fillR_len {δ : Type} {n : Nat} : ∀ {us : List (Nat × U δ)} {rows rows' : List (List (L δ))}, fillR n us rows = some rows' → rows'.length = rows.length
  | [], rows, rows', h => by cases h; rfl
  | (i, u) :: us, rows, rows', h => by
    unfold fillR at h
    split at h
    · have := fillR_len h
      simpa using this
    · cases h
theorem bs_ok {P : Program} {B : Bd} {o : Oper} {a : Act} {W : World} {d : S Value} {nid : Nat} {e : Eff} (hi : Inv B W d) (hs : SlR d a) (hf : Fresh B d nid e.news.length) {t : TypeId} {len : Nat} {ps : Array (Nat × Operand)}
    (ho : o.op = .buildSlice t len ps) (he : bsF P t len ps (evA (erS d)) nid = some e) : Done P B o a W d nid e := by
  unfold bsF at he
  obtain ⟨i, ht, he⟩ := bind_some he
  obtain ⟨info, td, _, hinf, hu, _, _, hkd, _, _, _, _, hel, _⟩ := tiOf_spec ht
  split at he
  · rename_i hk
    have hd := kdD_slice (hkd.symm.trans hk)
    obtain ⟨ie, hie, he⟩ := bind_some he
    obtain ⟨info2, _, z, hinf2, _, hz, hzs, _, _, hsz2, hby2, _⟩ := tiOf_spec hie
    rw [hel] at hinf2
    rw [hd] at hu
    split at he
    · rename_i hb
      obtain ⟨us, hus, he⟩ := bind_some he
      obtain ⟨rows, hrows, he⟩ := bind_some he
      cases he
      obtain ⟨us', h1, h2, h3⟩ := parts_ok hi.good hs hus
      subst h1
      have hzc : z.cells.size = ie.size := by
        have := congrArg List.length hzs
        simp only [List.length_map, Array.length_toList] at this
        omega
      have e0 : rowsE (List.replicate len (ie.zero.map (zL (δ := Value)))) = List.replicate len (ie.zero.map zL) := by
        rw [rowsE, List.map_replicate, er_zeros]
      rw [← e0, fillR_er, Option.map_eq_some_iff] at hrows
      obtain ⟨rows', hr', rfl⟩ := hrows
      have hl0 : ∀ r ∈ List.replicate len (ie.zero.map (zL (δ := Value))), r.length = ie.size := fun r hr => by rw [List.eq_of_mem_replicate hr, List.length_map]; exact hb.1
      have hz0 : ∀ r ∈ List.replicate len (ie.zero.map (zL (δ := Value))), ∀ l ∈ r, ∃ z, l = zL z := fun r hr l hl => by
        rw [List.eq_of_mem_replicate hr] at hl
        obtain ⟨z, _, rfl⟩ := List.mem_map.1 hl
        exact ⟨z, rfl⟩
      obtain ⟨k1, k2, k3⟩ := fillR_ok hl0 hz0 hr'
      have hfill := fillR_fill hl0 h2 (fun p hp l hl => (h3 p hp l hl).1.1) hr'
      have hmade : (valR (List.replicate len (ie.zero.map (zL (δ := Value))))).toArray = (Array.range (len * ie.size)).map (z.cells[· % z.cells.size]!) := by
        show _ = madeCells z.cells (len * ie.size)
        apply Array.ext_getElem?
        intro j
        by_cases hj : j < len * ie.size
        · rw [made_get (by omega) hj, hzc, List.getElem?_toArray]
          have hlt : j < (List.replicate len (ie.zero.map (zL (δ := Value)))).flatten.length := by
            have := valR_len hl0
            simp only [valR, List.length_map, List.length_replicate] at this
            omega
          obtain ⟨_, h5⟩ := flat_rep (by rw [List.length_map]; exact hb.1) hb.2.1 len j _ (List.getElem?_eq_getElem hlt)
          simp only [valR, List.getElem?_map, List.getElem?_eq_getElem hlt, Option.map_some]
          rw [List.getElem?_map, Option.map_eq_some_iff] at h5
          obtain ⟨q, hq, hq2⟩ := h5
          rw [← hq2, val_zL]
          have := congrArg (fun l : List Value => l[j % ie.size]?) hzs
          simp only [List.getElem?_map, hq, Option.map_some, Array.getElem?_toList] at this
          exact this
        · rw [Array.getElem?_eq_none (by simp [valR_len hl0]; omega), Array.getElem?_eq_none (by rw [size_madeCells]; omega)]
      have hps : (ps.map fun x => match x with | (i, x) => (i, a.eval x)).toList = ps.toList.map fun p => (p.1, a.eval p.2) := by simp
      have hrun : (Instr.buildSlice t len (ps.map fun x => match x with | (i, x) => (i, a.eval x))).run P W = .ok (.slice (some ⟨W.heap.size, 0, none⟩) len len) (W.alloc (.cells (valR rows').toArray (elemD td))) := by
        rw [hmade] at hfill
        rw [← hps] at hfill
        by_cases h0 : len * info2.size = 0
        · have hl : len = 0 := by
            rcases Nat.mul_eq_zero.1 h0 with h | h
            · exact h
            · omega
          subst hl
          simp only [Nat.zero_mul] at hfill
          have e : Instr.fill (fun i => some (i * info2.size, info2.size)) #[] (ps.toList.map fun p => (p.1, a.eval p.2)) = some (valR rows').toArray := by
            rw [← hsz2]
            rw [hps] at hfill
            simpa [Array.range_zero'] using hfill
          simp [Instr.buildSlice, run_underlying hu, sizeOf, typeInfo, zeroValue, hinf2, hz, newRow, Array.range_zero', e]
        · exact run_buildSlice W t (elemD td) len _ _ info2 z hu hinf2 hz (by rw [← hsz2]; omega) h0 (by rw [← hsz2]; exact hfill)
      have hlen : rows'.length = len := by rw [k2, List.length_replicate]
      have hnew := new_block (W' := W.alloc (.cells (valR rows').toArray (elemD td))) hi hf [] (cells := (valR rows').toArray) (ty := elemD td) rfl ⟨rfl, rfl, rfl⟩ (n := ie.size) (c := len) (rows := rows') k1
        (fun r hr l hl => by
          rcases k3 r hr l hl with ⟨r0, hr0, h⟩ | ⟨p, hp, h⟩
          · obtain ⟨z, rfl⟩ := hz0 r0 hr0 l h
            exact has_zL z
          · exact h3 p hp l h) (by omega) (by
            have : len * 1 ≤ len * ie.size := Nat.mul_le_mul_left _ hb.2.1
            simp only [LIM]; omega) (by simp [valR_len k1, hlen]) (fun j v hj => by simpa using hj)
      have := done_new (P := P) (o := o) (a := a) (rd := []) (hyp := True) hs hf hnew (l := .ref (.slice (some ⟨W.heap.size, 0, none⟩) rows'.length len) nid 0 rows'.length) rfl ⟨rfl, _, _, _, rfl⟩ (ref_ok hf) rfl rfl (by
        simp only [execOp, ho]
        rw [Sem.run_bind, hrun, hlen]
        rfl) trivial
      simpa [mapL, hlen] using this
    · cases he
  · cases he

-- functions
def capsE {δ : Type} (ρ : Operand → Option (V δ)) : List Operand → Option (List (L δ))
  | [] => some []
  | x :: xs => (lO (ρ x)).bind fun l => if noOs l then (capsE ρ xs).map fun ls => l :: ls else none
theorem caps_ok {W : World} {d : S Value} {a : Act} (h : Good W d) (hs : SlR d a) : ∀ {xs : List Operand} {ls : List (L Unit)}, capsE (evA (erS d)) xs = some ls →
    ∃ ls' : List (L Value), ls'.map erL = ls ∧ xs.map a.eval = ls'.map val ∧ ∀ l ∈ ls', Has d l ∧ noOs l = true
  | [], ls, he => by cases he; exact ⟨[], rfl, rfl, by simp⟩
  | x :: xs, ls, he => by
    unfold capsE at he
    obtain ⟨l, hl, he⟩ := bind_some he
    split at he
    · rename_i hno
      rw [Option.map_eq_some_iff] at he
      obtain ⟨ls1, hls1, rfl⟩ := he
      obtain ⟨l', h1, h2, h3⟩ := leaf_ok h hs hl
      obtain ⟨ls', g1, g2, g3⟩ := caps_ok h hs hls1
      subst h1
      rw [noOs_er] at hno
      refine ⟨l' :: ls', by simp [g1], by simp [h2, g2], fun q hq => ?_⟩
      rcases List.mem_cons.1 hq with rfl | hq
      · exact ⟨h3, hno⟩
      · exact g3 q hq
    · cases he
def mfF (f : Fn) (first caps : Array Operand) (ρ : Env) : Option Eff := match f with
  | .func g => if first.size = 0 then (capsE ρ caps.toList).map fun ls => { v := one1 (.fn () g ls) } else none
  | _ => none
theorem mf_ok {P : Program} {B : Bd} {o : Oper} {a : Act} {W : World} {d : S Value} {nid : Nat} {e : Eff} (hi : Inv B W d) (hs : SlR d a) {f : Fn} {first caps : Array Operand} (ho : o.op = .makeFunc f first caps)
    (he : mfF f first caps (evA (erS d)) = some e) : Done P B o a W d nid e := by
  unfold mfF at he
  split at he
  · rename_i g
    split at he
    · rename_i h0
      rw [Option.map_eq_some_iff] at he
      obtain ⟨ls, hls, rfl⟩ := he
      obtain ⟨ls', h1, h2, h3⟩ := caps_ok hi.good hs hls
      subst h1
      have hfirst : first = #[] := Array.eq_empty_of_size_eq_zero h0
      have := done_leaf (P := P) (B := B) (o := o) (a := a) (W := W) (nid := nid) (rd := []) (hyp := True) (l := .fn (.func (.func g) #[] (ls'.map val).toArray) g ls') hi hs (by
        simp only [execOp, ho, Instr.makeFunc, hfirst, val]
        have : caps.map a.eval = (ls'.map val).toArray := by
          rw [← h2, ← Array.toList_map, Array.toArray_toList]
        rw [this]
        simp) rfl ⟨⟨rfl, rfl, (wfC_iff _ _).2 fun l hl => (h3 l hl).1.1⟩, (refOkC_iff _ _).2 fun l hl => (h3 l hl).1.2.1, fun p hp => by
          simp only [immL, immC_eq] at hp
          obtain ⟨l, hl, hp⟩ := List.mem_flatMap.1 hp
          exact (h3 l hl).1.2.2.1 p hp, fun i hi => by
          simp only [idsL, idsC_eq] at hi
          obtain ⟨l, hl, hi⟩ := List.mem_flatMap.1 hi
          exact (h3 l hl).1.2.2.2 i hi⟩
      simpa [mapL, mapC_eq] using this
    · cases he
  · cases he
end Go.Proofs.Ytmckcjoacfekcaa.AM
