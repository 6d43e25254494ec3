import Derived.Test.YtmckcjoacfekcaaAm9
/-! The calculus, tenth part: new objects. -/
namespace Go.Proofs.Ytmckcjoacfekcaa.AM
open Go

theorem app_news {δ : Type} (s : S δ) (dst : Option Nat) (nid : Nat) (v : V δ) (o : Ob δ) (dl : List Nat) : app s dst nid v [o] [] dl = setSl ⟨s.sl, s.ob.filter (fun p => !dl.contains p.1) ++ [(nid, o)], s.nx + 1⟩ dst v := by
  simp [app, updP_nil]
def rowsE (rows : List (List (L Value))) : List (List (L Unit)) := rows.map (fun r => r.map erL)
def d1of (d : S Value) (dl : List Nat) (nid : Nat) (o : Ob Value) : S Value := ⟨d.sl, d.ob.filter (fun p => !dl.contains p.1) ++ [(nid, o)], d.nx + 1⟩
/-- A new object, named by the operation's value. -/
theorem done_new {P : Program} {B : Bd} {o : Oper} {a : Act} {W W' : World} {d : S Value} {nid : Nat} (hs : SlR d a) (hf : Fresh B d nid 1) {dl : List Nat} {ob : Ob Value}
    (hnew : Inv B W' (d1of d dl nid ob) ∧ ∀ i, Knows (d1of d dl nid ob) i → Knows d i ∨ i = nid) {l : L Value} (hno : noOs l = true)
    (hw : wfL false l) (hok : refOk (d1of d dl nid ob).ob l) (him : immL l = []) (hid : idsL l = [nid]) (hr : (execOp a.eval o).run P W = .ok (.value (val l)) W') {rd : List Nat} {hyp : Prop} (hp : hyp) :
    Done P B o a W d nid { v := one1 (erL l), rd := rd, news := [⟨(), ob.n, rowsE ob.rows⟩], del := dl, hyp := hyp } := by
  refine done_ob (d1 := d1of d dl nid ob) hnew.1 rfl hs hr (.inl rfl) (v := one1 l) rfl (by simp [noOsV, leavesV, leavesU, one1, hno]) (fun l' hl => ?_) ?_ (fun i hi => ?_) hp
  · simp only [leavesV, leavesU, one1, List.mem_singleton] at hl
    subst hl
    refine ⟨hw, hok, by simp [him], fun i hi => ?_⟩
    rw [hid] at hi
    right
    simp only [List.mem_singleton] at hi
    simp [d1of, hi]
  · rw [appE, app_news, d1of, er_ob_renew d (fun i => !dl.contains i) nid ob (d.nx + 1)]
    rfl
  · rcases hnew.2 i hi with h | h
    · exact .inl h
    · exact .inr ⟨by omega, by simp; omega⟩
theorem look_d1 {B : Bd} {d : S Value} {dl : List Nat} {nid : Nat} (hf : Fresh B d nid 1) (ob : Ob Value) : look (d1of d dl nid ob).ob nid = some ob := by
  refine look_append_self fun hm => ?_
  have : Knows d nid := .inr ((List.filter_sublist.map _).subset hm)
  have := hf.1 nid this
  omega
theorem Fresh.ne {B : Bd} {d : S Value} {nid : Nat} (hf : Fresh B d nid 1) : ∀ i, Knows d i → i ≠ nid := fun i hi he => by
  have := hf.1 i hi
  omega
/-- A new block. -/
theorem new_block {B : Bd} {W W' : World} {d : S Value} (h : Inv B W d) {nid : Nat} (hf : Fresh B d nid 1) (dl : List Nat) {cells : Array Value} {ty : TypeId} (hW : W'.heap = W.heap.push (.cells cells ty)) (hst : Same W W')
    {n c : Nat} {rows : List (List (L Value))} (hrow : ∀ r ∈ rows, r.length = n) (hh : ∀ r ∈ rows, ∀ l ∈ r, Has d l ∧ noOs l = true) (hlen : rows.length ≤ c) (hlim : rows.length ≤ LIM)
    (hcn : c * n ≤ cells.size) (hcell : ∀ (j : Nat) v, (valR rows)[j]? = some v → cells[j]? = some v) :
    Inv B W' (d1of d dl nid ⟨.slice (some ⟨W.heap.size, 0, none⟩) 0 c, n, rows⟩) ∧ ∀ i, Knows (d1of d dl nid ⟨.slice (some ⟨W.heap.size, 0, none⟩) 0 c, n, rows⟩) i → Knows d i ∨ i = nid := by
  have hsz : W'.heap.size = W.heap.size + 1 := by rw [hW, Array.size_push]
  refine h.new (fun i => !dl.contains i) hf.ne hf.2 hrow hh (by omega) hst (fun b hb _ => ?_) (.inr ⟨_, 0, c, rfl, hlen, hlim, ⟨cells, ty, ?_, by simpa using hcn, ?_, fun j v hj => ?_⟩, .inl (Nat.le_refl _)⟩)
  · rw [hW, Array.getElem?_push_lt hb, Array.getElem?_eq_getElem hb]
  · simp [hW]
  · simp only [valR_len hrow]
    exact Nat.mul_le_mul_right _ hlen
  · rw [Nat.zero_add]; exact hcell j v hj
theorem ref_ok {B : Bd} {d : S Value} {dl : List Nat} {nid : Nat} (hf : Fresh B d nid 1) {b x c n : Nat} {rows : List (List (L Value))} : refOk (d1of d dl nid ⟨.slice (some ⟨b, x, none⟩) 0 c, n, rows⟩).ob (.ref (.slice (some ⟨b, x, none⟩) rows.length c) nid 0 rows.length) := by
  intro o ho
  rw [look_d1 hf] at ho
  cases ho
  exact ⟨by simp, .inr ⟨b, x, c, rfl, .inl (by simp)⟩⟩
theorem ptr_ok {B : Bd} {d : S Value} {dl : List Nat} {nid : Nat} (hf : Fresh B d nid 1) {b x c n : Nat} {rows : List (List (L Value))} : refOk (d1of d dl nid ⟨.slice (some ⟨b, x, none⟩) 0 c, n, rows⟩).ob (.ptr (.pointer (some ⟨b, x, none⟩)) nid 0 0) := by
  intro o ho
  rw [look_d1 hf] at ho
  cases ho
  exact ⟨b, x, c, rfl, by simp⟩

-- variables
def alF (P : Program) (t : TypeId) (nid : Nat) : Option Eff := (tiOf P t).bind fun i => some { v := one1 (.ptr () nid 0 0), news := [⟨(), i.zero.length, [i.zero.map zL]⟩] }
def bxF (u : Option (U Unit)) (nid : Nat) : Option Eff := match u with
  | some u => if noOsU u then some { v := one1 (.ptr () nid 0 0), news := [⟨(), (leavesU u).length, [leavesU u]⟩] } else none
  | none => none
theorem has_zL {d : S Value} (z : Z) : Has d (zL z) ∧ noOs (zL z : L Value) = true := by cases z <;> simp [zL, Has, wfL, refOk, immL, idsL, noOs]
theorem al_ok {P : Program} {B : Bd} {o : Oper} {a : Act} {W : World} {d : S Value} {nid : Nat} {e : Eff} (hi : Inv B W d) (hs : SlR d a) (hf : Fresh B d nid e.news.length) {t : TypeId} (ho : o.op = .alloc t)
    (he : alF P t nid = some e) : Done P B o a W d nid e := by
  unfold alF at he
  obtain ⟨i, ht, he⟩ := bind_some he
  cases he
  obtain ⟨info, td, z, hinf, hu, hz, hzs, _⟩ := tiOf_spec ht
  have hr : (execOp a.eval o).run P W = .ok (.value (.pointer (some ⟨W.heap.size, 0, none⟩))) (W.alloc (.cells z.cells t)) := by
    simp [execOp, ho, Instr.alloc, zeroValue, typeInfo, hinf, hz, newVar, newRow]
  have hv : valR [i.zero.map zL] = z.cells.toList := by
    simp only [valR, List.flatten_cons, List.flatten_nil, List.append_nil, List.map_map, ← hzs]
    exact List.map_congr_left fun z _ => val_zL z
  have hzl : i.zero.length = z.cells.size := by
    have := congrArg List.length hzs
    simpa using this
  have hnew := new_block (W' := W.alloc (.cells z.cells t)) hi hf [] (cells := z.cells) (ty := t) rfl ⟨rfl, rfl, rfl⟩ (n := i.zero.length) (c := 1) (rows := [i.zero.map zL]) (by simp)
    (fun r hr l hl => by
      simp only [List.mem_singleton] at hr
      subst hr
      obtain ⟨z, _, rfl⟩ := List.mem_map.1 hl
      exact has_zL z) (by simp) (by simp [LIM]) (by omega) (fun j v hj => by rw [hv] at hj; simpa using hj)
  have := done_new (P := P) (o := o) (rd := []) (hyp := True) hs hf hnew (l := .ptr (.pointer (some ⟨W.heap.size, 0, none⟩)) nid 0 0) rfl ⟨rfl, _, rfl⟩ (ptr_ok hf) rfl rfl hr trivial
  simpa [rowsE, er_zL, Function.comp_def, mapL] using this
theorem bx_ok {P : Program} {B : Bd} {o : Oper} {a : Act} {W : World} {d : S Value} {nid : Nat} {e : Eff} (hi : Inv B W d) (hs : SlR d a) (hf : Fresh B d nid e.news.length) {t : TypeId} {x : Operand} (ho : o.op = .box t x)
    (he : bxF (uO (evA (erS d) x)) nid = some e) : Done P B o a W d nid e := by
  unfold bxF at he
  split at he
  · rename_i u hx
    split at he
    · rename_i hno
      cases he
      obtain ⟨u', h1, h2, h3⟩ := u_ok hi.good hs hx
      subst h1
      rw [noOsU_er] at hno
      have hc := cells_u h2 (fun l hl => (h3 l hl).1)
      have hr : (execOp a.eval o).run P W = .ok (.value (.pointer (some ⟨W.heap.size, 0, none⟩))) (W.alloc (.cells ((leavesU u').map val).toArray t)) := by
        simp [execOp, ho, Instr.box, newVar, newRow, hc]
      have hnew := new_block (W' := W.alloc (.cells ((leavesU u').map val).toArray t)) hi hf [] (cells := ((leavesU u').map val).toArray) (ty := t) rfl ⟨rfl, rfl, rfl⟩ (n := (leavesU u').length) (c := 1) (rows := [leavesU u']) (by simp)
        (fun r hr l hl => by
          simp only [List.mem_singleton] at hr
          subst hr
          exact ⟨h3 l hl, by simp only [noOsU, List.all_eq_true] at hno; exact hno l hl⟩) (by simp) (by simp [LIM]) (by simp) (fun j v hj => by simpa [valR] using hj)
      have := done_new (P := P) (o := o) (rd := []) (hyp := True) hs hf hnew (l := .ptr (.pointer (some ⟨W.heap.size, 0, none⟩)) nid 0 0) rfl ⟨rfl, _, rfl⟩ (ptr_ok hf) rfl rfl hr trivial
      simpa [rowsE, leavesU_map, mapL] using this
    · cases he
  · cases he

-- makeSlice
def mkF (P : Program) (t : TypeId) (l c : Option (L Unit)) (nid : Nat) : Option Eff :=
  (tiOf P t).bind fun i => match i.kd with
    | .slice => (tiOf P i.elem).bind fun ie => match l, c with
      | some (.int _ n), some (.int _ m) => if ie.zero.length = ie.size ∧ 0 < ie.size then if 0 ≤ n ∧ n ≤ m ∧ m * (ie.bytes : Int) ≤ 140737488355328 ∧ m ≤ 140737488355328 then
          some { v := one1 (.ref () nid 0 n.toNat), news := [⟨(), ie.size, List.replicate n.toNat (ie.zero.map zL)⟩] } else none else none
      | _, _ => none
    | _ => none
theorem made_get {z : Array Value} {k j : Nat} (hz : 0 < z.size) (hj : j < k) : (madeCells z k)[j]? = z[j % z.size]? := by
  have h1 : j % z.size < z.size := Nat.mod_lt _ hz
  simp only [madeCells, Array.getElem?_map, Array.getElem?_range, hj, if_true, Option.map_some]
  rw [Array.getElem!_eq_getD, Array.getD_eq_getD_getElem?, Array.getElem?_eq_getElem h1]
  rfl
theorem flat_rep {α : Type} {n : Nat} {r : List α} (hr : r.length = n) (hn : 0 < n) : ∀ (k j : Nat) x, ((List.replicate k r).flatten)[j]? = some x → j < k * n ∧ r[j % n]? = some x
  | 0, j, x, h => by simp at h
  | k + 1, j, x, h => by
    rw [List.replicate_succ, List.flatten_cons] at h
    by_cases hj : j < n
    · rw [List.getElem?_append_left (by omega)] at h
      refine ⟨?_, by rwa [Nat.mod_eq_of_lt hj]⟩
      rw [Nat.add_mul]; omega
    · rw [List.getElem?_append_right (by omega), hr] at h
      obtain ⟨h1, h2⟩ := flat_rep hr hn k _ _ h
      refine ⟨by rw [Nat.add_mul]; omega, ?_⟩
      rw [← h2]
      congr 1
      have : j = (j - n) + n := by omega
      conv => lhs; rw [this]
      rw [Nat.add_mod_right]
theorem mk_ok {P : Program} {B : Bd} {o : Oper} {a : Act} {W : World} {d : S Value} {nid : Nat} {e : Eff} (hi : Inv B W d) (hs : SlR d a) (hf : Fresh B d nid e.news.length) {t : TypeId} {x y : Operand} (ho : o.op = .makeSlice t x y)
    (he : mkF P t (lO (evA (erS d) x)) (lO (evA (erS d) y)) nid = some e) : Done P B o a W d nid e := by
  unfold mkF at he
  obtain ⟨i, ht, he⟩ := bind_some he
  obtain ⟨info, td, _, hinf, hu, _, _, hkd, _, _, _, _, hel, _⟩ := tiOf_spec ht
  split at he
  · rename_i hk
    have hd := kdD_slice (hkd.symm.trans hk)
    obtain ⟨ie, hie, he⟩ := bind_some he
    obtain ⟨info2, _, z, hinf2, _, hz, hzs, _, _, hsz2, hby2, _⟩ := tiOf_spec hie
    rw [hel] at hinf2
    rw [hd] at hu
    split at he
    · rename_i k n k' m hx hy
      split at he
      · rename_i hzl
        split at he
        · rename_i hb
          cases he
          obtain ⟨l', h1, h2, h3⟩ := leaf_ok hi.good hs hx
          obtain rfl := er_int h1
          obtain ⟨y', g1, g2, g3⟩ := leaf_ok hi.good hs hy
          obtain rfl := er_int g1
          have hzc : z.cells.size = ie.size := by
            have := congrArg List.length hzs
            simp only [List.length_map, Array.length_toList] at this
            omega
          have hrun := run_make (P := P) W t (elemD td) info2 z hu hinf2 hz k k' n m hb.1 hb.2.1 (by rw [← hby2, Int.mul_comm]; omega) (by omega)
          rw [← hsz2] at hrun
          have hlen : (ie.zero.map (zL (δ := Value))).length = ie.size := by simp [hzl.1]
          have hnew := new_block (W' := W.alloc (.cells (madeCells z.cells (m.toNat * ie.size)) (elemD td))) hi hf [] (cells := madeCells z.cells (m.toNat * ie.size)) (ty := elemD td) rfl ⟨rfl, rfl, rfl⟩ (n := ie.size) (c := m.toNat)
            (rows := List.replicate n.toNat (ie.zero.map zL)) (fun r hr => by rw [List.eq_of_mem_replicate hr]; exact hlen)
            (fun r hr l hl => by
              rw [List.eq_of_mem_replicate hr] at hl
              obtain ⟨z, _, rfl⟩ := List.mem_map.1 hl
              exact has_zL z) (by simp; omega) (by simp [LIM]; omega) (by rw [size_madeCells]; exact Nat.le_refl _) (fun j v hj => by
              simp only [valR, List.getElem?_map, Option.map_eq_some_iff] at hj
              obtain ⟨l, hl, rfl⟩ := hj
              obtain ⟨h1, h2⟩ := flat_rep hlen hzl.2 _ _ _ hl
              have hm : n.toNat * ie.size ≤ m.toNat * ie.size := Nat.mul_le_mul_right _ (by omega)
              rw [made_get (by omega) (by omega), hzc]
              rw [List.getElem?_map, Option.map_eq_some_iff] at h2
              obtain ⟨q, hq, rfl⟩ := h2
              rw [val_zL]
              have := congrArg (fun l : List Value => l[j % ie.size]?) hzs
              simp only [List.getElem?_map, hq, Option.map_some, Array.getElem?_toList] at this
              exact this.symm)
          have := done_new (P := P) (o := o) (a := a) (rd := []) (hyp := True) hs hf hnew (l := .ref (.slice (some ⟨W.heap.size, 0, none⟩) (List.replicate n.toNat (ie.zero.map (zL (δ := Value)))).length m.toNat) nid 0 (List.replicate n.toNat (ie.zero.map (zL (δ := Value)))).length) rfl ⟨rfl, _, _, _, rfl⟩ (ref_ok hf) rfl rfl (by
            simp only [execOp, ho, h2, g2, val, List.length_replicate]
            rw [Sem.run_bind, hrun]
            rfl) trivial
          simpa [rowsE, er_zL, Function.comp_def, mapL] using this
        · cases he
      · cases he
    · cases he
  · cases he
end Go.Proofs.Ytmckcjoacfekcaa.AM
