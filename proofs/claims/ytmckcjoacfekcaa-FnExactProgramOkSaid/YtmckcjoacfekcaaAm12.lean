import Derived.Test.YtmckcjoacfekcaaAm11
/-! The calculus, twelfth part: append, and slices that are cut. -/
namespace Go.Proofs.Ytmckcjoacfekcaa.AM
open Go

theorem run_append' {P : Program} {W : World} {t t2 ty e e2 : TypeId} {i : TypeInfo} {z : Value} (ht : P.underlying t = some (.slice e)) (ht2 : P.underlying t2 = some (.slice e2)) (hi : P.info? e = some i) (hz : i.zero = some z)
    {n cap m : Nat} {base : Option Addr} {x : Value} {olds news : List Value} (hb : base = none → n = 0 ∧ cap = 0) (hba : ∀ a, base = some a → a.spot = none ∧ ∃ arr ty, W.heap[a.block]? = some (.cells arr ty (0, 0)) ∧ a.off + cap * i.size ≤ arr.size)
    (hlen : ∀ w : World, (Builtin.lenOf x).run P w = .ok m w) (hnew : ∀ w : World, w.heap = W.heap → (Builtin.firstCells i.size m x).run P w = .ok news.toArray w)
    (hold : ∀ w : World, w.heap = W.heap → (Builtin.firstCells i.size n (.slice base n cap)).run P w = .ok olds.toArray w) (ho : olds.length = n * i.size) (hl : news.length = m * i.size)
    (h1 : ∀ v ∈ news, v.oneCell' = true) (hbytes : (n + m) * i.bytes ≤ 140737488355328) (h63 : n + m ≤ 140737488355328) :
    ∃ v' W', (Builtin.append_ #[t, t2] ty #[.slice base n cap, x]).run P W = .ok v' W' ∧
      ((base = none ∧ n + m = 0 ∧ v' = .slice none 0 0 ∧ W' = W) ∨
       (∃ g o arr ty, base = some ⟨g, o, none⟩ ∧ W.heap[g]? = some (.cells arr ty (0, 0)) ∧ n + m ≤ cap ∧ v' = .slice (some ⟨g, o, none⟩) (n + m) cap ∧ W' = W.setRow g (putC arr.toList (o + n * i.size) news).toArray) ∨
       ∃ c' cells, n + m ≤ c' ∧ v' = .slice (some ⟨W.heap.size, 0, none⟩) (n + m) c' ∧ W'.heap = W.heap.push (.cells cells e) ∧ Same W W' ∧ (z.cells.size = i.size → c' * i.size ≤ cells.size) ∧ ∀ (j : Nat) v, (olds ++ news)[j]? = some v → cells[j]? = some v) := by
  by_cases hroom : n + m ≤ cap
  · cases hbase : base with
    | none =>
      obtain ⟨rfl, rfl⟩ := hb hbase
      have hm : m = 0 := by omega
      subst hm
      refine ⟨.slice none 0 0, W, ?_, .inl ⟨rfl, rfl, rfl, rfl⟩⟩
      simp [Builtin.append_, run_underlying ht, run_underlying ht2, sizeOf, typeInfo, hi, hlen, hnew W rfl]
    | some a =>
      obtain ⟨hsp, arr, ty', hg, hsz⟩ := hba a hbase
      obtain ⟨g, o, s⟩ := a
      simp only at hsp
      subst hsp
      simp only at hg hsz
      have hfit : o + n * i.size + news.length ≤ arr.size := by
        have : (n + m) * i.size ≤ cap * i.size := Nat.mul_le_mul_right _ hroom
        rw [Nat.add_mul] at this
        omega
      have hst := run_storeCells_at P g (o + n * i.size) ty' news 0 arr W hg (by simpa using hfit) h1
      simp only [Nat.add_zero] at hst
      refine ⟨_, _, ?_, .inr (.inl ⟨g, o, arr, ty', rfl, hg, hroom, rfl, rfl⟩)⟩
      simp [Builtin.append_, run_underlying ht, run_underlying ht2, sizeOf, typeInfo, hi, hlen, hroom, hnew W rfl, addr_add, hst, putC]
  · have h63' : ¬ (9223372036854775807 < ((n : Int) + (m : Int))) := by omega
    have hfits := growslice_fits (need := n + m) (old := cap) (bytes := i.bytes) (by omega) hbytes
    have h48' : ¬ (281474976710656 < Builtin.nextslicecap (n + m) cap * i.bytes) := by omega
    have hge := grownCap_ge W (n + m) cap e
    refine ⟨.slice (some ⟨W.heap.size, 0, none⟩) (n + m) (grownCap W (n + m) cap e),
      W.drew.alloc (.cells (olds.toArray ++ news.toArray ++ Builtin.zeroCells z.cells (grownCap W (n + m) cap e - (n + m))) e), ?_, .inr (.inr ⟨_, _, hge, rfl, rfl, ⟨rfl, rfl, rfl⟩, fun hzs => ?_, fun j v hj => ?_⟩)⟩
    · have hf := hnew W.drew rfl
      have hfo := hold W.drew rfl
      simp [Builtin.append_, run_underlying ht, run_underlying ht2, sizeOf, typeInfo, zeroValue, hi, hz, hlen, hroom, h63', h48', Question.forced, hf, hfo, newRow, grownCap]
      congr 2
      apply Array.ext'
      simp [List.append_assoc]
    · simp only [Array.size_append, List.size_toArray, size_zeroCells, hzs, ho, hl]
      rw [← Nat.add_mul, ← Nat.add_mul]
      exact Nat.mul_le_mul_right _ (by omega)
    · rw [Array.getElem?_append_left (by
        have := (List.getElem?_eq_some_iff.1 hj).1
        simpa using this)]
      have : (olds.toArray ++ news.toArray) = (olds ++ news).toArray := by simp
      rw [this, List.getElem?_toArray]
      exact hj

-- rows out of an argument
def nosR {δ : Type} (rows : List (List (L δ))) : Bool := rows.all (fun r => r.all noOs)
theorem nosR_iff {δ : Type} {rows : List (List (L δ))} : nosR rows = true ↔ ∀ r ∈ rows, ∀ l ∈ r, noOs l = true := by simp [nosR, List.all_eq_true]
theorem nosR_er (rows : List (List (L Value))) : nosR (rowsE rows) = nosR rows := by
  simp [nosR, rowsE, List.all_map, Function.comp_def, noOs_er]
def argR {δ : Type} (lk : Nat → Option (Ob δ)) (n : Nat) : Option (L δ) → Option (List (List (L δ)) × List Nat)
  | some .nl => some ([], [])
  | some (.bs _ m rows) => if m = n then some (rows, []) else none
  | some (.ref _ id off len) => (lk id).bind fun o => if o.n = n then some ((o.rows.drop off).take len, [id]) else none
  | _ => none
theorem cells_of_sub {W : World} {a : Addr} {rows : List Value} (h : ImmFact W (a, rows)) (hs : ∀ j, a.add j = ⟨a.block, a.off + j, none⟩) : (loadCells a rows.length).run (default : Program) W = .ok rows.toArray W :=
  run_loadCells_list W a rows (fun j v hj => by rw [hs]; exact h j v hj)
theorem drop_take_valR {n : Nat} {rows : List (List (L Value))} (hl : ∀ r ∈ rows, r.length = n) (off len j : Nat) {v : Value} (h : (valR ((rows.drop off).take len))[j]? = some v) : (valR rows)[off * n + j]? = some v := by
  have h1 : valR rows = valR (rows.take off) ++ (valR ((rows.drop off).take len) ++ valR ((rows.drop off).drop len)) := by
    simp only [valR, ← List.map_append, ← List.flatten_append, List.take_append_drop]
  have h2 : (valR (rows.take off)).length = (rows.take off).length * n := valR_len fun r hr => hl r (List.mem_of_mem_take hr)
  have hlt := (List.getElem?_eq_some_iff.1 h).1
  by_cases hoff : off ≤ rows.length
  · rw [List.length_take, Nat.min_eq_left hoff] at h2
    rw [h1, List.getElem?_append_right (by omega), h2, List.getElem?_append_left (by omega)]
    rw [← h]
    congr 1
    omega
  · rw [List.drop_eq_nil_of_le (by omega)] at hlt
    simp [valR] at hlt
/-- An argument of append at the machine: how long it is, what it holds. -/
theorem arg_ok {P : Program} {W : World} {d : S Value} (hg : Good W d) {l : L Value} (hh : Has d l) {n : Nat} {p : List (List (L Unit)) × List Nat} (h : argR (look (erS d).ob) n (some (erL l)) = some p) :
    ∃ rows, rowsE rows = p.1 ∧ (∀ r ∈ rows, r.length = n) ∧ (∀ r ∈ rows, ∀ l ∈ r, Has d l) ∧ rows.length ≤ LIM ∧ ∃ a c, val l = .slice a rows.length c ∧ (∀ b y, a = some ⟨b, y, none⟩ → ∀ (j : Nat) v, (valR rows)[j]? = some v → W.cell? ⟨b, y + j, none⟩ = some v) ∧ (∀ w : World, (Builtin.lenOf (val l)).run P w = .ok rows.length w) ∧
      ∀ w : World, w.heap = W.heap → (Builtin.firstCells n rows.length (val l)).run P w = .ok (valR rows).toArray w := by
  have load : ∀ (b o : Nat) (rows : List (List (L Value))), (∀ r ∈ rows, r.length = n) → (∀ (j : Nat) v, (valR rows)[j]? = some v → W.cell? ⟨b, o + j, none⟩ = some v) → ∀ w : World, w.heap = W.heap →
      (loadCells ⟨b, o, none⟩ (rows.length * n)).run P w = .ok (valR rows).toArray w := by
    intro b o rows hl hc w hw
    have := run_loadCells_list (P := P) w ⟨b, o, none⟩ (valR rows) (fun j v hj => by
      rw [addr_add]
      have := hc j v hj
      simp only [World.cell?] at this ⊢
      rw [hw]
      exact this)
    rwa [valR_len hl] at this
  cases l with
  | nl =>
    simp only [mapL, argR, Option.some.injEq] at h
    subst h
    exact ⟨[], rfl, by simp, by simp, by simp [LIM], none, 0, rfl, fun b y h => (by cases h), fun w => rfl, fun w _ => rfl⟩
  | bs v m rows =>
    simp only [mapL, argR] at h
    split at h
    · rename_i hm
      cases h
      subst hm
      obtain ⟨⟨a, c, hv, hlen, hlim, ha⟩, hl, hw⟩ := hh.1
      have hleaf : ∀ r ∈ rows, ∀ l ∈ r, Has d l := fun r hr l hlr => by
        rw [wfR_iff] at hw
        refine has_nested (hw r hr l hlr) fun p hp => hh.2.2.1 p ?_
        simp only [immL, List.mem_append]
        exact .inr (mem_immR hr hlr hp)
      have hcell : ∀ b o, a = some ⟨b, o, none⟩ → ∀ (j : Nat) v, (valR rows)[j]? = some v → W.cell? ⟨b, o + j, none⟩ = some v := fun b o hbo j u hj => by
        rcases hh.2.2.1 (⟨b, o, none⟩, valR rows) (by simp [immL, hv, hbo, hdrImm]) with h0 | ⟨q, hq, hs⟩
        · simp only at h0
          rw [h0] at hj
          simp at hj
        · have hne' : valR rows ≠ [] := by rintro h0; rw [h0] at hj; simp at hj
          exact (hs.fact (hg.imm q hq (hs.ne hne')).1) j u hj
      refine ⟨rows, by simp [rowsE, mapR_eq], hl, hleaf, hlim, a, c, hv, hcell, fun w => by rw [val, hv]; rfl, fun w hw' => ?_⟩
      by_cases hne : rows = []
      · subst hne
        rw [val, hv]
        cases a with
        | none => rfl
        | some a => simp [Builtin.firstCells, loadCells, loadCellsFrom, valR]
      · obtain ⟨b, o, rfl⟩ := ha hne
        rw [val, hv]
        simp only [Builtin.firstCells]
        exact load b o rows hl (hcell b o rfl) w hw'
    · cases h
  | ref v id off len =>
    simp only [mapL, argR] at h
    obtain ⟨ob, hob, h⟩ := bind_some h
    split at h
    · rename_i hn
      cases h
      obtain ⟨ob', ho', rfl⟩ := look_lift hob
      have hn' : ob'.n = n := hn
      subst hn'
      obtain ⟨hlen, hv⟩ := hh.2.1 ob' ho'
      have hobs : _ ∧ ∀ r ∈ ob'.rows, r.length = ob'.n := hg.obs _ (find?_key ho')
      have hsub : ∀ r ∈ (ob'.rows.drop off).take len, r ∈ ob'.rows := fun r hr => List.mem_of_mem_drop (List.mem_of_mem_take hr)
      have hlr : ((ob'.rows.drop off).take len).length = len := by rw [List.length_take, List.length_drop]; omega
      have hlim : len ≤ LIM := by
        rcases hobs.1 with ⟨_, h0⟩ | ⟨_, _, _, _, _, h0⟩
        · simp only at h0; rw [h0] at hlen; simp at hlen; omega
        · simp only at h0; omega
      refine ⟨(ob'.rows.drop off).take len, by simp [rowsE, erOb, mapOb, List.map_take, List.map_drop], fun r hr => hobs.2 r (hsub r hr), fun r hr l hl => has_ob hg ho' (hsub r hr) hl, by omega, ?_⟩
      rw [hlr]
      rcases hv with ⟨h0, hv⟩ | ⟨b, x, c0, h0, hv⟩
      · have hr0 : ob'.rows = [] := by
          rcases hobs.1 with ⟨_, h1⟩ | ⟨_, _, _, h1, _⟩
          · exact h1
          · simp only at h1; rw [h0] at h1; cases h1
        rw [hr0] at hlen
        simp at hlen
        obtain ⟨rfl, rfl⟩ := hlen
        exact ⟨none, 0, by rw [val, hv], fun b y h => (by cases h), fun w => by rw [val, hv]; rfl, fun w _ => by rw [val, hv]; simp [Builtin.firstCells, valR]⟩
      · rcases hv with hv | ⟨y, hv, rfl, _⟩
        · have hcell : ∀ (j : Nat) v, (valR ((ob'.rows.drop off).take len))[j]? = some v → W.cell? ⟨b, x + off * ob'.n + j, none⟩ = some v := fun j v hj => by
            have h2 := drop_take_valR hobs.2 off len j hj
            have hm : (b, x, c0 * ob'.n, valR ob'.rows) ∈ ownS d := by
              simp only [ownS, List.mem_append]
              left
              exact List.mem_flatMap.2 ⟨(id, ob'), find?_key ho', by simp [hdrOwn, h0]⟩
            obtain ⟨arr, ty, h5, _, _, h8⟩ := hg.own _ hm
            have := h8 _ _ h2
            simp only [World.cell?, h5]
            simpa [Nat.add_assoc] using this
          refine ⟨_, _, by rw [val, hv], fun b' y' hby j v hj => by cases hby; exact hcell j v hj, fun w => by rw [val, hv]; rfl, fun w hw' => ?_⟩
          rw [val, hv]
          simp only [Builtin.firstCells]
          have := load b (x + off * ob'.n) ((ob'.rows.drop off).take len) (fun r hr => hobs.2 r (hsub r hr)) hcell w hw'
          rwa [hlr] at this
        · exact ⟨_, _, by rw [val, hv], fun b' y' hby j v hj => by simp [valR] at hj, fun w => by rw [val, hv]; rfl, fun w _ => by rw [val, hv]; simp [Builtin.firstCells, loadCells, loadCellsFrom, valR]⟩
    · cases h
  | _ => simp [mapL, argR] at h

def apF (P : Program) (ts : Array TypeId) (lk : Lk) (s x : Option (L Unit)) (nid : Nat) : Option Eff := match ts[0]?, ts[1]? with
  | some t, some t2 => (tiOf P t).bind fun i => (tiOf P t2).bind fun i2 => match i.kd, i2.kd with
    | .slice, .slice => (tiOf P i.elem).bind fun ie => if ie.zero.length = ie.size then
        (match s with
         | some .nl => (argR lk ie.size x).bind fun q => if nosR q.1 then if q.1.length * ie.bytes ≤ 140737488355328 ∧ q.1.length ≤ LIM then
             some { v := one1 (.ref () nid 0 q.1.length), rd := q.2, news := [⟨(), ie.size, q.1⟩] } else none else none
         | some (.ref v id off len) => (argR lk ie.size (some (.ref v id off len))).bind fun p => (argR lk ie.size x).bind fun q => if nosR p.1 && nosR q.1 then
             if (p.1.length + q.1.length) * ie.bytes ≤ 140737488355328 ∧ p.1.length + q.1.length ≤ LIM then
             some { v := one1 (.ref () nid 0 (p.1.length + q.1.length)), rd := id :: q.2, news := [⟨(), ie.size, p.1 ++ q.1⟩], del := [id] } else none else none
         | _ => none) else none
    | _, _ => none
  | _, _ => none
theorem rowsE_append (a b : List (List (L Value))) : rowsE (a ++ b) = rowsE a ++ rowsE b := by simp [rowsE]
theorem rowsE_len (a : List (List (L Value))) : (rowsE a).length = a.length := by simp [rowsE]
theorem valR_append (a b : List (List (L Value))) : valR (a ++ b) = valR a ++ valR b := by simp [valR]
theorem argR_some {δ : Type} {lk : Nat → Option (Ob δ)} {n : Nat} {x : Option (L δ)} {q} (h : argR lk n x = some q) : ∃ l, x = some l := by
  cases x with
  | none => cases h
  | some l => exact ⟨l, rfl⟩
/-- A new object of two rows of rows, whatever append did. -/
theorem ap_new {P : Program} {B : Bd} {o : Oper} {a : Act} {W : World} {d : S Value} {nid : Nat} (hi : Inv B W d) (hs : SlR d a) (hf : Fresh B d nid 1) {s x : Operand} {t t2 : TypeId} {ts : Array TypeId}
    (ho : o.op = .call { callee := .builtin .append, args := #[s, x], argTypes := ts }) (hts : ts[0]? = some t) (hts2 : ts[1]? = some t2)
    {i i2 ie : TI} (ht : tiOf P t = some i) (ht2 : tiOf P t2 = some i2) (hk : i.kd = .slice) (hk2 : i2.kd = .slice) (hie : tiOf P i.elem = some ie) (hz : ie.zero.length = ie.size)
    {dl : List Nat} {n cap : Nat} {base : Option Addr} (hv : a.eval s = .slice base n cap) (hbase : (base = none ∧ n = 0 ∧ cap = 0) ∨
      ∃ b y, base = some ⟨b, y, none⟩ ∧ (∃ arr ty, W.heap[b]? = some (.cells arr ty (0, 0)) ∧ y + cap * ie.size ≤ arr.size) ∧ n ≤ cap ∧ ∃ p ∈ d.ob, (!dl.contains p.1) = false ∧ ∃ q ∈ hdrOwn p.2.h p.2.n p.2.rows, q.1 = b)
    {R1 R2 : List (List (L Value))} (hn : R1.length = n) (hl1 : ∀ r ∈ R1, r.length = ie.size) (hl2 : ∀ r ∈ R2, r.length = ie.size) (hh1 : ∀ r ∈ R1, ∀ l ∈ r, Has d l ∧ noOs l = true) (hh2 : ∀ r ∈ R2, ∀ l ∈ r, Has d l ∧ noOs l = true)
    (hold : ∀ w : World, w.heap = W.heap → (Builtin.firstCells ie.size n (.slice base n cap)).run P w = .ok (valR R1).toArray w)
    (hlen : ∀ w : World, (Builtin.lenOf (a.eval x)).run P w = .ok R2.length w) (hnew : ∀ w : World, w.heap = W.heap → (Builtin.firstCells ie.size R2.length (a.eval x)).run P w = .ok (valR R2).toArray w)
    (hcells : ∀ b y, base = some ⟨b, y, none⟩ → ∀ (j : Nat) v, (valR R1)[j]? = some v → W.cell? ⟨b, y + j, none⟩ = some v)
    (hb : (R1.length + R2.length) * ie.bytes ≤ 140737488355328 ∧ R1.length + R2.length ≤ LIM) {rd : List Nat} :
    Done P B o a W d nid { v := one1 (.ref () nid 0 (R1.length + R2.length)), rd := rd, news := [⟨(), ie.size, rowsE (R1 ++ R2)⟩], del := dl } := by
  obtain ⟨info, td, _, hinf, hu, _, _, hkd, _, _, _, _, hel, _⟩ := tiOf_spec ht
  have hd := kdD_slice (hkd.symm.trans hk)
  obtain ⟨_, td2, _, _, hu2, _, _, hkd2, _⟩ := tiOf_spec ht2
  have hd2 := kdD_slice (hkd2.symm.trans hk2)
  obtain ⟨info2, _, z, hinf2, _, hz2, hzs, _, _, hsz2, hby2, _⟩ := tiOf_spec hie
  rw [hel] at hinf2
  rw [hd] at hu
  rw [hd2] at hu2
  have hzc : z.cells.size = info2.size := by
    have := congrArg List.length hzs
    simp only [List.length_map, Array.length_toList] at this
    omega
  subst hn
  rw [hsz2] at hold hnew
  have hlv1 := valR_len hl1
  have hlv2 := valR_len hl2
  obtain ⟨v', W', hrun, hres⟩ := run_append' (P := P) (W := W) (ty := o.type) (base := base) (cap := cap) (x := a.eval x) hu hu2 hinf2 hz2 (fun h => by
      rcases hbase with ⟨_, h1, h2⟩ | ⟨b, y, h1, _⟩
      · exact ⟨h1, h2⟩
      · rw [h] at h1; cases h1) (fun ad had => by
      rcases hbase with ⟨h1, _⟩ | ⟨b, y, h1, ⟨arr, ty, h2, h3⟩, _⟩
      · rw [h1] at had; cases had
      · rw [h1] at had; cases had
        exact ⟨rfl, arr, ty, h2, by rw [← hsz2]; exact h3⟩) hlen hnew hold (by rw [hlv1, hsz2]) (by rw [hlv2, hsz2])
    (fun v hv => by
      simp only [valR, List.mem_map] at hv
      obtain ⟨l, hl, rfl⟩ := hv
      obtain ⟨r, hr, hl⟩ := List.mem_flatten.1 hl
      exact (one_val (hh2 r hr l hl).1.1).1) (by rw [← hby2]; exact hb.1) hb.2
  have hexec : (execOp a.eval o).run P W = .ok (.value v') W' := by
    simp only [execOp, ho, resolve, invoke, builtin]
    have hts' : Builtin.append_ ts o.type #[a.eval s, a.eval x] = Builtin.append_ #[t, t2] o.type #[a.eval s, a.eval x] := by
      simp [Builtin.append_, hts, hts2]
    rw [hv] at hts'
    simp only [List.map_toArray, List.map_cons, List.map_nil, hv, pure_bind]
    rw [hts']
    simp [hrun]
  have hrow : ∀ r ∈ R1 ++ R2, r.length = ie.size := fun r hr => (List.mem_append.1 hr).elim (hl1 r) (hl2 r)
  have hh : ∀ r ∈ R1 ++ R2, ∀ l ∈ r, Has d l ∧ noOs l = true := fun r hr => (List.mem_append.1 hr).elim (hh1 r) (hh2 r)
  rcases hres with ⟨rfl, h0, rfl, rfl⟩ | ⟨g, y, arr, ty, rfl, hg, hroom, rfl, rfl⟩ | ⟨c', cells, hc', rfl, hW', hst', hsz, hcell⟩
  · have hr1 : R1 = [] := List.eq_nil_of_length_eq_zero (by omega)
    have hr2 : R2 = [] := List.eq_nil_of_length_eq_zero (by omega)
    subst hr1 hr2
    have hnew := hi.new (W' := W') (fun i => !dl.contains i) hf.ne hf.2 (hd := .slice none 0 0) (n := ie.size) (rows := []) (by simp) (by simp) (Nat.le_refl _) (Same.refl _) (fun b _ _ => rfl) (.inl ⟨rfl, rfl⟩)
    have := done_new (P := P) (o := o) (rd := rd) (hyp := True) (ob := ⟨.slice none 0 0, ie.size, []⟩) hs hf hnew (l := .ref (.slice none 0 0) nid 0 0) rfl ⟨rfl, _, _, _, rfl⟩ (by
      intro o2 ho2
      rw [look_d1 hf] at ho2
      cases ho2
      exact ⟨by simp, .inl ⟨rfl, rfl⟩⟩) rfl rfl hexec trivial
    simpa [mapL, rowsE] using this
  · rcases hbase with ⟨h1, _⟩ | ⟨b, y', h1, ⟨arr', ty', h2, hcap⟩, hncap, hdel⟩
    · cases h1
    · cases h1
      rw [hg] at h2
      cases h2
      rw [← hsz2] at hexec
      have hle : (R1.length + R2.length) * ie.size ≤ cap * ie.size := Nat.mul_le_mul_right _ hroom
      rw [Nat.add_mul] at hle
      have hfit : y + R1.length * ie.size + (valR R2).length ≤ arr.toList.length := by
        have : arr.toList.length = arr.size := Array.length_toList
        omega
      have hnew := hi.new (W' := W.setRow g (putC arr.toList (y + R1.length * ie.size) (valR R2)).toArray) (fun i => !dl.contains i) hf.ne hf.2 (hd := .slice (some ⟨g, y, none⟩) 0 cap) (n := ie.size) (rows := R1 ++ R2) hrow hh
        (by simp) ⟨rfl, rfl, rfl⟩ (fun b' hb' hno => setRow_heap' b' fun he => by
          obtain ⟨p, hp, hpf, q, hq, hqe⟩ := hdel
          exact hno p hp hpf q hq (hqe.trans he.symm)) (.inr ⟨g, y, cap, rfl, by simpa using hroom, by simpa using hb.2, ⟨_, ty, setRow_heap W g arr _ ty (0, 0) hg, ?_, ?_, fun j v hj => ?_⟩, .inr hdel⟩)
      · have := done_new (P := P) (o := o) (rd := rd) (hyp := True) (ob := ⟨.slice (some ⟨g, y, none⟩) 0 cap, ie.size, R1 ++ R2⟩) hs hf hnew (l := .ref (.slice (some ⟨g, y, none⟩) (R1 ++ R2).length cap) nid 0 (R1 ++ R2).length) rfl ⟨rfl, _, _, _, rfl⟩ (ref_ok hf) rfl rfl (by
          rw [List.length_append]
          exact hexec) trivial
        simpa [mapL] using this
      · rw [List.size_toArray, putC_length hfit, Array.length_toList]
        exact hcap
      · simp only [valR_append, List.length_append]
        omega
      · show (putC arr.toList (y + R1.length * ie.size) (valR R2)).toArray[y + j]? = some v
        rw [List.getElem?_toArray, putC_get hfit]
        simp only [valR_append] at hj
        by_cases hin : j < (valR R1).length
        · rw [List.getElem?_append_left hin] at hj
          rw [if_neg (by omega), Array.getElem?_toList]
          have := hcells g y rfl j v hj
          simpa [World.cell?, hg] using this
        · rw [List.getElem?_append_right (by omega)] at hj
          have := (List.getElem?_eq_some_iff.1 hj).1
          rw [if_pos (by omega)]
          rw [← hj]
          congr 1
          omega
  · have hnew := new_block (W' := W') hi hf dl (cells := cells) (ty := elemD td) hW' hst' (n := ie.size) (c := c') (rows := R1 ++ R2) hrow hh (by simpa using hc') (by simpa using hb.2) (by rw [hsz2]; exact hsz hzc)
      (fun j v hj => hcell j v (by rwa [valR_append] at hj))
    have := done_new (P := P) (o := o) (rd := rd) (hyp := True) hs hf hnew (l := .ref (.slice (some ⟨W.heap.size, 0, none⟩) (R1 ++ R2).length c') nid 0 (R1 ++ R2).length) rfl ⟨rfl, _, _, _, rfl⟩ (ref_ok hf) rfl rfl (by
      rw [List.length_append]
      exact hexec) trivial
    simpa [mapL] using this
theorem ap_ok {P : Program} {B : Bd} {o : Oper} {a : Act} {W : World} {d : S Value} {nid : Nat} {e : Eff} (hi : Inv B W d) (hs : SlR d a) (hf : Fresh B d nid e.news.length) {s x : Operand} {ts : Array TypeId}
    (ho : o.op = .call { callee := .builtin .append, args := #[s, x], argTypes := ts }) (he : apF P ts (look (erS d).ob) (lO (evA (erS d) s)) (lO (evA (erS d) x)) nid = some e) : Done P B o a W d nid e := by
  unfold apF at he
  split at he
  · rename_i t t2 hts hts2
    obtain ⟨i, ht, he⟩ := bind_some he
    obtain ⟨i2, ht2, he⟩ := bind_some he
    split at he
    · rename_i hk hk2
      obtain ⟨ie, hie, he⟩ := bind_some he
      split at he
      · rename_i hz
        split at he
        · rename_i hsx
          obtain ⟨q, hq, he⟩ := bind_some he
          split at he
          · rename_i hno
            split at he
            · rename_i hb
              cases he
              obtain ⟨l, hl⟩ := argR_some hq
              rw [hl] at hq
              obtain ⟨x', g1, g2, g3⟩ := leaf_ok hi.good hs hl
              subst g1
              obtain ⟨l', h1, h2, h3⟩ := leaf_ok hi.good hs hsx
              obtain rfl := er_nl h1
              obtain ⟨R2, k1, k2, k3, k4, _, _, k5, _, k6, k7⟩ := arg_ok (P := P) hi.good g3 hq
              rw [← k1, nosR_er, nosR_iff] at hno
              rw [← k1, rowsE_len] at hb
              have := ap_new (P := P) (B := B) (o := o) (a := a) (rd := q.2) (dl := []) hi hs hf ho hts hts2 ht ht2 hk hk2 hie hz (base := none) (n := 0) (cap := 0) h2 (.inl ⟨rfl, rfl, rfl⟩) (R1 := []) (R2 := R2) rfl (by simp) k2 (by simp)
                (fun r hr l hl => ⟨k3 r hr l hl, hno r hr l hl⟩) (fun w _ => by simp [Builtin.firstCells, valR]) (fun w => by rw [g2]; exact k6 w) (fun w hw => by rw [g2]; exact k7 w hw) (by simp) (by simpa using hb)
              rw [← k1, rowsE_len]
              simpa using this
            · cases he
          · cases he
        · rename_i v id off len hsx
          obtain ⟨p, hp, he⟩ := bind_some he
          obtain ⟨q, hq, he⟩ := bind_some he
          split at he
          · rename_i hno
            split at he
            · rename_i hb
              cases he
              obtain ⟨l, hl⟩ := argR_some hq
              rw [hl] at hq
              obtain ⟨x', g1, g2, g3⟩ := leaf_ok hi.good hs hl
              subst g1
              obtain ⟨l', h1, h2, h3⟩ := leaf_ok hi.good hs hsx
              rw [← h1] at hp
              obtain ⟨v', rfl⟩ := er_ref h1
              obtain ⟨R2, k1, k2, k3, k4, _, _, k5, _, k6, k7⟩ := arg_ok (P := P) hi.good g3 hq
              obtain ⟨R1, j1, j2, j3, j4, a0, c0', j5, hcells, j6, j7⟩ := arg_ok (P := P) hi.good h3 hp
              rw [Bool.and_eq_true, ← j1, ← k1, nosR_er, nosR_er, nosR_iff, nosR_iff] at hno
              rw [← k1, ← j1, rowsE_len, rowsE_len] at hb
              simp only [mapL, argR] at hp
              obtain ⟨ob, hob, hp⟩ := bind_some hp
              obtain ⟨ob', ho', rfl⟩ := look_lift hob
              obtain ⟨hlen, hv⟩ := h3.2.1 ob' ho'
              have hobs : _ ∧ ∀ r ∈ ob'.rows, r.length = ob'.n := hi.good.obs _ (find?_key ho')
              have hn : ob'.n = ie.size := by
                split at hp
                · rename_i hn; exact hn
                · cases hp
              have hlr : R1.length = len := by
                rw [if_pos (show (erOb ob').n = ie.size from hn)] at hp
                cases hp
                have := congrArg List.length j1
                rw [rowsE_len] at this
                simp only [List.length_take, List.length_drop, erOb, mapOb, List.length_map] at this
                omega
              have hbase : (a0 = none ∧ R1.length = 0 ∧ c0' = 0) ∨ ∃ b y, a0 = some ⟨b, y, none⟩ ∧ (∃ arr ty, W.heap[b]? = some (.cells arr ty (0, 0)) ∧ y + c0' * ie.size ≤ arr.size) ∧ R1.length ≤ c0' ∧
                  ∃ p ∈ d.ob, (![id].contains p.1) = false ∧ ∃ q ∈ hdrOwn p.2.h p.2.n p.2.rows, q.1 = b := by
                simp only [val] at j5
                rcases hv with ⟨h0, hv⟩ | ⟨b, x, c0, h0, hv⟩
                · rw [hv] at j5
                  simp only [Value.slice.injEq] at j5
                  exact .inl ⟨j5.1.symm, j5.2.1.symm, j5.2.2.symm⟩
                · have hown : (b, x, c0 * ob'.n, valR ob'.rows) ∈ ownS d := by
                    simp only [ownS, List.mem_append]
                    left
                    exact List.mem_flatMap.2 ⟨(id, ob'), find?_key ho', by simp [hdrOwn, h0]⟩
                  obtain ⟨arr, ty, h5, h6, _⟩ := hi.good.own _ hown
                  simp only at h5 h6
                  have hle0 : ob'.rows.length ≤ c0 := by
                    rcases hobs.1 with ⟨h7, _⟩ | ⟨_, _, _, h7, h8, _⟩
                    · simp only at h7; rw [h0] at h7; cases h7
                    · simp only at h7 h8
                      rw [h0] at h7
                      cases h7
                      exact h8
                  have hdel : ∃ p ∈ d.ob, (![id].contains p.1) = false ∧ ∃ q ∈ hdrOwn p.2.h p.2.n p.2.rows, q.1 = b := ⟨(id, ob'), find?_key ho', by simp, _, by rw [show (id, ob').2.h = ob'.h from rfl, h0]; exact List.mem_singleton.2 rfl, rfl⟩
                  rcases hv with hv | ⟨y, hv, hl0, hoff, hy⟩
                  · rw [hv] at j5
                    cases j5
                    right
                    refine ⟨b, _, rfl, ⟨arr, ty, h5, ?_⟩, by omega, hdel⟩
                    rw [hn] at h6 ⊢
                    have : (off + (c0 - off)) * ie.size = c0 * ie.size := by congr 1; omega
                    rw [Nat.add_mul] at this
                    omega
                  · rw [hv] at j5
                    simp only [Value.slice.injEq] at j5
                    obtain ⟨rfl, j52, rfl⟩ := j5
                    right
                    exact ⟨b, y, rfl, ⟨arr, ty, h5, by omega⟩, by omega, hdel⟩
              have := ap_new (P := P) (B := B) (o := o) (a := a) (rd := id :: q.2) (dl := [id]) hi hs hf ho hts hts2 ht ht2 hk hk2 hie hz (base := a0) (n := R1.length) (cap := c0') (by rw [h2, j5]) hbase (R1 := R1) (R2 := R2) rfl j2 k2
                (fun r hr l hl => ⟨j3 r hr l hl, hno.1 r hr l hl⟩) (fun r hr l hl => ⟨k3 r hr l hl, hno.2 r hr l hl⟩) (fun w hw => by rw [← j5]; exact j7 w hw) (fun w => by rw [g2]; exact k6 w) (fun w hw => by rw [g2]; exact k7 w hw) hcells hb
              rw [← j1, ← k1, rowsE_len, rowsE_len, ← rowsE_append]
              exact this
            · cases he
          · cases he
        · cases he
      · cases he
    · cases he
  · cases he
end Go.Proofs.Ytmckcjoacfekcaa.AM
