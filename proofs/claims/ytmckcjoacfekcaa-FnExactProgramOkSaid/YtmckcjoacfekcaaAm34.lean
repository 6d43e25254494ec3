import Derived.Test.YtmckcjoacfekcaaAm33
import Derived.MapKept
/-! The calculus, thirty-fourth part: a map that is written out, and asked. -/
namespace Go.Proofs.Ytmckcjoacfekcaa.AM
open Go Go.MapKept

def mkE : List (Int × List UInt8) → Nat → List MapEntry
  | [], _ => []
  | e :: es, n => ⟨.int .i64 e.1, .string (bts e.2), n⟩ :: mkE es (n + 1)
theorem mkE_append : ∀ (es : List (Int × List UInt8)) (n : Nat) (e : Int × List UInt8), mkE (es ++ [e]) n = mkE es n ++ [⟨.int .i64 e.1, .string (bts e.2), n + es.length⟩]
  | [], n, e => rfl
  | f :: es, n, e => by
    simp only [List.cons_append, mkE, mkE_append es (n + 1) e, List.length_cons]
    rw [show n + 1 + es.length = n + (es.length + 1) by omega]
def lkE (es : List (Int × List UInt8)) (k : Int) : Option (List UInt8) := (es.find? (fun e => e.1 == k)).map (·.2)
theorem findNow_mkE (k : Int) : ∀ (es : List (Int × List UInt8)) (n i : Nat), ∃ a, Instr.findNow (.int .i64) (.int .i64 k) (mkE es n) i = some a ∧ a.map (·.2) = (lkE es k).map fun v => .string (bts v)
  | [], n, i => ⟨none, rfl, rfl⟩
  | e :: es, n, i => by
    obtain ⟨a, h1, h2⟩ := findNow_mkE k es (n + 1) (i + 1)
    simp only [mkE, Instr.findNow, Instr.sameNow, if_true]
    by_cases hk : k = e.1
    · refine ⟨some (i, .string (bts e.2)), ?_, ?_⟩
      · simp [hk]
      · simp [lkE, hk]
    · have hb : (k == e.1) = false := by simpa using hk
      rw [hb]
      refine ⟨a, h1, ?_⟩
      rw [h2]
      have hb2 : (e.1 == k) = false := by simp only [beq_eq_false_iff_ne, ne_eq]; exact fun h => hk h.symm
      simp [lkE, hb2]
section
variable {P : Program}
structure InsOp (T : TypeId) (m : Nat) (o : Oper) (e : Int × List UInt8) : Prop where
  dst : o.dst = none
  guard : o.guard = none
  op : o.op = .insert T (.tmp m) (.const (.int .i64 e.1)) (.const (.string (bts e.2)))
theorem isKey_int (k : Int) : IsKey (.int .i64) (.int .i64 k) := by simp [IsKey]
theorem eval_put_self {a : Act} {t : Nat} {v : Value} (h : t < a.tmps.size) : (a.put (some t) v).eval (.tmp t) = v := by
  simp only [Act.eval, Act.put]
  rw [Array.getD_eq_getD_getElem?, Array.getElem?_setIfInBounds_self_of_lt h]
  rfl
theorem wpl_v {ops : Array Oper} {Q : Exit → Act → World → Prop} {o : Oper} {rest : List Oper} {a : Act} {W W' : World} {t : Nat} {v : Value} (hg : o.guard = none) (hd : o.dst = some t) (hr : (execOp a.eval o).run P W = .ok (.value v) W')
    (h : wpList P ops Q rest (a.put (some t) v) W') : wpList P ops Q (o :: rest) a W := by
  simp only [wpList]
  rw [wanted_none hg, if_pos rfl]
  left
  unfold Oper.wp
  rw [hr]
  simp only [Oper.upon, hd]
  exact h
theorem wpl_s {ops : Array Oper} {Q : Exit → Act → World → Prop} {o : Oper} {rest : List Oper} {a : Act} {W W' : World} (hg : o.guard = none) (hd : o.dst = none) (hr : (execOp a.eval o).run P W = .ok .skip W')
    (h : wpList P ops Q rest a W') : wpList P ops Q (o :: rest) a W := by
  simp only [wpList]
  rw [wanted_none hg, if_pos rfl]
  left
  unfold Oper.wp
  rw [hr]
  simp only [Oper.upon, hd]
  exact h
theorem wp_inserts {T kt vt : TypeId} (hT : P.underlying T = some (.map kt vt)) (hkt : P.underlying kt = some (.int .i64)) {m r : Nat} {ops : Array Oper} {Q : Exit → Act → World → Prop} {rest : List Oper} {a : Act} (hm : a.tmps.getD m undef = .map (some r)) :
    ∀ (todo done : List (Int × List UInt8)) (opl : List Oper) (W : World), All2 (InsOp T m) opl todo → W.heap[r]? = some (.map (mkE done 0).toArray done.length) → ((done ++ todo).map (·.1)).Nodup →
    (∀ W', W'.heap.size = W.heap.size → W'.heap[r]? = some (.map (mkE (done ++ todo) 0).toArray (done ++ todo).length) → (∀ b, b ≠ r → W'.heap[b]? = W.heap[b]?) → Same W W' → wpList P ops Q rest a W') → wpList P ops Q (opl ++ rest) a W
  | [], done, _, W, .nil, hW, _, h => by
    simp only [List.nil_append, List.append_nil] at h ⊢
    exact h W rfl hW (fun _ _ => rfl) (Same.refl W)
  | e :: todo, done, o :: opl, W, .cons ho hall, hW, hnd, h => by
    have hr := (Array.getElem?_eq_some_iff.1 hW).1
    have hno : lkE done e.1 = none := by
      unfold lkE
      rw [Option.map_eq_none_iff, List.find?_eq_none]
      intro x hx
      rw [List.map_append, List.nodup_append] at hnd
      have := hnd.2.2 x.1 (List.mem_map.2 ⟨x, hx, rfl⟩) e.1 (by simp)
      simpa using this
    obtain ⟨fa, f1, f2⟩ := findNow_mkE e.1 done 0 0
    rw [hno] at f2
    obtain rfl : fa = none := by cases fa <;> simp_all
    let W1 : World := { W with heap := W.heap.setIfInBounds r (.map ((mkE done 0).toArray.push ⟨.int .i64 e.1, .string (bts e.2), done.length⟩) (done.length + 1)) }
    have hrun : (execOp a.eval o).run P W = .ok .skip W1 := by
      have hev : a.eval (.tmp m) = .map (some r) := by simpa [Act.eval] using hm
      simp only [execOp, ho.op, hev]
      have hk : ∀ e' : Bool, (Instr.checkKey e' 10000 kt (.int .i64 e.1)).run P W = .ok () W := fun e' => run_checkKey (n := 9999) hkt (isKey_int _) e'
      have hf := run_findKey (P := P) (w := W) (kt := kt) hkt f1
      simp [Instr.mapUpdate, run_underlying hT, MapKept.run_getObj_map hW, hk, hf, MapKept.run_setObj_map _ hW, Act.eval]
      simp [W1]
    have e1 : done ++ e :: todo = (done ++ [e]) ++ todo := by simp
    rw [e1] at hnd h
    rw [List.cons_append]
    refine wpl_s ho.guard ho.dst hrun ?_
    refine wp_inserts hT hkt hm todo (done ++ [e]) opl W1 hall ?_ hnd fun W' h1 h2 h3 h4 => h W' (by rw [h1]; simp [W1]) h2 (fun b hb => ?_) h4
    · have : W1.heap[r]? = some (.map ((mkE done 0).toArray.push ⟨.int .i64 e.1, .string (bts e.2), done.length⟩) (done.length + 1)) := by
        simp [W1, hr]
      rw [this, mkE_append]
      simp
    · rw [h3 b hb]
      simp only [W1, Array.getElem?_setIfInBounds_ne (Ne.symm hb)]
theorem SlR.put_un {d : S Value} {a : Act} (h : SlR d a) {t : Nat} (hu : d.sl[t]? = some .un ∨ d.sl[t]? = none) (x : Value) : SlR d (a.put (some t) x) := by
  refine ⟨by simp [Act.put, h.1], fun j u hj => ?_⟩
  by_cases htj : t = j
  · subst htj
    rcases hu with hu | hu <;> rw [hu] at hj
    · cases hj; trivial
    · cases hj
  · have := h.2 j u hj
    simp only [Act.put]
    rw [Array.getD_eq_getD_getElem?, Array.getElem?_setIfInBounds_ne htj, ← Array.getD_eq_getD_getElem?]
    exact this
variable {B : Bd} {Q : Exit → S Unit → Prop} {N nx : Nat} {asg : Asg} {oa : OAsg}
/-- A map that is written out in a region, and asked once. -/
theorem c_maplit {T kt vt : TypeId} (hT : P.underlying T = some (.map kt vt)) (hkt : P.underlying kt = some (.int .i64)) (hz : ∀ W, (zeroValue vt).run P W = .ok (.string ⟨#[]⟩) W) {id t1 t2 t3 t4 : Nat} {x : Operand} {n : Int} (es : List (Int × List UInt8)) {o0 o1 o2 o3 : Oper} {opl rest : List Oper}
    (h0 : o0.dst = some t1 ∧ o0.guard = none ∧ o0.op = .makeMap T none) (hins : All2 (InsOp T t1) opl es) (hnd : (es.map (·.1)).Nodup) (h1 : o1.dst = some t2 ∧ o1.guard = none ∧ o1.op = .move (.tmp t1)) (h2 : o2.dst = some t3 ∧ o2.guard = none ∧ o2.op = .move x)
    (h3 : o3.dst = some t4 ∧ o3.guard = none ∧ o3.op = .lookup T (.tmp t2) (.tmp t3) true) (hx : ev N asg x = some (.u (.one (.int .i64 n)))) (hxt : x ≠ .tmp t1 ∧ x ≠ .tmp t2) (ht : lkp asg t1 = none ∧ lkp asg t2 = none ∧ lkp asg t3 = none) (hN : t1 < N ∧ t2 < N ∧ t3 < N ∧ t4 < N) (hne : t2 ≠ t3)
    (h : awpOps (sysA P) (o0 :: opl ++ o1 :: o2 :: o3 :: rest) rest (St N ((t4, .tup [.one (.str (bts ((lkE es n).getD []))), .one (.bool (lkE es n).isSome)]) :: asg) oa nx) (Q .normal)) :
    Wp (P := P) B (.region id (o0 :: opl ++ o1 :: o2 :: o3 :: rest).toArray false) Q (St N asg oa nx) := by
  intro a W hr
  refine wp_region_list ?_
  simp only [List.cons_append]
  -- the map is made
  obtain ⟨d, hd, hi, hs, hdef, hk, hn⟩ := hr
  have hun : ∀ t, t < N → lkp asg t = none → d.sl[t]? = some .un ∨ d.sl[t]? = none := fun t htN hl => by
    have e1 : (d.sl.map erV)[t]? = some .un := by
      have : d.sl.map erV = slotsOf N asg := congrArg S.sl hd
      rw [this, slots_get htN, slotV, hl]; rfl
    rw [List.getElem?_map, Option.map_eq_some_iff] at e1
    obtain ⟨v, hv, he⟩ := e1
    left
    rw [hv]
    cases v <;> simp [mapV] at he
    rfl
  have hsz : a.tmps.size = N := by
    rw [hs.1]
    have : d.sl.map erV = slotsOf N asg := congrArg S.sl hd
    have := congrArg List.length this
    simpa [slotsOf] using this
  let r := W.heap.size
  let a1 := a.put (some t1) (.map (some r))
  have hm1 : a1.tmps.getD t1 undef = .map (some r) := by
    simp only [a1, Act.put]
    rw [Array.getD_eq_getD_getElem?, Array.getElem?_setIfInBounds_self_of_lt (by rw [hsz]; exact hN.1)]
    rfl
  have hrun0 : (execOp a.eval o0).run P W = .ok (.value (.map (some r))) (W.alloc (.map #[] 0)) := by
    simp [execOp, h0.2.2, Instr.makeMap]
    rfl
  refine wpl_v h0.2.1 h0.1 hrun0 ?_
  refine wp_inserts hT hkt hm1 es [] opl _ hins (by show (W.heap.push _)[r]? = _; simp [r, mkE]) (by simpa using hnd) fun W' w1 w2 w3 w4 => ?_
  simp only [List.nil_append] at w2
  have hk' : Keeps W W' := by
    have hs' : W'.heap.size = W.heap.size + 1 := by rw [w1]; show (W.heap.push _).size = _; simp
    refine ⟨by omega, fun b hb => ?_, w4⟩
    rw [w3 b (by simp only [r]; omega)]
    show (W.heap.push _)[b]? = _
    rw [Array.getElem?_push_lt hb, Array.getElem?_eq_getElem hb]
  -- it is moved, and the key
  let a2 := a1.put (some t2) (.map (some r))
  obtain ⟨v0, hv0, hvr⟩ : ∃ l', erL l' = .int .i64 n ∧ a.eval x = val l' := by
    obtain ⟨l', e1, e2, _⟩ := leaf_ok hi.good hs (l := .int .i64 n) (x := x) (by rw [hd]; exact lO_ev hx)
    exact ⟨l', e1, e2⟩
  obtain rfl := er_int hv0
  have hx2 : a2.eval x = .int .i64 n := by
    have e1 : a2.eval x = a1.eval x := Act.eval_put fun d hd => by cases hd; exact hxt.2
    have e2 : a1.eval x = a.eval x := Act.eval_put fun d hd => by cases hd; exact hxt.1
    rw [e1, e2, hvr]; rfl
  let a3 := a2.put (some t3) (.int .i64 n)
  have hrun1 : (execOp a1.eval o1).run P W' = .ok (.value (.map (some r))) W' := by
    have : a1.eval (.tmp t1) = .map (some r) := by simpa [Act.eval] using hm1
    simp [execOp, h1.2.2, this]
  refine wpl_v h1.2.1 h1.1 hrun1 ?_
  have hrun2 : (execOp a2.eval o2).run P W' = .ok (.value (.int .i64 n)) W' := by
    simp [execOp, h2.2.2, hx2]
  refine wpl_v h2.2.1 h2.1 hrun2 ?_
  -- it is asked
  have s1 := hs.put_un (hun t1 hN.1 ht.1) (.map (some r))
  have s2 := s1.put_un (hun t2 hN.2.1 ht.2.1) (.map (some r))
  have s3 := s2.put_un (hun t3 hN.2.2.1 ht.2.2) (.int .i64 n)
  have hsz2 : a2.tmps.size = N := by simp [a2, a1, Act.put, hsz]
  have em : a3.eval (.tmp t2) = .map (some r) := by
    have : a3.eval (.tmp t2) = a2.eval (.tmp t2) := Act.eval_put fun d hd => by cases hd; intro he; injection he with he; exact hne he
    rw [this]
    exact eval_put_self (by simp [a1, Act.put, hsz]; exact hN.2.1)
  have ek : a3.eval (.tmp t3) = .int .i64 n := by
    exact eval_put_self (by rw [hsz2]; exact hN.2.2.1)
  obtain ⟨fa, f1, f2⟩ := findNow_mkE n es 0 0
  let u : U Value := .one (.str (bts ((lkE es n).getD [])))
  let w : U Value := .one (.bool (lkE es n).isSome)
  have hrun3 : (execOp a3.eval o3).run P W' = .ok (.value (.tuple #[.string (bts ((lkE es n).getD [])), .bool (lkE es n).isSome])) W' := by
    simp only [execOp, h3.2.2, em, ek]
    have hkk : ∀ e' : Bool, (Instr.checkKey e' 10000 kt (.int .i64 n)).run P W' = .ok () W' := fun e' => run_checkKey (n := 9999) hkt (isKey_int _) e'
    have hf := run_findKey (P := P) (w := W') (kt := kt) hkt f1
    cases hl : lkE es n with
    | none =>
      rw [hl] at f2
      obtain rfl : fa = none := by cases fa <;> simp_all
      simp [Instr.lookup, run_underlying hT, MapKept.run_getObj_map w2, hkk, hf, hz]
      rfl
    | some v =>
      rw [hl] at f2
      obtain ⟨j, rfl⟩ : ∃ j, fa = some (j, .string (bts v)) := by
        cases fa with
        | none => simp at f2
        | some p => obtain ⟨j, q⟩ := p; simp at f2; exact ⟨j, by rw [f2]⟩
      simp [Instr.lookup, run_underlying hT, MapKept.run_getObj_map w2, hkk, hf]
  refine wpl_v h3.2.1 h3.1 hrun3 ?_
  let d' : S Value := setSl d (some t4) (.tup [u, w])
  have hd' : erS d' = St N ((t4, .tup [.one (.str (bts ((lkE es n).getD []))), .one (.bool (lkE es n).isSome)]) :: asg) oa nx := by
    simp only [d', erS_setSl, hd, St_setSl]
    rfl
  have hrel : Rel B (St N ((t4, .tup [.one (.str (bts ((lkE es n).getD []))), .one (.bool (lkE es n).isSome)]) :: asg) oa nx) (a3.put (some t4) (.tuple #[.string (bts ((lkE es n).getD [])), .bool (lkE es n).isSome])) W' := by
    refine ⟨d', hd', hi.put hk' _ rfl (fun l hl => ?_) (fun l hl p hp => ?_), s3.put (some t4) ⟨[.string (bts ((lkE es n).getD [])), .bool (lkE es n).isSome], rfl, rfl, fun i y z hy hz => ?_⟩, ?_, fun i hi => ?_, by rw [setSl_nx]; exact hn⟩
    · simp only [leavesV, u, w, leavesU, List.flatMap_cons, List.flatMap_nil, List.append_nil, List.cons_append, List.nil_append, List.mem_cons, List.not_mem_nil, or_false] at hl
      rcases hl with rfl | rfl <;> simp [wfL, refOk]
    · simp only [leavesV, u, w, leavesU, List.flatMap_cons, List.flatMap_nil, List.append_nil, List.cons_append, List.nil_append, List.mem_cons, List.not_mem_nil, or_false] at hl
      rcases hl with rfl | rfl <;> simp [immL] at hp
    · rcases i with _ | _ | i
      · simp at hy hz; subst hy hz; rfl
      · simp at hy hz; subst hy hz; rfl
      · simp at hy
    · simp only [put_defers', a3, a2, a1]
      exact hdef
    · rw [setSl_nx]
      exact hk i (knows_put (by simp [leavesV, u, w, leavesU, idsL]) hi)
  have := awpOps_sound (Y := sysA P) (ops := (o0 :: opl ++ o1 :: o2 :: o3 :: rest).toArray) (K := Q .normal) (Q := fun e a' W' => ∃ s', Rel B s' a' W' ∧ Q e s') (fun s a W h hr => ⟨s, hr, h⟩) rest _ _ W' (by simpa using h) hrel
  simpa using this
theorem c_map {T kt vt : TypeId} (hT : P.underlying T = some (.map kt vt)) (hkt : P.underlying kt = some (.int .i64)) (hz : ∀ W, (zeroValue vt).run P W = .ok (.string ⟨#[]⟩) W) {id t1 t2 t3 t4 : Nat} {x : Operand} {n : Int} {ops : List Oper} (k : Nat) (es : List (Int × List UInt8)) {o0 o1 o2 o3 : Oper}
    (i0 : ops[0]? = some o0) (i1 : ops[k + 1]? = some o1) (i2 : ops[k + 2]? = some o2) (i3 : ops[k + 3]? = some o3)
    (h0 : o0.dst = some t1 ∧ o0.guard = none ∧ o0.op = .makeMap T none) (hins : All2 (InsOp T t1) ((ops.drop 1).take k) es) (hnd : (es.map (·.1)).Nodup) (h1 : o1.dst = some t2 ∧ o1.guard = none ∧ o1.op = .move (.tmp t1)) (h2 : o2.dst = some t3 ∧ o2.guard = none ∧ o2.op = .move x)
    (h3 : o3.dst = some t4 ∧ o3.guard = none ∧ o3.op = .lookup T (.tmp t2) (.tmp t3) true) (hx : ev N asg x = some (.u (.one (.int .i64 n)))) (hxt : x ≠ .tmp t1 ∧ x ≠ .tmp t2) (ht : lkp asg t1 = none ∧ lkp asg t2 = none ∧ lkp asg t3 = none) (hN : t1 < N ∧ t2 < N ∧ t3 < N ∧ t4 < N) (hne : t2 ≠ t3)
    (h : awpOps (sysA P) ops (ops.drop (k + 4)) (St N ((t4, .tup [.one (.str (bts ((lkE es n).getD []))), .one (.bool (lkE es n).isSome)]) :: asg) oa nx) (Q .normal)) :
    Wp (P := P) B (.region id ops.toArray false) Q (St N asg oa nx) := by
  have e : ops = o0 :: (ops.drop 1).take k ++ o1 :: o2 :: o3 :: ops.drop (k + 4) := by
    have d : ∀ (j : Nat) (o : Oper), ops[j]? = some o → ops.drop j = o :: ops.drop (j + 1) := fun j o hj => by
      obtain ⟨hlt, rfl⟩ := List.getElem?_eq_some_iff.1 hj
      exact List.drop_eq_getElem_cons hlt
    have e0 := d 0 o0 i0
    rw [List.drop_zero] at e0
    have e1 : ops.drop 1 = (ops.drop 1).take k ++ ops.drop (k + 1) := by
      conv => lhs; rw [← List.take_append_drop k (ops.drop 1)]
      rw [List.drop_drop, Nat.add_comm]
    rw [d _ _ i1, d _ _ i2, d _ _ i3] at e1
    rw [List.cons_append, ← e1, ← e0]
  have := c_maplit (B := B) (Q := Q) hT hkt hz (id := id) es h0 hins hnd h1 h2 h3 hx hxt ht hN hne (by rw [← e]; exact h)
  rwa [← e] at this
end
-- functions that are handed over
def stL {δ : Type} : L δ → Bool
  | .ip _ _ => true
  | l => plainL l
/-- What a function that is handed over captured: values, and rows to read. -/
def CapOk (cs : List (L Unit)) : Prop := cs.all stL = true
theorem stL_ids {δ : Type} {l : L δ} (h : stL l = true) : idsL l = [] := by cases l <;> simp_all [stL, plainL, idsL]
theorem stL_ren {δ : Type} {g : Nat → Nat} {l : L δ} (h : stL l = true) : renL g l = l := by cases l <;> simp_all [stL, plainL, renL]
theorem CapOk.ids {cs : List (L Unit)} (h : CapOk cs) : idsC cs = [] := by
  rw [idsC_eq, List.flatMap_eq_nil_iff]
  exact fun l hl => stL_ids (List.all_eq_true.1 h l hl)
theorem CapOk.ren {cs : List (L Unit)} (h : CapOk cs) (g : Nat → Nat) : renC g cs = cs := by
  rw [renC_eq]
  conv => rhs; rw [← List.map_id cs]
  exact List.map_congr_left fun l hl => stL_ren (List.all_eq_true.1 h l hl)
theorem CapOk.bor {N nx : Nat} {asg : Asg} {oa : OAsg} {k : Nat} {cs : List (L Unit)} (h : CapOk cs) : BorC (k + 1) N asg oa nx cs cs := by
  unfold CapOk at h
  induction cs with
  | nil => exact c_n
  | cons l cs ih =>
    simp only [List.all_cons, Bool.and_eq_true] at h
    refine c_c ?_ (ih h.2)
    cases l with
    | ip v c => exact b_ip
    | _ => exact b_s (by simpa [stL] using h.1)
theorem fnv_ren {cs : List (L Unit)} (h : CapOk cs) (g : Nat → Nat) (f : FuncId) : renV g (.u (.one (.fn () f cs))) = .u (.one (.fn () f cs)) := by simp [renV, renU, renL, h.ren]
theorem fnv_knows {cs : List (L Unit)} (h : CapOk cs) (n : Nat) (f : FuncId) : knowsV n (.u (.one (.fn () f cs))) = true := by simp [knowsV, leavesV, leavesU, idsL, h.ids]
end Go.Proofs.Ytmckcjoacfekcaa.AM
