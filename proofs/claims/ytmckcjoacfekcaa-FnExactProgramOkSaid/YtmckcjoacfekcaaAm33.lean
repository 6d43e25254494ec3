import Derived.Test.YtmckcjoacfekcaaAm32
import Derived.Laws.StructEq
import Derived.Laws.AppendOwn
import Derived.Laws.IdiomStrings
import Derived.ChangeKeysEq
/-! The calculus, thirty-third part: the system of all steps; structs compared; bytes and texts. -/
namespace Go.Proofs.Ytmckcjoacfekcaa.AM
open Go

/-- All steps that hold. -/
def sysA (P : Program) : Sys P := { E := StepOk P, ok := id }
instance {P : Program} : PlainY (sysA P) := ⟨stepOk_op⟩
theorem stepOk_done {P : Program} {o : Oper} {s : S Unit} {nid : Nat} {e : Eff} (h : ∀ B d a W, erS d = s → Inv B W d → SlR d a → Fresh B d nid e.news.length → Done P B o a W d nid e) : StepOk P o s nid e := by
  intro B d a W hd hi hs hf hdef
  subst hd
  obtain ⟨hp, r, x, W', d', hr, hx, he, hi', hs', hk⟩ := h B d a W rfl hi hs hf
  refine ⟨hp, ?_⟩
  unfold Oper.wp
  rw [hr]
  rcases hx with rfl | ⟨rfl, rfl⟩
  · exact ⟨d', he, hi', hs', by rw [put_defers']; exact hdef, hk⟩
  · exact ⟨d', he, hi', hs', by rw [put_defers']; exact hdef, hk⟩
section
variable {P : Program} {N nx t : Nat} {asg : Asg} {oa : OAsg} {ty : TypeId} {pos : String} {aft : Array Edge} {K : S Unit → Prop}
theorem aopA {o : Oper} {s : S Unit} {e : Eff} (h : StepOk P o s s.nx e) (hK : e.hyp → K (appE s o.dst s.nx e)) : aopK (sysA P) 0 o s K :=
  ⟨e, fun h => absurd rfl h, h, fun h => hK (h rfl)⟩
/-- What holds in the smaller system holds. -/
theorem aopK_A {o : Oper} {s : S Unit} (h : aopK (sysC P) 0 o s K) : aopK (sysA P) 0 o s K := by
  obtain ⟨e, _, h1, h2⟩ := h
  exact ⟨e, fun h => absurd rfl h, (sysC P).ok h1, h2⟩
-- structs of numbers, compared
def stInt (P : Program) (t : TypeId) (n : Nat) : Bool := ((P.fieldsOf t).toList.zipIdx.all fun q => q.1.name != "_" && q.1.offset == q.2 && (match P.underlying q.1.type with | some (.int .i64) => true | _ => false)) &&
  (P.fieldsOf t).size == n && !P.stoodInHeld t && !P.eqGuardType P.depth t && (match P.underlying t with | some (.struct _) => true | _ => false)
theorem eqFields_ints (W : World) (d : Nat) (xs ys : List Int) : ∀ (fs : List Field) (k : Nat), (fs.zipIdx k).all (fun q => q.1.name != "_" && q.1.offset == q.2 && (match P.underlying q.1.type with | some (.int .i64) => true | _ => false)) = true →
    k + fs.length = xs.length → xs.length = ys.length → (Op.eqFields (d + 1) (xs.map (Value.int .i64)).toArray (ys.map (Value.int .i64)).toArray fs).run P W = .ok (xs.drop k == ys.drop k) W
  | [], k, _, h1, h2 => by
    have e1 : xs.drop k = [] := List.drop_eq_nil_of_le (by simp at h1; omega)
    have e2 : ys.drop k = [] := List.drop_eq_nil_of_le (by simp at h1; omega)
    simp [Op.eqFields, e1, e2]
  | f :: fs, k, h, h1, h2 => by
    simp only [List.zipIdx_cons, List.all_cons, Bool.and_eq_true, bne_iff_ne, ne_eq, beq_iff_eq] at h
    obtain ⟨⟨⟨hn, ho⟩, ht⟩, hr⟩ := h
    have hu : P.underlying f.type = some (.int .i64) := by
      split at ht
      · assumption
      · cases ht
    simp only [List.length_cons] at h1
    have hk : k < xs.length := by omega
    have hk2 : k < ys.length := by omega
    have hp : P.plainKey f.type = true := by simp [Program.plainKey, hu]
    have px := run_part_plain W hp (xs := (xs.map (Value.int .i64)).toArray) (off := f.offset) (v := .int .i64 xs[k]) (by rw [ho]; simp [hk])
    have py := run_part_plain W hp (xs := (ys.map (Value.int .i64)).toArray) (off := f.offset) (v := .int .i64 ys[k]) (by rw [ho]; simp [hk2])
    have ih := eqFields_ints W d xs ys fs (k + 1) hr (by omega) h2
    simp only [Op.eqFields, hn, ne_eq, not_false_eq_true, if_true, Sem.run_bind, px, py, Result.andThen_ok, run_equalIn_int W d f.type .i64 .i64 _ _ hu]
    have d1 : xs.drop k = xs[k] :: xs.drop (k + 1) := List.drop_eq_getElem_cons hk
    have d2 : ys.drop k = ys[k] :: ys.drop (k + 1) := List.drop_eq_getElem_cons hk2
    have e : (xs.drop k == ys.drop k) = ((xs[k] == ys[k]) && (xs.drop (k + 1) == ys.drop (k + 1))) := by rw [d1, d2]; rfl
    rw [e]
    cases hb : (xs[k] == ys[k])
    · simp
    · simp [ih]
theorem run_eq_ints (W : World) {tt : TypeId} {xs ys : List Int} (h : stInt P tt xs.length = true) (hl : xs.length = ys.length) : (Op.equalIn 10000 tt (.agg (xs.map (Value.int .i64)).toArray) (.agg (ys.map (Value.int .i64)).toArray)).run P W = .ok (xs == ys) W := by
  simp only [stInt, Bool.and_eq_true, Bool.not_eq_true'] at h
  obtain ⟨⟨⟨⟨h1, h2⟩, h3⟩, h4⟩, h5⟩ := h
  have hu : P.underlying tt = some (.struct (P.fieldsOf tt)) := by
    unfold Program.fieldsOf
    split at h5
    · rename_i fs hf; rw [hf]
    · cases h5
  rw [run_equalIn_struct W 9999 tt _ _ hu h3, eqFields_ints W 9998 xs ys _ 0 h1 (by simpa using beq_iff_eq.1 h2) hl]
  simp
theorem u_agg {d : S Value} {u' : U Value} {as : List Int} (h : erU u' = .agg (as.map fun n => .int .i64 n)) {x : Value} (hx : UR u' x) : x = .agg (as.map (Value.int .i64)).toArray := by
  cases u' with
  | one l => cases h
  | agg ls =>
    simp only [mapU, U.agg.injEq] at h
    simp only [UR] at hx
    rw [hx]
    congr 2
    have : ls = as.map fun n => .int .i64 n := by
      clear hx
      revert ls
      induction as with
      | nil => intro ls h; simpa using h
      | cons n as ih =>
        intro ls h
        cases ls with
        | nil => simp at h
        | cons l ls =>
          simp only [List.map_cons, List.cons.injEq] at h
          rw [List.map_cons, ih ls h.2, er_int h.1]
    rw [this, List.map_map]
    rfl
theorem x_eqs {tt t2 : TypeId} {x y : Operand} {la lb : List (L Unit)} (as bs : List Int) (h1 : ev N asg x = some (.u (.agg la))) (h2 : ev N asg y = some (.u (.agg lb))) (ha : la = as.map fun n => .int .i64 n) (hb : lb = bs.map fun n => .int .i64 n)
    (hst : stInt P tt as.length = true) (hl : as.length = bs.length) (hK : K (St N ((t, .u (.one (.bool (as == bs)))) :: asg) oa nx)) : aopK (sysA P) 0 ⟨some t, .binOp .eql tt x y t2, ty, pos, aft, none⟩ (St N asg oa nx) K := by
  subst ha hb
  refine aopA (e := { v := one1 (.bool (as == bs)) }) (stepOk_done fun B d a W hd hi hs hf => ?_) (fun _ => by rw [St_pure]; exact hK)
  obtain ⟨u1, e1, e2, _⟩ := u_ok hi.good hs (u := .agg (as.map fun n => .int .i64 n)) (x := x) (by rw [hd]; exact uO_ev h1)
  obtain ⟨u2, g1, g2, _⟩ := u_ok hi.good hs (u := .agg (bs.map fun n => .int .i64 n)) (x := y) (by rw [hd]; exact uO_ev h2)
  refine done_leaf (l := .bool (as == bs)) hi hs ?_ rfl (has_bool _)
  have v1 := u_agg (d := d) e1 e2
  have v2 := u_agg (d := d) g1 g2
  have hst' := hst
  simp only [stInt, Bool.and_eq_true, Bool.not_eq_true'] at hst'
  simp only [execOp, v1, v2]
  simp only [Sem.run_bind, run_eqGuard_agg W _ _ _ _ _ _ hst'.1.2, Result.andThen_ok]
  rw [run_eql_struct, run_eq_ints W hst hl]
  rfl
theorem x_nes {tt t2 : TypeId} {x y : Operand} {la lb : List (L Unit)} (as bs : List Int) (h1 : ev N asg x = some (.u (.agg la))) (h2 : ev N asg y = some (.u (.agg lb))) (ha : la = as.map fun n => .int .i64 n) (hb : lb = bs.map fun n => .int .i64 n)
    (hst : stInt P tt as.length = true) (hl : as.length = bs.length) (hK : K (St N ((t, .u (.one (.bool (!(as == bs))))) :: asg) oa nx)) : aopK (sysA P) 0 ⟨some t, .binOp .neq tt x y t2, ty, pos, aft, none⟩ (St N asg oa nx) K := by
  subst ha hb
  refine aopA (e := { v := one1 (.bool (!(as == bs))) }) (stepOk_done fun B d a W hd hi hs hf => ?_) (fun _ => by rw [St_pure]; exact hK)
  obtain ⟨u1, e1, e2, _⟩ := u_ok hi.good hs (u := .agg (as.map fun n => .int .i64 n)) (x := x) (by rw [hd]; exact uO_ev h1)
  obtain ⟨u2, g1, g2, _⟩ := u_ok hi.good hs (u := .agg (bs.map fun n => .int .i64 n)) (x := y) (by rw [hd]; exact uO_ev h2)
  refine done_leaf (l := .bool (!(as == bs))) hi hs ?_ rfl (has_bool _)
  have v1 := u_agg (d := d) e1 e2
  have v2 := u_agg (d := d) g1 g2
  have hst' := hst
  simp only [stInt, Bool.and_eq_true, Bool.not_eq_true'] at hst'
  simp only [execOp, v1, v2]
  simp only [Sem.run_bind, run_eqGuard_agg W _ _ _ _ _ _ hst'.1.2, Result.andThen_ok]
  rw [run_neq_struct, run_eq_ints W hst hl]
  rfl
-- a text's bytes, to be read
theorem bts_row (s : List UInt8) (c : Nat) (j : Nat) (v : Value) (h : (s.map (fun b => Value.int .u8 (b.toNat : Int)))[j]? = some v) : (bytesRow (bts s) c)[j]? = some v := by
  have hlt : j < s.length := by
    have := (List.getElem?_eq_some_iff.1 h).1
    simpa using this
  simp only [bytesRow, bts]
  rw [Array.getElem?_append_left (by simpa using hlt)]
  simpa using h
theorem Inv.put_new {B : Bd} {W W' : World} {d : S Value} (h : Inv B W d) (hk : Keeps W W') (dst : Option Nat) {v : V Value} (hno : noOsV v = true) (hwf : ∀ l ∈ leavesV v, wfL false l ∧ refOk d.ob l)
    (hi : ∀ l ∈ leavesV v, ∀ p ∈ immL l, SubIn p (immS d) ∨ (ImmFact W' p ∧ W.heap.size ≤ p.1.block)) : Inv B W' (setSl d dst v) := by
  have hk' := h.put hk none (v := .ud) rfl (by simp [leavesV]) (by simp [leavesV])
  have hk2 : Inv B W' d := hk'
  have htop : ∀ l ∈ tops (setSl d dst v), l ∈ tops d ∨ l ∈ leavesV v := fun l hl => by
    cases dst with
    | none => exact .inl hl
    | some i =>
      rcases mem_tops.1 hl with ⟨u, hu, hl2⟩ | hl
      · rcases List.mem_or_eq_of_mem_set hu with hu | rfl
        · exact .inl (mem_tops.2 (.inl ⟨u, hu, hl2⟩))
        · exact .inr hl2
      · exact .inl (mem_tops.2 (.inr hl))
  have hown : (ownS (setSl d dst v)).Sublist (ownS d) := by
    cases dst with
    | none => exact List.Sublist.refl _
    | some i =>
      simp only [ownS, setSl, tops, List.flatMap_append]
      refine (List.Sublist.refl _).append (List.Sublist.append ?_ (List.Sublist.refl _))
      rw [List.flatMap_assoc, List.flatMap_assoc]
      exact flatMap_set_sublist (fun x => List.flatMap ownL (leavesV x)) _ (ownV_noOs hno) _ _
  have himm : ∀ p ∈ immS (setSl d dst v), SubIn p (immS d) ∨ (ImmFact W' p ∧ W.heap.size ≤ p.1.block) := fun p hp => by
    obtain ⟨l, hl, hp⟩ := List.mem_flatMap.1 hp
    rcases htop l hl with h1 | h1
    · exact .inl (.of_mem (List.mem_flatMap.2 ⟨l, h1, hp⟩))
    · exact hi l h1 p hp
  have hob : (setSl d dst v).ob = d.ob := setSl_ob _ _ _
  constructor
  · refine ⟨fun l hl => ?_, by rw [hob]; exact hk2.good.obs, by rw [hob]; exact hk2.good.ids, fun p hp => hk2.good.own p (hown.subset hp), hk2.good.nodup.sublist (hown.map _), fun p hp hne => ?_⟩
    · rw [hob]
      rcases htop l hl with h1 | h1
      · exact hk2.good.wf l h1
      · exact hwf l h1
    · rcases himm p hp with h0 | ⟨h1, h2⟩
      · rcases h0 with h0 | ⟨q, hq, hs⟩
        · exact absurd h0 hne
        · obtain ⟨g1, g2⟩ := hk2.good.imm q hq (hs.ne hne)
          exact ⟨hs.fact g1, fun r hr => by rw [hs.1]; exact g2 r (hown.subset hr)⟩
      · refine ⟨h1, fun r hr => ?_⟩
        have := (h.good.own r (hown.subset hr)).lt
        omega
  · exact hk2.fr
  · exact fun p hp => hk2.mine p (hown.subset hp)
  · intro p hp hne
    rcases himm p hp with h0 | ⟨_, h2⟩
    · rcases h0 with h0 | ⟨q, hq, hs⟩
      · exact absurd h0 hne
      · rw [hs.1]; exact hk2.seen q hq (hs.ne hne)
    · exact .inr (.inr (Nat.le_trans h.fr.1 h2))
  · rw [hob]; exact hk2.hdr
def byI (s : List UInt8) : List Int := s.map fun b => (b.toNat : Int)
theorem byI_length (s : List UInt8) : (byI s).length = s.length := by simp [byI]
theorem valR_byI : ∀ s : List UInt8, valR ((byI s).map fun n => [L.int (δ := Value) .u8 n]) = s.map (fun b => Value.int .u8 (b.toNat : Int))
  | [] => rfl
  | b :: s => by
    have := valR_byI s
    simp only [valR, byI, List.map_cons, List.flatten_cons, List.cons_append, List.nil_append, val] at this ⊢
    rw [this]
/-- A text's bytes, in new memory, to be read. -/
theorem x_cvb {ts td te : TypeId} {x : Operand} {s : List UInt8} (hs1 : P.underlying ts = some .string) (hd1 : P.underlying td = some (.slice te)) (he1 : P.underlying te = some (.int .u8)) (h1 : ev N asg x = some (.u (.one (.str (bts s))))) (hlen : s.length ≤ LIM)
    (hK : K (St N ((t, .u (.one (.bs () 1 ((byI s).map (iK .u8))))) :: asg) oa nx)) : aopK (sysA P) 0 ⟨some t, .convert ts td x, ty, pos, aft, none⟩ (St N asg oa nx) K := by
  refine aopA (e := { v := one1 (.bs () 1 ((byI s).map (iK .u8))) }) (stepOk_done fun B d a W hd hi hs hf => ?_) (fun _ => by rw [St_pure]; exact hK)
  obtain ⟨l', e1, e2, _⟩ := leaf_ok hi.good hs (l := .str (bts s)) (x := x) (by rw [hd]; exact lO_ev h1)
  obtain rfl := er_str e1
  let c := grownCap W (bts s).size 0 te
  let W' := W.drew.alloc (.cells (bytesRow (bts s) c) te ((bytesRow (bts s) c).size, (bytesRow (bts s) c).size + 1))
  have hrun : (execOp a.eval ⟨some t, .convert ts td x, ty, pos, aft, none⟩).run P W = .ok (.value (.slice (some ⟨W.heap.size, 0, none⟩) (bts s).size c)) W' := by
    simp only [execOp, e2, val]
    rw [Sem.run_bind, run_bytes_of_string W ts td te (bts s) hs1 hd1 he1]
    rfl
  have hk : Keeps W W' := (keeps_of_heap (W := W) (W' := W.drew) rfl).trans (keeps_alloc _ _)
  have hcap : s.length ≤ c := by
    have := grownCap_ge W (bts s).size 0 te
    rw [bts_size] at this
    exact this
  let v' : Value := .slice (some ⟨W.heap.size, 0, none⟩) (bts s).size c
  have hrows : ((byI s).map fun n => [L.int (δ := Value) .u8 n]).length = s.length := by simp [byI]
  have hval := valR_byI s
  refine ⟨trivial, _, v', W', setSl d (some t) (one1 (.bs v' 1 ((byI s).map fun n => [.int .u8 n]))), hrun, .inl rfl, ?_, hi.put_new hk _ rfl (fun l hl => ?_) (fun l hl p hp => ?_), hs.put (some t) rfl, fun i hk => .inl (knows_put (by simp [leavesV, leavesU, one1, idsL]) hk)⟩
  · have e : erV (one1 (.bs v' 1 ((byI s).map fun n => [.int .u8 n]))) = one1 (.bs () 1 ((byI s).map (iK .u8))) := by
      simp only [one1, mapV, mapU, mapL, mapR_eq, List.map_map]
      rfl
    rw [appE, app_pure, erS_setSl, e]
  · simp only [leavesV, leavesU, one1, List.mem_singleton] at hl
    subst hl
    refine ⟨⟨⟨some ⟨W.heap.size, 0, none⟩, c, by rw [hrows, ← bts_size s], by rw [hrows]; exact hcap, by rw [hrows]; exact hlen, fun _ => ⟨_, _, rfl⟩⟩, fun r hr => ?_, (wfR_iff _ _).2 fun r hr l hl => ?_⟩, by simp [refOk]⟩
    · obtain ⟨n, _, rfl⟩ := List.mem_map.1 hr; rfl
    · obtain ⟨n, _, rfl⟩ := List.mem_map.1 hr
      simp only [List.mem_singleton] at hl
      subst hl
      simp [wfL]
  · simp only [leavesV, leavesU, one1, List.mem_singleton] at hl
    subst hl
    simp only [immL, List.mem_append] at hp
    rcases hp with hp | hp
    · right
      simp only [hdrImm, v', List.mem_singleton] at hp
      subst hp
      refine ⟨fun j u hj => ?_, Nat.le_refl _⟩
      simp only [hval] at hj
      have hb := bts_row s c j u hj
      have : W'.heap[W.heap.size]? = some (.cells (bytesRow (bts s) c) te ((bytesRow (bts s) c).size, (bytesRow (bts s) c).size + 1)) := by
        show (W.heap.push _)[W.heap.size]? = _
        simp
      simp only [World.cell?, this, Nat.zero_add]
      simpa using hb
    · rw [immR_eq] at hp
      obtain ⟨l, hl, hp⟩ := List.mem_flatMap.1 hp
      obtain ⟨r, hr, hl⟩ := List.mem_flatten.1 hl
      obtain ⟨n, _, rfl⟩ := List.mem_map.1 hr
      simp only [List.mem_singleton] at hl
      subst hl
      simp [immL] at hp
end
end Go.Proofs.Ytmckcjoacfekcaa.AM
