import Derived.Test.YtmckcjoacfekcaaAm3
import Derived.Laws.Small
/-! The calculus, fourth part: operations that only reckon. -/
namespace Go.Proofs.Ytmckcjoacfekcaa.AM
open Go

/-- The state behind an operation, and how the machine came there. -/
def Done (P : Program) (B : Bd) (o : Oper) (a : Act) (W : World) (d : S Value) (nid : Nat) (e : Eff) : Prop :=
  e.hyp ∧ ∃ r x W' d', (execOp a.eval o).run P W = .ok r W' ∧ (r = .value x ∨ (r = .skip ∧ x = undef)) ∧ erS d' = appE (erS d) o.dst nid e ∧ Inv B W' d' ∧ SlR d' (a.put o.dst x) ∧
    ∀ i, Knows d' i → Knows d i ∨ (nid ≤ i ∧ i < nid + e.news.length)
theorem knows_put {d : S Value} {dst : Option Nat} {v : V Value} (h : ∀ l ∈ leavesV v, ∀ i ∈ idsL l, Knows d i) {i : Nat} (hk : Knows (setSl d dst v) i) : Knows d i := by
  cases dst with
  | none => exact hk
  | some t =>
    rcases hk with ⟨l, hl, hi⟩ | hi
    · rcases mem_tops.1 hl with ⟨u, hu, hl2⟩ | hl
      · rcases List.mem_or_eq_of_mem_set hu with hu | rfl
        · exact .inl ⟨l, mem_tops.2 (.inl ⟨u, hu, hl2⟩), hi⟩
        · exact h l hl2 i hi
      · exact .inl ⟨l, mem_tops.2 (.inr hl), hi⟩
    · exact .inr hi

theorem app_pure {δ : Type} (s : S δ) (dst : Option Nat) (nid : Nat) (v : V δ) : app s dst nid v [] [] [] = setSl s dst v := by
  simp [app, updP_nil, List.filter_eq_self.2 (fun _ _ => rfl)]
theorem done_pure {P : Program} {B : Bd} {o : Oper} {a : Act} {W : World} {d : S Value} {nid : Nat} (hi : Inv B W d) (hs : SlR d a) {v : V Value} {x : Value} {rd : List Nat} {hyp : Prop}
    (hr : (execOp a.eval o).run P W = .ok (.value x) W) (hv : VR v x) (hno : noOsV v = true) (hh : ∀ l ∈ leavesV v, Has d l) (hp : hyp) : Done P B o a W d nid { v := erV v, rd := rd, hyp := hyp } :=
  ⟨hp, _, x, W, setSl d o.dst v, hr, .inl rfl, by rw [appE, app_pure, erS_setSl], hi.put (Keeps.refl W) o.dst hno (fun l hl => ⟨(hh l hl).1, (hh l hl).2.1⟩) (fun l hl => (hh l hl).2.2.1), hs.put o.dst hv,
    fun i hk => .inl (knows_put (fun l hl => (hh l hl).2.2.2) hk)⟩

/-- Leaves that are numbers, bools and strings. -/
def scal {δ : Type} : L δ → Bool
  | .int _ _ | .bool _ | .str _ | .nl | .nilp => true
  | _ => false
theorem scal_has {d : S Value} {l : L Value} (h : scal l = true) : Has d l ∧ noOs l = true := by
  cases l <;> simp_all [scal, Has, wfL, refOk, immL, noOs, idsL]
theorem er_scal {l : L Value} {l' : L Unit} (h : erL l = l') (hs : scal l' = true) : scal l = true := by
  subst h
  cases l <;> simp_all [scal, mapL]

theorem kdD_bool {d : TypeDesc} (h : kdD d = .bool) : d = .bool := by cases d <;> simp [kdD] at h <;> rfl
theorem kdD_int {d : TypeDesc} {k : IntKind} (h : kdD d = .int k) : d = .int k := by cases d <;> simp [kdD] at h <;> rw [h]
theorem kdD_str {d : TypeDesc} (h : kdD d = .str) : d = .string := by cases d <;> simp [kdD] at h <;> rfl
theorem kdD_slice {d : TypeDesc} (h : kdD d = .slice) : d = .slice (elemD d) := by cases d <;> simp [kdD] at h <;> rfl
def binF {δ : Type} (op : BinOp) (i : TI) (x y : L δ) : Option (L δ) :=
  match x, y with
  | .int k a, .int k' b =>
    match op with
    | .shl => if b < 0 then none else some (.int k (k.wrap (a * 2 ^ min b.toNat k.bits)))
    | .shr => if b < 0 then none else some (.int k (a / 2 ^ min b.toNat k.bits))
    | _ => if k = k' then (match op with
      | .add => some (.int k (k.wrap (a + b)))
      | .sub => some (.int k (k.wrap (a - b)))
      | .mul => some (.int k (k.wrap (a * b)))
      | .quo => if b = 0 then none else some (.int k (k.wrap (a.tdiv b)))
      | .rem => if b = 0 then none else some (.int k (a.tmod b))
      | .and | .or | .xor | .andNot => some (.int k (bits op k a b))
      | .eql => some (.bool (a == b))
      | .neq => some (.bool (a != b))
      | .lss => some (.bool (decide (a < b)))
      | .leq => some (.bool (decide (a ≤ b)))
      | .gtr => some (.bool (decide (a > b)))
      | .geq => some (.bool (decide (a ≥ b)))
      | _ => none) else none
  | .str a, .str b =>
    match op with
    | .add => if ((a.size + b.size : Nat) : Int) ≤ 9223372036854775807 then some (.str (a ++ b)) else none
    | .eql => some (.bool (a.toList == b.toList))
    | .neq => some (.bool !(a.toList == b.toList))
    | .lss => some (.bool (Op.bytesLess a.toList b.toList))
    | .geq => some (.bool !(Op.bytesLess a.toList b.toList))
    | _ => none
  | .bool a, .bool b =>
    match i.kd, op with
    | .bool, .eql => some (.bool (a == b))
    | .bool, .neq => some (.bool (!(a == b)))
    | _, _ => none
  | _, _ => none
theorem binF_er (op : BinOp) (i : TI) (x y : L Value) : (binF op i x y).map erL = binF op i (erL x) (erL y) := by
  unfold binF
  cases x <;> cases y <;> simp only [mapL] <;> (try rfl)
  · cases op <;> simp only [] <;> (repeat' split) <;> rfl
  · cases i.kd <;> cases op <;> rfl
  · cases op <;> simp only [] <;> (repeat' split) <;> rfl
theorem binF_scal {δ : Type} {op : BinOp} {i : TI} {x y z : L δ} (h : binF op i x y = some z) : scal z = true := by
  unfold binF at h
  repeat' split at h
  all_goals first | (cases h; rfl) | cases h
theorem run_intBits (P : Program) (W : World) (op : BinOp) (k : IntKind) (a b : Int) (h : op = .and ∨ op = .or ∨ op = .xor ∨ op = .andNot) : (Op.intBits op k a b).run P W = .ok (.int k (bits op k a b)) W := by
  rcases h with rfl | rfl | rfl | rfl <;> rfl
theorem i64_max : IntKind.i64.max = 9223372036854775807 := by decide
set_option maxHeartbeats 1000000 in
theorem run_binF {P : Program} {W : World} {op : BinOp} {t : TypeId} {i : TI} (ht : tiOf P t = some i) {x y z : L Value} (h : binF op i x y = some z) (ox oy : Operand) :
    (do eqGuard op t ox oy (val x) (val y); binOp op t (val x) (val y) : Sem Value).run P W = .ok (val z) W := by
  obtain ⟨info, d, zv, _, hu, _, _, hkd, _⟩ := tiOf_spec ht
  unfold binF at h
  split at h
  · rename_i k a k' b
    simp only [val, eqGuard_at_int, pure_bind]
    split at h
    · split at h
      · cases h
      · cases h
        rename_i hb
        simp [binOp, Op.shift, hb, val]
    · split at h
      · cases h
      · cases h
        rename_i hb
        have : (0 : Int) ≤ 2 ^ min b.toNat k.bits := Int.pow_nonneg (by decide)
        simp [binOp, Op.shift, hb, val, Int.fdiv_eq_ediv_of_nonneg _ this]
    · split at h
      · rename_i hk
        subst hk
        split at h <;> first
          | (cases h; simp [go_sem, Op.intArith, Op.intDiv, Op.intCmp, val]; done)
          | (split at h
             · cases h
             · rename_i hb
               cases h
               simp [go_sem, Op.intArith, Op.intDiv, Op.intCmp, val, hb])
          | cases h
      · cases h
  · rename_i a b
    simp only [val, eqGuard_at_string, pure_bind]
    split at h
    · split at h
      · rename_i hle
        cases h
        have : ¬ (((a.size + b.size : Nat) : Int) > IntKind.i64.max) := by rw [i64_max]; omega
        simp only [binOp, Op.stringOp, if_neg this]
        rfl
      · cases h
    all_goals first
      | (cases h; simp [binOp, Op.stringOp, val]; done)
      | cases h
  · rename_i a b
    simp only [val, eqGuard_at_bool, pure_bind]
    split at h
    · rename_i hb
      cases h
      rw [hb] at hkd
      have hd := kdD_bool hkd.symm
      subst hd
      exact run_eql_bool W t a b hu
    · rename_i hb
      cases h
      rw [hb] at hkd
      have hd := kdD_bool hkd.symm
      subst hd
      exact run_neq_bool W t a b hu
    · cases h
  · cases h
end Go.Proofs.Ytmckcjoacfekcaa.AM
