import Derived.Test.YtmckcjoacfekcaaAm4
/-! The calculus, fifth part: moves, tests, fields, elements, lengths, cuts, loads. -/
namespace Go.Proofs.Ytmckcjoacfekcaa.AM
open Go

theorem ev_lift {d : S Value} {x : Operand} {v : V Unit} (h : evA (erS d) x = some v) : ∃ v', evD d x = some v' ∧ erV v' = v := by
  rw [evA_er, Option.map_eq_some_iff] at h
  exact h
theorem lift_u {d : S Value} {x : Operand} {u : U Unit} (h : uO (evA (erS d) x) = some u) : ∃ u', evD d x = some (.u u') ∧ erU u' = u := by
  cases he : evA (erS d) x with
  | none => rw [he] at h; cases h
  | some v =>
    rw [he] at h
    obtain ⟨v', h1, h2⟩ := ev_lift he
    cases v' with
    | u u' => subst h2; cases h; exact ⟨u', h1, rfl⟩
    | tup xs => subst h2; cases h
    | un => subst h2; cases h
    | ud => subst h2; cases h
theorem lO_u {δ : Type} {v : Option (V δ)} {l : L δ} (h : lO v = some l) : uO v = some (.one l) := by
  unfold lO at h
  split at h
  · cases h; rfl
  · cases h
theorem lift_l {d : S Value} {x : Operand} {l : L Unit} (h : lO (evA (erS d) x) = some l) : ∃ l', evD d x = some (.u (.one l')) ∧ erL l' = l := by
  obtain ⟨u', h1, h2⟩ := lift_u (lO_u h)
  cases u' with
  | one l' => exact ⟨l', h1, by injection h2⟩
  | agg ls => cases h2
/-- A leaf at hand: its value at the machine, and what is known of it. -/
theorem leaf_ok {W : World} {d : S Value} {a : Act} (h : Good W d) (hs : SlR d a) {x : Operand} {l : L Unit} (hl : lO (evA (erS d) x) = some l) : ∃ l', erL l' = l ∧ a.eval x = val l' ∧ Has d l' := by
  obtain ⟨l', h1, h2⟩ := lift_l hl
  obtain ⟨h3, h4⟩ := evD_ok h hs h1
  exact ⟨l', h2, h3, h4 l' (by simp [leavesV, leavesU])⟩
theorem u_ok {W : World} {d : S Value} {a : Act} (h : Good W d) (hs : SlR d a) {x : Operand} {u : U Unit} (hu : uO (evA (erS d) x) = some u) : ∃ u', erU u' = u ∧ UR u' (a.eval x) ∧ ∀ l ∈ leavesU u', Has d l := by
  obtain ⟨u', h1, h2⟩ := lift_u hu
  obtain ⟨h3, h4⟩ := evD_ok h hs h1
  exact ⟨u', h2, h3, h4⟩

-- inversions
theorem er_int {l : L Value} {k n} (h : erL l = .int k n) : l = .int k n := by cases l <;> simp [mapL] at h <;> rw [h.1, h.2]
theorem er_bool {l : L Value} {b} (h : erL l = .bool b) : l = .bool b := by cases l <;> simp [mapL] at h <;> rw [h]
theorem er_str {l : L Value} {s} (h : erL l = .str s) : l = .str s := by cases l <;> simp [mapL] at h <;> rw [h]
theorem er_nl {l : L Value} (h : erL l = .nl) : l = .nl := by cases l <;> simp [mapL] at h <;> rfl
theorem er_bs {l : L Value} {v n rows} (h : erL l = .bs v n rows) : ∃ v' rows', l = .bs v' n rows' ∧ mapR (fun _ => ()) rows' = rows := by
  cases l <;> simp [mapL] at h
  rename_i v' n' rows'
  exact ⟨v', rows', by rw [h.1], h.2⟩
theorem er_ref {l : L Value} {v id off len} (h : erL l = .ref v id off len) : ∃ v', l = .ref v' id off len := by
  cases l <;> simp [mapL] at h
  rename_i v' i o n
  exact ⟨v', by rw [h.1, h.2.1, h.2.2]⟩
theorem er_ptr {l : L Value} {v id e j} (h : erL l = .ptr v id e j) : ∃ v', l = .ptr v' id e j := by
  cases l <;> simp [mapL] at h
  rename_i v' i o n
  exact ⟨v', by rw [h.1, h.2.1, h.2.2]⟩
theorem er_ip {l : L Value} {v cells} (h : erL l = .ip v cells) : ∃ v' cells', l = .ip v' cells' ∧ mapC (fun _ => ()) cells' = cells := by
  cases l <;> simp [mapL] at h
  rename_i v' c'
  exact ⟨v', c', rfl, h⟩

def one1 {δ : Type} (l : L δ) : V δ := .u (.one l)
theorem done_leaf {P : Program} {B : Bd} {o : Oper} {a : Act} {W : World} {d : S Value} {nid : Nat} (hi : Inv B W d) (hs : SlR d a) {l : L Value} {rd : List Nat} {hyp : Prop}
    (hr : (execOp a.eval o).run P W = .ok (.value (val l)) W) (hno : noOs l = true) (hh : Has d l) (hp : hyp := by trivial) : Done P B o a W d nid { v := one1 (erL l), rd := rd, hyp := hyp } :=
  done_pure hi hs (v := one1 l) hr rfl (by simp [noOsV, leavesV, leavesU, one1, hno]) (fun l' hl => by simp only [leavesV, leavesU, one1, List.mem_singleton] at hl; subst hl; exact hh) hp
theorem has_int {d : S Value} (k : IntKind) (n : Int) : Has d (.int k n) := by simp [Has, wfL, refOk, immL, idsL]
theorem has_bool {d : S Value} (b : Bool) : Has d (.bool b) := by simp [Has, wfL, refOk, immL, idsL]
theorem has_str {d : S Value} (s : ByteArray) : Has d (.str s) := by simp [Has, wfL, refOk, immL, idsL]

-- moves
def mvF (v : Option (V Unit)) : Option Eff := match v with | some v => if noOsV v then some { v := v } else none | none => none
theorem mv_ok {P : Program} {B : Bd} {o : Oper} {a : Act} {W : World} {d : S Value} {nid : Nat} {e : Eff} (hi : Inv B W d) (hs : SlR d a) {x : Operand}
    (hr : (execOp a.eval o).run P W = .ok (.value (a.eval x)) W) (he : mvF (evA (erS d) x) = some e) : Done P B o a W d nid e := by
  unfold mvF at he
  split at he
  · rename_i v hv
    split at he
    · rename_i hno
      cases he
      obtain ⟨v', h1, rfl⟩ := ev_lift hv
      obtain ⟨h3, h4⟩ := evD_ok hi.good hs h1
      exact done_pure hi hs hr h3 (by rwa [← noOsV_er]) h4 trivial
    · cases he
  · cases he
def pickF (ρ : Env) (c x y : Operand) : Option Eff := match lO (ρ c) with | some (.bool t) => mvF (if t then ρ x else ρ y) | _ => none
theorem pick_ok {P : Program} {B : Bd} {o : Oper} {a : Act} {W : World} {d : S Value} {nid : Nat} {e : Eff} (hi : Inv B W d) (hs : SlR d a) {c x y : Operand} (ho : o.op = .pick c x y)
    (he : pickF (evA (erS d)) c x y = some e) : Done P B o a W d nid e := by
  unfold pickF at he
  split at he
  · rename_i t ht
    obtain ⟨l', h1, h2, _⟩ := leaf_ok hi.good hs ht
    obtain rfl := er_bool h1
    cases t with
    | true => exact mv_ok hi hs (x := x) (by simp [execOp, ho, h2, val, asBool]) he
    | false => exact mv_ok hi hs (x := y) (by simp [execOp, ho, h2, val, asBool]) he
  · cases he
def ncF (ρ : Env) (x : Operand) : Option Eff := match lO (ρ x) with
  | some (.ptr v id e j) => some { v := one1 (.ptr v id e j) }
  | some (.ip v c) => some { v := one1 (.ip v c) }
  | _ => none
theorem nc_ok {P : Program} {B : Bd} {o : Oper} {a : Act} {W : World} {d : S Value} {nid : Nat} {e : Eff} (hi : Inv B W d) (hs : SlR d a) {x : Operand} (ho : o.op = .nilCheck x)
    (hlive : ∀ v id e' j, lO (evA (erS d) x) = some (.ptr v id e' j) → (look (erS d).ob id).isSome = true)
    (he : ncF (evA (erS d)) x = some e) : Done P B o a W d nid e := by
  unfold ncF at he
  split at he
  · rename_i v id e' j hx
    cases he
    obtain ⟨l', h1, h2, h3⟩ := leaf_ok hi.good hs hx
    obtain ⟨v', rfl⟩ := er_ptr h1
    have hl := hlive _ _ _ _ hx
    obtain ⟨ob, hob⟩ := Option.isSome_iff_exists.1 hl
    have : ∃ o', look d.ob id = some o' := by
      unfold look erS mapS at hob
      rw [List.find?_map] at hob
      simp only [Option.map_map, Option.map_eq_some_iff] at hob
      obtain ⟨p, hp, _⟩ := hob
      exact ⟨p.2, by unfold look; simp only [Option.map_eq_some_iff]; exact ⟨p, hp, rfl⟩⟩
    obtain ⟨o', ho'⟩ := this
    obtain ⟨b, _, c0, _, hv⟩ := h3.2.1 o' ho'
    exact done_leaf (l := .ptr v' id e' j) hi hs (by simp [execOp, ho, h2, val, hv]) rfl h3
  · rename_i v c hx
    cases he
    obtain ⟨l', h1, h2, h3⟩ := leaf_ok hi.good hs hx
    obtain ⟨v', c', rfl, rfl⟩ := er_ip h1
    obtain ⟨_, ⟨b, o', hv⟩, _⟩ := h3.1
    exact done_leaf (l := .ip v' c') hi hs (by simp [execOp, ho, h2, val, hv]) rfl h3
  · cases he

-- numbers
def unF {δ : Type} (op : UnOp) (x : L δ) : Option (L δ) := match op, x with
  | .neg, .int k n => some (.int k (k.wrap (0 - n)))
  | .xor, .int k n => some (.int k (bits .xor k (if k.signed then -1 else k.max) n))
  | .not, .bool b => some (.bool !b)
  | _, _ => none
def unE (ρ : Env) (op : UnOp) (x : Operand) : Option Eff := match lO (ρ x) with | some l => (unF op l).map fun z => { v := one1 z } | none => none
theorem un_ok {P : Program} {B : Bd} {o : Oper} {a : Act} {W : World} {d : S Value} {nid : Nat} {e : Eff} (hi : Inv B W d) (hs : SlR d a) {op : UnOp} {t : TypeId} {x : Operand} (ho : o.op = .unOp op t x)
    (he : unE (evA (erS d)) op x = some e) : Done P B o a W d nid e := by
  unfold unE at he
  split at he
  · rename_i l hx
    obtain ⟨l', h1, h2, h3⟩ := leaf_ok hi.good hs hx
    rw [Option.map_eq_some_iff] at he
    obtain ⟨z, hz, rfl⟩ := he
    unfold unF at hz
    split at hz
    · cases hz
      obtain rfl := er_int h1
      exact done_leaf (l := .int _ _) hi hs (by simp [execOp, ho, h2, val, Op.unary, Op.intArith]) rfl (has_int _ _)
    · cases hz
      obtain rfl := er_int h1
      exact done_leaf (l := .int _ _) hi hs (by simp only [execOp, ho, h2, val, Op.unary]; rfl) rfl (has_int _ _)
    · cases hz
      obtain rfl := er_bool h1
      exact done_leaf (l := .bool _) hi hs (by simp [execOp, ho, h2, val, Op.unary]) rfl (has_bool _)
    · cases hz
  · cases he
def biE (P : Program) (ρ : Env) (op : BinOp) (t : TypeId) (x y : Operand) : Option Eff :=
  match tiOf P t, lO (ρ x), lO (ρ y) with
  | some i, some l, some m => (binF op i l m).map fun z => { v := one1 z }
  | _, _, _ => none
theorem bi_ok {P : Program} {B : Bd} {o : Oper} {a : Act} {W : World} {d : S Value} {nid : Nat} {e : Eff} (hi : Inv B W d) (hs : SlR d a) {op : BinOp} {t t' : TypeId} {x y : Operand} (ho : o.op = .binOp op t x y t')
    (he : biE P (evA (erS d)) op t x y = some e) : Done P B o a W d nid e := by
  unfold biE at he
  split at he
  · rename_i i l m ht hx hy
    obtain ⟨l', h1, h2, h3⟩ := leaf_ok hi.good hs hx
    obtain ⟨m', g1, g2, g3⟩ := leaf_ok hi.good hs hy
    rw [Option.map_eq_some_iff] at he
    obtain ⟨z, hz, rfl⟩ := he
    rw [← h1, ← g1, ← binF_er, Option.map_eq_some_iff] at hz
    obtain ⟨z', hz', rfl⟩ := hz
    have hsc := scal_has (d := d) (binF_scal hz')
    refine done_leaf (l := z') hi hs ?_ hsc.2 hsc.1
    have := run_binF (W := W) ht hz' x y
    simp only [execOp, ho, h2, g2]
    rw [Sem.run_bind, this]
    rfl
  · cases he
def cvE (P : Program) (ρ : Env) (src dst : TypeId) (x : Operand) : Option Eff :=
  match tiOf P src, tiOf P dst, lO (ρ x) with
  | some _, some i, some (.int _ n) => (match i.kd with | .int k => some { v := one1 (.int k (k.wrap n)) } | _ => none)
  | some _, some i, some (.str s) => (match i.kd with | .str => some { v := one1 (.str s) } | _ => none)
  | _, _, _ => none
theorem cv_ok {P : Program} {B : Bd} {o : Oper} {a : Act} {W : World} {d : S Value} {nid : Nat} {e : Eff} (hi : Inv B W d) (hs : SlR d a) {src dst : TypeId} {x : Operand} (ho : o.op = .convert src dst x)
    (he : cvE P (evA (erS d)) src dst x = some e) : Done P B o a W d nid e := by
  unfold cvE at he
  split at he
  · rename_i i0 i k0 n h0 ht hx
    obtain ⟨l', h1, h2, h3⟩ := leaf_ok hi.good hs hx
    obtain rfl := er_int h1
    obtain ⟨_, d0, _, _, hu0, _⟩ := tiOf_spec h0
    obtain ⟨_, d1, _, _, hu1, _, _, hk, _⟩ := tiOf_spec ht
    split at he
    · rename_i k hkd
      cases he
      have := kdD_int (hk.symm.trans hkd)
      subst this
      refine done_leaf (l := .int _ _) hi hs ?_ rfl (has_int _ _)
      simp [execOp, ho, h2, val, convert, run_underlying hu0, run_underlying hu1, Conv.intToInt]
    · cases he
  · rename_i i0 i s h0 ht hx
    obtain ⟨l', h1, h2, h3⟩ := leaf_ok hi.good hs hx
    obtain rfl := er_str h1
    obtain ⟨_, d0, _, _, hu0, _⟩ := tiOf_spec h0
    obtain ⟨_, d1, _, _, hu1, _, _, hk, _⟩ := tiOf_spec ht
    split at he
    · rename_i hkd
      cases he
      have := kdD_str (hk.symm.trans hkd)
      subst this
      refine done_leaf (l := .str _) hi hs ?_ rfl (has_str _)
      simp only [execOp, ho, h2, val]
      cases d0 <;> simp [convert, run_underlying hu0, run_underlying hu1]
    · cases he
  · cases he
end Go.Proofs.Ytmckcjoacfekcaa.AM
