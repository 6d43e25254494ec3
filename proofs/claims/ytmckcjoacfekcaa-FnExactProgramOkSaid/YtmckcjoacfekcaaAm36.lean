import Derived.Test.YtmckcjoacfekcaaAm35
import Derived.Test.YtmckcjoacfekcaaAm32
import Derived.Below
/-! The calculus, thirty-sixth part: from what an argument reads as to typed data; how a whole call is entered. -/
namespace Go.Proofs.Ytmckcjoacfekcaa.AM
open Go Go.WideShapes Go.ChangeShapes Go.RowKit

theorem dc_int {k : IntKind} {ls : List (L Unit)} (h : Fits (.int k) ls) : ∃ n, ls = iK k n ∧ (Lit.int k n).wf = true := by
  cases h with
  | int h => exact ⟨_, rfl, h⟩
theorem dc_i64 {ls : List (L Unit)} (h : Fits (.int .i64) ls) : ∃ n, ls = iL n ∧ inI n := by
  cases h with
  | int h =>
    refine ⟨_, rfl, ?_⟩
    simp [Lit.wf, IntKind.min, IntKind.max, IntKind.bits, IntKind.signed] at h
    exact h
theorem dc_bool {ls : List (L Unit)} (h : Fits .bool ls) : ∃ b, ls = bL b ∧ True := by
  cases h with
  | bool => exact ⟨_, rfl, trivial⟩
theorem dc_str {ls : List (L Unit)} (h : Fits .str ls) : ∃ s, ls = sL s ∧ s.length ≤ reachBytes := by
  cases h with
  | str h =>
    rename_i s
    refine ⟨s.data.toList, ?_, by simpa using h⟩
    simp [sL, bts]
theorem dc_rows {α : Type} {ty : Ty} {enc : α → List (L Unit)} {ok : α → Prop} (hd : ∀ ls, Fits ty ls → ∃ x, ls = enc x ∧ ok x) : ∀ {rows : List (List (L Unit))}, (∀ r ∈ rows, Fits ty r) → ∃ xs : List α, rows = xs.map enc ∧ ∀ x ∈ xs, ok x
  | [], _ => ⟨[], rfl, by simp⟩
  | r :: rows, h => by
    obtain ⟨x, rfl, hx⟩ := hd r (h r (by simp))
    obtain ⟨xs, rfl, hxs⟩ := dc_rows hd (rows := rows) fun r hr => h r (by simp [hr])
    exact ⟨x :: xs, rfl, fun y hy => (List.mem_cons.1 hy).elim (fun e => e ▸ hx) (hxs y)⟩
theorem dc_list {α : Type} {n b : Nat} {ty : Ty} {enc : α → List (L Unit)} {ok : α → Prop} (hd : ∀ ls, Fits ty ls → ∃ x, ls = enc x ∧ ok x) {ls : List (L Unit)} (h : Fits (.sl n b ty) ls) :
    ∃ xs : List α, ls = lL false n enc xs ∧ xs.length * b ≤ reachBytes ∧ ∀ x ∈ xs, ok x := by
  cases h with
  | sl h1 h2 =>
    obtain ⟨xs, rfl, hxs⟩ := dc_rows hd h2
    exact ⟨xs, rfl, by simpa using h1, hxs⟩
theorem dc_nil {ls : List (L Unit)} (h : Fits (.st []) ls) : ls = [] := by
  cases h; rfl
theorem dc_cons {t : Ty} {ts : List Ty} {ls : List (L Unit)} (h : Fits (.st (t :: ts)) ls) : ∃ a b, ls = a ++ b ∧ Fits t a ∧ Fits (.st ts) b := by
  cases h with
  | st h1 h2 => exact ⟨_, _, rfl, h1, h2⟩

/-- A value that is read, of a struct's type. -/
theorem read_st {H : Type} {enc : TypeId × Value → H} {P : Program} {w : World} {r : Reach} {base base' : Nat} {spare : Nat → Bool} {held : Bool} {t : TypeId} {fs : List Ty} {v : Value} {d : DataW H} {p : List MemPlace}
    (hty : TyP P t (.st fs)) (hok : Value.okWide P w r base' t v) (h : DataW.Trod enc P w base spare held t v d p) (hw : ∀ n ∈ d.weights P t, n ≤ reachBytes) :
    ∃ ls : List (L Value), UR (.agg ls) v ∧ Fits (.st fs) (ls.map erL) ∧ ∀ l ∈ ls, Pl w l := by
  have hu : ∃ gs, P.underlying t = some (.struct gs) := by cases hty with | st hu _ _ => exact ⟨_, hu⟩
  obtain ⟨gs, hu⟩ := hu
  obtain ⟨cs, rfl, _⟩ := okWide_struct hu hok
  obtain ⟨fuel, hf⟩ := h
  obtain ⟨ls, e1, e2, e3, _⟩ := reading fuel hty hf hw
  refine ⟨ls, ?_, e2.map _, e3⟩
  simp only [Value.cells] at e1
  simp only [UR, e1]
/-- A value that is read, of one cell. -/
theorem read_one {H : Type} {enc : TypeId × Value → H} {P : Program} {w : World} {base : Nat} {spare : Nat → Bool} {held : Bool} {t : TypeId} {ty : Ty} {v : Value} {d : DataW H} {p : List MemPlace}
    (hty : TyP P t ty) (hv : v.cells = #[v]) (h : DataW.Trod enc P w base spare held t v d p) (hw : ∀ n ∈ d.weights P t, n ≤ reachBytes) :
    ∃ l : L Value, UR (.one l) v ∧ Fits ty [erL l] ∧ Pl w l := by
  obtain ⟨fuel, hf⟩ := h
  obtain ⟨ls, e1, e2, e3, _⟩ := reading fuel hty hf hw
  rw [hv] at e1
  match ls, e1, e2, e3 with
  | [l], e1, e2, e3 =>
    simp only [List.map_cons, List.map_nil, List.cons.injEq, and_true] at e1
    exact ⟨l, e1.symm, e2.map _, e3 l (by simp)⟩
/-- A call over arguments that are only read. -/
theorem enter_sim {P : Program} {f : FuncId} {W : World} {us : List (U Value)} {args : List (U Unit)} {vals : List Value} {r : V Unit} (hs : Sim P f args [] r []) (ha : us.map erU = args) (hus : All2 UR us vals) (hpl : ∀ u ∈ us, ∀ l ∈ leavesU u, Pl W l) :
    Calls P f vals.toArray W fun e W' => ∃ x rv, e = .returned x ∧ erV rv = r ∧ VR rv x ∧ Below W.heap.size W W' := by
  have htop : ∀ l ∈ tops (⟨us.map .u, [], 0⟩ : S Value), Pl W l := by
    intro l hl
    simp only [tops, obLeaves, List.flatMap_nil, List.append_nil, List.mem_flatMap, List.mem_map] at hl
    obtain ⟨_, ⟨u, hu, rfl⟩, hl⟩ := hl
    exact hpl u hu l hl
  have hown : ownS (⟨us.map .u, [], 0⟩ : S Value) = [] := by
    unfold ownS
    simp only [List.flatMap_nil, List.nil_append, List.flatMap_eq_nil_iff]
    exact fun l hl => (htop l hl).own
  refine (hs W ⟨us.map .u, [], 0⟩ us vals rfl ha hus rfl ?_ fun l hl i hi => ?_).mono fun e W' h => ?_
  · refine ⟨fun l hl => ⟨(htop l hl).wf false, (htop l hl).ref _⟩, fun p hp => by simp at hp, List.nodup_nil, fun p hp => ?_, ?_, fun p hp hne => ?_⟩
    · rw [hown] at hp; simp at hp
    · rw [hown]; exact List.nodup_nil
    · obtain ⟨l, hl, hp⟩ := List.mem_flatMap.1 hp
      exact ⟨(htop l hl).imm p hp hne, fun q hq => by rw [hown] at hq; simp at hq⟩
  · rw [(htop l hl).ids] at hi; simp at hi
  · obtain ⟨x, d', rv, h1, _, h3, _, h5, h6⟩ := h
    refine ⟨x, rv, h1, h3, h5, h6.fr.3.1, h6.fr.3.2.1, h6.fr.3.2.2, h6.fr.1, fun k hk => h6.fr.2 k hk fun ⟨p, hp, _⟩ => by rw [hown] at hp; simp at hp⟩
theorem res_bool {rv : V Value} {x : Value} {b : Bool} (h : erV rv = .u (.one (.bool b))) (hv : VR rv x) : x = .bool b := by
  cases rv with
  | u u =>
    cases u with
    | one l =>
      cases l <;> simp only [erV, mapV, mapU, mapL, V.u.injEq, U.one.injEq, reduceCtorEq] at h
      cases h
      exact hv
    | agg ls => simp [erV, mapV, mapU] at h
  | _ => simp [erV, mapV] at h
end Go.Proofs.Ytmckcjoacfekcaa.AM
