import Derived.Test.YtghdhjgoicnbcaaGreatMf3
import Derived.Test.YtghdhjgoicnbcaaGreatProg
import Derived.KernelRfl
set_option linter.unusedVariables false
set_option linter.unusedSimpArgs false
namespace Go.Proofs.YtghdhjgoicnbcaaGreat.AM
open Go
section
variable {P : Program} {Y : Sys P} [PlainY Y] {pr N nx t : Nat} {asg : Asg} {oa : OAsg} {ty : TypeId} {pos : String} {aft : Array Edge} {K : S Unit → Prop}
/-- Comparisons of numbers. -/
theorem k_cmp {op : BinOp} {tt t2 : TypeId} {x y : Operand} {i : TI} {k k' : IntKind} {a b : Int} {z : L Unit} (ht : tiOf P tt = some i) (h1 : ev N asg x = some (.u (.one (.int k a)))) (h2 : ev N asg y = some (.u (.one (.int k' b))))
    (ho : (match op with | .add => false | .sub => false | .quo => false | .rem => false | .shl => false | .shr => false | _ => true) = true) (hb : binF op i (.int k a) (.int k' b) = some z)
    (hK : K (St N ((t, .u (.one z)) :: asg) oa nx)) : aopK Y pr ⟨some t, .binOp op tt x y t2, ty, pos, aft, none⟩ (St N asg oa nx) K := x_bin ht h1 h2 hb hK
theorem k_cmpb {op : BinOp} {tt t2 : TypeId} {x y : Operand} {i : TI} {a b : Bool} {z : L Unit} (ht : tiOf P tt = some i) (h1 : ev N asg x = some (.u (.one (.bool a)))) (h2 : ev N asg y = some (.u (.one (.bool b))))
    (hb : binF op i (.bool a) (.bool b) = some z)
    (hK : K (St N ((t, .u (.one z)) :: asg) oa nx)) : aopK Y pr ⟨some t, .binOp op tt x y t2, ty, pos, aft, none⟩ (St N asg oa nx) K := x_bin ht h1 h2 hb hK
theorem pk1 {i : TI} {r : List (L Unit)} {j : Nat} {l : L Unit} (h : i.agg = false) (hl : r[j]? = some l) : pk i r j = some (.one l) := by simp [pk, h, hl]
theorem k_ldp {tt : TypeId} {x : Operand} {id e j : Nat} {i : TI} {o : Ob Unit} {r : List (L Unit)} {l : L Unit} (hp : Nat.beq pr 1 = false) (ht : tiOf P tt = some i) (ha : i.agg = false) (h1 : ev N asg x = some (.u (.one (.ptr () id e j)))) (ho : lko oa nx id = some o)
    (hr : o.rows[e]? = some r) (hu : r[j]? = some l) (hn : noOs l = true) (hK : K (St N ((t, .u (.one l)) :: asg) oa nx)) : aopK Y pr ⟨some t, .load tt x, ty, pos, aft, none⟩ (St N asg oa nx) K :=
  x_ldp hp ht h1 ho hr (pk1 ha hu) (by simpa [noOsU, leavesU] using hn) hK
theorem k_ldi {tt : TypeId} {x : Operand} {i : TI} {cs : List (L Unit)} {l : L Unit} (ht : tiOf P tt = some i) (ha : i.agg = false) (h1 : ev N asg x = some (.u (.one (.ip () cs))))
    (hu : cs[0]? = some l) (hn : noOs l = true) (hK : K (St N ((t, .u (.one l)) :: asg) oa nx)) : aopK Y pr ⟨some t, .load tt x, ty, pos, aft, none⟩ (St N asg oa nx) K :=
  x_ldi ht h1 (pk1 ha hu) (by simpa [noOsU, leavesU] using hn) hK
theorem k_ldn {α : Type} [Inhabited α] {tt : TypeId} {x : Operand} {id j m : Nat} {n : Int} {i : TI} {xs : List α} {enc : α → List (L Unit)} {l : L Unit} (hp : Nat.beq pr 1 = false) (ht : tiOf P tt = some i) (ha : i.agg = false) (h1 : ev N asg x = some (.u (.one (.ptr () id n.toNat j))))
    (ho : lko oa nx id = some ⟨(), m, xs.map enc⟩) (he : 0 ≤ n ∧ n < (xs.length : Int)) (hu : (enc (at_ xs n))[j]? = some l) (hn : noOs l = true) (hK : K (St N ((t, .u (.one l)) :: asg) oa nx)) : aopK Y pr ⟨some t, .load tt x, ty, pos, aft, none⟩ (St N asg oa nx) K :=
  x_ldn hp ht h1 ho he (pk1 ha hu) (by simpa [noOsU, leavesU] using hn) hK
theorem k_cvi {ts td : TypeId} {x : Operand} {i j : TI} {k k' : IntKind} {n : Int} (ht : tiOf P ts = some i) (ht2 : tiOf P td = some j) (hk : j.kd = .int k) (h1 : ev N asg x = some (.u (.one (.int k' n)))) (hne : (match k, k' with | .i64, .i64 => false | _, _ => true) = true)
    (hK : K (St N ((t, .u (.one (.int k (k.wrap n)))) :: asg) oa nx)) : aopK Y pr ⟨some t, .convert ts td x, ty, pos, aft, none⟩ (St N asg oa nx) K := x_cvi ht ht2 hk h1 hK
theorem x_binw {op : BinOp} {tt t2 : TypeId} {x y : Operand} {i : TI} {l m z : L Unit} (ht : tiOf P tt = some i) (h1 : ev N asg x = some (.u (.one l))) (h2 : ev N asg y = some (.u (.one m))) (hb : binF op i l m = some z)
    (hK : K (St N ((t, .u (.one z)) :: asg) oa nx)) : aopK Y pr ⟨some t, .binOp op tt x y t2, ty, pos, aft, none⟩ (St N asg oa nx) K := x_bin ht h1 h2 hb hK
theorem k_lnb {tt : TypeId} {x : Operand} {m : Nat} {α : Type} {enc : α → List (L Unit)} {xs : List α} (ht : lnF P tt = some .slice) (h1 : ev N asg x = some (.u (.one (.bs () m (xs.map enc)))))
    (hK : xs.length ≤ 140737488355328 → K (St N ((t, .u (.one (.int .i64 (xs.length : Int)))) :: asg) oa nx)) : aopK Y 0 ⟨some t, .call ⟨.builtin .len, #[x], #[tt]⟩, ty, pos, aft, none⟩ (St N asg oa nx) K := x_lnb ht h1 fun h => hK (h rfl)
theorem k_lnr {tt : TypeId} {x : Operand} {id off len : Nat} {o : Ob Unit} (ht : lnF P tt = some .slice) (h1 : ev N asg x = some (.u (.one (.ref () id off len)))) (ho : lko oa nx id = some o)
    (hK : len ≤ 140737488355328 → K (St N ((t, .u (.one (.int .i64 (len : Int)))) :: asg) oa nx)) : aopK Y 0 ⟨some t, .call ⟨.builtin .len, #[x], #[tt]⟩, ty, pos, aft, none⟩ (St N asg oa nx) K := x_lnr rfl ht h1 ho fun h => hK (h rfl)
end
section
variable {P : Program} {Y : Sys P} [PlainY Y] {pr N nx t : Nat} {asg : Asg} {oa : OAsg} {ty : TypeId} {pos : String} {aft : Array Edge} {K : S Unit → Prop}
theorem kS {tt : TypeId} {x y : Operand} {id j n : Nat} {i : TI} {r r' : List (L Unit)} {u : U Unit} (hK : K (St N asg ((id, some ⟨(), n, [r']⟩) :: oa) nx)) [ht : FacT P tt i] (h1 : ev N asg x = some (.u (.one (.ptr () id 0 j))) := by rfl) (h2 : ev N asg y = some (.u u) := by rfl)
    (ho : lko oa nx id = some ⟨(), n, [r]⟩ := by rfl) (hn : noOsU u = true := by rfl) (hl : Nat.beq (leavesU u).length i.size = true := by rfl) (hj : Nat.ble (j + i.size) r.length = true := by rfl) (hs : PutR r j (leavesU u) r' := by repeat first | exact PutR.nil | (apply PutR.cons; (repeat first | exact SetR.z | apply SetR.s))) :
    aopK Y 0 ⟨none, .store tt x y, ty, pos, aft, none⟩ (St N asg oa nx) K := k_st ht.h h1 h2 ho hn hl hj hs hK
theorem kA {α : Type} {enc : α → List (L Unit)} [EncB enc] {xs ys : List α} {tt t2 : TypeId} {x y : Operand} {m b id : Nat} {z : List Z} {rd : List Nat} {l : L Unit} (hb : (xs.length + ys.length) * b ≤ 140737488355328 ∧ xs.length + ys.length ≤ LIM)
    (hK : K (St N ((t, .u (.one (.ref () nx 0 (xs ++ ys).length))) :: asg) ((nx, some ⟨(), m, (xs ++ ys).map enc⟩) :: (id, none) :: oa) (nx + 1))) [he : FacA P tt (m, b, z)] [ht2 : FacN P t2 .slice] 
    (h1 : ev N asg x = some (.u (.one (.ref () id 0 xs.length))) := by rfl) (ho : lko oa nx id = some ⟨(), m, xs.map enc⟩ := by rfl) (h2 : ev N asg y = some (.u (.one l)) := by rfl) (hq : argR (lko oa nx) m (some l) = some (ys.map enc, rd) := by first | exact argR_r rfl | exact argR_b _) :
    aopK Y 0 ⟨some t, .call ⟨.builtin .append, #[x, y], #[tt, t2]⟩, ty, pos, aft, none⟩ (St N asg oa nx) K := x_apr he.h ht2.h (encB_N _) h1 ho h2 hq hb hK
theorem kM {α : Type} (enc : α → List (L Unit)) (xs : List α) {tt : TypeId} {len : Nat} {ps : Array (Nat × Operand)} {m b : Nat} {z : List Z} {us : List (Nat × U Unit)} (hK : K (St N ((t, .u (.one (.ref () nx 0 xs.length))) :: asg) ((nx, some ⟨(), m, xs.map enc⟩) :: oa) (nx + 1))) [he : FacA P tt (m, b, z)]
    (hl : Nat.ble (len * m) 16777216 = true := by rfl) (hp : partsE (ev N asg) ps.toList = some us := by rfl) (hf : fillR m us (List.replicate len (z.map zL)) = some (xs.map enc) := by rfl) (hn : len = xs.length := by rfl) : aopK Y 0 ⟨some t, .buildSlice tt len ps, ty, pos, aft, none⟩ (St N asg oa nx) K :=
  x_bsm xs he.h hl hp hf hn hK
theorem kB (cells : List (L Unit)) {tt : TypeId} {ps : Array (Nat × Operand)} {i : TI} {us : List (Nat × U Unit)} (hK : K (St N ((t, .u (.agg cells)) :: asg) oa nx)) [ht : FacT P tt i] (hk : i.kd = .struct := by rfl) (hp : partsE (ev N asg) ps.toList = some us := by rfl) (hf : fillP (i.places[·]?) us (i.zero.map zL) = some cells := by rfl) :
    aopK Y pr ⟨some t, .build tt ps, ty, pos, aft, none⟩ (St N asg oa nx) K := x_bu ht.h hk hp hf hK
theorem kL {tt : TypeId} {x : Operand} {id e j : Nat} {i : TI} {o : Ob Unit} {r : List (L Unit)} (u : U Unit) (hK : K (St N ((t, .u u) :: asg) oa nx)) (hp : Nat.beq pr 1 = false := by rfl) [ht : FacT P tt i] (h1 : ev N asg x = some (.u (.one (.ptr () id e j))) := by rfl) (ho : lko oa nx id = some o := by rfl)
    (hr : o.rows[e]? = some r := by rfl) (hu : pk i r j = some u := by rfl) (hn : noOsU u = true := by rfl) : aopK Y pr ⟨some t, .load tt x, ty, pos, aft, none⟩ (St N asg oa nx) K := x_ldp hp ht.h h1 ho hr hu hn hK
theorem kW {tt : TypeId} {x : Operand} {id e : Nat} {i : TI} {o : Ob Unit} {r : List (L Unit)} (hK : K (St N ((t, .u (.agg r)) :: asg) oa nx)) (hp : Nat.beq pr 1 = false := by rfl) [ht : FacT P tt i] (h1 : ev N asg x = some (.u (.one (.ptr () id e 0))) := by rfl) (ho : lko oa nx id = some o := by rfl)
    (hr : o.rows[e]? = some r := by rfl) (ha : i.agg = true := by rfl) (hl : r.length = i.size := by rfl) (hn : noOsU (.agg r) = true := by rfl) : aopK Y pr ⟨some t, .load tt x, ty, pos, aft, none⟩ (St N asg oa nx) K := x_ldp hp ht.h h1 ho hr (pk_all ha hl) hn hK
theorem kD {tt : TypeId} {x : Operand} {id e j : Nat} {i : TI} {o : Ob Unit} {r : List (L Unit)} {l : L Unit} (hK : K (St N ((t, .u (.one l)) :: asg) oa nx)) (hp : Nat.beq pr 1 = false := by rfl) [ht : FacT P tt i] (ha : i.agg = false := by rfl) (h1 : ev N asg x = some (.u (.one (.ptr () id e j))) := by rfl) (ho : lko oa nx id = some o := by rfl)
    (hr : o.rows[e]? = some r := by rfl) (hu : r[j]? = some l := by rfl) (hn : noOs l = true := by rfl) : aopK Y pr ⟨some t, .load tt x, ty, pos, aft, none⟩ (St N asg oa nx) K := k_ldp hp ht.h ha h1 ho hr hu hn hK
theorem kF {ts : TypeId} {x : Operand} {f id e j off : Nat} {k : TI} {o : Ob Unit} (hK : K (St N ((t, .u (.one (.ptr () id e (j + off)))) :: asg) oa nx)) (hp : Nat.beq pr 1 = false := by rfl) [hf : FacF P ts f (off, k)] (h1 : ev N asg x = some (.u (.one (.ptr () id e j))) := by rfl) (ho : lko oa nx id = some o := by rfl) :
    aopK Y pr ⟨some t, .fieldAddr ts x f, ty, pos, aft, none⟩ (St N asg oa nx) K := x_fap hp hf.h h1 ho hK
theorem kV {x : Operand} {v : V Unit} (hK : K (St N ((t, v) :: asg) oa nx)) (hv : ev N asg x = some v := by rfl) (hn : noOsV v = true := by rfl) : aopK Y pr ⟨some t, .move x, ty, pos, aft, none⟩ (St N asg oa nx) K := x_mv hv hn hK
theorem kN {x : Operand} {id e j : Nat} {o : Ob Unit} (hK : K (St N ((t, .u (.one (.ptr () id e j))) :: asg) oa nx)) (hp : Nat.beq pr 1 = false := by rfl) (h1 : ev N asg x = some (.u (.one (.ptr () id e j))) := by rfl) (ho : lko oa nx id = some o := by rfl) : aopK Y pr ⟨some t, .nilCheck x, ty, pos, aft, none⟩ (St N asg oa nx) K := x_ncp hp h1 ho hK
end
section
set_option linter.unusedSectionVars false
variable {P : Program} {Y : Sys P} [PlainY Y] [QuietY Y] {ops : List Oper} {L : Array Bool} {j t fuel : Nat} {want : Bool} {N nx : Nat} {asg : Asg} {oa : OAsg} {K : S Unit → Prop} {dst : Option Nat} {op : Op} {ty : TypeId} {pos : String} {aft : Array Edge}
theorem tK (i pr : Nat) (hi : ops[i]? = some ⟨dst, op, ty, pos, aft, none⟩) (h : aopK Y (pr + 1) ⟨dst, op, ty, pos, aft, none⟩ (St N asg oa nx) (fun s' => aAny Y ops fuel (L.setIfInBounds i true) s' K)) (hb : takeB (QuietY.q Y) (pr + 1) ops.toArray L i = true := by decide +kernel) : aAny Y ops (fuel + 1) L (St N asg oa nx) K := t_ i pr hi hb h
theorem tD (i pr : Nat) (D : List Nat) (hi : ops[i]? = some ⟨dst, op, ty, pos, aft, none⟩) (h : aopK Y (pr + 1) ⟨dst, op, ty, pos, aft, none⟩ (St N asg oa nx) (fun s' => aAny Y ops fuel (L.setIfInBounds i true) s' K)) (hb : takeD (QuietY.q Y) (pr + 1) D ops.toArray L i = true := by decide +kernel) : aAny Y ops (fuel + 1) L (St N asg oa nx) K := t_D i pr D hi hb h
theorem oK (i : Nat) (hi : ops[i]? = some ⟨dst, op, ty, pos, aft, none⟩) (h : aopK Y 0 ⟨dst, op, ty, pos, aft, none⟩ (St N asg oa nx) (fun s' => aAny Y ops fuel (L.setIfInBounds i true) s' K)) (hb : onlyB ops.toArray L i = true := by decide +kernel) : aAny Y ops (fuel + 1) L (St N asg oa nx) K := o_ i hi hb h
theorem tG (i pr : Nat) (hi : ops[i]? = some ⟨dst, op, ty, pos, aft, some (j, want)⟩) (h : aopK Y (pr + 1) ⟨dst, op, ty, pos, aft, none⟩ (St N asg oa nx) (fun s' => aAny Y ops fuel (L.setIfInBounds i true) s' K)) (hb : takeB (QuietY.q Y) (pr + 1) ops.toArray L i = true := by decide +kernel) (ht : dstOf ops j = some t := by rfl) (hN : Nat.blt t N = true := by rfl) (hv : lkp asg t = some (.u (.one (.bool want))) := by rfl) : aAny Y ops (fuel + 1) L (St N asg oa nx) K := t_g i pr hi hb ht hN hv h
theorem oG (i : Nat) (hi : ops[i]? = some ⟨dst, op, ty, pos, aft, some (j, want)⟩) (h : aopK Y 0 ⟨dst, op, ty, pos, aft, none⟩ (St N asg oa nx) (fun s' => aAny Y ops fuel (L.setIfInBounds i true) s' K)) (hb : onlyB ops.toArray L i = true := by decide +kernel) (ht : dstOf ops j = some t := by rfl) (hN : Nat.blt t N = true := by rfl) (hv : lkp asg t = some (.u (.one (.bool want))) := by rfl) : aAny Y ops (fuel + 1) L (St N asg oa nx) K := o_g i hi hb ht hN hv h
theorem tF {d : Nat} (i : Nat) (hi : ops[i]? = some ⟨some d, op, ty, pos, aft, some (j, want)⟩) (h : aAny Y ops fuel (L.setIfInBounds i true) (St N ((d, .ud) :: asg) oa nx) K) (hb : takeB (QuietY.q Y) 1 ops.toArray L i = true := by decide +kernel) (ht : dstOf ops j = some t := by rfl) (hN : Nat.blt t N = true := by rfl) (hv : lkp asg t = some (.u (.one (.bool (!want)))) := by rfl) : aAny Y ops (fuel + 1) L (St N asg oa nx) K := t_f i hi hb ht hN hv h
theorem aN {s : S Unit} (h : K s) (hb : (Region.ready .any ops.toArray L).isEmpty = true := by decide +kernel) : aAny Y ops 0 L s K := a_nil hb h
theorem tE {H X : List Nat} {x : Operand} {l : AM.L Unit} (i : Nat) (D : List Nat) (hi : ops[i]? = some ⟨dst, op, ty, pos, aft, none⟩) (h : aopK (sysH P H X) 2 ⟨dst, op, ty, pos, aft, none⟩ (St N asg oa nx) (fun s' => aAny (sysH P H X) ops fuel (L.setIfInBounds i true) s' K)) (hb : takeE X D ops.toArray L i = true := by decide +kernel) (hx : mainX op = some x := by rfl) (hv : ev N asg x = some (.u (.one l)) := by rfl) (hl : (idsL l).all (fun i => !H.contains i) = true := by rfl) : aAny (sysH P H X) ops (fuel + 1) L (St N asg oa nx) K := t_E i D hi hb hx hv hl h
end
section
variable {P : Program} {B : Bd} {Q : Exit → S Unit → Prop} {ops rest : List Oper} {op : Op} {ty : TypeId} {pos : String} {aft : Array Edge} {j t N nx : Nat} {want b : Bool} {asg : Asg} {oa : OAsg}
-- a region's operations, one by one
theorem nO {dst : Option Nat} {s : S Unit} (h : aopK (sysA P) 0 ⟨dst, op, ty, pos, aft, none⟩ s (fun s' => WpO P B ops Q rest s')) : WpO P B ops Q (⟨dst, op, ty, pos, aft, none⟩ :: rest) s := o_run (Y := sysA P) 1 (n_ h)
theorem gO_t {dst : Option Nat} (ht : dstOf ops j = some t) (hN : Nat.blt t N = true) (hv : lkp asg t = some (.u (.one (.bool want)))) (h : aopK (sysA P) 0 ⟨dst, op, ty, pos, aft, none⟩ (St N asg oa nx) (fun s' => WpO P B ops Q rest s')) :
    WpO P B ops Q (⟨dst, op, ty, pos, aft, some (j, want)⟩ :: rest) (St N asg oa nx) := o_run (Y := sysA P) 1 (g_t ht hN hv (n_ h))
theorem gO_f {d : Nat} (ht : dstOf ops j = some t) (hN : Nat.blt t N = true) (hv : lkp asg t = some (.u (.one (.bool (!want))))) (h : WpO P B ops Q rest (St N ((d, .ud) :: asg) oa nx)) :
    WpO P B ops Q (⟨some d, op, ty, pos, aft, some (j, want)⟩ :: rest) (St N asg oa nx) := o_run (Y := sysA P) 1 (g_f ht hN hv h)
theorem gO_fn (ht : dstOf ops j = some t) (hN : Nat.blt t N = true) (hv : lkp asg t = some (.u (.one (.bool (!want))))) (h : WpO P B ops Q rest (St N asg oa nx)) :
    WpO P B ops Q (⟨none, op, ty, pos, aft, some (j, want)⟩ :: rest) (St N asg oa nx) := o_run (Y := sysA P) 1 (g_fn ht hN hv h)
theorem gO_u {d : Nat} (ht : dstOf ops j = some t) (hN : Nat.blt t N = true) (hv : lkp asg t = some .ud) (h : WpO P B ops Q rest (St N ((d, .ud) :: asg) oa nx)) :
    WpO P B ops Q (⟨some d, op, ty, pos, aft, some (j, want)⟩ :: rest) (St N asg oa nx) := o_run (Y := sysA P) 1 (g_u ht hN hv h)
theorem gO_un (ht : dstOf ops j = some t) (hN : Nat.blt t N = true) (hv : lkp asg t = some .ud) (h : WpO P B ops Q rest (St N asg oa nx)) :
    WpO P B ops Q (⟨none, op, ty, pos, aft, some (j, want)⟩ :: rest) (St N asg oa nx) := o_run (Y := sysA P) 1 (g_un ht hN hv h)
theorem sp_any {F : S Unit → Prop} (hN : Nat.blt t N = true) (hv : lkp asg t = some (.u (.one (.bool b)))) (h1 : b = true → F (St N ((t, .u (.one (.bool true))) :: asg) oa nx)) (h2 : b = false → F (St N ((t, .u (.one (.bool false))) :: asg) oa nx)) : F (St N asg oa nx) := by
  have key : St N ((t, .u (.one (.bool b))) :: asg) oa nx = St N asg oa nx := by
    rw [← stB_St]
    exact stB_self (St_get hN hv)
  rw [← key]
  cases b
  · exact h2 rfl
  · exact h1 rfl
theorem gO_s {dst : Option Nat} (ht : dstOf ops j = some t) (hN : Nat.blt t N = true) (hv : lkp asg t = some (.u (.one (.bool b))))
    (h1 : b = want → WpO P B ops Q (⟨dst, op, ty, pos, aft, some (j, want)⟩ :: rest) (St N ((t, .u (.one (.bool want))) :: asg) oa nx))
    (h2 : b = (!want) → WpO P B ops Q (⟨dst, op, ty, pos, aft, some (j, want)⟩ :: rest) (St N ((t, .u (.one (.bool (!want)))) :: asg) oa nx)) :
    WpO P B ops Q (⟨dst, op, ty, pos, aft, some (j, want)⟩ :: rest) (St N asg oa nx) :=
  sp_any (F := WpO P B ops Q (⟨dst, op, ty, pos, aft, some (j, want)⟩ :: rest)) hN hv (fun hb => by subst hb; cases want; exact h2 rfl; exact h1 rfl) (fun hb => by subst hb; cases want; exact h1 rfl; exact h2 rfl)
variable {α : Type} {m1 m2 z : α}
theorem if1 (hm : (if b = true then m1 else m2) = z) (hb : b = true) : m1 = z := by rw [if_pos hb] at hm; exact hm
theorem if0 (hm : (if b = true then m1 else m2) = z) (hb : b = false) : m2 = z := by rw [hb, if_neg (by decide)] at hm; exact hm
theorem bS {x y : Code} (hm : (if b = true then m1 else m2) = z)
    (h1 : b = true → m1 = z → Wp (P := P) B x Q (St N ((t, .u (.one (.bool true))) :: asg) oa nx)) (h2 : b = false → m2 = z → Wp (P := P) B y Q (St N ((t, .u (.one (.bool false))) :: asg) oa nx))
    (hN : Nat.blt t N = true := by rfl) (hv : lkp asg t = some (.u (.one (.bool b))) := by rfl) : Wp (P := P) B (.cond (.tmp t) x y) Q (St N asg oa nx) :=
  c_s hN hv (fun hb => h1 hb (if1 hm hb)) (fun hb => h2 hb (if0 hm hb))
theorem bG1 {dst : Option Nat} (hm : (if b = true then m1 else m2) = z)
    (h1 : b = true → m1 = z → WpO P B ops Q (⟨dst, op, ty, pos, aft, some (j, true)⟩ :: rest) (St N ((t, .u (.one (.bool true))) :: asg) oa nx))
    (h2 : b = false → m2 = z → WpO P B ops Q (⟨dst, op, ty, pos, aft, some (j, true)⟩ :: rest) (St N ((t, .u (.one (.bool false))) :: asg) oa nx))
    (ht : dstOf ops j = some t := by rfl) (hN : Nat.blt t N = true := by rfl) (hv : lkp asg t = some (.u (.one (.bool b))) := by rfl) : WpO P B ops Q (⟨dst, op, ty, pos, aft, some (j, true)⟩ :: rest) (St N asg oa nx) :=
  gO_s ht hN hv (fun hb => h1 hb (if1 hm hb)) (fun hb => h2 hb (if0 hm hb))
theorem bG0 {dst : Option Nat} (hm : (if b = true then m1 else m2) = z)
    (h2 : b = false → m2 = z → WpO P B ops Q (⟨dst, op, ty, pos, aft, some (j, false)⟩ :: rest) (St N ((t, .u (.one (.bool false))) :: asg) oa nx))
    (h1 : b = true → m1 = z → WpO P B ops Q (⟨dst, op, ty, pos, aft, some (j, false)⟩ :: rest) (St N ((t, .u (.one (.bool true))) :: asg) oa nx))
    (ht : dstOf ops j = some t := by rfl) (hN : Nat.blt t N = true := by rfl) (hv : lkp asg t = some (.u (.one (.bool b))) := by rfl) : WpO P B ops Q (⟨dst, op, ty, pos, aft, some (j, false)⟩ :: rest) (St N asg oa nx) :=
  gO_s ht hN hv (fun hb => h2 hb (if0 hm hb)) (fun hb => h1 hb (if1 hm hb))
theorem bT {Y : Sys P} {n : Nat} {L : Array Bool} {K : S Unit → Prop} (t : Nat) (hm : (if b = true then m1 else m2) = z)
    (h1 : b = true → m1 = z → aAny Y ops n L (St N ((t, .u (.one (.bool true))) :: asg) oa nx) K) (h2 : b = false → m2 = z → aAny Y ops n L (St N ((t, .u (.one (.bool false))) :: asg) oa nx) K)
    (hN : Nat.blt t N = true := by rfl) (hv : lkp asg t = some (.u (.one (.bool b))) := by rfl) : aAny Y ops n L (St N asg oa nx) K :=
  sp_any (F := fun s => aAny Y ops n L s K) hN hv (fun hb => h1 hb (if1 hm hb)) (fun hb => h2 hb (if0 hm hb))
end
structure Bx (H : Prop) : Prop where
  h : H
/-- As far as it goes without a word. -/
theorem yG {G H : Prop} (h : H) (f : Bx H → G := by
  intro hh
  have hx : True := trivial
  repeat (first
    | ((first | refine nO ?_ | refine gO_t rfl rfl rfl ?_ | refine n_ ?_); (first
        | refine x_mv rfl rfl ?_
        | refine x_fap rfl FacF.h rfl rfl ?_
        | refine k_ldp rfl FacT.h rfl rfl rfl rfl rfl rfl ?_
        | refine x_ncp rfl rfl rfl ?_
        | refine x_as rfl rfl ?_
        | refine k_cmp FacT.h rfl rfl rfl rfl ?_
        | refine x_pk rfl rfl rfl ?_
        | (refine k_lnb FacN.h rfl fun hL => ?_; replace hx := And.intro hx hL)
        | (refine k_lnr FacN.h rfl rfl fun hL => ?_; replace hx := And.intro hx hL)
        | refine x_nci rfl ?_
        | refine x_fai FacF.h rfl ?_
        | refine k_ldi FacT.h rfl rfl rfl rfl ?_
        | refine k_ldn rfl FacT.h rfl rfl rfl (by first | exact hx.2 | exact hx.1.2 | exact hx.1.1.2 | exact hx.1.1.1.2 | assumption) rfl rfl ?_
        | ((have hy := of_ite hm); (replace hm := hy.2); (first
            | refine x_addc FacT.h rfl rfl hy.1 ?_
            | refine x_ixb FacE.h rfl rfl hy.1 ?_
            | refine x_ix0 rfl FacE.h rfl rfl rfl hy.1 ?_
            | refine x_subc FacT.h rfl rfl hy.1 ?_
            | refine x_sx FacN.h rfl rfl hy.1 ?_
            | refine x_apr FacA.h FacN.h (encB_N _) rfl rfl rfl (argR_r rfl) hy.1 ?_
            | refine x_apr FacA.h FacN.h (encB_N _) rfl rfl rfl (argR_b _) hy.1 ?_
            | refine x_apn FacA.h FacN.h (encB_N _) rfl rfl (argR_r rfl) hy.1 ?_
            | refine x_apn FacA.h FacN.h (encB_N _) rfl rfl (argR_b _) hy.1 ?_
            | refine x_rem FacT.h rfl rfl hy.1 ?_
            | refine x_quo FacT.h rfl rfl hy.1 ?_
            | refine x_shl FacT.h rfl rfl hy.1 ?_
            | refine x_shr FacT.h rfl rfl hy.1 ?_); (replace hx := And.intro hx hy.1); clear hy)
        | ((fail_if_success have := fW); refine x_addc FacT.h rfl rfl (by unfold inI; omega) ?_)
        | ((fail_if_success have := fW); refine x_subc FacT.h rfl rfl (by unfold inI; omega) ?_)
        | ((fail_if_success have := fW); refine x_cvn FacT.h FacT.h rfl rfl (by omega) ?_)
        | refine k_st FacT.h rfl rfl rfl rfl rfl rfl (by repeat first | exact PutR.nil | (apply PutR.cons; (repeat first | exact SetR.z | apply SetR.s))) ?_
        | refine k_bu FacT.h rfl (by repeat first | exact ZR.nil | apply ZR.int | apply ZR.nl | apply ZR.bool | apply ZR.str | apply ZR.nilp) (by repeat first | exact FillR.nil | (apply FillR.cons; exact rfl; exact rfl; exact rfl; exact rfl; exact rfl; (repeat first | exact PutR.nil | (apply PutR.cons; (repeat first | exact SetR.z | apply SetR.s))))) ?_
        | refine k_al FacT.h (by repeat first | exact ZR.nil | apply ZR.int | apply ZR.nl | apply ZR.bool | apply ZR.str | apply ZR.nilp) ?_
        | refine x_ex rfl rfl rfl ?_
        | refine x_un rfl rfl ?_
        | refine k_cvi FacT.h FacT.h rfl rfl rfl ?_
        | refine x_rem FacT.h rfl rfl (by decide) ?_
        | refine x_quo FacT.h rfl rfl (by decide) ?_
        | refine x_shl FacT.h rfl rfl (by decide) ?_
        | refine x_shr FacT.h rfl rfl (by decide) ?_
        | refine x_lns FacN.h rfl ?_
        | refine k_cmpb FacT.h rfl rfl rfl ?_
        | refine x_bx rfl rfl rfl rfl ?_))
    | refine gO_f rfl rfl rfl ?_
    | refine gO_fn rfl rfl rfl ?_
    | refine gO_u rfl rfl rfl ?_
    | refine gO_un rfl rfl rfl ?_
    | ((fail_if_success have := fR); (first
        | refine Wp.seq ?_
        | refine c_regS ?_
        | refine o_end ?_
        | refine c_skip ?_
        | refine Wp.block ?_
        | refine c_ret ?_
        | refine c_exit ?_
        | refine z_ ?_
        | refine c_t rfl rfl ?_
        | refine c_f rfl rfl ?_)))
  refine (?_ : _ → _ → _) hx hm
  exact hh.h) : G := f ⟨h⟩
/-- Within a region. -/
theorem yR {G H : Prop} (h : H) (f : Bx H → True → G := by
  intro hh fR
  refine yG ?_
  exact hh.h) : G := f ⟨h⟩ trivial
end Go.Proofs.YtghdhjgoicnbcaaGreat.AM

namespace Go.Proofs.YtghdhjgoicnbcaaGreat.AM
open Go
theorem mixed : Tryz.prog.follows .mixedOrders = true := by kernel_rfl
structure GPhi where
  w : Int
  ins : List Int

def zPhi : GPhi := { w := 0, ins := [] }
instance : Inhabited GPhi := ⟨zPhi⟩
def ePhi (o : Bool) (x : GPhi) : List (L Unit) := [.int .i64 x.w, sl o 1 (List.map iL x.ins)]
instance : EncB (ePhi false) := ⟨fun _ => rfl⟩
instance (o : Bool) : EncO (ePhi o) := ⟨fun _ => by cases o <;> rfl⟩
instance : EncD (ePhi true) (ePhi false) := ⟨fun _ => by simp [ePhi, sl, deepL, deep_map, sl]⟩
instance : EncF (ePhi true) := ⟨fun _ => by simp only [ePhi, sl, immFreeC, immFreeL, immF_map, Bool.and_self]⟩
structure GInst where
  op_ : Int
  w : Int
  a : Int
  b : Int
  c : Int
  imm : Int
  args : List Int

def zInst : GInst := { op_ := 0, w := 0, a := 0, b := 0, c := 0, imm := 0, args := [] }
instance : Inhabited GInst := ⟨zInst⟩
def eInst (o : Bool) (x : GInst) : List (L Unit) := [.int .i64 x.op_, .int .i64 x.w, .int .i64 x.a, .int .i64 x.b, .int .i64 x.c, .int .i64 x.imm, sl false 1 (List.map iL x.args)]
instance : EncB (eInst false) := ⟨fun _ => rfl⟩
instance (o : Bool) : EncO (eInst o) := ⟨fun _ => by cases o <;> rfl⟩
instance : EncD (eInst false) (eInst false) := ⟨fun _ => rfl⟩
structure GTerm where
  kind : Int
  a : Int
  x : Int
  y : Int

def zTerm : GTerm := { kind := 0, a := 0, x := 0, y := 0 }
instance : Inhabited GTerm := ⟨zTerm⟩
def eTerm (x : GTerm) : List (L Unit) := [.int .i64 x.kind, .int .i64 x.a, .int .i64 x.x, .int .i64 x.y]
instance : EncB eTerm := ⟨fun _ => rfl⟩
instance : EncF eTerm := ⟨fun _ => rfl⟩
instance : EncD eTerm eTerm := ⟨fun _ => rfl⟩
structure GBlock where
  phis : List GPhi
  insts : List GInst
  term : GTerm

def zBlock : GBlock := { phis := [], insts := [], term := zTerm }
instance : Inhabited GBlock := ⟨zBlock⟩
def eBlock (o : Bool) (x : GBlock) : List (L Unit) := [sl o 2 (List.map (ePhi o) x.phis), sl o 7 (List.map (eInst false) x.insts), .int .i64 x.term.kind, .int .i64 x.term.a, .int .i64 x.term.x, .int .i64 x.term.y]
instance : EncB (eBlock false) := ⟨fun _ => rfl⟩
instance (o : Bool) : EncO (eBlock o) := ⟨fun _ => by cases o <;> rfl⟩
instance : EncD (eBlock true) (eBlock false) := ⟨fun _ => by simp [eBlock, sl, deepL, deep_map, eTerm]⟩
structure GFunc where
  params : List Int
  ret : Int
  blocks : List GBlock

def zFunc : GFunc := { params := [], ret := 0, blocks := [] }
instance : Inhabited GFunc := ⟨zFunc⟩
def eFunc (o : Bool) (x : GFunc) : List (L Unit) := [sl o 1 (List.map iL x.params), .int .i64 x.ret, sl o 6 (List.map (eBlock o) x.blocks)]
instance : EncB (eFunc false) := ⟨fun _ => rfl⟩
instance (o : Bool) : EncO (eFunc o) := ⟨fun _ => by cases o <;> rfl⟩
instance : EncD (eFunc true) (eFunc false) := ⟨fun _ => by simp [eFunc, sl, deepL, deep_map, sl]⟩
structure GModule where
  funcs : List GFunc

def zModule : GModule := { funcs := [] }
instance : Inhabited GModule := ⟨zModule⟩
def eModule (o : Bool) (x : GModule) : List (L Unit) := [sl o 3 (List.map (eFunc o) x.funcs)]
instance : EncB (eModule false) := ⟨fun _ => rfl⟩
instance (o : Bool) : EncO (eModule o) := ⟨fun _ => by cases o <;> rfl⟩
instance : EncD (eModule true) (eModule false) := ⟨fun _ => by simp [eModule, sl, deepL, deep_map, sl]⟩
structure Gl1Rd where
  b : List Int
  p : Int

def zl1Rd : Gl1Rd := { b := [], p := 0 }
instance : Inhabited Gl1Rd := ⟨zl1Rd⟩
def el1Rd (o : Bool) (x : Gl1Rd) : List (L Unit) := [sl o 1 (List.map (iK .u8) x.b), .int .i64 x.p]
instance : EncB (el1Rd false) := ⟨fun _ => rfl⟩
instance (o : Bool) : EncO (el1Rd o) := ⟨fun _ => by cases o <;> rfl⟩
instance : EncD (el1Rd true) (el1Rd false) := ⟨fun _ => by simp [el1Rd, sl, deepL, deep_map, sl]⟩
instance : EncF (el1Rd true) := ⟨fun _ => by simp only [el1Rd, sl, immFreeC, immFreeL, immF_map, Bool.and_self]⟩
structure GEdge where
  from_ : Int
  to : Int

def zEdge : GEdge := { from_ := 0, to := 0 }
instance : Inhabited GEdge := ⟨zEdge⟩
def eEdge (x : GEdge) : List (L Unit) := [.int .i64 x.from_, .int .i64 x.to]
instance : EncB eEdge := ⟨fun _ => rfl⟩
instance : EncF eEdge := ⟨fun _ => rfl⟩
instance : EncD eEdge eEdge := ⟨fun _ => rfl⟩
structure Gl2G where
  f : GFunc
  b : GBlock
  next : Int
  ids : List Int
  ws : List Int

def zl2G : Gl2G := { f := zFunc, b := zBlock, next := 0, ids := [], ws := [] }
instance : Inhabited Gl2G := ⟨zl2G⟩
abbrev hl2G (e0_ : L Unit) (e1_ : L Unit) (e2_ : L Unit) (x : Gl2G) : List (L Unit) := [e0_, .os () 1 (List.map iL x.f.params), .int .i64 x.f.ret, .os () 6 (List.map (eBlock true) x.f.blocks), .os () 2 (List.map (ePhi true) x.b.phis), .os () 7 (List.map (eInst false) x.b.insts), .int .i64 x.b.term.kind, .int .i64 x.b.term.a, .int .i64 x.b.term.x, .int .i64 x.b.term.y, .int .i64 x.next, .bs () 1 (List.map iL x.ids), .bs () 1 (List.map iL x.ws), e1_, e2_]
instance T2i : FacT Tryz.prog 2 { kd := .int .i64, agg := false, size := 1, bytes := 8, zero := [.int .i64 0], fields := [], elem := 0, places := [] } := ⟨by kernel_rfl⟩
abbrev T2 := T2i.h
instance T3i : FacT Tryz.prog 3 { kd := .int .i64, agg := false, size := 1, bytes := 8, zero := [.int .i64 0], fields := [], elem := 0, places := [] } := ⟨by kernel_rfl⟩
abbrev T3 := T3i.h
instance T4i : FacT Tryz.prog 4 { kd := .bool, agg := false, size := 1, bytes := 1, zero := [.bool false], fields := [], elem := 0, places := [] } := ⟨by kernel_rfl⟩
abbrev T4 := T4i.h
instance T5i : FacT Tryz.prog 5 { kd := .int .u8, agg := false, size := 1, bytes := 1, zero := [.int .u8 0], fields := [], elem := 0, places := [] } := ⟨by kernel_rfl⟩
abbrev T5 := T5i.h
instance T22i : FacT Tryz.prog 22 { kd := .slice, agg := false, size := 1, bytes := 24, zero := [.nl], fields := [], elem := 5, places := [] } := ⟨by kernel_rfl⟩
abbrev T22 := T22i.h
instance T24i : FacT Tryz.prog 24 { kd := .slice, agg := false, size := 1, bytes := 24, zero := [.nl], fields := [], elem := 2, places := [] } := ⟨by kernel_rfl⟩
abbrev T24 := T24i.h
instance T25i : FacT Tryz.prog 25 { kd := .slice, agg := false, size := 1, bytes := 24, zero := [.nl], fields := [], elem := 53, places := [] } := ⟨by kernel_rfl⟩
abbrev T25 := T25i.h
instance T27i : FacT Tryz.prog 27 { kd := .struct, agg := true, size := 3, bytes := 56, zero := [.nl, .int .i64 0, .nl], fields := [(0, 24), (1, 2), (2, 25)], elem := 0, places := [(0, 1), (1, 1), (2, 1)] } := ⟨by kernel_rfl⟩
abbrev T27 := T27i.h
instance T29i : FacT Tryz.prog 29 { kd := .struct, agg := true, size := 7, bytes := 72, zero := [.int .i64 0, .int .i64 0, .int .i64 0, .int .i64 0, .int .i64 0, .int .i64 0, .nl], fields := [(0, 2), (1, 2), (2, 2), (3, 2), (4, 2), (5, 2), (6, 24)], elem := 0, places := [(0, 1), (1, 1), (2, 1), (3, 1), (4, 1), (5, 1), (6, 1)] } := ⟨by kernel_rfl⟩
abbrev T29 := T29i.h
instance T38i : FacT Tryz.prog 38 { kd := .slice, agg := false, size := 1, bytes := 24, zero := [.nl], fields := [], elem := 27, places := [] } := ⟨by kernel_rfl⟩
abbrev T38 := T38i.h
instance T40i : FacT Tryz.prog 40 { kd := .struct, agg := true, size := 1, bytes := 24, zero := [.nl], fields := [(0, 38)], elem := 0, places := [(0, 1)] } := ⟨by kernel_rfl⟩
abbrev T40 := T40i.h
instance T48i : FacT Tryz.prog 48 { kd := .slice, agg := false, size := 1, bytes := 24, zero := [.nl], fields := [], elem := 55, places := [] } := ⟨by kernel_rfl⟩
abbrev T48 := T48i.h
instance T49i : FacT Tryz.prog 49 { kd := .slice, agg := false, size := 1, bytes := 24, zero := [.nl], fields := [], elem := 29, places := [] } := ⟨by kernel_rfl⟩
abbrev T49 := T49i.h
instance T51i : FacT Tryz.prog 51 { kd := .struct, agg := true, size := 4, bytes := 32, zero := [.int .i64 0, .int .i64 0, .int .i64 0, .int .i64 0], fields := [(0, 2), (1, 2), (2, 2), (3, 2)], elem := 0, places := [(0, 1), (1, 1), (2, 1), (3, 1)] } := ⟨by kernel_rfl⟩
abbrev T51 := T51i.h
instance T53i : FacT Tryz.prog 53 { kd := .struct, agg := true, size := 6, bytes := 80, zero := [.nl, .nl, .int .i64 0, .int .i64 0, .int .i64 0, .int .i64 0], fields := [(0, 48), (1, 49), (2, 51)], elem := 0, places := [(0, 1), (1, 1), (2, 4)] } := ⟨by kernel_rfl⟩
abbrev T53 := T53i.h
instance T55i : FacT Tryz.prog 55 { kd := .struct, agg := true, size := 2, bytes := 32, zero := [.int .i64 0, .nl], fields := [(0, 2), (1, 24)], elem := 0, places := [(0, 1), (1, 1)] } := ⟨by kernel_rfl⟩
abbrev T55 := T55i.h
instance T79i : FacT Tryz.prog 79 { kd := .ptr, agg := false, size := 1, bytes := 8, zero := [.nilp], fields := [], elem := 0, places := [] } := ⟨by kernel_rfl⟩
abbrev T79 := T79i.h
instance T105i : FacT Tryz.prog 105 { kd := .slice, agg := false, size := 1, bytes := 24, zero := [.nl], fields := [], elem := 24, places := [] } := ⟨by kernel_rfl⟩
abbrev T105 := T105i.h
instance T117i : FacT Tryz.prog 117 { kd := .struct, agg := true, size := 2, bytes := 32, zero := [.nl, .int .i64 0], fields := [(0, 22), (1, 3)], elem := 0, places := [(0, 1), (1, 1)] } := ⟨by kernel_rfl⟩
abbrev T117 := T117i.h
instance T167i : FacT Tryz.prog 167 { kd := .struct, agg := true, size := 15, bytes := 248, zero := [.nilp, .nl, .int .i64 0, .nl, .nl, .nl, .int .i64 0, .int .i64 0, .int .i64 0, .int .i64 0, .int .i64 0, .nl, .nl, .nl, .nl], fields := [(0, 79), (1, 27), (4, 53), (10, 2), (11, 24), (12, 24), (13, 24), (14, 105)], elem := 0, places := [(0, 1), (1, 3), (4, 6), (10, 1), (11, 1), (12, 1), (13, 1), (14, 1)] } := ⟨by kernel_rfl⟩
abbrev T167 := T167i.h
instance T170i : FacT Tryz.prog 170 { kd := .int .u64, agg := false, size := 1, bytes := 8, zero := [.int .u64 0], fields := [], elem := 0, places := [] } := ⟨by kernel_rfl⟩
abbrev T170 := T170i.h
instance T172i : FacT Tryz.prog 172 { kd := .int .u64, agg := false, size := 1, bytes := 8, zero := [.int .u64 0], fields := [], elem := 0, places := [] } := ⟨by kernel_rfl⟩
abbrev T172 := T172i.h
instance E22i : FacE Tryz.prog 22 1 := ⟨by kernel_rfl⟩
abbrev E22 := E22i.h
instance E24i : FacE Tryz.prog 24 1 := ⟨by kernel_rfl⟩
abbrev E24 := E24i.h
instance E25i : FacE Tryz.prog 25 6 := ⟨by kernel_rfl⟩
abbrev E25 := E25i.h
instance E38i : FacE Tryz.prog 38 3 := ⟨by kernel_rfl⟩
abbrev E38 := E38i.h
instance E48i : FacE Tryz.prog 48 2 := ⟨by kernel_rfl⟩
abbrev E48 := E48i.h
instance E49i : FacE Tryz.prog 49 7 := ⟨by kernel_rfl⟩
abbrev E49 := E49i.h
instance E105i : FacE Tryz.prog 105 1 := ⟨by kernel_rfl⟩
abbrev E105 := E105i.h
instance A24i : FacA Tryz.prog 24 (1, 8, [.int .i64 0]) := ⟨by kernel_rfl⟩
abbrev A24 := A24i.h
instance A25i : FacA Tryz.prog 25 (6, 80, [.nl, .nl, .int .i64 0, .int .i64 0, .int .i64 0, .int .i64 0]) := ⟨by kernel_rfl⟩
abbrev A25 := A25i.h
instance A38i : FacA Tryz.prog 38 (3, 56, [.nl, .int .i64 0, .nl]) := ⟨by kernel_rfl⟩
abbrev A38 := A38i.h
instance A48i : FacA Tryz.prog 48 (2, 32, [.int .i64 0, .nl]) := ⟨by kernel_rfl⟩
abbrev A48 := A48i.h
instance A49i : FacA Tryz.prog 49 (7, 72, [.int .i64 0, .int .i64 0, .int .i64 0, .int .i64 0, .int .i64 0, .int .i64 0, .nl]) := ⟨by kernel_rfl⟩
abbrev A49 := A49i.h
instance A105i : FacA Tryz.prog 105 (1, 24, [.nl]) := ⟨by kernel_rfl⟩
abbrev A105 := A105i.h
instance N22i : FacN Tryz.prog 22 .slice := ⟨by kernel_rfl⟩
abbrev N22 := N22i.h
instance N24i : FacN Tryz.prog 24 .slice := ⟨by kernel_rfl⟩
abbrev N24 := N24i.h
instance N25i : FacN Tryz.prog 25 .slice := ⟨by kernel_rfl⟩
abbrev N25 := N25i.h
instance N38i : FacN Tryz.prog 38 .slice := ⟨by kernel_rfl⟩
abbrev N38 := N38i.h
instance N48i : FacN Tryz.prog 48 .slice := ⟨by kernel_rfl⟩
abbrev N48 := N48i.h
instance N49i : FacN Tryz.prog 49 .slice := ⟨by kernel_rfl⟩
abbrev N49 := N49i.h
instance N105i : FacN Tryz.prog 105 .slice := ⟨by kernel_rfl⟩
abbrev N105 := N105i.h
instance F27_0i : FacF Tryz.prog 27 0 (0, { kd := .slice, agg := false, size := 1, bytes := 24, zero := [.nl], fields := [], elem := 2, places := [] }) := ⟨by kernel_rfl⟩
abbrev F27_0 := F27_0i.h
instance F27_1i : FacF Tryz.prog 27 1 (1, { kd := .int .i64, agg := false, size := 1, bytes := 8, zero := [.int .i64 0], fields := [], elem := 0, places := [] }) := ⟨by kernel_rfl⟩
abbrev F27_1 := F27_1i.h
instance F27_2i : FacF Tryz.prog 27 2 (2, { kd := .slice, agg := false, size := 1, bytes := 24, zero := [.nl], fields := [], elem := 53, places := [] }) := ⟨by kernel_rfl⟩
abbrev F27_2 := F27_2i.h
instance F29_0i : FacF Tryz.prog 29 0 (0, { kd := .int .i64, agg := false, size := 1, bytes := 8, zero := [.int .i64 0], fields := [], elem := 0, places := [] }) := ⟨by kernel_rfl⟩
abbrev F29_0 := F29_0i.h
instance F29_1i : FacF Tryz.prog 29 1 (1, { kd := .int .i64, agg := false, size := 1, bytes := 8, zero := [.int .i64 0], fields := [], elem := 0, places := [] }) := ⟨by kernel_rfl⟩
abbrev F29_1 := F29_1i.h
instance F29_2i : FacF Tryz.prog 29 2 (2, { kd := .int .i64, agg := false, size := 1, bytes := 8, zero := [.int .i64 0], fields := [], elem := 0, places := [] }) := ⟨by kernel_rfl⟩
abbrev F29_2 := F29_2i.h
instance F29_3i : FacF Tryz.prog 29 3 (3, { kd := .int .i64, agg := false, size := 1, bytes := 8, zero := [.int .i64 0], fields := [], elem := 0, places := [] }) := ⟨by kernel_rfl⟩
abbrev F29_3 := F29_3i.h
instance F29_4i : FacF Tryz.prog 29 4 (4, { kd := .int .i64, agg := false, size := 1, bytes := 8, zero := [.int .i64 0], fields := [], elem := 0, places := [] }) := ⟨by kernel_rfl⟩
abbrev F29_4 := F29_4i.h
instance F29_5i : FacF Tryz.prog 29 5 (5, { kd := .int .i64, agg := false, size := 1, bytes := 8, zero := [.int .i64 0], fields := [], elem := 0, places := [] }) := ⟨by kernel_rfl⟩
abbrev F29_5 := F29_5i.h
instance F29_6i : FacF Tryz.prog 29 6 (6, { kd := .slice, agg := false, size := 1, bytes := 24, zero := [.nl], fields := [], elem := 2, places := [] }) := ⟨by kernel_rfl⟩
abbrev F29_6 := F29_6i.h
instance F40_0i : FacF Tryz.prog 40 0 (0, { kd := .slice, agg := false, size := 1, bytes := 24, zero := [.nl], fields := [], elem := 27, places := [] }) := ⟨by kernel_rfl⟩
abbrev F40_0 := F40_0i.h
instance F51_0i : FacF Tryz.prog 51 0 (0, { kd := .int .i64, agg := false, size := 1, bytes := 8, zero := [.int .i64 0], fields := [], elem := 0, places := [] }) := ⟨by kernel_rfl⟩
abbrev F51_0 := F51_0i.h
instance F51_1i : FacF Tryz.prog 51 1 (1, { kd := .int .i64, agg := false, size := 1, bytes := 8, zero := [.int .i64 0], fields := [], elem := 0, places := [] }) := ⟨by kernel_rfl⟩
abbrev F51_1 := F51_1i.h
instance F51_2i : FacF Tryz.prog 51 2 (2, { kd := .int .i64, agg := false, size := 1, bytes := 8, zero := [.int .i64 0], fields := [], elem := 0, places := [] }) := ⟨by kernel_rfl⟩
abbrev F51_2 := F51_2i.h
instance F51_3i : FacF Tryz.prog 51 3 (3, { kd := .int .i64, agg := false, size := 1, bytes := 8, zero := [.int .i64 0], fields := [], elem := 0, places := [] }) := ⟨by kernel_rfl⟩
abbrev F51_3 := F51_3i.h
instance F53_0i : FacF Tryz.prog 53 0 (0, { kd := .slice, agg := false, size := 1, bytes := 24, zero := [.nl], fields := [], elem := 55, places := [] }) := ⟨by kernel_rfl⟩
abbrev F53_0 := F53_0i.h
instance F53_1i : FacF Tryz.prog 53 1 (1, { kd := .slice, agg := false, size := 1, bytes := 24, zero := [.nl], fields := [], elem := 29, places := [] }) := ⟨by kernel_rfl⟩
abbrev F53_1 := F53_1i.h
instance F53_2i : FacF Tryz.prog 53 2 (2, { kd := .struct, agg := true, size := 4, bytes := 32, zero := [.int .i64 0, .int .i64 0, .int .i64 0, .int .i64 0], fields := [(0, 2), (1, 2), (2, 2), (3, 2)], elem := 0, places := [(0, 1), (1, 1), (2, 1), (3, 1)] }) := ⟨by kernel_rfl⟩
abbrev F53_2 := F53_2i.h
instance F55_0i : FacF Tryz.prog 55 0 (0, { kd := .int .i64, agg := false, size := 1, bytes := 8, zero := [.int .i64 0], fields := [], elem := 0, places := [] }) := ⟨by kernel_rfl⟩
abbrev F55_0 := F55_0i.h
instance F55_1i : FacF Tryz.prog 55 1 (1, { kd := .slice, agg := false, size := 1, bytes := 24, zero := [.nl], fields := [], elem := 2, places := [] }) := ⟨by kernel_rfl⟩
abbrev F55_1 := F55_1i.h
instance F117_0i : FacF Tryz.prog 117 0 (0, { kd := .slice, agg := false, size := 1, bytes := 24, zero := [.nl], fields := [], elem := 5, places := [] }) := ⟨by kernel_rfl⟩
abbrev F117_0 := F117_0i.h
instance F117_1i : FacF Tryz.prog 117 1 (1, { kd := .int .i64, agg := false, size := 1, bytes := 8, zero := [.int .i64 0], fields := [], elem := 0, places := [] }) := ⟨by kernel_rfl⟩
abbrev F117_1 := F117_1i.h
instance F167_0i : FacF Tryz.prog 167 0 (0, { kd := .ptr, agg := false, size := 1, bytes := 8, zero := [.nilp], fields := [], elem := 0, places := [] }) := ⟨by kernel_rfl⟩
abbrev F167_0 := F167_0i.h
instance F167_1i : FacF Tryz.prog 167 1 (1, { kd := .struct, agg := true, size := 3, bytes := 56, zero := [.nl, .int .i64 0, .nl], fields := [(0, 24), (1, 2), (2, 25)], elem := 0, places := [(0, 1), (1, 1), (2, 1)] }) := ⟨by kernel_rfl⟩
abbrev F167_1 := F167_1i.h
instance F167_2i : FacF Tryz.prog 167 2 (4, { kd := .struct, agg := true, size := 6, bytes := 80, zero := [.nl, .nl, .int .i64 0, .int .i64 0, .int .i64 0, .int .i64 0], fields := [(0, 48), (1, 49), (2, 51)], elem := 0, places := [(0, 1), (1, 1), (2, 4)] }) := ⟨by kernel_rfl⟩
abbrev F167_2 := F167_2i.h
instance F167_3i : FacF Tryz.prog 167 3 (10, { kd := .int .i64, agg := false, size := 1, bytes := 8, zero := [.int .i64 0], fields := [], elem := 0, places := [] }) := ⟨by kernel_rfl⟩
abbrev F167_3 := F167_3i.h
instance F167_4i : FacF Tryz.prog 167 4 (11, { kd := .slice, agg := false, size := 1, bytes := 24, zero := [.nl], fields := [], elem := 2, places := [] }) := ⟨by kernel_rfl⟩
abbrev F167_4 := F167_4i.h
instance F167_5i : FacF Tryz.prog 167 5 (12, { kd := .slice, agg := false, size := 1, bytes := 24, zero := [.nl], fields := [], elem := 2, places := [] }) := ⟨by kernel_rfl⟩
abbrev F167_5 := F167_5i.h
instance F167_6i : FacF Tryz.prog 167 6 (13, { kd := .slice, agg := false, size := 1, bytes := 24, zero := [.nl], fields := [], elem := 2, places := [] }) := ⟨by kernel_rfl⟩
abbrev F167_6 := F167_6i.h
instance F167_7i : FacF Tryz.prog 167 7 (14, { kd := .slice, agg := false, size := 1, bytes := 24, zero := [.nl], fields := [], elem := 24, places := [] }) := ⟨by kernel_rfl⟩
abbrev F167_7 := F167_7i.h
theorem ent13 : Ent Tryz.prog 13 := ⟨Tryz.f13, Tryz.func13, by decide +kernel, rfl⟩
instance : EntC Tryz.prog 13 := ⟨ent13⟩
theorem ent14 : Ent Tryz.prog 14 := ⟨Tryz.f14, Tryz.func14, by decide +kernel, rfl⟩
instance : EntC Tryz.prog 14 := ⟨ent14⟩
theorem ent15 : Ent Tryz.prog 15 := ⟨Tryz.f15, Tryz.func15, by decide +kernel, rfl⟩
instance : EntC Tryz.prog 15 := ⟨ent15⟩
theorem ent16 : Ent Tryz.prog 16 := ⟨Tryz.f16, Tryz.func16, by decide +kernel, rfl⟩
instance : EntC Tryz.prog 16 := ⟨ent16⟩
theorem ent17 : Ent Tryz.prog 17 := ⟨Tryz.f17, Tryz.func17, by decide +kernel, rfl⟩
instance : EntC Tryz.prog 17 := ⟨ent17⟩
theorem ent18 : Ent Tryz.prog 18 := ⟨Tryz.f18, Tryz.func18, by decide +kernel, rfl⟩
instance : EntC Tryz.prog 18 := ⟨ent18⟩
theorem ent19 : Ent Tryz.prog 19 := ⟨Tryz.f19, Tryz.func19, by decide +kernel, rfl⟩
instance : EntC Tryz.prog 19 := ⟨ent19⟩
theorem ent20 : Ent Tryz.prog 20 := ⟨Tryz.f20, Tryz.func20, by decide +kernel, rfl⟩
instance : EntC Tryz.prog 20 := ⟨ent20⟩
theorem ent30 : Ent Tryz.prog 30 := ⟨Tryz.f30, Tryz.func30, by decide +kernel, rfl⟩
instance : EntC Tryz.prog 30 := ⟨ent30⟩
theorem ent58 : Ent Tryz.prog 58 := ⟨Tryz.f58, Tryz.func58, by decide +kernel, rfl⟩
instance : EntC Tryz.prog 58 := ⟨ent58⟩
theorem ent59 : Ent Tryz.prog 59 := ⟨Tryz.f59, Tryz.func59, by decide +kernel, rfl⟩
instance : EntC Tryz.prog 59 := ⟨ent59⟩
theorem ent60 : Ent Tryz.prog 60 := ⟨Tryz.f60, Tryz.func60, by decide +kernel, rfl⟩
instance : EntC Tryz.prog 60 := ⟨ent60⟩
theorem ent61 : Ent Tryz.prog 61 := ⟨Tryz.f61, Tryz.func61, by decide +kernel, rfl⟩
instance : EntC Tryz.prog 61 := ⟨ent61⟩
theorem ent62 : Ent Tryz.prog 62 := ⟨Tryz.f62, Tryz.func62, by decide +kernel, rfl⟩
instance : EntC Tryz.prog 62 := ⟨ent62⟩
theorem ent63 : Ent Tryz.prog 63 := ⟨Tryz.f63, Tryz.func63, by decide +kernel, rfl⟩
instance : EntC Tryz.prog 63 := ⟨ent63⟩
theorem ent64 : Ent Tryz.prog 64 := ⟨Tryz.f64, Tryz.func64, by decide +kernel, rfl⟩
instance : EntC Tryz.prog 64 := ⟨ent64⟩
theorem ent65 : Ent Tryz.prog 65 := ⟨Tryz.f65, Tryz.func65, by decide +kernel, rfl⟩
instance : EntC Tryz.prog 65 := ⟨ent65⟩
theorem ent66 : Ent Tryz.prog 66 := ⟨Tryz.f66, Tryz.func66, by decide +kernel, rfl⟩
instance : EntC Tryz.prog 66 := ⟨ent66⟩
theorem ent67 : Ent Tryz.prog 67 := ⟨Tryz.f67, Tryz.func67, by decide +kernel, rfl⟩
instance : EntC Tryz.prog 67 := ⟨ent67⟩
theorem ent68 : Ent Tryz.prog 68 := ⟨Tryz.f68, Tryz.func68, by decide +kernel, rfl⟩
instance : EntC Tryz.prog 68 := ⟨ent68⟩
theorem ent69 : Ent Tryz.prog 69 := ⟨Tryz.f69, Tryz.func69, by decide +kernel, rfl⟩
instance : EntC Tryz.prog 69 := ⟨ent69⟩
theorem ent70 : Ent Tryz.prog 70 := ⟨Tryz.f70, Tryz.func70, by decide +kernel, rfl⟩
instance : EntC Tryz.prog 70 := ⟨ent70⟩
theorem ent71 : Ent Tryz.prog 71 := ⟨Tryz.f71, Tryz.func71, by decide +kernel, rfl⟩
instance : EntC Tryz.prog 71 := ⟨ent71⟩
theorem ent72 : Ent Tryz.prog 72 := ⟨Tryz.f72, Tryz.func72, by decide +kernel, rfl⟩
instance : EntC Tryz.prog 72 := ⟨ent72⟩
theorem ent73 : Ent Tryz.prog 73 := ⟨Tryz.f73, Tryz.func73, by decide +kernel, rfl⟩
instance : EntC Tryz.prog 73 := ⟨ent73⟩
theorem ent74 : Ent Tryz.prog 74 := ⟨Tryz.f74, Tryz.func74, by decide +kernel, rfl⟩
instance : EntC Tryz.prog 74 := ⟨ent74⟩
theorem ent75 : Ent Tryz.prog 75 := ⟨Tryz.f75, Tryz.func75, by decide +kernel, rfl⟩
instance : EntC Tryz.prog 75 := ⟨ent75⟩
theorem ent76 : Ent Tryz.prog 76 := ⟨Tryz.f76, Tryz.func76, by decide +kernel, rfl⟩
instance : EntC Tryz.prog 76 := ⟨ent76⟩
theorem ent80 : Ent Tryz.prog 80 := ⟨Tryz.f80, Tryz.func80, by decide +kernel, rfl⟩
instance : EntC Tryz.prog 80 := ⟨ent80⟩
theorem ent81 : Ent Tryz.prog 81 := ⟨Tryz.f81, Tryz.func81, by decide +kernel, rfl⟩
instance : EntC Tryz.prog 81 := ⟨ent81⟩
theorem ent84 : Ent Tryz.prog 84 := ⟨Tryz.f84, Tryz.func84, by decide +kernel, rfl⟩
instance : EntC Tryz.prog 84 := ⟨ent84⟩
theorem ent87 : Ent Tryz.prog 87 := ⟨Tryz.f87, Tryz.func87, by decide +kernel, rfl⟩
instance : EntC Tryz.prog 87 := ⟨ent87⟩
theorem ent88 : Ent Tryz.prog 88 := ⟨Tryz.f88, Tryz.func88, by decide +kernel, rfl⟩
instance : EntC Tryz.prog 88 := ⟨ent88⟩
theorem ent98 : Ent Tryz.prog 98 := ⟨Tryz.f98, Tryz.func98, by decide +kernel, rfl⟩
instance : EntC Tryz.prog 98 := ⟨ent98⟩
theorem ent107 : Ent Tryz.prog 107 := ⟨Tryz.f107, Tryz.func107, by decide +kernel, rfl⟩
instance : EntC Tryz.prog 107 := ⟨ent107⟩
theorem ent111 : Ent Tryz.prog 111 := ⟨Tryz.f111, Tryz.func111, by decide +kernel, rfl⟩
instance : EntC Tryz.prog 111 := ⟨ent111⟩
theorem ent114 : Ent Tryz.prog 114 := ⟨Tryz.f114, Tryz.func114, by decide +kernel, rfl⟩
instance : EntC Tryz.prog 114 := ⟨ent114⟩
theorem ent115 : Ent Tryz.prog 115 := ⟨Tryz.f115, Tryz.func115, by decide +kernel, rfl⟩
instance : EntC Tryz.prog 115 := ⟨ent115⟩
theorem ent116 : Ent Tryz.prog 116 := ⟨Tryz.f116, Tryz.func116, by decide +kernel, rfl⟩
instance : EntC Tryz.prog 116 := ⟨ent116⟩
theorem ent117 : Ent Tryz.prog 117 := ⟨Tryz.f117, Tryz.func117, by decide +kernel, rfl⟩
instance : EntC Tryz.prog 117 := ⟨ent117⟩
theorem ent118 : Ent Tryz.prog 118 := ⟨Tryz.f118, Tryz.func118, by decide +kernel, rfl⟩
instance : EntC Tryz.prog 118 := ⟨ent118⟩
theorem ent119 : Ent Tryz.prog 119 := ⟨Tryz.f119, Tryz.func119, by decide +kernel, rfl⟩
instance : EntC Tryz.prog 119 := ⟨ent119⟩
theorem ent120 : Ent Tryz.prog 120 := ⟨Tryz.f120, Tryz.func120, by decide +kernel, rfl⟩
instance : EntC Tryz.prog 120 := ⟨ent120⟩
theorem ent121 : Ent Tryz.prog 121 := ⟨Tryz.f121, Tryz.func121, by decide +kernel, rfl⟩
instance : EntC Tryz.prog 121 := ⟨ent121⟩
theorem ent122 : Ent Tryz.prog 122 := ⟨Tryz.f122, Tryz.func122, by decide +kernel, rfl⟩
instance : EntC Tryz.prog 122 := ⟨ent122⟩
theorem ent123 : Ent Tryz.prog 123 := ⟨Tryz.f123, Tryz.func123, by decide +kernel, rfl⟩
instance : EntC Tryz.prog 123 := ⟨ent123⟩
theorem ent124 : Ent Tryz.prog 124 := ⟨Tryz.f124, Tryz.func124, by decide +kernel, rfl⟩
instance : EntC Tryz.prog 124 := ⟨ent124⟩
theorem ent125 : Ent Tryz.prog 125 := ⟨Tryz.f125, Tryz.func125, by decide +kernel, rfl⟩
instance : EntC Tryz.prog 125 := ⟨ent125⟩
theorem ent126 : Ent Tryz.prog 126 := ⟨Tryz.f126, Tryz.func126, by decide +kernel, rfl⟩
instance : EntC Tryz.prog 126 := ⟨ent126⟩
theorem ent127 : Ent Tryz.prog 127 := ⟨Tryz.f127, Tryz.func127, by decide +kernel, rfl⟩
instance : EntC Tryz.prog 127 := ⟨ent127⟩
theorem ent128 : Ent Tryz.prog 128 := ⟨Tryz.f128, Tryz.func128, by decide +kernel, rfl⟩
instance : EntC Tryz.prog 128 := ⟨ent128⟩
theorem ent129 : Ent Tryz.prog 129 := ⟨Tryz.f129, Tryz.func129, by decide +kernel, rfl⟩
instance : EntC Tryz.prog 129 := ⟨ent129⟩
theorem ent130 : Ent Tryz.prog 130 := ⟨Tryz.f130, Tryz.func130, by decide +kernel, rfl⟩
instance : EntC Tryz.prog 130 := ⟨ent130⟩
theorem ent131 : Ent Tryz.prog 131 := ⟨Tryz.f131, Tryz.func131, by decide +kernel, rfl⟩
instance : EntC Tryz.prog 131 := ⟨ent131⟩
theorem ent132 : Ent Tryz.prog 132 := ⟨Tryz.f132, Tryz.func132, by decide +kernel, rfl⟩
instance : EntC Tryz.prog 132 := ⟨ent132⟩
theorem ent133 : Ent Tryz.prog 133 := ⟨Tryz.f133, Tryz.func133, by decide +kernel, rfl⟩
instance : EntC Tryz.prog 133 := ⟨ent133⟩
theorem ent134 : Ent Tryz.prog 134 := ⟨Tryz.f134, Tryz.func134, by decide +kernel, rfl⟩
instance : EntC Tryz.prog 134 := ⟨ent134⟩
theorem ent135 : Ent Tryz.prog 135 := ⟨Tryz.f135, Tryz.func135, by decide +kernel, rfl⟩
instance : EntC Tryz.prog 135 := ⟨ent135⟩
theorem ent136 : Ent Tryz.prog 136 := ⟨Tryz.f136, Tryz.func136, by decide +kernel, rfl⟩
instance : EntC Tryz.prog 136 := ⟨ent136⟩
theorem ent137 : Ent Tryz.prog 137 := ⟨Tryz.f137, Tryz.func137, by decide +kernel, rfl⟩
instance : EntC Tryz.prog 137 := ⟨ent137⟩
theorem ent138 : Ent Tryz.prog 138 := ⟨Tryz.f138, Tryz.func138, by decide +kernel, rfl⟩
instance : EntC Tryz.prog 138 := ⟨ent138⟩
theorem ent139 : Ent Tryz.prog 139 := ⟨Tryz.f139, Tryz.func139, by decide +kernel, rfl⟩
instance : EntC Tryz.prog 139 := ⟨ent139⟩
theorem ent140 : Ent Tryz.prog 140 := ⟨Tryz.f140, Tryz.func140, by decide +kernel, rfl⟩
instance : EntC Tryz.prog 140 := ⟨ent140⟩
theorem ent141 : Ent Tryz.prog 141 := ⟨Tryz.f141, Tryz.func141, by decide +kernel, rfl⟩
instance : EntC Tryz.prog 141 := ⟨ent141⟩
theorem ent142 : Ent Tryz.prog 142 := ⟨Tryz.f142, Tryz.func142, by decide +kernel, rfl⟩
instance : EntC Tryz.prog 142 := ⟨ent142⟩
theorem ent146 : Ent Tryz.prog 146 := ⟨Tryz.f146, Tryz.func146, by decide +kernel, rfl⟩
instance : EntC Tryz.prog 146 := ⟨ent146⟩
theorem ent157 : Ent Tryz.prog 157 := ⟨Tryz.f157, Tryz.func157, by decide +kernel, rfl⟩
instance : EntC Tryz.prog 157 := ⟨ent157⟩
theorem ent158 : Ent Tryz.prog 158 := ⟨Tryz.f158, Tryz.func158, by decide +kernel, rfl⟩
instance : EntC Tryz.prog 158 := ⟨ent158⟩
theorem ent159 : Ent Tryz.prog 159 := ⟨Tryz.f159, Tryz.func159, by decide +kernel, rfl⟩
instance : EntC Tryz.prog 159 := ⟨ent159⟩
theorem ent160 : Ent Tryz.prog 160 := ⟨Tryz.f160, Tryz.func160, by decide +kernel, rfl⟩
instance : EntC Tryz.prog 160 := ⟨ent160⟩
theorem ent161 : Ent Tryz.prog 161 := ⟨Tryz.f161, Tryz.func161, by decide +kernel, rfl⟩
instance : EntC Tryz.prog 161 := ⟨ent161⟩
theorem ent162 : Ent Tryz.prog 162 := ⟨Tryz.f162, Tryz.func162, by decide +kernel, rfl⟩
instance : EntC Tryz.prog 162 := ⟨ent162⟩
theorem ent163 : Ent Tryz.prog 163 := ⟨Tryz.f163, Tryz.func163, by decide +kernel, rfl⟩
instance : EntC Tryz.prog 163 := ⟨ent163⟩
theorem ent165 : Ent Tryz.prog 165 := ⟨Tryz.f165, Tryz.func165, by decide +kernel, rfl⟩
instance : EntC Tryz.prog 165 := ⟨ent165⟩
theorem ent167 : Ent Tryz.prog 167 := ⟨Tryz.f167, Tryz.func167, by decide +kernel, rfl⟩
instance : EntC Tryz.prog 167 := ⟨ent167⟩
theorem ent188 : Ent Tryz.prog 188 := ⟨Tryz.f188, Tryz.func188, by decide +kernel, rfl⟩
instance : EntC Tryz.prog 188 := ⟨ent188⟩
theorem ent192 : Ent Tryz.prog 192 := ⟨Tryz.f192, Tryz.func192, by decide +kernel, rfl⟩
instance : EntC Tryz.prog 192 := ⟨ent192⟩
theorem ent193 : Ent Tryz.prog 193 := ⟨Tryz.f193, Tryz.func193, by decide +kernel, rfl⟩
instance : EntC Tryz.prog 193 := ⟨ent193⟩
theorem ent194 : Ent Tryz.prog 194 := ⟨Tryz.f194, Tryz.func194, by decide +kernel, rfl⟩
instance : EntC Tryz.prog 194 := ⟨ent194⟩
theorem ent195 : Ent Tryz.prog 195 := ⟨Tryz.f195, Tryz.func195, by decide +kernel, rfl⟩
instance : EntC Tryz.prog 195 := ⟨ent195⟩
theorem ent196 : Ent Tryz.prog 196 := ⟨Tryz.f196, Tryz.func196, by decide +kernel, rfl⟩
instance : EntC Tryz.prog 196 := ⟨ent196⟩
theorem ent197 : Ent Tryz.prog 197 := ⟨Tryz.f197, Tryz.func197, by decide +kernel, rfl⟩
instance : EntC Tryz.prog 197 := ⟨ent197⟩
theorem ent198 : Ent Tryz.prog 198 := ⟨Tryz.f198, Tryz.func198, by decide +kernel, rfl⟩
instance : EntC Tryz.prog 198 := ⟨ent198⟩
theorem ent199 : Ent Tryz.prog 199 := ⟨Tryz.f199, Tryz.func199, by decide +kernel, rfl⟩
instance : EntC Tryz.prog 199 := ⟨ent199⟩
theorem ent200 : Ent Tryz.prog 200 := ⟨Tryz.f200, Tryz.func200, by decide +kernel, rfl⟩
instance : EntC Tryz.prog 200 := ⟨ent200⟩
theorem ent201 : Ent Tryz.prog 201 := ⟨Tryz.f201, Tryz.func201, by decide +kernel, rfl⟩
instance : EntC Tryz.prog 201 := ⟨ent201⟩
theorem ent202 : Ent Tryz.prog 202 := ⟨Tryz.f202, Tryz.func202, by decide +kernel, rfl⟩
instance : EntC Tryz.prog 202 := ⟨ent202⟩
theorem ent203 : Ent Tryz.prog 203 := ⟨Tryz.f203, Tryz.func203, by decide +kernel, rfl⟩
instance : EntC Tryz.prog 203 := ⟨ent203⟩
theorem ent204 : Ent Tryz.prog 204 := ⟨Tryz.f204, Tryz.func204, by decide +kernel, rfl⟩
instance : EntC Tryz.prog 204 := ⟨ent204⟩
theorem ent205 : Ent Tryz.prog 205 := ⟨Tryz.f205, Tryz.func205, by decide +kernel, rfl⟩
instance : EntC Tryz.prog 205 := ⟨ent205⟩
theorem ent206 : Ent Tryz.prog 206 := ⟨Tryz.f206, Tryz.func206, by decide +kernel, rfl⟩
instance : EntC Tryz.prog 206 := ⟨ent206⟩
theorem ent207 : Ent Tryz.prog 207 := ⟨Tryz.f207, Tryz.func207, by decide +kernel, rfl⟩
instance : EntC Tryz.prog 207 := ⟨ent207⟩
theorem ent208 : Ent Tryz.prog 208 := ⟨Tryz.f208, Tryz.func208, by decide +kernel, rfl⟩
instance : EntC Tryz.prog 208 := ⟨ent208⟩
theorem ent209 : Ent Tryz.prog 209 := ⟨Tryz.f209, Tryz.func209, by decide +kernel, rfl⟩
instance : EntC Tryz.prog 209 := ⟨ent209⟩
theorem ent214 : Ent Tryz.prog 214 := ⟨Tryz.f214, Tryz.func214, by decide +kernel, rfl⟩
instance : EntC Tryz.prog 214 := ⟨ent214⟩
theorem ent220 : Ent Tryz.prog 220 := ⟨Tryz.f220, Tryz.func220, by decide +kernel, rfl⟩
instance : EntC Tryz.prog 220 := ⟨ent220⟩
theorem ent221 : Ent Tryz.prog 221 := ⟨Tryz.f221, Tryz.func221, by decide +kernel, rfl⟩
instance : EntC Tryz.prog 221 := ⟨ent221⟩
theorem ent238 : Ent Tryz.prog 238 := ⟨Tryz.f238, Tryz.func238, by decide +kernel, rfl⟩
instance : EntC Tryz.prog 238 := ⟨ent238⟩
theorem ent239 : Ent Tryz.prog 239 := ⟨Tryz.f239, Tryz.func239, by decide +kernel, rfl⟩
instance : EntC Tryz.prog 239 := ⟨ent239⟩
theorem ent240 : Ent Tryz.prog 240 := ⟨Tryz.f240, Tryz.func240, by decide +kernel, rfl⟩
instance : EntC Tryz.prog 240 := ⟨ent240⟩
theorem ent241 : Ent Tryz.prog 241 := ⟨Tryz.f241, Tryz.func241, by decide +kernel, rfl⟩
instance : EntC Tryz.prog 241 := ⟨ent241⟩
theorem ent242 : Ent Tryz.prog 242 := ⟨Tryz.f242, Tryz.func242, by decide +kernel, rfl⟩
instance : EntC Tryz.prog 242 := ⟨ent242⟩
theorem ent243 : Ent Tryz.prog 243 := ⟨Tryz.f243, Tryz.func243, by decide +kernel, rfl⟩
instance : EntC Tryz.prog 243 := ⟨ent243⟩
theorem ent244 : Ent Tryz.prog 244 := ⟨Tryz.f244, Tryz.func244, by decide +kernel, rfl⟩
instance : EntC Tryz.prog 244 := ⟨ent244⟩
theorem ent245 : Ent Tryz.prog 245 := ⟨Tryz.f245, Tryz.func245, by decide +kernel, rfl⟩
instance : EntC Tryz.prog 245 := ⟨ent245⟩
theorem ent246 : Ent Tryz.prog 246 := ⟨Tryz.f246, Tryz.func246, by decide +kernel, rfl⟩
instance : EntC Tryz.prog 246 := ⟨ent246⟩
theorem ent247 : Ent Tryz.prog 247 := ⟨Tryz.f247, Tryz.func247, by decide +kernel, rfl⟩
instance : EntC Tryz.prog 247 := ⟨ent247⟩
theorem ent277 : Ent Tryz.prog 277 := ⟨Tryz.f277, Tryz.func277, by decide +kernel, rfl⟩
instance : EntC Tryz.prog 277 := ⟨ent277⟩
theorem ent278 : Ent Tryz.prog 278 := ⟨Tryz.f278, Tryz.func278, by decide +kernel, rfl⟩
instance : EntC Tryz.prog 278 := ⟨ent278⟩
end Go.Proofs.YtghdhjgoicnbcaaGreat.AM

namespace Go.Proofs.YtghdhjgoicnbcaaGreat.AM
open Go
set_option linter.unusedSimpArgs false
set_option linter.unusedVariables false
set_option maxHeartbeats 8000000
set_option maxRecDepth 100000
attribute [local irreducible] aopK awpOps Wp St WpO
/-- laws.big -/
noncomputable def laws_big_m (code : List Int) : Bool :=
 (decide (((List.length code : Int)) > 1048576))
theorem laws_big_sim (code : List Int) : Sim Tryz.prog 13 [.one (.bs () 1 (List.map (iK .u8) code))] [] (.u (.one (.bool ((laws_big_m code))))) [] := by
 generalize hm : laws_big_m code = r
 refine fN 6 0 Tryz.func13 [.tmp 2] fun B hB0 => ?_
 unfold laws_big_m at hm
 refine yG ?_
 intro k1 hm
 cases hm
 exact rZ1
/-- spec.l1Open -/
noncomputable def spec_l1Open_m (code : List Int) : Gl1Rd :=
 (({ b := code, p := 0 } : Gl1Rd))
theorem spec_l1Open_sim (code : List Int) : Sim Tryz.prog 58 [.one (.bs () 1 (List.map (iK .u8) code))] [] (.u (.one (.ptr () 0 0 0))) [⟨(), 2, [el1Rd false ((spec_l1Open_m code))]⟩] := by
 generalize hm : spec_l1Open_m code = r
 refine fN 6 0 Tryz.func58 [.tmp 2] fun B hB0 => ?_
 unfold spec_l1Open_m at hm
 refine yG ?_
 intro _ hm
 cases hm
 exact rG1 [0]
/-- (*spec.l1Rd).next -/
noncomputable def spec_l1Rd_next_m (vr : Gl1Rd) : Option (Int × Gl1Rd) :=
 (if decide (vr.p ≥ ((List.length vr.b : Int))) = true then
 (some ((0, vr)))
 else
 (if inI (vr.p + 1) then
 (if inI (((({ b := vr.b, p := vr.p + 1 } : Gl1Rd)).p) - 1) then
 (if 0 ≤ (((({ b := vr.b, p := vr.p + 1 } : Gl1Rd)).p) - 1) ∧ (((({ b := vr.b, p := vr.p + 1 } : Gl1Rd)).p) - 1) < (List.length ((({ b := vr.b, p := vr.p + 1 } : Gl1Rd)).b) : Int) then
 (some ((IntKind.i64.wrap (at_ ((({ b := vr.b, p := vr.p + 1 } : Gl1Rd)).b) (((({ b := vr.b, p := vr.p + 1 } : Gl1Rd)).p) - 1)), ({ b := vr.b, p := vr.p + 1 } : Gl1Rd))))
 else none)
 else none)
 else none))
theorem spec_l1Rd_next_sim {vr : Gl1Rd} {r : Int × Gl1Rd} (hm : spec_l1Rd_next_m vr = some r) : Sim Tryz.prog 115 [.one (.ptr () 0 0 0)] [⟨(), 2, [el1Rd false vr]⟩] (.u (.one (.int .i64 r.1))) [⟨(), 2, [el1Rd false r.2]⟩] := by
 refine fN 32 1 Tryz.func115 [.tmp 2] fun B hB0 => ?_
 unfold spec_l1Rd_next_m at hm
 refine Wp.seq ?_
 refine c_regS ?_
 refine nO (x_as rfl rfl ?_)
 refine o_end ?_
 refine Wp.seq ?_
 refine Wp.seq ?_
 refine c_drw (Y := sysC _) mixed ?_
 refine tK 0 0 rfl (kV ?_)
 refine tK 1 1 rfl (kN ?_)
 refine tK 2 1 rfl (kF ?_)
 refine tK 3 1 rfl (kD ?_)
 refine tK 4 0 rfl (kV ?_)
 refine tK 5 1 rfl (kN ?_)
 refine tK 6 1 rfl (kF ?_)
 refine tK 7 1 rfl (kD ?_)
 refine tK 8 0 rfl (x_lnb N22 rfl fun hL1 => ?_)
 refine tK 9 0 rfl (x_bin T3 rfl rfl rfl ?_)
 refine aN ?_
 refine bS hm (fun hb2 hm => ?_) fun hb2 hm => ?_
 refine yG ?_
 intro _ hm
 cases hm
 exact rG1 [0]
 refine c_skip ?_
 refine Wp.seq ?_
 refine c_regS ?_
 refine yR ?_
 intro k1 hm
 refine o_end ?_
 refine Wp.seq ?_
 refine c_drw (Y := sysC _) mixed ?_
 refine tK 0 0 rfl (kV ?_)
 refine tK 1 1 rfl (kN ?_)
 refine tK 2 1 rfl (kF ?_)
 refine tK 3 1 rfl (kD ?_)
 refine tK 4 0 rfl (kV ?_)
 refine tK 5 1 rfl (kN ?_)
 refine tK 6 1 rfl (kF ?_)
 refine tK 7 1 rfl (kD ?_)
 obtain ⟨h4, hm⟩ := of_ite hm
 refine tK 8 0 rfl (x_subc T3 rfl rfl h4 ?_)
 obtain ⟨h5, hm⟩ := of_ite hm
 refine tK 9 0 rfl (x_ixb E22 rfl rfl h5 ?_)
 refine tK 10 0 rfl (x_ldi T5 rfl rfl rfl ?_)
 refine tK 11 0 rfl (x_cvi T5 T3 rfl rfl ?_)
 refine tK 12 0 rfl (x_as rfl rfl ?_)
 refine aN ?_
 refine c_ret ?_
 cases hm
 exact rG1 [0]
/-- (*spec.l1Rd).below -/
noncomputable def spec_l1Rd_below_m (vr : Gl1Rd) (n : Int) : Option (Int × Gl1Rd) :=
 (if decide (n ≤ 1) = true then
 (some ((0, vr)))
 else
 (if decide (n ≤ 256) = true then
 (Option.bind (spec_l1Rd_next_m vr) fun x3 =>
 (if n ≠ 0 then
 (some ((Int.tmod x3.1 n, x3.2)))
 else none))
 else
 (Option.bind (spec_l1Rd_next_m vr) fun x6 =>
 (Option.bind (spec_l1Rd_next_m x6.2) fun x8 =>
 (if n ≠ 0 then
 (some ((Int.tmod (IntKind.i64.wrap ((IntKind.i64.wrap (x6.1 * 256)) + x8.1)) n, x8.2)))
 else none)))))
theorem spec_l1Rd_below_sim {vr : Gl1Rd} {n : Int} {r : Int × Gl1Rd} (hm : spec_l1Rd_below_m vr n = some r) : Sim Tryz.prog 60 [.one (.ptr () 0 0 0), .one (.int .i64 n)] [⟨(), 2, [el1Rd false vr]⟩] (.u (.one (.int .i64 r.1))) [⟨(), 2, [el1Rd false r.2]⟩] := by
 refine fN 24 1 Tryz.func60 [.tmp 4] fun B hB0 => ?_
 have fW := trivial
 unfold spec_l1Rd_below_m at hm
 refine yG ?_
 intro _ hm
 refine bS hm (fun hb1 hm => ?_) fun hb1 hm => ?_
 refine yG ?_
 intro _ hm
 cases hm
 exact rG1 [0]
 refine yG ?_
 intro _ hm
 refine bS hm (fun hb2 hm => ?_) fun hb2 hm => ?_
 refine yG ?_
 intro _ hm
 obtain ⟨x3, h4, hm⟩ := of_bind hm
 refine nO (cG [0] (spec_l1Rd_next_sim h4) ?_)
 refine yG ?_
 intro k1 hm
 cases hm
 exact rG1 [0]
 refine yG ?_
 intro _ hm
 obtain ⟨x6, h7, hm⟩ := of_bind hm
 refine nO (cG [0] (spec_l1Rd_next_sim h7) ?_)
 refine yG ?_
 intro _ hm
 obtain ⟨x8, h9, hm⟩ := of_bind hm
 refine nO (cG [0] (spec_l1Rd_next_sim h9) ?_)
 refine nO (x_binw T3 rfl rfl rfl ?_)
 refine yG ?_
 intro k2 hm
 cases hm
 exact rG1 [0]
/-- (*spec.l1Rd).width -/
noncomputable def spec_l1Rd_width_m (vr : Gl1Rd) : Option (Int × Gl1Rd) :=
 (Option.bind (spec_l1Rd_below_m vr 4) fun x1 =>
 (if 0 ≤ x1.1 ∧ x1.1 < (List.length ([32, 8, 1, 16]) : Int) then
 (some ((at_ ([32, 8, 1, 16]) x1.1, x1.2)))
 else none))
theorem spec_l1Rd_width_sim {vr : Gl1Rd} {r : Int × Gl1Rd} (hm : spec_l1Rd_width_m vr = some r) : Sim Tryz.prog 63 [.one (.ptr () 0 0 0)] [⟨(), 2, [el1Rd false vr]⟩] (.u (.one (.int .i64 r.1))) [⟨(), 2, [el1Rd false r.2]⟩] := by
 refine fN 8 1 Tryz.func63 [.tmp 2] fun B hB0 => ?_
 unfold spec_l1Rd_width_m at hm
 refine yG ?_
 intro _ hm
 refine nO (kM (iL) ([32, 8, 1, 16]) ?_)
 refine yG ?_
 intro _ hm
 obtain ⟨x1, h2, hm⟩ := of_bind hm
 refine nO (cG [0] (spec_l1Rd_below_sim h2) ?_)
 refine yG ?_
 intro k1 hm
 cases hm
 exact rG1 [0]
/-- (*spec.l2G).add -/
noncomputable def spec_l2G_add_m (g : Gl2G) (gr : Gl1Rd) (grets : List Int) (gpars : List (List Int)) (w : Int) : Option (Int × Gl2G × Gl1Rd) :=
 (Option.bind ((if (List.length (([] : List Int)) + List.length g.ids) * 8 ≤ 140737488355328 ∧ List.length (([] : List Int)) + List.length g.ids ≤ LIM then
 (if (List.length ((([] : List Int)) ++ g.ids) + List.length ([g.next])) * 8 ≤ 140737488355328 ∧ List.length ((([] : List Int)) ++ g.ids) + List.length ([g.next]) ≤ LIM then
 (some (()))
 else none)
 else none)) fun (j1 : Unit) =>
 (if (List.length (([] : List Int)) + List.length ((({ f := g.f, b := g.b, next := g.next, ids := ((([] : List Int)) ++ g.ids) ++ ([g.next]), ws := g.ws } : Gl2G)).ws)) * 8 ≤ 140737488355328 ∧ List.length (([] : List Int)) + List.length ((({ f := g.f, b := g.b, next := g.next, ids := ((([] : List Int)) ++ g.ids) ++ ([g.next]), ws := g.ws } : Gl2G)).ws) ≤ LIM then
 (if (List.length ((([] : List Int)) ++ ((({ f := g.f, b := g.b, next := g.next, ids := ((([] : List Int)) ++ g.ids) ++ ([g.next]), ws := g.ws } : Gl2G)).ws)) + List.length ([w])) * 8 ≤ 140737488355328 ∧ List.length ((([] : List Int)) ++ ((({ f := g.f, b := g.b, next := g.next, ids := ((([] : List Int)) ++ g.ids) ++ ([g.next]), ws := g.ws } : Gl2G)).ws)) + List.length ([w]) ≤ LIM then
 (if inI (((({ f := g.f, b := g.b, next := g.next, ids := ((([] : List Int)) ++ g.ids) ++ ([g.next]), ws := g.ws } : Gl2G)).next) + 1) then
 (if inI ((((({ f := g.f, b := g.b, next := g.next, ids := ((([] : List Int)) ++ g.ids) ++ ([g.next]), ws := g.ws } : Gl2G)).next) + 1) - 1) then
 (some (((((({ f := g.f, b := g.b, next := g.next, ids := ((([] : List Int)) ++ g.ids) ++ ([g.next]), ws := g.ws } : Gl2G)).next) + 1) - 1, ({ f := ((({ f := g.f, b := g.b, next := g.next, ids := ((([] : List Int)) ++ g.ids) ++ ([g.next]), ws := g.ws } : Gl2G)).f), b := ({ phis := ((({ f := g.f, b := g.b, next := g.next, ids := ((([] : List Int)) ++ g.ids) ++ ([g.next]), ws := g.ws } : Gl2G)).b).phis, insts := ((({ f := g.f, b := g.b, next := g.next, ids := ((([] : List Int)) ++ g.ids) ++ ([g.next]), ws := g.ws } : Gl2G)).b).insts, term := (((({ f := g.f, b := g.b, next := g.next, ids := ((([] : List Int)) ++ g.ids) ++ ([g.next]), ws := g.ws } : Gl2G)).b).term) } : GBlock), next := ((({ f := g.f, b := g.b, next := g.next, ids := ((([] : List Int)) ++ g.ids) ++ ([g.next]), ws := g.ws } : Gl2G)).next) + 1, ids := (({ f := g.f, b := g.b, next := g.next, ids := ((([] : List Int)) ++ g.ids) ++ ([g.next]), ws := g.ws } : Gl2G)).ids, ws := ((([] : List Int)) ++ ((({ f := g.f, b := g.b, next := g.next, ids := ((([] : List Int)) ++ g.ids) ++ ([g.next]), ws := g.ws } : Gl2G)).ws)) ++ ([w]) } : Gl2G), gr)))
 else none)
 else none)
 else none)
 else none))
theorem spec_l2G_add_sim {g : Gl2G} {gr : Gl1Rd} {grets : List Int} {gpars : List (List Int)} {w : Int} {r : Int × Gl2G × Gl1Rd} (hm : spec_l2G_add_m g gr grets gpars w = some r) : Sim Tryz.prog 192 [.one (.ptr () 0 0 0), .one (.int .i64 w)] [⟨(), 15, [hl2G (.ptr () 1 0 0) (.ref () 2 0 (List.length grets)) (.ref () 3 0 (List.length gpars)) g]⟩, ⟨(), 2, [el1Rd false gr]⟩, ⟨(), 1, List.map iL grets⟩, ⟨(), 1, List.map (lL false 1 iL) gpars⟩] (.u (.one (.int .i64 r.1))) [⟨(), 15, [hl2G (.ptr () 1 0 0) (.ref () 2 0 (List.length grets)) (.ref () 3 0 (List.length gpars)) r.2.1]⟩, ⟨(), 2, [el1Rd false r.2.2]⟩, ⟨(), 1, List.map iL grets⟩, ⟨(), 1, List.map (lL false 1 iL) gpars⟩] := by
 refine fN 44 4 Tryz.func192 [.tmp 4] fun B hB0 => ?_
 unfold spec_l2G_add_m at hm
 refine Wp.seq ?_
 refine c_regS ?_
 refine nO (x_as rfl rfl ?_)
 refine o_end ?_
 refine Wp.seq ?_
 obtain ⟨j1, hj4, hm⟩ := of_bind hm
 refine c_cut (St 44 [(0, vP 0), (1, vI w)] [(0, oL 15 (hl2G (.ptr () 1 0 0) (.ref () 2 0 (List.length grets)) (.ref () 3 0 (List.length gpars)) (({ f := g.f, b := g.b, next := g.next, ids := ((([] : List Int)) ++ g.ids) ++ ([g.next]), ws := g.ws } : Gl2G)))), (1, oL 2 (el1Rd false gr)), (2, oM 1 iL grets), (3, oM 1 (lL false 1 iL) gpars)] 4) ?_ ?_
 replace hm := hj4
 refine c_drw (Y := sysC _) mixed ?_
 refine tK 0 0 rfl (kV ?_)
 refine tK 2 0 rfl (kV ?_)
 refine tD 3 1 [4, 5, 6, 12, 13, 14, 15] rfl (kN ?_)
 refine tD 4 1 [5, 6, 12, 13, 14, 15] rfl (kF ?_)
 refine tD 5 1 [6, 12, 13, 14, 15] rfl (kD ?_)
 refine tK 7 0 rfl (kV ?_)
 refine t_2 1 8 rfl rfl (by decide +kernel) ?_ ?_
 refine (kM (iL) (([] : List Int)) ?_)
 refine t_2 6 8 rfl rfl (by decide +kernel) ?_ ?_
 obtain ⟨h2, hm⟩ := of_ite hm
 refine (kA h2 ?_)
 refine tD 8 1 [9, 10, 11, 12, 13, 14, 15] rfl (kN ?_)
 refine tD 9 1 [10, 11, 12, 13, 14, 15] rfl (kF ?_)
 refine tD 10 1 [11, 12, 13, 14, 15] rfl (kD ?_)
 refine oK 11 rfl (kM (iL) ([g.next]) ?_)
 obtain ⟨h3, hm⟩ := of_ite hm
 refine oK 12 rfl (kA h3 ?_)
 refine tD 13 1 [14, 15] rfl (kN ?_)
 refine tK 14 1 rfl (kF ?_)
 refine oK 15 rfl (kS ?_)
 refine aN ?_
 cases hm
 exact (GhB.trans (q_cl 0 7 11) ((GhB.trans (q_cb 0 11) (vW [0, 1, 2, 3]))))
 refine (kN ?_)
 refine t_2 6 9 rfl rfl (by decide +kernel) ?_ ?_
 obtain ⟨h2, hm⟩ := of_ite hm
 refine (kA h2 ?_)
 refine tD 9 1 [10, 11, 12, 13, 14, 15] rfl (kF ?_)
 refine tD 10 1 [11, 12, 13, 14, 15] rfl (kD ?_)
 refine oK 11 rfl (kM (iL) ([g.next]) ?_)
 obtain ⟨h3, hm⟩ := of_ite hm
 refine oK 12 rfl (kA h3 ?_)
 refine tD 13 1 [14, 15] rfl (kN ?_)
 refine tK 14 1 rfl (kF ?_)
 refine oK 15 rfl (kS ?_)
 refine aN ?_
 cases hm
 exact (GhB.trans (q_cl 0 7 11) ((GhB.trans (q_cb 0 11) (vW [0, 1, 2, 3]))))
 refine (kF ?_)
 refine t_2 6 10 rfl rfl (by decide +kernel) ?_ ?_
 obtain ⟨h2, hm⟩ := of_ite hm
 refine (kA h2 ?_)
 refine tD 10 1 [11, 12, 13, 14, 15] rfl (kD ?_)
 refine oK 11 rfl (kM (iL) ([g.next]) ?_)
 obtain ⟨h3, hm⟩ := of_ite hm
 refine oK 12 rfl (kA h3 ?_)
 refine tD 13 1 [14, 15] rfl (kN ?_)
 refine tK 14 1 rfl (kF ?_)
 refine oK 15 rfl (kS ?_)
 refine aN ?_
 cases hm
 exact (GhB.trans (q_cl 0 7 11) ((GhB.trans (q_cb 0 11) (vW [0, 1, 2, 3]))))
 refine (kD ?_)
 refine t_2 6 11 rfl rfl (by decide +kernel) ?_ ?_
 obtain ⟨h2, hm⟩ := of_ite hm
 refine (kA h2 ?_)
 refine oK 11 rfl (kM (iL) ([g.next]) ?_)
 obtain ⟨h3, hm⟩ := of_ite hm
 refine oK 12 rfl (kA h3 ?_)
 refine tD 13 1 [14, 15] rfl (kN ?_)
 refine tK 14 1 rfl (kF ?_)
 refine oK 15 rfl (kS ?_)
 refine aN ?_
 cases hm
 exact (GhB.trans (q_cl 0 7 11) ((GhB.trans (q_cb 0 11) (vW [0, 1, 2, 3]))))
 refine (kM (iL) ([g.next]) ?_)
 obtain ⟨h2, hm⟩ := of_ite hm
 refine oK 6 rfl (kA h2 ?_)
 obtain ⟨h3, hm⟩ := of_ite hm
 refine oK 12 rfl (kA h3 ?_)
 refine tD 13 1 [14, 15] rfl (kN ?_)
 refine tK 14 1 rfl (kF ?_)
 refine oK 15 rfl (kS ?_)
 refine aN ?_
 cases hm
 exact (GhB.trans (q_cl 0 7 11) ((GhB.trans (q_cb 0 11) (vW [0, 1, 2, 3]))))
 refine (kN ?_)
 refine t_2 1 9 rfl rfl (by decide +kernel) ?_ ?_
 refine (kM (iL) (([] : List Int)) ?_)
 refine t_2 6 9 rfl rfl (by decide +kernel) ?_ ?_
 obtain ⟨h2, hm⟩ := of_ite hm
 refine (kA h2 ?_)
 refine tD 9 1 [10, 11, 12, 13, 14, 15] rfl (kF ?_)
 refine tD 10 1 [11, 12, 13, 14, 15] rfl (kD ?_)
 refine oK 11 rfl (kM (iL) ([g.next]) ?_)
 obtain ⟨h3, hm⟩ := of_ite hm
 refine oK 12 rfl (kA h3 ?_)
 refine tD 13 1 [14, 15] rfl (kN ?_)
 refine tK 14 1 rfl (kF ?_)
 refine oK 15 rfl (kS ?_)
 refine aN ?_
 cases hm
 exact (GhB.trans (q_cl 0 7 11) ((GhB.trans (q_cb 0 11) (vW [0, 1, 2, 3]))))
 refine (kF ?_)
 refine t_2 6 10 rfl rfl (by decide +kernel) ?_ ?_
 obtain ⟨h2, hm⟩ := of_ite hm
 refine (kA h2 ?_)
 refine tD 10 1 [11, 12, 13, 14, 15] rfl (kD ?_)
 refine oK 11 rfl (kM (iL) ([g.next]) ?_)
 obtain ⟨h3, hm⟩ := of_ite hm
 refine oK 12 rfl (kA h3 ?_)
 refine tD 13 1 [14, 15] rfl (kN ?_)
 refine tK 14 1 rfl (kF ?_)
 refine oK 15 rfl (kS ?_)
 refine aN ?_
 cases hm
 exact (GhB.trans (q_cl 0 7 11) ((GhB.trans (q_cb 0 11) (vW [0, 1, 2, 3]))))
 refine (kD ?_)
 refine t_2 6 11 rfl rfl (by decide +kernel) ?_ ?_
 obtain ⟨h2, hm⟩ := of_ite hm
 refine (kA h2 ?_)
 refine oK 11 rfl (kM (iL) ([g.next]) ?_)
 obtain ⟨h3, hm⟩ := of_ite hm
 refine oK 12 rfl (kA h3 ?_)
 refine tD 13 1 [14, 15] rfl (kN ?_)
 refine tK 14 1 rfl (kF ?_)
 refine oK 15 rfl (kS ?_)
 refine aN ?_
 cases hm
 exact (GhB.trans (q_cl 0 7 11) ((GhB.trans (q_cb 0 11) (vW [0, 1, 2, 3]))))
 refine (kM (iL) ([g.next]) ?_)
 obtain ⟨h2, hm⟩ := of_ite hm
 refine oK 6 rfl (kA h2 ?_)
 obtain ⟨h3, hm⟩ := of_ite hm
 refine oK 12 rfl (kA h3 ?_)
 refine tD 13 1 [14, 15] rfl (kN ?_)
 refine tK 14 1 rfl (kF ?_)
 refine oK 15 rfl (kS ?_)
 refine aN ?_
 cases hm
 exact (GhB.trans (q_cl 0 7 11) ((GhB.trans (q_cb 0 11) (vW [0, 1, 2, 3]))))
 refine (kF ?_)
 refine t_2 1 10 rfl rfl (by decide +kernel) ?_ ?_
 refine (kM (iL) (([] : List Int)) ?_)
 refine t_2 6 10 rfl rfl (by decide +kernel) ?_ ?_
 obtain ⟨h2, hm⟩ := of_ite hm
 refine (kA h2 ?_)
 refine tD 10 1 [11, 12, 13, 14, 15] rfl (kD ?_)
 refine oK 11 rfl (kM (iL) ([g.next]) ?_)
 obtain ⟨h3, hm⟩ := of_ite hm
 refine oK 12 rfl (kA h3 ?_)
 refine tD 13 1 [14, 15] rfl (kN ?_)
 refine tK 14 1 rfl (kF ?_)
 refine oK 15 rfl (kS ?_)
 refine aN ?_
 cases hm
 exact (GhB.trans (q_cl 0 7 11) ((GhB.trans (q_cb 0 11) (vW [0, 1, 2, 3]))))
 refine (kD ?_)
 refine t_2 6 11 rfl rfl (by decide +kernel) ?_ ?_
 obtain ⟨h2, hm⟩ := of_ite hm
 refine (kA h2 ?_)
 refine oK 11 rfl (kM (iL) ([g.next]) ?_)
 obtain ⟨h3, hm⟩ := of_ite hm
 refine oK 12 rfl (kA h3 ?_)
 refine tD 13 1 [14, 15] rfl (kN ?_)
 refine tK 14 1 rfl (kF ?_)
 refine oK 15 rfl (kS ?_)
 refine aN ?_
 cases hm
 exact (GhB.trans (q_cl 0 7 11) ((GhB.trans (q_cb 0 11) (vW [0, 1, 2, 3]))))
 refine (kM (iL) ([g.next]) ?_)
 obtain ⟨h2, hm⟩ := of_ite hm
 refine oK 6 rfl (kA h2 ?_)
 obtain ⟨h3, hm⟩ := of_ite hm
 refine oK 12 rfl (kA h3 ?_)
 refine tD 13 1 [14, 15] rfl (kN ?_)
 refine tK 14 1 rfl (kF ?_)
 refine oK 15 rfl (kS ?_)
 refine aN ?_
 cases hm
 exact (GhB.trans (q_cl 0 7 11) ((GhB.trans (q_cb 0 11) (vW [0, 1, 2, 3]))))
 refine (kD ?_)
 refine t_2 1 11 rfl rfl (by decide +kernel) ?_ ?_
 refine (kM (iL) (([] : List Int)) ?_)
 refine t_2 6 11 rfl rfl (by decide +kernel) ?_ ?_
 obtain ⟨h2, hm⟩ := of_ite hm
 refine (kA h2 ?_)
 refine oK 11 rfl (kM (iL) ([g.next]) ?_)
 obtain ⟨h3, hm⟩ := of_ite hm
 refine oK 12 rfl (kA h3 ?_)
 refine tD 13 1 [14, 15] rfl (kN ?_)
 refine tK 14 1 rfl (kF ?_)
 refine oK 15 rfl (kS ?_)
 refine aN ?_
 cases hm
 exact (GhB.trans (q_cl 0 7 11) ((GhB.trans (q_cb 0 11) (vW [0, 1, 2, 3]))))
 refine (kM (iL) ([g.next]) ?_)
 obtain ⟨h2, hm⟩ := of_ite hm
 refine oK 6 rfl (kA h2 ?_)
 obtain ⟨h3, hm⟩ := of_ite hm
 refine oK 12 rfl (kA h3 ?_)
 refine tD 13 1 [14, 15] rfl (kN ?_)
 refine tK 14 1 rfl (kF ?_)
 refine oK 15 rfl (kS ?_)
 refine aN ?_
 cases hm
 exact (GhB.trans (q_cl 0 7 11) ((GhB.trans (q_cb 0 11) (vW [0, 1, 2, 3]))))
 refine (kM (iL) ([g.next]) ?_)
 refine oK 1 rfl (kM (iL) (([] : List Int)) ?_)
 obtain ⟨h2, hm⟩ := of_ite hm
 refine oK 6 rfl (kA h2 ?_)
 obtain ⟨h3, hm⟩ := of_ite hm
 refine oK 12 rfl (kA h3 ?_)
 refine tD 13 1 [14, 15] rfl (kN ?_)
 refine tK 14 1 rfl (kF ?_)
 refine oK 15 rfl (kS ?_)
 refine aN ?_
 cases hm
 exact (GhB.trans (q_cl 0 7 11) ((GhB.trans (q_cb 0 11) (vW [0, 1, 2, 3]))))
 refine yG ?_
 intro _ hm
 refine nO (kM (iL) (([] : List Int)) ?_)
 refine yG ?_
 intro k1 hm
 refine nO (kM (iL) ([w]) ?_)
 refine yR ?_
 intro k2 hm
 refine o_end ?_
 refine Wp.seq ?_
 refine gH (q_cl 0 7 12) ?_
 refine gH (q_cb 0 12) ?_
 refine yG ?_
 intro k3 hm
 cases hm
 exact rG1 [0, 1, 2, 3]
/-- (*spec.l1Rd).word -/
noncomputable def spec_l1Rd_word_m (vr : Gl1Rd) : Option (Int × Gl1Rd) :=
 (Option.bind (loopO (fun (st1 : Gl1Rd × Int × Int) =>
 ((if decide (st1.2.2 < 8) = true then
 (Option.bind (spec_l1Rd_next_m st1.1) fun x4 =>
 (if inI (st1.2.2 + 1) then
 (some (Sum.inl ((x4.2, bits .or .u64 (IntKind.u64.wrap (st1.2.1 * 2 ^ min (Int.toNat 8) (IntKind.bits .u64))) (IntKind.u64.wrap x4.1), st1.2.2 + 1))))
 else none))
 else
 (some (Sum.inr (((st1.1, st1.2.1)))))) : Option ((Gl1Rd × Int × Int) ⊕ ((Gl1Rd × Int))))) (vr, 0, 0)) fun (j2 : Gl1Rd × Int) =>
 (some ((j2.2, j2.1))))
theorem spec_l1Rd_word_sim {vr : Gl1Rd} {r : Int × Gl1Rd} (hm : spec_l1Rd_word_m vr = some r) : Sim Tryz.prog 197 [.one (.ptr () 0 0 0)] [⟨(), 2, [el1Rd false vr]⟩] (.u (.one (.int .u64 r.1))) [⟨(), 2, [el1Rd false r.2]⟩] := by
 refine fN 16 1 Tryz.func197 [.tmp 2] fun B hB0 => ?_
 unfold spec_l1Rd_word_m at hm
 refine yG ?_
 intro _ hm
 obtain ⟨j2, hl8, hm⟩ := of_bind hm
 refine lP hl8 (fun st1 => St 16 [(0, vP 0), (3, .u (.one (.int .u64 st1.2.1))), (4, vI st1.2.2)] [(0, oL 2 (el1Rd false st1.1))] 1) (fun j2 => (.exit 0, St 16 [(3, .u (.one (.int .u64 j2.2)))] [(0, oL 2 (el1Rd false j2.1))] 1)) (vW [0]) ?_ ?_
 intro st1 x hm
 refine yG ?_
 intro _ hm
 refine bS hm (fun hb3 hm => ?_) fun hb3 hm => ?_
 refine yG ?_
 intro _ hm
 obtain ⟨x4, h5, hm⟩ := of_bind hm
 refine nO (cG [0] (spec_l1Rd_next_sim h5) ?_)
 refine yG ?_
 intro k1 hm
 cases hm
 exact ⟨rfl, vW [0]⟩
 refine c_exit ?_
 cases hm
 exact ⟨rfl, vW [0]⟩
 refine yG ?_
 intro _ hm
 cases hm
 exact rG1 [0]
/-- (*spec.l1Rd).value -/
noncomputable def spec_l1Rd_value_m (vr : Gl1Rd) (w : Int) : Option (Int × Gl1Rd) :=
 (if 0 ≤ (IntKind.u64.wrap w) then
 (Option.bind (spec_l1Rd_below_m vr 7) fun x2 =>
 (if (x2.1 == 0) = true then
 (some ((0, x2.2)))
 else
 (if (x2.1 == 1) = true then
 (some ((1, x2.2)))
 else
 (if (x2.1 == 2) = true then
 (if inI ((IntKind.i64.wrap (1 * 2 ^ min (Int.toNat (IntKind.u64.wrap w)) (IntKind.bits .i64))) - 1) then
 (some (((IntKind.i64.wrap (1 * 2 ^ min (Int.toNat (IntKind.u64.wrap w)) (IntKind.bits .i64))) - 1, x2.2)))
 else none)
 else
 (if (x2.1 == 3) = true then
 (some ((IntKind.i64.wrap (Int.tdiv (IntKind.i64.wrap (1 * 2 ^ min (Int.toNat (IntKind.u64.wrap w)) (IntKind.bits .i64))) 2), x2.2)))
 else
 (Option.bind (spec_l1Rd_word_m x2.2) fun x9 =>
 (if (IntKind.i64.wrap (1 * 2 ^ min (Int.toNat (IntKind.u64.wrap w)) (IntKind.bits .i64))) ≠ 0 then
 (some ((Int.tmod (IntKind.i64.wrap (x9.1 / 2 ^ min (Int.toNat 1) (IntKind.bits .u64))) (IntKind.i64.wrap (1 * 2 ^ min (Int.toNat (IntKind.u64.wrap w)) (IntKind.bits .i64))), x9.2)))
 else none)))))))
 else none)
theorem spec_l1Rd_value_sim {vr : Gl1Rd} {w : Int} {r : Int × Gl1Rd} (hm : spec_l1Rd_value_m vr w = some r) : Sim Tryz.prog 239 [.one (.ptr () 0 0 0), .one (.int .i64 w)] [⟨(), 2, [el1Rd false vr]⟩] (.u (.one (.int .i64 r.1))) [⟨(), 2, [el1Rd false r.2]⟩] := by
 refine fN 29 1 Tryz.func239 [.tmp 4] fun B hB0 => ?_
 unfold spec_l1Rd_value_m at hm
 refine yG ?_
 intro k1 hm
 obtain ⟨x2, h3, hm⟩ := of_bind hm
 refine nO (cG [0] (spec_l1Rd_below_sim h3) ?_)
 refine yG ?_
 intro _ hm
 refine bS hm (fun hb4 hm => ?_) fun hb4 hm => ?_
 refine yG ?_
 intro _ hm
 cases hm
 exact rG1 [0]
 refine yG ?_
 intro _ hm
 refine bS hm (fun hb5 hm => ?_) fun hb5 hm => ?_
 refine yG ?_
 intro _ hm
 cases hm
 exact rG1 [0]
 refine yG ?_
 intro _ hm
 refine bS hm (fun hb6 hm => ?_) fun hb6 hm => ?_
 refine yG ?_
 intro k2 hm
 cases hm
 exact rG1 [0]
 refine yG ?_
 intro _ hm
 refine bS hm (fun hb8 hm => ?_) fun hb8 hm => ?_
 refine yG ?_
 intro _ hm
 cases hm
 exact rG1 [0]
 refine yG ?_
 intro _ hm
 obtain ⟨x9, h10, hm⟩ := of_bind hm
 refine nO (cG [0] (spec_l1Rd_word_sim h10) ?_)
 refine yG ?_
 intro k3 hm
 cases hm
 exact rG1 [0]
/-- spec.l1In -/
noncomputable def spec_l1In_m (n : Int) (low : Int) (high : Int) : Bool :=
 ((decide (n ≥ low) && decide (n ≤ high)))
theorem spec_l1In_sim (n : Int) (low : Int) (high : Int) : Sim Tryz.prog 81 [.one (.int .i64 n), .one (.int .i64 low), .one (.int .i64 high)] [] (.u (.one (.bool ((spec_l1In_m n low high))))) [] := by
 generalize hm : spec_l1In_m n low high = r
 refine fN 15 0 Tryz.func81 [.tmp 6] fun B hB0 => ?_
 unfold spec_l1In_m at hm
 refine Wp.seq ?_
 refine c_regS ?_
 refine nO (x_as rfl rfl ?_)
 refine o_end ?_
 refine Wp.seq ?_
 refine c_cut (St 15 [(6, vB ((decide (n ≥ low) && decide (n ≤ high))))] [] 0) ?_ ?_
 refine yG ?_
 intro _ hm
 refine gO_s rfl rfl rfl (fun hb2 => ?_) (fun hb2 => ?_)
 refine yG ?_
 intro _ hm
 exact w_ [] (.cons (by simp only [hb2, BO]; rfl) rfl .nil) .nil (by decide) (hB_0 hB0)
 refine yG ?_
 intro _ hm
 exact w_ [] (.cons (by simp only [hb2, BO]; rfl) rfl .nil) .nil (by decide) (hB_0 hB0)
 refine c_ret ?_
 cases hm
 exact rZ1
/-- spec.WidthOk -/
noncomputable def spec_WidthOk_m (w : Int) : Bool :=
 (((w == 1) || ((w == 8) || ((w == 16) || (w == 32)))))
theorem spec_WidthOk_sim (w : Int) : Sim Tryz.prog 132 [.one (.int .i64 w)] [] (.u (.one (.bool ((spec_WidthOk_m w))))) [] := by
 generalize hm : spec_WidthOk_m w = r
 refine fN 17 0 Tryz.func132 [.tmp 2] fun B hB0 => ?_
 unfold spec_WidthOk_m at hm
 refine Wp.seq ?_
 refine c_regS ?_
 refine nO (x_as rfl rfl ?_)
 refine o_end ?_
 refine Wp.seq ?_
 refine c_cut (St 17 [(2, vB (((w == 1) || ((w == 8) || ((w == 16) || (w == 32))))))] [] 0) ?_ ?_
 refine yG ?_
 intro _ hm
 refine gO_s rfl rfl rfl (fun hb2 => ?_) (fun hb2 => ?_)
 refine yG ?_
 intro _ hm
 refine gO_s rfl rfl rfl (fun hb3 => ?_) (fun hb3 => ?_)
 refine yG ?_
 intro _ hm
 refine gO_s rfl rfl rfl (fun hb4 => ?_) (fun hb4 => ?_)
 refine yG ?_
 intro _ hm
 exact w_ [] (.cons (by simp only [hb2, hb3, hb4, BO]; rfl) rfl .nil) .nil (by decide) (hB_0 hB0)
 refine yG ?_
 intro _ hm
 exact w_ [] (.cons (by simp only [hb2, hb3, hb4, BO]; rfl) rfl .nil) .nil (by decide) (hB_0 hB0)
 refine yG ?_
 intro _ hm
 exact w_ [] (.cons (by simp only [hb2, hb3, BO]; rfl) rfl .nil) .nil (by decide) (hB_0 hB0)
 refine yG ?_
 intro _ hm
 exact w_ [] (.cons (by simp only [hb2, BO]; rfl) rfl .nil) .nil (by decide) (hB_0 hB0)
 refine c_ret ?_
 cases hm
 exact rZ1
/-- spec.ResultWidth -/
noncomputable def spec_ResultWidth_m (op_ : Int) (w : Int) : Int :=
 (if ((!((spec_WidthOk_m w))) || (!((spec_l1In_m op_ 1 17)))) = true then
 0
 else
 (if decide (op_ ≥ 14) = true then
 1
 else
 w))
theorem spec_ResultWidth_sim (op_ : Int) (w : Int) : Sim Tryz.prog 208 [.one (.int .i64 op_), .one (.int .i64 w)] [] (.u (.one (.int .i64 ((spec_ResultWidth_m op_ w))))) [] := by
 generalize hm : spec_ResultWidth_m op_ w = r
 refine fN 16 0 Tryz.func208 [.tmp 4] fun B hB0 => ?_
 unfold spec_ResultWidth_m at hm
 refine Wp.seq ?_
 refine c_regS ?_
 refine nO (x_as rfl rfl ?_)
 refine o_end ?_
 refine Wp.seq ?_
 refine Wp.seq ?_
 refine c_cut (St 16 [(0, vI op_), (1, vI w), (12, vB (((!((spec_WidthOk_m w))) || (!((spec_l1In_m op_ 1 17))))))] [] 0) ?_ ?_
 refine yG ?_
 intro _ hm
 refine nO (aopK_A (cB (spec_WidthOk_sim w) ?_))
 refine yG ?_
 intro _ hm
 refine gO_s rfl rfl rfl (fun hb2 => ?_) (fun hb2 => ?_)
 refine yG ?_
 intro _ hm
 refine gO_t rfl rfl rfl (aopK_A (cB (spec_l1In_sim op_ 1 17) ?_))
 refine yG ?_
 intro _ hm
 exact w_ [] (.cons rfl rfl (.cons rfl rfl (.cons (by simp only [hb2, BO]; rfl) rfl .nil))) .nil (by decide) (hB_0 hB0)
 refine yG ?_
 intro _ hm
 exact w_ [] (.cons rfl rfl (.cons rfl rfl (.cons (by simp only [hb2, BO]; rfl) rfl .nil))) .nil (by decide) (hB_0 hB0)
 refine bS hm (fun hb3 hm => ?_) fun hb3 hm => ?_
 refine yG ?_
 intro _ hm
 cases hm
 exact rZ1
 refine yG ?_
 intro _ hm
 refine bS hm (fun hb4 hm => ?_) fun hb4 hm => ?_
 refine yG ?_
 intro _ hm
 cases hm
 exact rZ1
 refine yG ?_
 intro _ hm
 cases hm
 exact rZ1
/-- spec.l2Width -/
noncomputable def spec_l2Width_m (i : GInst) : Int :=
 (if (spec_l1In_m i.op_ 1 17) = true then
 ((spec_ResultWidth_m i.op_ i.w))
 else
 i.w)
theorem spec_l2Width_sim (i : GInst) : Sim Tryz.prog 138 [.agg (eInst false i)] [] (.u (.one (.int .i64 ((spec_l2Width_m i))))) [] := by
 generalize hm : spec_l2Width_m i = r
 refine fN 13 0 Tryz.func138 [.tmp 2] fun B hB0 => ?_
 unfold spec_l2Width_m at hm
 refine yG ?_
 intro _ hm
 refine nO (aopK_A (cB (spec_l1In_sim i.op_ 1 17) ?_))
 refine o_end ?_
 refine bS hm (fun hb1 hm => ?_) fun hb1 hm => ?_
 refine yG ?_
 intro _ hm
 refine nO (aopK_A (cB (spec_ResultWidth_sim i.op_ i.w) ?_))
 refine yG ?_
 intro _ hm
 cases hm
 exact rZ1
 refine yG ?_
 intro _ hm
 cases hm
 exact rZ1
/-- (*spec.l2G).put -/
noncomputable def spec_l2G_put_m (g : Gl2G) (gr : Gl1Rd) (grets : List Int) (gpars : List (List Int)) (i : GInst) : Option (Int × Gl2G × Gl1Rd) :=
 (if (List.length g.b.insts + List.length ([i])) * 72 ≤ 140737488355328 ∧ List.length g.b.insts + List.length ([i]) ≤ LIM then
 (if (((spec_l2Width_m i)) == 0) = true then
 (if inI (g.next + 1) then
 (some (((-1), ({ f := g.f, b := ({ phis := g.b.phis, insts := g.b.insts ++ ([i]), term := g.b.term } : GBlock), next := g.next + 1, ids := g.ids, ws := g.ws } : Gl2G), gr)))
 else none)
 else
 (Option.bind (spec_l2G_add_m (({ f := g.f, b := ({ phis := g.b.phis, insts := g.b.insts ++ ([i]), term := g.b.term } : GBlock), next := g.next, ids := g.ids, ws := g.ws } : Gl2G)) gr grets gpars ((spec_l2Width_m i))) fun x4 =>
 (some ((x4.1, x4.2.1, x4.2.2)))))
 else none)
theorem spec_l2G_put_sim {g : Gl2G} {gr : Gl1Rd} {grets : List Int} {gpars : List (List Int)} {i : GInst} {r : Int × Gl2G × Gl1Rd} (hm : spec_l2G_put_m g gr grets gpars i = some r) : Sim Tryz.prog 238 [.one (.ptr () 0 0 0), .agg (eInst false i)] [⟨(), 15, [hl2G (.ptr () 1 0 0) (.ref () 2 0 (List.length grets)) (.ref () 3 0 (List.length gpars)) g]⟩, ⟨(), 2, [el1Rd false gr]⟩, ⟨(), 1, List.map iL grets⟩, ⟨(), 1, List.map (lL false 1 iL) gpars⟩] (.u (.one (.int .i64 r.1))) [⟨(), 15, [hl2G (.ptr () 1 0 0) (.ref () 2 0 (List.length grets)) (.ref () 3 0 (List.length gpars)) r.2.1]⟩, ⟨(), 2, [el1Rd false r.2.2]⟩, ⟨(), 1, List.map iL grets⟩, ⟨(), 1, List.map (lL false 1 iL) gpars⟩] := by
 refine fN 32 4 Tryz.func238 [.tmp 4] fun B hB0 => ?_
 unfold spec_l2G_put_m at hm
 refine Wp.seq ?_
 refine c_regS ?_
 refine yR ?_
 intro _ hm
 refine o_end ?_
 refine Wp.seq ?_
 refine gH (q_op 0 5) ?_
 refine c_drw (Y := sysC _) mixed ?_
 refine tK 0 0 rfl (kV ?_)
 refine tK 1 0 rfl (kV ?_)
 refine tD 2 1 [3, 4, 5, 8, 9, 10, 11, 12] rfl (kN ?_)
 refine tD 3 1 [4, 5, 8, 9, 10, 11, 12] rfl (kF ?_)
 refine tD 4 1 [5, 8, 9, 10, 11, 12] rfl (kF ?_)
 refine tK 5 1 rfl (kD ?_)
 refine tD 6 1 [7, 8, 9, 10, 11, 12] rfl (kW ?_)
 refine oK 7 rfl (kM (eInst false) ([i]) ?_)
 obtain ⟨h1, hm⟩ := of_ite hm
 refine oK 8 rfl (kA h1 ?_)
 refine tD 9 1 [10, 11, 12] rfl (kN ?_)
 refine tD 10 1 [11, 12] rfl (kF ?_)
 refine tK 11 1 rfl (kF ?_)
 refine oK 12 rfl (kS ?_)
 refine aN ?_
 refine Wp.seq ?_
 refine gH (q_cl 0 7 5) ?_
 refine c_regS ?_
 refine nO (kW ?_)
 refine nO (aopK_A (cB (spec_l2Width_sim i) ?_))
 refine yG ?_
 intro _ hm
 refine bS hm (fun hb2 hm => ?_) fun hb2 hm => ?_
 refine yG ?_
 intro k1 hm
 cases hm
 exact rG1 [0, 1, 2, 3]
 refine yG ?_
 intro _ hm
 obtain ⟨x4, h5, hm⟩ := of_bind hm
 refine nO (cG [0, 1, 2, 3] (spec_l2G_add_sim h5) ?_)
 refine yG ?_
 intro _ hm
 cases hm
 exact rG1 [0, 1, 2, 3]
/-- (*spec.l1Rd).once -/
noncomputable def spec_l1Rd_once_m (vr : Gl1Rd) (n : Int) : Option (Bool × Gl1Rd) :=
 (Option.bind (spec_l1Rd_below_m vr n) fun x1 =>
 (if inI (n - 1) then
 (some (((x1.1 == (n - 1)), x1.2)))
 else none))
theorem spec_l1Rd_once_sim {vr : Gl1Rd} {n : Int} {r : Bool × Gl1Rd} (hm : spec_l1Rd_once_m vr n = some r) : Sim Tryz.prog 61 [.one (.ptr () 0 0 0), .one (.int .i64 n)] [⟨(), 2, [el1Rd false vr]⟩] (.u (.one (.bool r.1))) [⟨(), 2, [el1Rd false r.2]⟩] := by
 refine fN 11 1 Tryz.func61 [.tmp 4] fun B hB0 => ?_
 unfold spec_l1Rd_once_m at hm
 refine yG ?_
 intro _ hm
 obtain ⟨x1, h2, hm⟩ := of_bind hm
 refine nO (cG [0] (spec_l1Rd_below_sim h2) ?_)
 refine yG ?_
 intro k1 hm
 cases hm
 exact rG1 [0]
/-- (*spec.l2G).pick -/
noncomputable def spec_l2G_pick_m (g : Gl2G) (gr : Gl1Rd) (grets : List Int) (gpars : List (List Int)) (w : Int) : Option (Int × Gl2G × Gl1Rd) :=
 (Option.bind (loopO (fun (st1 : (List Int) × Int) =>
 ((if decide (st1.2 < ((List.length g.ids : Int))) = true then
 (if 0 ≤ st1.2 ∧ st1.2 < (List.length g.ws : Int) then
 (if ((at_ g.ws st1.2) == w) = true then
 (if 0 ≤ st1.2 ∧ st1.2 < (List.length g.ids : Int) then
 (if (List.length st1.1 + List.length ([at_ g.ids st1.2])) * 8 ≤ 140737488355328 ∧ List.length st1.1 + List.length ([at_ g.ids st1.2]) ≤ LIM then
 (if inI (st1.2 + 1) then
 (some (Sum.inl ((st1.1 ++ ([at_ g.ids st1.2]), st1.2 + 1))))
 else none)
 else none)
 else none)
 else
 (if inI (st1.2 + 1) then
 (some (Sum.inl ((st1.1, st1.2 + 1))))
 else none))
 else none)
 else
 (some (Sum.inr st1.1))) : Option (((List Int) × Int) ⊕ (((List Int)))))) (([] : List Int), 0)) fun (j2 : (List Int)) =>
 (Option.bind ((if (((List.length j2 : Int)) == 0) = true then
 (some ((gr, true)))
 else
 (Option.bind (spec_l1Rd_once_m gr 5) fun x16 =>
 (some ((x16.2, x16.1)))))) fun (j13 : Gl1Rd × Bool) =>
 (if j13.2 = true then
 (Option.bind (spec_l1Rd_value_m j13.1 w) fun x20 =>
 (if 0 ≤ (IntKind.u64.wrap w) then
 (if (IntKind.i64.wrap (1 * 2 ^ min (Int.toNat (IntKind.u64.wrap w)) (IntKind.bits .i64))) ≠ 0 then
 (Option.bind (spec_l2G_put_m g x20.2 grets gpars (({ op_ := 21, w := w, a := 0, b := 0, c := 0, imm := Int.tmod (Int.tmod x20.1 7) (IntKind.i64.wrap (1 * 2 ^ min (Int.toNat (IntKind.u64.wrap w)) (IntKind.bits .i64))), args := ([] : List Int) } : GInst))) fun x24 =>
 (some ((x24.1, x24.2.1, x24.2.2))))
 else none)
 else none))
 else
 (Option.bind (spec_l1Rd_below_m j13.1 (((List.length j2 : Int)) + 2)) fun x27 =>
 (if 0 ≤ ((if decide (x27.1 ≥ ((List.length j2 : Int))) = true then ((List.length j2 : Int)) - 1 else x27.1)) ∧ ((if decide (x27.1 ≥ ((List.length j2 : Int))) = true then ((List.length j2 : Int)) - 1 else x27.1)) < (List.length j2 : Int) then
 (some ((at_ j2 ((if decide (x27.1 ≥ ((List.length j2 : Int))) = true then ((List.length j2 : Int)) - 1 else x27.1)), g, x27.2)))
 else none)))))
theorem spec_l2G_pick_sim {g : Gl2G} {gr : Gl1Rd} {grets : List Int} {gpars : List (List Int)} {w : Int} {r : Int × Gl2G × Gl1Rd} (hm : spec_l2G_pick_m g gr grets gpars w = some r) : Sim Tryz.prog 240 [.one (.ptr () 0 0 0), .one (.int .i64 w)] [⟨(), 15, [hl2G (.ptr () 1 0 0) (.ref () 2 0 (List.length grets)) (.ref () 3 0 (List.length gpars)) g]⟩, ⟨(), 2, [el1Rd false gr]⟩, ⟨(), 1, List.map iL grets⟩, ⟨(), 1, List.map (lL false 1 iL) gpars⟩] (.u (.one (.int .i64 r.1))) [⟨(), 15, [hl2G (.ptr () 1 0 0) (.ref () 2 0 (List.length grets)) (.ref () 3 0 (List.length gpars)) r.2.1]⟩, ⟨(), 2, [el1Rd false r.2.2]⟩, ⟨(), 1, List.map iL grets⟩, ⟨(), 1, List.map (lL false 1 iL) gpars⟩] := by
 refine fN 81 4 Tryz.func240 [.tmp 4] fun B hB0 => ?_
 unfold spec_l2G_pick_m at hm
 refine yG ?_
 intro _ hm
 refine nO (kM (iL) (([] : List Int)) ?_)
 refine yG ?_
 intro _ hm
 obtain ⟨j2, hl12, hm⟩ := of_bind hm
 refine lP hl12 (fun st1 => St 81 [(0, vP 0), (1, vI w), (5, vR 4 (List.length st1.1)), (6, vI st1.2)] [(0, oL 15 (hl2G (.ptr () 1 0 0) (.ref () 2 0 (List.length grets)) (.ref () 3 0 (List.length gpars)) g)), (1, oL 2 (el1Rd false gr)), (2, oM 1 iL grets), (3, oM 1 (lL false 1 iL) gpars), (4, oM 1 iL st1.1)] 5) (fun j2 => (.exit 0, St 81 [(0, vP 0), (1, vI w), (5, vR 4 (List.length j2))] [(0, oL 15 (hl2G (.ptr () 1 0 0) (.ref () 2 0 (List.length grets)) (.ref () 3 0 (List.length gpars)) g)), (1, oL 2 (el1Rd false gr)), (2, oM 1 iL grets), (3, oM 1 (lL false 1 iL) gpars), (4, oM 1 iL j2)] 5)) (vW [0, 1, 2, 3, 4]) ?_ ?_
 intro st1 x hm
 refine yG ?_
 intro k1 hm
 refine bS hm (fun hb4 hm => ?_) fun hb4 hm => ?_
 refine yG ?_
 intro k2 hm
 refine bS hm (fun hb6 hm => ?_) fun hb6 hm => ?_
 refine yG ?_
 intro k3 hm
 refine nO (kM (iL) ([at_ g.ids st1.2]) ?_)
 refine yG ?_
 intro k4 hm
 cases hm
 exact ⟨rfl, vW [0, 1, 2, 3, 6]⟩
 refine yG ?_
 intro k5 hm
 cases hm
 exact ⟨rfl, vW [0, 1, 2, 3, 4]⟩
 refine c_exit ?_
 cases hm
 exact ⟨rfl, vW [0, 1, 2, 3, 4]⟩
 refine Wp.seq ?_
 refine Wp.seq ?_
 obtain ⟨j13, hj18, hm⟩ := of_bind hm
 refine c_cut (St 81 [(0, vP 0), (1, vI w), (5, vR 4 (List.length j2)), (46, vB j13.2)] [(0, oL 15 (hl2G (.ptr () 1 0 0) (.ref () 2 0 (List.length grets)) (.ref () 3 0 (List.length gpars)) g)), (1, oL 2 (el1Rd false j13.1)), (2, oM 1 iL grets), (3, oM 1 (lL false 1 iL) gpars), (4, oM 1 iL j2)] 5) ?_ ?_
 replace hm := hj18
 refine yG ?_
 intro k6 hm
 refine bG0 hm (fun hb15 hm => ?_) fun hb15 hm => ?_
 refine yG ?_
 intro _ hm
 obtain ⟨x16, h17, hm⟩ := of_bind hm
 refine gO_t rfl rfl rfl (cG [1] (spec_l1Rd_once_sim h17) ?_)
 refine yG ?_
 intro _ hm
 cases hm
 exact vW [0, 1, 2, 3, 4]
 refine yG ?_
 intro _ hm
 cases hm
 exact vW [0, 1, 2, 3, 4]
 refine bS hm (fun hb19 hm => ?_) fun hb19 hm => ?_
 refine yG ?_
 intro _ hm
 obtain ⟨x20, h21, hm⟩ := of_bind hm
 refine nO (cG [1] (spec_l1Rd_value_sim h21) ?_)
 refine nO (x_rem T2 rfl rfl (by decide) ?_)
 refine nO (x_mv rfl rfl ?_)
 refine nO (x_cvi T2 T172 rfl rfl ?_)
 obtain ⟨h22, hm⟩ := of_ite hm
 refine nO (x_shl T2 rfl rfl h22 ?_)
 obtain ⟨h23, hm⟩ := of_ite hm
 refine nO (x_rem T2 rfl rfl h23 ?_)
 refine nO (x_bu (cells := [.int .i64 21, .int .i64 w, .int .i64 0, .int .i64 0, .int .i64 0, .int .i64 (Int.tmod (Int.tmod x20.1 7) (IntKind.i64.wrap (1 * 2 ^ min (Int.toNat (IntKind.u64.wrap w)) (IntKind.bits .i64)))), .nl]) T29 rfl rfl rfl ?_)
 refine WpO.ghb (q_nb 60 6 1) ?_
 obtain ⟨x24, h25, hm⟩ := of_bind hm
 refine nO (cG [0, 1, 2, 3] (spec_l2G_put_sim h25) ?_)
 refine yG ?_
 intro _ hm
 cases hm
 exact rG1 [0, 1, 2, 3]
 refine yG ?_
 intro k7 hm
 obtain ⟨x27, h28, hm⟩ := of_bind hm
 refine nO (cG [1] (spec_l1Rd_below_sim h28) ?_)
 refine nO (x_as rfl rfl ?_)
 refine o_end ?_
 refine Wp.seq ?_
 refine c_cut (St 81 [(5, vR 4 (List.length j2)), (7, vI ((if decide (x27.1 ≥ ((List.length j2 : Int))) = true then ((List.length j2 : Int)) - 1 else x27.1)))] [(0, oL 15 (hl2G (.ptr () 1 0 0) (.ref () 2 0 (List.length grets)) (.ref () 3 0 (List.length gpars)) g)), (1, oL 2 (el1Rd false x27.2)), (2, oM 1 iL grets), (3, oM 1 (lL false 1 iL) gpars), (4, oM 1 iL j2)] 5) ?_ ?_
 refine yG ?_
 intro k8 hm
 refine c_s rfl rfl (fun hb31 => ?_) (fun hb31 => ?_)
 refine yG ?_
 intro k9 hm
 exact w_ [0, 1, 2, 3, 4] (.cons rfl rfl (.cons (by simp only [hb31, BO]; rfl) rfl .nil)) (.lit rfl rfl (.lit rfl rfl (.map rfl (.map rfl (.map rfl .nil))))) (by decide) (hB_n 4 hB0 rfl)
 refine c_skip ?_
 exact w_ [0, 1, 2, 3, 4] (.cons rfl rfl (.cons (by simp only [hb31, BO]; rfl) rfl .nil)) (.lit rfl rfl (.lit rfl rfl (.map rfl (.map rfl (.map rfl .nil))))) (by decide) (hB_n 4 hB0 rfl)
 refine yG ?_
 intro k10 hm
 cases hm
 exact rG1 [0, 1, 2, 3]
/-- (*spec.l2G).call -/
noncomputable def spec_l2G_call_m (g : Gl2G) (gr : Gl1Rd) (grets : List Int) (gpars : List (List Int)) : Option (Gl2G × Gl1Rd) :=
 (if (((List.length grets : Int)) == 0) = true then
 (some ((g, gr)))
 else
 (Option.bind (spec_l1Rd_below_m gr ((List.length grets : Int))) fun x4 =>
 (Option.bind (loopO (fun (st6 : Gl2G × Gl1Rd × (List Int) × Int) =>
 ((if 0 ≤ x4.1 ∧ x4.1 < (List.length gpars : Int) then
 (if decide (st6.2.2.2 < ((List.length (at_ gpars x4.1) : Int))) = true then
 (if 0 ≤ x4.1 ∧ x4.1 < (List.length gpars : Int) then
 (if 0 ≤ st6.2.2.2 ∧ st6.2.2.2 < (List.length (at_ gpars x4.1) : Int) then
 (Option.bind (spec_l2G_pick_m st6.1 st6.2.1 grets gpars (at_ (at_ gpars x4.1) st6.2.2.2)) fun x13 =>
 (if (List.length st6.2.2.1 + List.length ([x13.1])) * 8 ≤ 140737488355328 ∧ List.length st6.2.2.1 + List.length ([x13.1]) ≤ LIM then
 (if inI (st6.2.2.2 + 1) then
 (some (Sum.inl ((x13.2.1, x13.2.2, st6.2.2.1 ++ ([x13.1]), st6.2.2.2 + 1))))
 else none)
 else none))
 else none)
 else none)
 else
 (some (Sum.inr (((st6.1, st6.2.1, st6.2.2.1))))))
 else none) : Option ((Gl2G × Gl1Rd × (List Int) × Int) ⊕ ((Gl2G × Gl1Rd × (List Int)))))) (g, x4.2, ([] : List Int), 0)) fun (j7 : Gl2G × Gl1Rd × (List Int)) =>
 (if 0 ≤ x4.1 ∧ x4.1 < (List.length grets : Int) then
 (Option.bind (spec_l2G_put_m j7.1 j7.2.1 grets gpars (({ op_ := 26, w := at_ grets x4.1, a := 0, b := 0, c := 0, imm := x4.1, args := j7.2.2 } : GInst))) fun x20 =>
 (some ((x20.2.1, x20.2.2))))
 else none))))
theorem spec_l2G_call_sim {g : Gl2G} {gr : Gl1Rd} {grets : List Int} {gpars : List (List Int)} {r : Gl2G × Gl1Rd} (hm : spec_l2G_call_m g gr grets gpars = some r) : Sim Tryz.prog 241 [.one (.ptr () 0 0 0)] [⟨(), 15, [hl2G (.ptr () 1 0 0) (.ref () 2 0 (List.length grets)) (.ref () 3 0 (List.length gpars)) g]⟩, ⟨(), 2, [el1Rd false gr]⟩, ⟨(), 1, List.map iL grets⟩, ⟨(), 1, List.map (lL false 1 iL) gpars⟩] (.tup []) [⟨(), 15, [hl2G (.ptr () 1 0 0) (.ref () 2 0 (List.length grets)) (.ref () 3 0 (List.length gpars)) r.1]⟩, ⟨(), 2, [el1Rd false r.2]⟩, ⟨(), 1, List.map iL grets⟩, ⟨(), 1, List.map (lL false 1 iL) gpars⟩] := by
 refine fN 61 4 Tryz.func241 [] fun B hB0 => ?_
 unfold spec_l2G_call_m at hm
 refine yG ?_
 intro k1 hm
 refine bS hm (fun hb2 hm => ?_) fun hb2 hm => ?_
 refine c_ret ?_
 cases hm
 exact rGt [0, 1, 2, 3]
 refine c_skip ?_
 refine Wp.seq ?_
 refine c_drw (Y := sysG _) mixed ?_
 refine tK 0 0 rfl (kV ?_)
 refine tD 1 1 [2, 3, 9, 10] rfl (kN ?_)
 refine tD 2 1 [3, 9, 10] rfl (kF ?_)
 refine tK 3 1 rfl (kD ?_)
 refine tK 4 0 rfl (kV ?_)
 refine tD 5 1 [6, 7, 8, 9, 10] rfl (kN ?_)
 refine tD 6 1 [7, 8, 9, 10] rfl (kF ?_)
 refine tD 7 1 [8, 9, 10] rfl (kD ?_)
 refine tK 8 1 rfl (x_lnr rfl N24 rfl rfl fun hL3 => ?_)
 obtain ⟨x4, h5, hm⟩ := of_bind hm
 refine oK 9 rfl (cgG [1] (spec_l1Rd_below_sim h5) ?_)
 refine tK 10 0 rfl (x_as rfl rfl ?_)
 refine aN ?_
 refine Wp.seq ?_
 refine c_regS ?_
 refine nO (kM (iL) (([] : List Int)) ?_)
 refine yG ?_
 intro _ hm
 obtain ⟨j7, hl18, hm⟩ := of_bind hm
 refine lP hl18 (fun st6 => St 61 [(0, vP 0), (2, vI x4.1), (3, vR 4 (List.length st6.2.2.1)), (4, vI st6.2.2.2)] [(0, oL 15 (hl2G (.ptr () 1 0 0) (.ref () 2 0 (List.length grets)) (.ref () 3 0 (List.length gpars)) st6.1)), (1, oL 2 (el1Rd false st6.2.1)), (2, oM 1 iL grets), (3, oM 1 (lL false 1 iL) gpars), (4, oM 1 iL st6.2.2.1)] 5) (fun j7 => (.exit 0, St 61 [(0, vP 0), (2, vI x4.1), (3, vR 4 (List.length j7.2.2))] [(0, oL 15 (hl2G (.ptr () 1 0 0) (.ref () 2 0 (List.length grets)) (.ref () 3 0 (List.length gpars)) j7.1)), (1, oL 2 (el1Rd false j7.2.1)), (2, oM 1 iL grets), (3, oM 1 (lL false 1 iL) gpars), (4, oM 1 iL j7.2.2)] 5)) (vW [0, 1, 2, 3, 4]) ?_ ?_
 intro st6 x hm
 refine yG ?_
 intro k2 hm
 refine bS hm (fun hb10 hm => ?_) fun hb10 hm => ?_
 refine yG ?_
 intro k3 hm
 obtain ⟨x13, h14, hm⟩ := of_bind hm
 refine nO (cG [0, 1, 2, 3] (spec_l2G_pick_sim h14) ?_)
 refine nO (kM (iL) ([x13.1]) ?_)
 refine yG ?_
 intro k4 hm
 cases hm
 exact ⟨rfl, vW [0, 1, 2, 3, 6]⟩
 refine c_exit ?_
 cases hm
 exact ⟨rfl, vW [0, 1, 2, 3, 4]⟩
 refine c_regS ?_
 refine nO (x_mv rfl rfl ?_)
 refine nO (x_mv rfl rfl ?_)
 refine nO (x_ncp rfl rfl rfl ?_)
 refine nO (x_fap rfl F167_6 rfl rfl ?_)
 refine nO (x_ldp rfl T24 rfl rfl rfl rfl rfl ?_)
 refine nO (x_mv rfl rfl ?_)
 obtain ⟨h19, hm⟩ := of_ite hm
 refine nO (x_ix0 rfl E24 rfl rfl rfl h19 ?_)
 refine nO (x_ldn rfl T2 rfl rfl h19 rfl rfl ?_)
 refine nO (x_mv rfl rfl ?_)
 refine nO (x_mv rfl rfl ?_)
 refine WpO.ghb (f_frz 4 [3, 58] rfl (all_plain_map _) (.cons rfl (by simp) (.cons rfl (by simp) .nil)) rfl) ?_
 refine yG ?_
 intro _ hm
 obtain ⟨x20, h21, hm⟩ := of_bind hm
 refine nO (cG [0, 1, 2, 3] (spec_l2G_put_sim h21) ?_)
 refine o_end ?_
 cases hm
 exact rGt [0, 1, 2, 3]
/-- (*spec.l2G).some -/
noncomputable def spec_l2G_some_m (g : Gl2G) (gr : Gl1Rd) (grets : List Int) (gpars : List (List Int)) (n : Int) : Option (Gl2G × Gl1Rd) :=
 (Option.bind (loopO (fun (st1 : Gl2G × Gl1Rd × Int) =>
 ((if (decide (st1.2.2 < n) && decide (st1.1.next < 40)) = true then
 (Option.bind (spec_l1Rd_width_m st1.2.1) fun x6 =>
 (Option.bind (spec_l1Rd_below_m x6.2 14) fun x8 =>
 (if (x8.1 == 0) = true then
 (Option.bind (spec_l1Rd_value_m x8.2 x6.1) fun x11 =>
 (Option.bind (spec_l2G_put_m st1.1 x11.2 grets gpars (({ op_ := 21, w := x6.1, a := 0, b := 0, c := 0, imm := x11.1, args := ([] : List Int) } : GInst))) fun x13 =>
 (if inI (st1.2.2 + 1) then
 (some (Sum.inl ((x13.2.1, x13.2.2, st1.2.2 + 1))))
 else none)))
 else
 (if (x8.1 == 1) = true then
 (Option.bind (spec_l2G_pick_m st1.1 x8.2 grets gpars 1) fun x17 =>
 (Option.bind (spec_l2G_pick_m x17.2.1 x17.2.2 grets gpars x6.1) fun x19 =>
 (Option.bind (spec_l2G_pick_m x19.2.1 x19.2.2 grets gpars x6.1) fun x21 =>
 (Option.bind (spec_l2G_put_m x21.2.1 x21.2.2 grets gpars (({ op_ := 22, w := x6.1, a := x17.1, b := x19.1, c := x21.1, imm := 0, args := ([] : List Int) } : GInst))) fun x23 =>
 (if inI (st1.2.2 + 1) then
 (some (Sum.inl ((x23.2.1, x23.2.2, st1.2.2 + 1))))
 else none)))))
 else
 (if (x8.1 == 2) = true then
 (Option.bind (spec_l2G_pick_m st1.1 x8.2 grets gpars 8) fun x27 =>
 (Option.bind ((Option.bind (spec_l1Rd_below_m x27.2.2 2) fun x30 =>
 (if 0 ≤ x30.1 ∧ x30.1 < (List.length ([18, 19]) : Int) then
 (Option.bind (spec_l1Rd_below_m x30.2 2) fun x33 =>
 (if 0 ≤ x33.1 ∧ x33.1 < (List.length ([16, 32]) : Int) then
 (Option.bind (spec_l2G_put_m x27.2.1 x33.2 grets gpars (({ op_ := at_ ([18, 19]) x30.1, w := at_ ([16, 32]) x33.1, a := x27.1, b := 0, c := 0, imm := 0, args := ([] : List Int) } : GInst))) fun x36 =>
 (some ((x36.2.1, x36.2.2))))
 else none))
 else none))) fun (j29 : Gl2G × Gl1Rd) =>
 (if inI (st1.2.2 + 1) then
 (some (Sum.inl ((j29.1, j29.2, st1.2.2 + 1))))
 else none)))
 else
 (if (x8.1 == 3) = true then
 (Option.bind (spec_l2G_pick_m st1.1 x8.2 grets gpars 32) fun x41 =>
 (Option.bind (spec_l1Rd_below_m x41.2.2 3) fun x43 =>
 (if 0 ≤ x43.1 ∧ x43.1 < (List.length ([1, 8, 16]) : Int) then
 (Option.bind (spec_l2G_put_m x41.2.1 x43.2 grets gpars (({ op_ := 20, w := at_ ([1, 8, 16]) x43.1, a := x41.1, b := 0, c := 0, imm := 0, args := ([] : List Int) } : GInst))) fun x46 =>
 (if inI (st1.2.2 + 1) then
 (some (Sum.inl ((x46.2.1, x46.2.2, st1.2.2 + 1))))
 else none))
 else none)))
 else
 (if (x8.1 == 4) = true then
 (Option.bind (spec_l1Rd_below_m x8.2 34) fun x50 =>
 (Option.bind (spec_l2G_put_m st1.1 x50.2 grets gpars (({ op_ := 21, w := 32, a := 0, b := 0, c := 0, imm := x50.1, args := ([] : List Int) } : GInst))) fun x52 =>
 (Option.bind (spec_l2G_put_m x52.2.1 x52.2.2 grets gpars (({ op_ := 23, w := 8, a := x52.1, b := 0, c := 0, imm := 0, args := ([] : List Int) } : GInst))) fun x54 =>
 (if inI (st1.2.2 + 1) then
 (some (Sum.inl ((x54.2.1, x54.2.2, st1.2.2 + 1))))
 else none))))
 else
 (if (x8.1 == 5) = true then
 (Option.bind (spec_l1Rd_below_m x8.2 33) fun x58 =>
 (Option.bind (spec_l2G_put_m st1.1 x58.2 grets gpars (({ op_ := 21, w := 32, a := 0, b := 0, c := 0, imm := x58.1, args := ([] : List Int) } : GInst))) fun x60 =>
 (Option.bind (spec_l2G_pick_m x60.2.1 x60.2.2 grets gpars 8) fun x62 =>
 (Option.bind (spec_l2G_put_m x62.2.1 x62.2.2 grets gpars (({ op_ := 24, w := 0, a := x60.1, b := x62.1, c := 0, imm := 0, args := ([] : List Int) } : GInst))) fun x64 =>
 (if inI (st1.2.2 + 1) then
 (some (Sum.inl ((x64.2.1, x64.2.2, st1.2.2 + 1))))
 else none)))))
 else
 (if (x8.1 == 6) = true then
 (Option.bind (spec_l2G_pick_m st1.1 x8.2 grets gpars x6.1) fun x68 =>
 (Option.bind (spec_l2G_put_m x68.2.1 x68.2.2 grets gpars (({ op_ := 25, w := 0, a := x68.1, b := 0, c := 0, imm := 0, args := ([] : List Int) } : GInst))) fun x70 =>
 (if inI (st1.2.2 + 1) then
 (some (Sum.inl ((x70.2.1, x70.2.2, st1.2.2 + 1))))
 else none)))
 else
 (if (x8.1 == 7) = true then
 (Option.bind (spec_l2G_pick_m st1.1 x8.2 grets gpars x6.1) fun x74 =>
 (Option.bind (spec_l2G_put_m x74.2.1 x74.2.2 grets gpars (({ op_ := 27, w := x6.1, a := x74.1, b := 0, c := 0, imm := 0, args := ([] : List Int) } : GInst))) fun x76 =>
 (if inI (st1.2.2 + 1) then
 (some (Sum.inl ((x76.2.1, x76.2.2, st1.2.2 + 1))))
 else none)))
 else
 (if (x8.1 == 8) = true then
 (Option.bind (spec_l2G_call_m st1.1 x8.2 grets gpars) fun x80 =>
 (if inI (st1.2.2 + 1) then
 (some (Sum.inl ((x80.1, x80.2, st1.2.2 + 1))))
 else none))
 else
 (Option.bind (spec_l2G_pick_m st1.1 x8.2 grets gpars x6.1) fun x83 =>
 (Option.bind (spec_l2G_pick_m x83.2.1 x83.2.2 grets gpars x6.1) fun x85 =>
 (Option.bind (spec_l1Rd_below_m x85.2.2 17) fun x87 =>
 (if inI (1 + x87.1) then
 (Option.bind (spec_l2G_put_m x85.2.1 x87.2 grets gpars (({ op_ := 1 + x87.1, w := x6.1, a := x83.1, b := x85.1, c := 0, imm := 0, args := ([] : List Int) } : GInst))) fun x90 =>
 (if inI (st1.2.2 + 1) then
 (some (Sum.inl ((x90.2.1, x90.2.2, st1.2.2 + 1))))
 else none))
 else none)))))))))))))))
 else
 (some (Sum.inr (((st1.1, st1.2.1)))))) : Option ((Gl2G × Gl1Rd × Int) ⊕ ((Gl2G × Gl1Rd))))) (g, gr, 0)) fun (j2 : Gl2G × Gl1Rd) =>
 (some ((j2.1, j2.2))))
theorem spec_l2G_some_sim {g : Gl2G} {gr : Gl1Rd} {grets : List Int} {gpars : List (List Int)} {n : Int} {r : Gl2G × Gl1Rd} (hm : spec_l2G_some_m g gr grets gpars n = some r) : Sim Tryz.prog 193 [.one (.ptr () 0 0 0), .one (.int .i64 n)] [⟨(), 15, [hl2G (.ptr () 1 0 0) (.ref () 2 0 (List.length grets)) (.ref () 3 0 (List.length gpars)) g]⟩, ⟨(), 2, [el1Rd false gr]⟩, ⟨(), 1, List.map iL grets⟩, ⟨(), 1, List.map (lL false 1 iL) gpars⟩] (.tup []) [⟨(), 15, [hl2G (.ptr () 1 0 0) (.ref () 2 0 (List.length grets)) (.ref () 3 0 (List.length gpars)) r.1]⟩, ⟨(), 2, [el1Rd false r.2]⟩, ⟨(), 1, List.map iL grets⟩, ⟨(), 1, List.map (lL false 1 iL) gpars⟩] := by
 refine fN 181 4 Tryz.func193 [] fun B hB0 => ?_
 unfold spec_l2G_some_m at hm
 refine yG ?_
 intro _ hm
 obtain ⟨j2, hl94, hm⟩ := of_bind hm
 refine lP hl94 (fun st1 => St 181 [(0, vP 0), (1, vI n), (4, vI st1.2.2)] [(0, oL 15 (hl2G (.ptr () 1 0 0) (.ref () 2 0 (List.length grets)) (.ref () 3 0 (List.length gpars)) st1.1)), (1, oL 2 (el1Rd false st1.2.1)), (2, oM 1 iL grets), (3, oM 1 (lL false 1 iL) gpars)] 4) (fun j2 => (.exit 0, St 181 [] [(0, oL 15 (hl2G (.ptr () 1 0 0) (.ref () 2 0 (List.length grets)) (.ref () 3 0 (List.length gpars)) j2.1)), (1, oL 2 (el1Rd false j2.2)), (2, oM 1 iL grets), (3, oM 1 (lL false 1 iL) gpars)] 4)) (vW [0, 1, 2, 3]) ?_ ?_
 intro st1 x hm
 refine Wp.seq ?_
 refine Wp.seq ?_
 refine c_cut (St 181 [(0, vP 0), (1, vI n), (4, vI st1.2.2), (27, vB ((decide (st1.2.2 < n) && decide (st1.1.next < 40))))] [(0, oL 15 (hl2G (.ptr () 1 0 0) (.ref () 2 0 (List.length grets)) (.ref () 3 0 (List.length gpars)) st1.1)), (1, oL 2 (el1Rd false st1.2.1)), (2, oM 1 iL grets), (3, oM 1 (lL false 1 iL) gpars)] 4) ?_ ?_
 refine yG ?_
 intro _ hm
 refine gO_s rfl rfl rfl (fun hb4 => ?_) (fun hb4 => ?_)
 refine yG ?_
 intro _ hm
 exact w_ [0, 1, 2, 3] (.cons rfl rfl (.cons rfl rfl (.cons rfl rfl (.cons (by simp only [hb4, BO]; rfl) rfl .nil)))) (.lit rfl rfl (.lit rfl rfl (.map rfl (.map rfl .nil)))) (by decide) (hB_n 4 hB0 rfl)
 refine yG ?_
 intro _ hm
 exact w_ [0, 1, 2, 3] (.cons rfl rfl (.cons rfl rfl (.cons rfl rfl (.cons (by simp only [hb4, BO]; rfl) rfl .nil)))) (.lit rfl rfl (.lit rfl rfl (.map rfl (.map rfl .nil)))) (by decide) (hB_n 4 hB0 rfl)
 refine bS hm (fun hb5 hm => ?_) fun hb5 hm => ?_
 refine yG ?_
 intro _ hm
 obtain ⟨x6, h7, hm⟩ := of_bind hm
 refine nO (cG [1] (spec_l1Rd_width_sim h7) ?_)
 refine yG ?_
 intro _ hm
 obtain ⟨x8, h9, hm⟩ := of_bind hm
 refine nO (cG [1] (spec_l1Rd_below_sim h9) ?_)
 refine yG ?_
 intro _ hm
 refine bS hm (fun hb10 hm => ?_) fun hb10 hm => ?_
 refine yG ?_
 intro _ hm
 obtain ⟨x11, h12, hm⟩ := of_bind hm
 refine nO (cG [1] (spec_l1Rd_value_sim h12) ?_)
 refine nO (x_bu (cells := [.int .i64 21, .int .i64 x6.1, .int .i64 0, .int .i64 0, .int .i64 0, .int .i64 x11.1, .nl]) T29 rfl rfl rfl ?_)
 refine WpO.ghb (q_nb 68 6 1) ?_
 obtain ⟨x13, h14, hm⟩ := of_bind hm
 refine nO (cG [0, 1, 2, 3] (spec_l2G_put_sim h14) ?_)
 refine yG ?_
 intro k1 hm
 cases hm
 exact ⟨rfl, vW [0, 1, 2, 3]⟩
 refine yG ?_
 intro _ hm
 refine bS hm (fun hb16 hm => ?_) fun hb16 hm => ?_
 refine yG ?_
 intro _ hm
 obtain ⟨x17, h18, hm⟩ := of_bind hm
 refine nO (cG [0, 1, 2, 3] (spec_l2G_pick_sim h18) ?_)
 refine yG ?_
 intro _ hm
 obtain ⟨x19, h20, hm⟩ := of_bind hm
 refine nO (cG [0, 1, 2, 3] (spec_l2G_pick_sim h20) ?_)
 refine yG ?_
 intro _ hm
 obtain ⟨x21, h22, hm⟩ := of_bind hm
 refine nO (cG [0, 1, 2, 3] (spec_l2G_pick_sim h22) ?_)
 refine nO (x_as rfl rfl ?_)
 refine o_end ?_
 refine c_regS ?_
 refine nO (x_mv rfl rfl ?_)
 refine nO (x_mv rfl rfl ?_)
 refine nO (x_mv rfl rfl ?_)
 refine nO (x_mv rfl rfl ?_)
 refine nO (x_mv rfl rfl ?_)
 refine nO (x_bu (cells := [.int .i64 22, .int .i64 x6.1, .int .i64 x17.1, .int .i64 x19.1, .int .i64 x21.1, .int .i64 0, .nl]) T29 rfl rfl rfl ?_)
 refine WpO.ghb (q_nb 85 6 1) ?_
 obtain ⟨x23, h24, hm⟩ := of_bind hm
 refine nO (cG [0, 1, 2, 3] (spec_l2G_put_sim h24) ?_)
 refine yG ?_
 intro k2 hm
 cases hm
 exact ⟨rfl, vW [0, 1, 2, 3]⟩
 refine yG ?_
 intro _ hm
 refine bS hm (fun hb26 hm => ?_) fun hb26 hm => ?_
 refine yG ?_
 intro _ hm
 obtain ⟨x27, h28, hm⟩ := of_bind hm
 refine nO (cG [0, 1, 2, 3] (spec_l2G_pick_sim h28) ?_)
 refine nO (x_as rfl rfl ?_)
 refine o_end ?_
 obtain ⟨j29, hj38, hm⟩ := of_bind hm
 refine c_cut (St 181 [(0, vP 0), (1, vI n), (4, vI st1.2.2)] [(0, oL 15 (hl2G (.ptr () 1 0 0) (.ref () 2 0 (List.length grets)) (.ref () 3 0 (List.length gpars)) j29.1)), (1, oL 2 (el1Rd false j29.2)), (2, oM 1 iL grets), (3, oM 1 (lL false 1 iL) gpars)] 4) ?_ ?_
 replace hm := hj38
 refine c_drw (Y := sysH _ [1] [110]) mixed ?_
 obtain ⟨x30, h31, hm⟩ := of_bind hm
 have hS17_6 := (spec_l1Rd_below_sim h31)
 obtain ⟨h32, hm⟩ := of_ite hm
 obtain ⟨x33, h34, hm⟩ := of_bind hm
 have hS17_14 := (spec_l1Rd_below_sim h34)
 obtain ⟨h35, hm⟩ := of_ite hm
 obtain ⟨x36, h37, hm⟩ := of_bind hm
 have hS17_19 := (spec_l2G_put_sim h37)
 refine tK 0 0 rfl (kV ?_)
 refine tK 2 0 rfl (kV ?_)
 refine tD 3 1 [4, 5, 6, 7, 8, 14, 15, 16, 18, 19] rfl (kN ?_)
 refine tD 4 1 [5, 6, 7, 8, 14, 15, 16, 18, 19] rfl (kF ?_)
 refine tD 5 1 [6, 7, 8, 14, 15, 16, 18, 19] rfl (kD ?_)
 refine tK 10 0 rfl (kV ?_)
 refine tE 11 [12, 13, 14, 15, 16, 18, 19] rfl (kN ?_)
 refine tE 12 [13, 14, 15, 16, 18, 19] rfl (kF ?_)
 refine tE 13 [14, 15, 16, 18, 19] rfl (kD ?_)
 refine tK 17 0 rfl (kV ?_)
 refine t_n 1 [6, 9] (by decide +kernel) (.cons (wy rfl (x_bsm (enc := iL) ([18, 19]) A24 rfl rfl rfl rfl ?_)) (.cons (wy rfl (x_cgS (H := [1]) (X := [110]) (v := .u (.one (.int .i64 x30.1))) (nobs := []) (oa' := _) (nx' := 4) hS17_6 [1] rfl (by decide) (h_c rfl h_n) rfl (g_1 rfl rfl rfl (g_1 rfl rfl rfl g_n)) ent60 rfl rfl rfl rfl ?_ rfl)) (.cons (wy rfl (x_bsm (enc := iL) ([16, 32]) A24 rfl rfl rfl rfl ?_)) .nil)))
 refine t_n 6 [9] (by decide +kernel) (.cons (wy rfl (x_cgS (H := [1]) (X := [110]) (v := .u (.one (.int .i64 x30.1))) (nobs := []) (oa' := _) (nx' := 5) hS17_6 [1] rfl (by decide) (h_c rfl h_n) rfl (g_1 rfl rfl rfl (g_1 rfl rfl rfl g_n)) ent60 rfl rfl rfl rfl ?_ rfl)) (.cons (wy rfl (x_bsm (enc := iL) ([16, 32]) A24 rfl rfl rfl rfl ?_)) .nil))
 refine tE 7 [8, 18, 19] rfl (x_ix0 rfl E24 rfl rfl rfl h32 ?_)
 refine tE 8 [18, 19] rfl (x_ldn rfl T2 rfl rfl h32 rfl rfl ?_)
 refine t_n 9 [14] (by decide +kernel) (.cons (wy rfl (x_bsm (enc := iL) ([16, 32]) A24 rfl rfl rfl rfl ?_)) (.cons (wy rfl (x_cgS (H := [1]) (X := [110]) (v := .u (.one (.int .i64 x33.1))) (nobs := []) (oa' := _) (nx' := 5) hS17_14 [1] rfl (by decide) (h_c rfl h_n) rfl (g_1 rfl rfl rfl (g_1 rfl rfl rfl g_n)) ent60 rfl rfl rfl rfl ?_ rfl)) .nil))
 refine oK 14 rfl (x_cgS (H := [1]) (X := [110]) (v := .u (.one (.int .i64 x33.1))) (nobs := []) (oa' := _) (nx' := 6) hS17_14 [1] rfl (by decide) (h_c rfl h_n) rfl (g_1 rfl rfl rfl (g_1 rfl rfl rfl g_n)) ent60 rfl rfl rfl rfl ?_ rfl)
 refine tD 15 1 [16, 18, 19] rfl (x_ix0 rfl E24 rfl rfl rfl h35 ?_)
 refine tD 16 1 [18, 19] rfl (x_ldn rfl T2 rfl rfl h35 rfl rfl ?_)
 refine tK 18 0 rfl (kB ([.int .i64 (at_ ([18, 19]) x30.1), .int .i64 (at_ ([16, 32]) x33.1), .int .i64 x27.1, .int .i64 0, .int .i64 0, .int .i64 0, .nl]) ?_)
 refine oK 19 rfl (x_cgS (H := [1]) (X := [110]) (v := .u (.one (.int .i64 x36.1))) (nobs := []) (oa' := _) (nx' := 6) hS17_19 [0, 1, 2, 3] rfl (by decide) (h_c rfl (h_c rfl (h_c (hrow rfl) (h_c (hrow rfl) h_n)))) (by simp only [hl2G, knows_map, KO] <;> rfl) (g_1 rfl rfl rfl (g_an rfl (.cons (.same rfl) (.cons (.same rfl) (.cons (.same rfl) (.cons (.same rfl) (.cons (.same rfl) (.cons (.same rfl) (.cons .nl .nil))))))) rfl g_n)) ent238 rfl rfl (by simp only [hl2G, oaG, updO, pushO, ren_map, HO] <;> rfl) rfl ?_ rfl)
 refine aN ?_
 cases hm
 exact vW [0, 1, 2, 3]
 refine oK 9 rfl (kM (iL) ([16, 32]) ?_)
 refine tD 15 1 [16, 18, 19] rfl (x_ix0 rfl E24 rfl rfl rfl h35 ?_)
 refine tD 16 1 [18, 19] rfl (x_ldn rfl T2 rfl rfl h35 rfl rfl ?_)
 refine tK 18 0 rfl (kB ([.int .i64 (at_ ([18, 19]) x30.1), .int .i64 (at_ ([16, 32]) x33.1), .int .i64 x27.1, .int .i64 0, .int .i64 0, .int .i64 0, .nl]) ?_)
 refine oK 19 rfl (x_cgS (H := [1]) (X := [110]) (v := .u (.one (.int .i64 x36.1))) (nobs := []) (oa' := _) (nx' := 6) hS17_19 [0, 1, 2, 3] rfl (by decide) (h_c rfl (h_c rfl (h_c (hrow rfl) (h_c (hrow rfl) h_n)))) (by simp only [hl2G, knows_map, KO] <;> rfl) (g_1 rfl rfl rfl (g_an rfl (.cons (.same rfl) (.cons (.same rfl) (.cons (.same rfl) (.cons (.same rfl) (.cons (.same rfl) (.cons (.same rfl) (.cons .nl .nil))))))) rfl g_n)) ent238 rfl rfl (by simp only [hl2G, oaG, updO, pushO, ren_map, HO] <;> rfl) rfl ?_ rfl)
 refine aN ?_
 cases hm
 exact vW [0, 1, 2, 3]
 refine oK 6 rfl (x_cgS (H := [1]) (X := [110]) (v := .u (.one (.int .i64 x30.1))) (nobs := []) (oa' := _) (nx' := 6) hS17_6 [1] rfl (by decide) (h_c rfl h_n) rfl (g_1 rfl rfl rfl (g_1 rfl rfl rfl g_n)) ent60 rfl rfl rfl rfl ?_ rfl)
 refine tE 7 [8, 18, 19] rfl (x_ix0 rfl E24 rfl rfl rfl h32 ?_)
 refine tE 8 [18, 19] rfl (x_ldn rfl T2 rfl rfl h32 rfl rfl ?_)
 refine oK 14 rfl (x_cgS (H := [1]) (X := [110]) (v := .u (.one (.int .i64 x33.1))) (nobs := []) (oa' := _) (nx' := 6) hS17_14 [1] rfl (by decide) (h_c rfl h_n) rfl (g_1 rfl rfl rfl (g_1 rfl rfl rfl g_n)) ent60 rfl rfl rfl rfl ?_ rfl)
 refine tD 15 1 [16, 18, 19] rfl (x_ix0 rfl E24 rfl rfl rfl h35 ?_)
 refine tD 16 1 [18, 19] rfl (x_ldn rfl T2 rfl rfl h35 rfl rfl ?_)
 refine tK 18 0 rfl (kB ([.int .i64 (at_ ([18, 19]) x30.1), .int .i64 (at_ ([16, 32]) x33.1), .int .i64 x27.1, .int .i64 0, .int .i64 0, .int .i64 0, .nl]) ?_)
 refine oK 19 rfl (x_cgS (H := [1]) (X := [110]) (v := .u (.one (.int .i64 x36.1))) (nobs := []) (oa' := _) (nx' := 6) hS17_19 [0, 1, 2, 3] rfl (by decide) (h_c rfl (h_c rfl (h_c (hrow rfl) (h_c (hrow rfl) h_n)))) (by simp only [hl2G, knows_map, KO] <;> rfl) (g_1 rfl rfl rfl (g_an rfl (.cons (.same rfl) (.cons (.same rfl) (.cons (.same rfl) (.cons (.same rfl) (.cons (.same rfl) (.cons (.same rfl) (.cons .nl .nil))))))) rfl g_n)) ent238 rfl rfl (by simp only [hl2G, oaG, updO, pushO, ren_map, HO] <;> rfl) rfl ?_ rfl)
 refine aN ?_
 cases hm
 exact vW [0, 1, 2, 3]
 refine t_n 1 [9, 14] (by decide +kernel) (.cons (wy rfl (x_bsm (enc := iL) ([18, 19]) A24 rfl rfl rfl rfl ?_)) (.cons (wy rfl (x_bsm (enc := iL) ([16, 32]) A24 rfl rfl rfl rfl ?_)) (.cons (wy rfl (x_cgS (H := [1]) (X := [110]) (v := .u (.one (.int .i64 x33.1))) (nobs := []) (oa' := _) (nx' := 4) hS17_14 [1] rfl (by decide) (h_c rfl h_n) rfl (g_1 rfl rfl rfl (g_1 rfl rfl rfl g_n)) ent60 rfl rfl rfl rfl ?_ rfl)) .nil)))
 refine tE 7 [8, 18, 19] rfl (x_ix0 rfl E24 rfl rfl rfl h32 ?_)
 refine tE 8 [18, 19] rfl (x_ldn rfl T2 rfl rfl h32 rfl rfl ?_)
 refine t_n 9 [14] (by decide +kernel) (.cons (wy rfl (x_bsm (enc := iL) ([16, 32]) A24 rfl rfl rfl rfl ?_)) (.cons (wy rfl (x_cgS (H := [1]) (X := [110]) (v := .u (.one (.int .i64 x33.1))) (nobs := []) (oa' := _) (nx' := 5) hS17_14 [1] rfl (by decide) (h_c rfl h_n) rfl (g_1 rfl rfl rfl (g_1 rfl rfl rfl g_n)) ent60 rfl rfl rfl rfl ?_ rfl)) .nil))
 refine oK 14 rfl (x_cgS (H := [1]) (X := [110]) (v := .u (.one (.int .i64 x33.1))) (nobs := []) (oa' := _) (nx' := 6) hS17_14 [1] rfl (by decide) (h_c rfl h_n) rfl (g_1 rfl rfl rfl (g_1 rfl rfl rfl g_n)) ent60 rfl rfl rfl rfl ?_ rfl)
 refine tD 15 1 [16, 18, 19] rfl (x_ix0 rfl E24 rfl rfl rfl h35 ?_)
 refine tD 16 1 [18, 19] rfl (x_ldn rfl T2 rfl rfl h35 rfl rfl ?_)
 refine tK 18 0 rfl (kB ([.int .i64 (at_ ([18, 19]) x30.1), .int .i64 (at_ ([16, 32]) x33.1), .int .i64 x27.1, .int .i64 0, .int .i64 0, .int .i64 0, .nl]) ?_)
 refine oK 19 rfl (x_cgS (H := [1]) (X := [110]) (v := .u (.one (.int .i64 x36.1))) (nobs := []) (oa' := _) (nx' := 6) hS17_19 [0, 1, 2, 3] rfl (by decide) (h_c rfl (h_c rfl (h_c (hrow rfl) (h_c (hrow rfl) h_n)))) (by simp only [hl2G, knows_map, KO] <;> rfl) (g_1 rfl rfl rfl (g_an rfl (.cons (.same rfl) (.cons (.same rfl) (.cons (.same rfl) (.cons (.same rfl) (.cons (.same rfl) (.cons (.same rfl) (.cons .nl .nil))))))) rfl g_n)) ent238 rfl rfl (by simp only [hl2G, oaG, updO, pushO, ren_map, HO] <;> rfl) rfl ?_ rfl)
 refine aN ?_
 cases hm
 exact vW [0, 1, 2, 3]
 refine oK 9 rfl (kM (iL) ([16, 32]) ?_)
 refine tD 15 1 [16, 18, 19] rfl (x_ix0 rfl E24 rfl rfl rfl h35 ?_)
 refine tD 16 1 [18, 19] rfl (x_ldn rfl T2 rfl rfl h35 rfl rfl ?_)
 refine tK 18 0 rfl (kB ([.int .i64 (at_ ([18, 19]) x30.1), .int .i64 (at_ ([16, 32]) x33.1), .int .i64 x27.1, .int .i64 0, .int .i64 0, .int .i64 0, .nl]) ?_)
 refine oK 19 rfl (x_cgS (H := [1]) (X := [110]) (v := .u (.one (.int .i64 x36.1))) (nobs := []) (oa' := _) (nx' := 6) hS17_19 [0, 1, 2, 3] rfl (by decide) (h_c rfl (h_c rfl (h_c (hrow rfl) (h_c (hrow rfl) h_n)))) (by simp only [hl2G, knows_map, KO] <;> rfl) (g_1 rfl rfl rfl (g_an rfl (.cons (.same rfl) (.cons (.same rfl) (.cons (.same rfl) (.cons (.same rfl) (.cons (.same rfl) (.cons (.same rfl) (.cons .nl .nil))))))) rfl g_n)) ent238 rfl rfl (by simp only [hl2G, oaG, updO, pushO, ren_map, HO] <;> rfl) rfl ?_ rfl)
 refine aN ?_
 cases hm
 exact vW [0, 1, 2, 3]
 refine t_n 1 [14] (by decide +kernel) (.cons (wy rfl (x_bsm (enc := iL) ([18, 19]) A24 rfl rfl rfl rfl ?_)) (.cons (wy rfl (x_cgS (H := [1]) (X := [110]) (v := .u (.one (.int .i64 x33.1))) (nobs := []) (oa' := _) (nx' := 5) hS17_14 [1] rfl (by decide) (h_c rfl h_n) rfl (g_1 rfl rfl rfl (g_1 rfl rfl rfl g_n)) ent60 rfl rfl rfl rfl ?_ rfl)) .nil))
 refine tE 7 [8, 18, 19] rfl (x_ix0 rfl E24 rfl rfl rfl h32 ?_)
 refine tE 8 [18, 19] rfl (x_ldn rfl T2 rfl rfl h32 rfl rfl ?_)
 refine oK 14 rfl (x_cgS (H := [1]) (X := [110]) (v := .u (.one (.int .i64 x33.1))) (nobs := []) (oa' := _) (nx' := 6) hS17_14 [1] rfl (by decide) (h_c rfl h_n) rfl (g_1 rfl rfl rfl (g_1 rfl rfl rfl g_n)) ent60 rfl rfl rfl rfl ?_ rfl)
 refine tD 15 1 [16, 18, 19] rfl (x_ix0 rfl E24 rfl rfl rfl h35 ?_)
 refine tD 16 1 [18, 19] rfl (x_ldn rfl T2 rfl rfl h35 rfl rfl ?_)
 refine tK 18 0 rfl (kB ([.int .i64 (at_ ([18, 19]) x30.1), .int .i64 (at_ ([16, 32]) x33.1), .int .i64 x27.1, .int .i64 0, .int .i64 0, .int .i64 0, .nl]) ?_)
 refine oK 19 rfl (x_cgS (H := [1]) (X := [110]) (v := .u (.one (.int .i64 x36.1))) (nobs := []) (oa' := _) (nx' := 6) hS17_19 [0, 1, 2, 3] rfl (by decide) (h_c rfl (h_c rfl (h_c (hrow rfl) (h_c (hrow rfl) h_n)))) (by simp only [hl2G, knows_map, KO] <;> rfl) (g_1 rfl rfl rfl (g_an rfl (.cons (.same rfl) (.cons (.same rfl) (.cons (.same rfl) (.cons (.same rfl) (.cons (.same rfl) (.cons (.same rfl) (.cons .nl .nil))))))) rfl g_n)) ent238 rfl rfl (by simp only [hl2G, oaG, updO, pushO, ren_map, HO] <;> rfl) rfl ?_ rfl)
 refine aN ?_
 cases hm
 exact vW [0, 1, 2, 3]
 refine tD 15 1 [16, 18, 19] rfl (x_ix0 rfl E24 rfl rfl rfl h35 ?_)
 refine tD 16 1 [18, 19] rfl (x_ldn rfl T2 rfl rfl h35 rfl rfl ?_)
 refine oK 1 rfl (kM (iL) ([18, 19]) ?_)
 refine tD 7 1 [8, 18, 19] rfl (x_ix0 rfl E24 rfl rfl rfl h32 ?_)
 refine tD 8 1 [18, 19] rfl (x_ldn rfl T2 rfl rfl h32 rfl rfl ?_)
 refine tK 18 0 rfl (kB ([.int .i64 (at_ ([18, 19]) x30.1), .int .i64 (at_ ([16, 32]) x33.1), .int .i64 x27.1, .int .i64 0, .int .i64 0, .int .i64 0, .nl]) ?_)
 refine oK 19 rfl (x_cgS (H := [1]) (X := [110]) (v := .u (.one (.int .i64 x36.1))) (nobs := []) (oa' := _) (nx' := 6) hS17_19 [0, 1, 2, 3] rfl (by decide) (h_c rfl (h_c rfl (h_c (hrow rfl) (h_c (hrow rfl) h_n)))) (by simp only [hl2G, knows_map, KO] <;> rfl) (g_1 rfl rfl rfl (g_an rfl (.cons (.same rfl) (.cons (.same rfl) (.cons (.same rfl) (.cons (.same rfl) (.cons (.same rfl) (.cons (.same rfl) (.cons .nl .nil))))))) rfl g_n)) ent238 rfl rfl (by simp only [hl2G, oaG, updO, pushO, ren_map, HO] <;> rfl) rfl ?_ rfl)
 refine aN ?_
 cases hm
 exact vW [0, 1, 2, 3]
 refine t_n 1 [9] (by decide +kernel) (.cons (wy rfl (x_bsm (enc := iL) ([18, 19]) A24 rfl rfl rfl rfl ?_)) (.cons (wy rfl (x_bsm (enc := iL) ([16, 32]) A24 rfl rfl rfl rfl ?_)) .nil))
 refine tD 7 1 [8, 18, 19] rfl (x_ix0 rfl E24 rfl rfl rfl h32 ?_)
 refine tD 8 1 [18, 19] rfl (x_ldn rfl T2 rfl rfl h32 rfl rfl ?_)
 refine oK 9 rfl (kM (iL) ([16, 32]) ?_)
 refine tD 15 1 [16, 18, 19] rfl (x_ix0 rfl E24 rfl rfl rfl h35 ?_)
 refine tD 16 1 [18, 19] rfl (x_ldn rfl T2 rfl rfl h35 rfl rfl ?_)
 refine tK 18 0 rfl (kB ([.int .i64 (at_ ([18, 19]) x30.1), .int .i64 (at_ ([16, 32]) x33.1), .int .i64 x27.1, .int .i64 0, .int .i64 0, .int .i64 0, .nl]) ?_)
 refine oK 19 rfl (x_cgS (H := [1]) (X := [110]) (v := .u (.one (.int .i64 x36.1))) (nobs := []) (oa' := _) (nx' := 6) hS17_19 [0, 1, 2, 3] rfl (by decide) (h_c rfl (h_c rfl (h_c (hrow rfl) (h_c (hrow rfl) h_n)))) (by simp only [hl2G, knows_map, KO] <;> rfl) (g_1 rfl rfl rfl (g_an rfl (.cons (.same rfl) (.cons (.same rfl) (.cons (.same rfl) (.cons (.same rfl) (.cons (.same rfl) (.cons (.same rfl) (.cons .nl .nil))))))) rfl g_n)) ent238 rfl rfl (by simp only [hl2G, oaG, updO, pushO, ren_map, HO] <;> rfl) rfl ?_ rfl)
 refine aN ?_
 cases hm
 exact vW [0, 1, 2, 3]
 refine tD 15 1 [16, 18, 19] rfl (x_ix0 rfl E24 rfl rfl rfl h35 ?_)
 refine tD 16 1 [18, 19] rfl (x_ldn rfl T2 rfl rfl h35 rfl rfl ?_)
 refine oK 1 rfl (kM (iL) ([18, 19]) ?_)
 refine tD 7 1 [8, 18, 19] rfl (x_ix0 rfl E24 rfl rfl rfl h32 ?_)
 refine tD 8 1 [18, 19] rfl (x_ldn rfl T2 rfl rfl h32 rfl rfl ?_)
 refine tK 18 0 rfl (kB ([.int .i64 (at_ ([18, 19]) x30.1), .int .i64 (at_ ([16, 32]) x33.1), .int .i64 x27.1, .int .i64 0, .int .i64 0, .int .i64 0, .nl]) ?_)
 refine oK 19 rfl (x_cgS (H := [1]) (X := [110]) (v := .u (.one (.int .i64 x36.1))) (nobs := []) (oa' := _) (nx' := 6) hS17_19 [0, 1, 2, 3] rfl (by decide) (h_c rfl (h_c rfl (h_c (hrow rfl) (h_c (hrow rfl) h_n)))) (by simp only [hl2G, knows_map, KO] <;> rfl) (g_1 rfl rfl rfl (g_an rfl (.cons (.same rfl) (.cons (.same rfl) (.cons (.same rfl) (.cons (.same rfl) (.cons (.same rfl) (.cons (.same rfl) (.cons .nl .nil))))))) rfl g_n)) ent238 rfl rfl (by simp only [hl2G, oaG, updO, pushO, ren_map, HO] <;> rfl) rfl ?_ rfl)
 refine aN ?_
 cases hm
 exact vW [0, 1, 2, 3]
 refine t_n 1 [6] (by decide +kernel) (.cons (wy rfl (x_bsm (enc := iL) ([18, 19]) A24 rfl rfl rfl rfl ?_)) (.cons (wy rfl (x_cgS (H := [1]) (X := [110]) (v := .u (.one (.int .i64 x30.1))) (nobs := []) (oa' := _) (nx' := 5) hS17_6 [1] rfl (by decide) (h_c rfl h_n) rfl (g_1 rfl rfl rfl (g_1 rfl rfl rfl g_n)) ent60 rfl rfl rfl rfl ?_ rfl)) .nil))
 refine oK 6 rfl (x_cgS (H := [1]) (X := [110]) (v := .u (.one (.int .i64 x30.1))) (nobs := []) (oa' := _) (nx' := 6) hS17_6 [1] rfl (by decide) (h_c rfl h_n) rfl (g_1 rfl rfl rfl (g_1 rfl rfl rfl g_n)) ent60 rfl rfl rfl rfl ?_ rfl)
 refine tE 7 [8, 18, 19] rfl (x_ix0 rfl E24 rfl rfl rfl h32 ?_)
 refine tE 8 [18, 19] rfl (x_ldn rfl T2 rfl rfl h32 rfl rfl ?_)
 refine oK 14 rfl (x_cgS (H := [1]) (X := [110]) (v := .u (.one (.int .i64 x33.1))) (nobs := []) (oa' := _) (nx' := 6) hS17_14 [1] rfl (by decide) (h_c rfl h_n) rfl (g_1 rfl rfl rfl (g_1 rfl rfl rfl g_n)) ent60 rfl rfl rfl rfl ?_ rfl)
 refine tD 15 1 [16, 18, 19] rfl (x_ix0 rfl E24 rfl rfl rfl h35 ?_)
 refine tD 16 1 [18, 19] rfl (x_ldn rfl T2 rfl rfl h35 rfl rfl ?_)
 refine tK 18 0 rfl (kB ([.int .i64 (at_ ([18, 19]) x30.1), .int .i64 (at_ ([16, 32]) x33.1), .int .i64 x27.1, .int .i64 0, .int .i64 0, .int .i64 0, .nl]) ?_)
 refine oK 19 rfl (x_cgS (H := [1]) (X := [110]) (v := .u (.one (.int .i64 x36.1))) (nobs := []) (oa' := _) (nx' := 6) hS17_19 [0, 1, 2, 3] rfl (by decide) (h_c rfl (h_c rfl (h_c (hrow rfl) (h_c (hrow rfl) h_n)))) (by simp only [hl2G, knows_map, KO] <;> rfl) (g_1 rfl rfl rfl (g_an rfl (.cons (.same rfl) (.cons (.same rfl) (.cons (.same rfl) (.cons (.same rfl) (.cons (.same rfl) (.cons (.same rfl) (.cons .nl .nil))))))) rfl g_n)) ent238 rfl rfl (by simp only [hl2G, oaG, updO, pushO, ren_map, HO] <;> rfl) rfl ?_ rfl)
 refine aN ?_
 cases hm
 exact vW [0, 1, 2, 3]
 refine t_n 1 [14] (by decide +kernel) (.cons (wy rfl (x_bsm (enc := iL) ([18, 19]) A24 rfl rfl rfl rfl ?_)) (.cons (wy rfl (x_cgS (H := [1]) (X := [110]) (v := .u (.one (.int .i64 x33.1))) (nobs := []) (oa' := _) (nx' := 5) hS17_14 [1] rfl (by decide) (h_c rfl h_n) rfl (g_1 rfl rfl rfl (g_1 rfl rfl rfl g_n)) ent60 rfl rfl rfl rfl ?_ rfl)) .nil))
 refine tE 7 [8, 18, 19] rfl (x_ix0 rfl E24 rfl rfl rfl h32 ?_)
 refine tE 8 [18, 19] rfl (x_ldn rfl T2 rfl rfl h32 rfl rfl ?_)
 refine oK 14 rfl (x_cgS (H := [1]) (X := [110]) (v := .u (.one (.int .i64 x33.1))) (nobs := []) (oa' := _) (nx' := 6) hS17_14 [1] rfl (by decide) (h_c rfl h_n) rfl (g_1 rfl rfl rfl (g_1 rfl rfl rfl g_n)) ent60 rfl rfl rfl rfl ?_ rfl)
 refine tD 15 1 [16, 18, 19] rfl (x_ix0 rfl E24 rfl rfl rfl h35 ?_)
 refine tD 16 1 [18, 19] rfl (x_ldn rfl T2 rfl rfl h35 rfl rfl ?_)
 refine tK 18 0 rfl (kB ([.int .i64 (at_ ([18, 19]) x30.1), .int .i64 (at_ ([16, 32]) x33.1), .int .i64 x27.1, .int .i64 0, .int .i64 0, .int .i64 0, .nl]) ?_)
 refine oK 19 rfl (x_cgS (H := [1]) (X := [110]) (v := .u (.one (.int .i64 x36.1))) (nobs := []) (oa' := _) (nx' := 6) hS17_19 [0, 1, 2, 3] rfl (by decide) (h_c rfl (h_c rfl (h_c (hrow rfl) (h_c (hrow rfl) h_n)))) (by simp only [hl2G, knows_map, KO] <;> rfl) (g_1 rfl rfl rfl (g_an rfl (.cons (.same rfl) (.cons (.same rfl) (.cons (.same rfl) (.cons (.same rfl) (.cons (.same rfl) (.cons (.same rfl) (.cons .nl .nil))))))) rfl g_n)) ent238 rfl rfl (by simp only [hl2G, oaG, updO, pushO, ren_map, HO] <;> rfl) rfl ?_ rfl)
 refine aN ?_
 cases hm
 exact vW [0, 1, 2, 3]
 refine tD 15 1 [16, 18, 19] rfl (x_ix0 rfl E24 rfl rfl rfl h35 ?_)
 refine tD 16 1 [18, 19] rfl (x_ldn rfl T2 rfl rfl h35 rfl rfl ?_)
 refine oK 1 rfl (kM (iL) ([18, 19]) ?_)
 refine tD 7 1 [8, 18, 19] rfl (x_ix0 rfl E24 rfl rfl rfl h32 ?_)
 refine tD 8 1 [18, 19] rfl (x_ldn rfl T2 rfl rfl h32 rfl rfl ?_)
 refine tK 18 0 rfl (kB ([.int .i64 (at_ ([18, 19]) x30.1), .int .i64 (at_ ([16, 32]) x33.1), .int .i64 x27.1, .int .i64 0, .int .i64 0, .int .i64 0, .nl]) ?_)
 refine oK 19 rfl (x_cgS (H := [1]) (X := [110]) (v := .u (.one (.int .i64 x36.1))) (nobs := []) (oa' := _) (nx' := 6) hS17_19 [0, 1, 2, 3] rfl (by decide) (h_c rfl (h_c rfl (h_c (hrow rfl) (h_c (hrow rfl) h_n)))) (by simp only [hl2G, knows_map, KO] <;> rfl) (g_1 rfl rfl rfl (g_an rfl (.cons (.same rfl) (.cons (.same rfl) (.cons (.same rfl) (.cons (.same rfl) (.cons (.same rfl) (.cons (.same rfl) (.cons .nl .nil))))))) rfl g_n)) ent238 rfl rfl (by simp only [hl2G, oaG, updO, pushO, ren_map, HO] <;> rfl) rfl ?_ rfl)
 refine aN ?_
 cases hm
 exact vW [0, 1, 2, 3]
 refine yG ?_
 intro k3 hm
 cases hm
 exact ⟨rfl, vW [0, 1, 2, 3]⟩
 refine yG ?_
 intro _ hm
 refine bS hm (fun hb40 hm => ?_) fun hb40 hm => ?_
 refine yG ?_
 intro _ hm
 obtain ⟨x41, h42, hm⟩ := of_bind hm
 refine nO (cG [0, 1, 2, 3] (spec_l2G_pick_sim h42) ?_)
 refine yG ?_
 intro _ hm
 refine nO (kM (iL) ([1, 8, 16]) ?_)
 refine yG ?_
 intro _ hm
 obtain ⟨x43, h44, hm⟩ := of_bind hm
 refine nO (cG [1] (spec_l1Rd_below_sim h44) ?_)
 obtain ⟨h45, hm⟩ := of_ite hm
 refine nO (x_ix0 rfl E24 rfl rfl rfl h45 ?_)
 refine nO (x_ldn rfl T2 rfl rfl h45 rfl rfl ?_)
 refine nO (x_mv rfl rfl ?_)
 refine nO (x_bu (cells := [.int .i64 20, .int .i64 (at_ ([1, 8, 16]) x43.1), .int .i64 x41.1, .int .i64 0, .int .i64 0, .int .i64 0, .nl]) T29 rfl rfl rfl ?_)
 refine WpO.ghb (q_nb 125 6 1) ?_
 obtain ⟨x46, h47, hm⟩ := of_bind hm
 refine nO (cG [0, 1, 2, 3] (spec_l2G_put_sim h47) ?_)
 refine yG ?_
 intro k4 hm
 cases hm
 exact ⟨rfl, vW [0, 1, 2, 3]⟩
 refine yG ?_
 intro _ hm
 refine bS hm (fun hb49 hm => ?_) fun hb49 hm => ?_
 refine yG ?_
 intro _ hm
 obtain ⟨x50, h51, hm⟩ := of_bind hm
 refine nO (cG [1] (spec_l1Rd_below_sim h51) ?_)
 refine nO (x_bu (cells := [.int .i64 21, .int .i64 32, .int .i64 0, .int .i64 0, .int .i64 0, .int .i64 x50.1, .nl]) T29 rfl rfl rfl ?_)
 refine WpO.ghb (q_nb 135 6 1) ?_
 obtain ⟨x52, h53, hm⟩ := of_bind hm
 refine nO (cG [0, 1, 2, 3] (spec_l2G_put_sim h53) ?_)
 refine nO (x_as rfl rfl ?_)
 refine o_end ?_
 refine c_regS ?_
 refine nO (x_mv rfl rfl ?_)
 refine nO (x_mv rfl rfl ?_)
 refine nO (x_bu (cells := [.int .i64 23, .int .i64 8, .int .i64 x52.1, .int .i64 0, .int .i64 0, .int .i64 0, .nl]) T29 rfl rfl rfl ?_)
 refine WpO.ghb (q_nb 139 6 1) ?_
 obtain ⟨x54, h55, hm⟩ := of_bind hm
 refine nO (cG [0, 1, 2, 3] (spec_l2G_put_sim h55) ?_)
 refine yG ?_
 intro k5 hm
 cases hm
 exact ⟨rfl, vW [0, 1, 2, 3]⟩
 refine yG ?_
 intro _ hm
 refine bS hm (fun hb57 hm => ?_) fun hb57 hm => ?_
 refine yG ?_
 intro _ hm
 obtain ⟨x58, h59, hm⟩ := of_bind hm
 refine nO (cG [1] (spec_l1Rd_below_sim h59) ?_)
 refine nO (x_bu (cells := [.int .i64 21, .int .i64 32, .int .i64 0, .int .i64 0, .int .i64 0, .int .i64 x58.1, .nl]) T29 rfl rfl rfl ?_)
 refine WpO.ghb (q_nb 149 6 1) ?_
 obtain ⟨x60, h61, hm⟩ := of_bind hm
 refine nO (cG [0, 1, 2, 3] (spec_l2G_put_sim h61) ?_)
 refine yG ?_
 intro _ hm
 obtain ⟨x62, h63, hm⟩ := of_bind hm
 refine nO (cG [0, 1, 2, 3] (spec_l2G_pick_sim h63) ?_)
 refine nO (x_as rfl rfl ?_)
 refine o_end ?_
 refine c_regS ?_
 refine nO (x_mv rfl rfl ?_)
 refine nO (x_mv rfl rfl ?_)
 refine nO (x_mv rfl rfl ?_)
 refine nO (x_bu (cells := [.int .i64 24, .int .i64 0, .int .i64 x60.1, .int .i64 x62.1, .int .i64 0, .int .i64 0, .nl]) T29 rfl rfl rfl ?_)
 refine WpO.ghb (q_nb 156 6 1) ?_
 obtain ⟨x64, h65, hm⟩ := of_bind hm
 refine nO (cG [0, 1, 2, 3] (spec_l2G_put_sim h65) ?_)
 refine yG ?_
 intro k6 hm
 cases hm
 exact ⟨rfl, vW [0, 1, 2, 3]⟩
 refine yG ?_
 intro _ hm
 refine bS hm (fun hb67 hm => ?_) fun hb67 hm => ?_
 refine yG ?_
 intro _ hm
 obtain ⟨x68, h69, hm⟩ := of_bind hm
 refine nO (cG [0, 1, 2, 3] (spec_l2G_pick_sim h69) ?_)
 refine nO (x_as rfl rfl ?_)
 refine o_end ?_
 refine c_regS ?_
 refine nO (x_mv rfl rfl ?_)
 refine nO (x_mv rfl rfl ?_)
 refine nO (x_bu (cells := [.int .i64 25, .int .i64 0, .int .i64 x68.1, .int .i64 0, .int .i64 0, .int .i64 0, .nl]) T29 rfl rfl rfl ?_)
 refine WpO.ghb (q_nb 165 6 1) ?_
 obtain ⟨x70, h71, hm⟩ := of_bind hm
 refine nO (cG [0, 1, 2, 3] (spec_l2G_put_sim h71) ?_)
 refine yG ?_
 intro k7 hm
 cases hm
 exact ⟨rfl, vW [0, 1, 2, 3]⟩
 refine yG ?_
 intro _ hm
 refine bS hm (fun hb73 hm => ?_) fun hb73 hm => ?_
 refine yG ?_
 intro _ hm
 obtain ⟨x74, h75, hm⟩ := of_bind hm
 refine nO (cG [0, 1, 2, 3] (spec_l2G_pick_sim h75) ?_)
 refine nO (x_as rfl rfl ?_)
 refine o_end ?_
 refine c_regS ?_
 refine nO (x_mv rfl rfl ?_)
 refine nO (x_mv rfl rfl ?_)
 refine nO (x_mv rfl rfl ?_)
 refine nO (x_bu (cells := [.int .i64 27, .int .i64 x6.1, .int .i64 x74.1, .int .i64 0, .int .i64 0, .int .i64 0, .nl]) T29 rfl rfl rfl ?_)
 refine WpO.ghb (q_nb 175 6 1) ?_
 obtain ⟨x76, h77, hm⟩ := of_bind hm
 refine nO (cG [0, 1, 2, 3] (spec_l2G_put_sim h77) ?_)
 refine yG ?_
 intro k8 hm
 cases hm
 exact ⟨rfl, vW [0, 1, 2, 3]⟩
 refine yG ?_
 intro _ hm
 refine bS hm (fun hb79 hm => ?_) fun hb79 hm => ?_
 refine yG ?_
 intro _ hm
 obtain ⟨x80, h81, hm⟩ := of_bind hm
 refine nO (cG [0, 1, 2, 3] (spec_l2G_call_sim h81) ?_)
 refine yG ?_
 intro k9 hm
 cases hm
 exact ⟨rfl, vW [0, 1, 2, 3]⟩
 refine yG ?_
 intro _ hm
 obtain ⟨x83, h84, hm⟩ := of_bind hm
 refine nO (cG [0, 1, 2, 3] (spec_l2G_pick_sim h84) ?_)
 refine yG ?_
 intro _ hm
 obtain ⟨x85, h86, hm⟩ := of_bind hm
 refine nO (cG [0, 1, 2, 3] (spec_l2G_pick_sim h86) ?_)
 refine yG ?_
 intro _ hm
 obtain ⟨x87, h88, hm⟩ := of_bind hm
 refine nO (cG [1] (spec_l1Rd_below_sim h88) ?_)
 obtain ⟨h89, hm⟩ := of_ite hm
 refine nO (x_addc T3 rfl rfl h89 ?_)
 refine nO (x_mv rfl rfl ?_)
 refine nO (x_mv rfl rfl ?_)
 refine nO (x_mv rfl rfl ?_)
 refine nO (x_bu (cells := [.int .i64 (1 + x87.1), .int .i64 x6.1, .int .i64 x83.1, .int .i64 x85.1, .int .i64 0, .int .i64 0, .nl]) T29 rfl rfl rfl ?_)
 refine WpO.ghb (q_nb 56 6 1) ?_
 obtain ⟨x90, h91, hm⟩ := of_bind hm
 refine nO (cG [0, 1, 2, 3] (spec_l2G_put_sim h91) ?_)
 refine yG ?_
 intro k10 hm
 cases hm
 exact ⟨rfl, vW [0, 1, 2, 3]⟩
 refine c_exit ?_
 cases hm
 exact ⟨rfl, vW [0, 1, 2, 3]⟩
 cases hm
 exact rGt [0, 1, 2, 3]
/-- (*spec.l2G).close -/
noncomputable def spec_l2G_close_m (g : Gl2G) (gr : Gl1Rd) (grets : List Int) (gpars : List (List Int)) (t : GTerm) : Option (Gl2G × Gl1Rd) :=
 (if (List.length g.f.blocks + 1) * 80 ≤ 140737488355328 ∧ List.length g.f.blocks + 1 ≤ LIM then
 (some ((({ f := ({ params := g.f.params, ret := g.f.ret, blocks := g.f.blocks ++ [({ phis := g.b.phis, insts := g.b.insts, term := t } : GBlock)] } : GFunc), b := ({ phis := ([] : List GPhi), insts := ([] : List GInst), term := ({ kind := 0, a := 0, x := 0, y := 0 } : GTerm) } : GBlock), next := g.next, ids := g.ids, ws := g.ws } : Gl2G), gr)))
 else none)
theorem spec_l2G_close_sim {g : Gl2G} {gr : Gl1Rd} {grets : List Int} {gpars : List (List Int)} {t : GTerm} {r : Gl2G × Gl1Rd} (hm : spec_l2G_close_m g gr grets gpars t = some r) : Sim Tryz.prog 242 [.one (.ptr () 0 0 0), .agg (eTerm t)] [⟨(), 15, [hl2G (.ptr () 1 0 0) (.ref () 2 0 (List.length grets)) (.ref () 3 0 (List.length gpars)) g]⟩, ⟨(), 2, [el1Rd false gr]⟩, ⟨(), 1, List.map iL grets⟩, ⟨(), 1, List.map (lL false 1 iL) gpars⟩] (.tup []) [⟨(), 15, [hl2G (.ptr () 1 0 0) (.ref () 2 0 (List.length grets)) (.ref () 3 0 (List.length gpars)) r.1]⟩, ⟨(), 2, [el1Rd false r.2]⟩, ⟨(), 1, List.map iL grets⟩, ⟨(), 1, List.map (lL false 1 iL) gpars⟩] := by
 refine fN 28 4 Tryz.func242 [] fun B hB0 => ?_
 unfold spec_l2G_close_m at hm
 refine yG ?_
 intro _ hm
 refine nO (kW ?_)
 refine yR ?_
 intro _ hm
 refine o_end ?_
 refine Wp.seq ?_
 refine gH (q_op 0 3) ?_
 refine gH (q_op 0 4) ?_
 refine gH (q_op 0 5) ?_
 refine c_drw (Y := sysC _) mixed ?_
 refine tK 0 0 rfl (kV ?_)
 refine tK 1 0 rfl (kV ?_)
 refine tD 2 1 [3, 4, 5, 11, 12, 13, 14, 15] rfl (kN ?_)
 refine tD 3 1 [4, 5, 11, 12, 13, 14, 15] rfl (kF ?_)
 refine tD 4 1 [5, 11, 12, 13, 14, 15] rfl (kF ?_)
 refine tK 5 1 rfl (kD ?_)
 refine tK 6 0 rfl (kV ?_)
 refine tD 7 1 [8, 9, 10, 11, 12, 13, 14, 15] rfl (kN ?_)
 refine tD 8 1 [9, 10, 11, 12, 13, 14, 15] rfl (kF ?_)
 refine tD 9 1 [10, 11, 12, 13, 14, 15] rfl (kL (.agg [.ref () 6 0 (List.length g.b.phis), .ref () 7 0 (List.length g.b.insts), .int .i64 t.kind, .int .i64 t.a, .int .i64 t.x, .int .i64 t.y]) ?_)
 refine oK 10 rfl (x_bs (rows := [[.ref () 6 0 (List.length g.b.phis), .ref () 7 0 (List.length g.b.insts), .int .i64 t.kind, .int .i64 t.a, .int .i64 t.x, .int .i64 t.y]]) A25 rfl rfl rfl ?_)
 obtain ⟨h1, hm⟩ := of_ite hm
 refine oK 11 rfl (x_apg (rows := List.map (eBlock true) g.f.blocks ++ [[.ref () 6 0 (List.length g.b.phis), .ref () 7 0 (List.length g.b.insts), .int .i64 t.kind, .int .i64 t.a, .int .i64 t.x, .int .i64 t.y]]) (len' := List.length g.f.blocks + 1) A25 N25 rfl rfl (by simp) rfl (argR_g rfl rfl) rfl (by simpa using h1) rfl (by simp) ?_)
 refine tD 12 1 [13, 14, 15] rfl (kN ?_)
 refine tD 13 1 [14, 15] rfl (kF ?_)
 refine tK 14 1 rfl (kF ?_)
 refine oK 15 rfl (kS ?_)
 refine aN ?_
 refine gH (f_cl (rows2 := List.map (ePhi true) g.b.phis) (rows' := List.map (eBlock true) g.f.blocks ++ [[.os () 2 (List.map (ePhi true) g.b.phis), .ref () 7 0 (List.length g.b.insts), .int .i64 t.kind, .int .i64 t.a, .int .i64 t.x, .int .i64 t.y]]) 9 6 (List.length g.f.blocks) 0 rfl rfl rfl (nest_map (enc := ePhi true) (g.b.phis)) cat_get rfl (by simp) cat_set) ?_
 refine gH (f_cl (rows2 := List.map (eInst false) g.b.insts) (rows' := List.map (eBlock true) (g.f.blocks ++ [({ phis := g.b.phis, insts := g.b.insts, term := t } : GBlock)])) 9 7 (List.length g.f.blocks) 1 rfl rfl rfl (nest_map (enc := eInst false) (g.b.insts)) cat_get rfl (by simp) (cat_map rfl)) ?_
 refine gH (q_cl 0 9 3) ?_
 refine yG ?_
 intro _ hm
 cases hm
 exact rGth [0, 1, 2, 3] (hg := (q_nlcR 0 4 2).trans ((q_czR 0 10 4).trans ((q_nlcR 0 5 7).trans (q_czR 0 11 5))))
end Go.Proofs.YtghdhjgoicnbcaaGreat.AM

namespace Go.Proofs.YtghdhjgoicnbcaaGreat.AM
open Go
set_option linter.unusedSimpArgs false
set_option linter.unusedVariables false
set_option maxHeartbeats 8000000
set_option maxRecDepth 100000
attribute [local irreducible] aopK awpOps Wp St WpO
/-- (*spec.l2G).phi -/
noncomputable def spec_l2G_phi_m (g : Gl2G) (gr : Gl1Rd) (grets : List Int) (gpars : List (List Int)) (w : Int) (ins : List Int) : Option (Int × Gl2G × Gl1Rd) :=
 (if (List.length g.b.phis + 1) * 32 ≤ 140737488355328 ∧ List.length g.b.phis + 1 ≤ LIM then
 (Option.bind (spec_l2G_add_m (({ f := g.f, b := ({ phis := g.b.phis ++ [({ w := w, ins := ins } : GPhi)], insts := g.b.insts, term := g.b.term } : GBlock), next := g.next, ids := g.ids, ws := g.ws } : Gl2G)) gr grets gpars w) fun x2 =>
 (some ((x2.1, x2.2.1, x2.2.2))))
 else none)
theorem spec_l2G_phi_sim {g : Gl2G} {gr : Gl1Rd} {grets : List Int} {gpars : List (List Int)} {w : Int} {ins : List Int} {r : Int × Gl2G × Gl1Rd} (hm : spec_l2G_phi_m g gr grets gpars w ins = some r) : Sim Tryz.prog 243 [.one (.ptr () 0 0 0), .one (.int .i64 w), .one (.os () 1 (List.map iL ins))] [⟨(), 15, [hl2G (.ptr () 1 0 0) (.ref () 2 0 (List.length grets)) (.ref () 3 0 (List.length gpars)) g]⟩, ⟨(), 2, [el1Rd false gr]⟩, ⟨(), 1, List.map iL grets⟩, ⟨(), 1, List.map (lL false 1 iL) gpars⟩] (.u (.one (.int .i64 r.1))) [⟨(), 15, [hl2G (.ptr () 1 0 0) (.ref () 2 0 (List.length grets)) (.ref () 3 0 (List.length gpars)) r.2.1]⟩, ⟨(), 2, [el1Rd false r.2.2]⟩, ⟨(), 1, List.map iL grets⟩, ⟨(), 1, List.map (lL false 1 iL) gpars⟩] := by
 refine fN 24 4 Tryz.func243 [.tmp 6] fun B hB0 => ?_
 unfold spec_l2G_phi_m at hm
 refine gH (f_ops (len := List.length ins) (u' := .one (.ref () 4 0 (List.length ins))) 2 0 1 rfl rfl rfl (by simp) rfl) ?_
 refine Wp.seq ?_
 refine c_regS ?_
 refine nO (x_as rfl rfl ?_)
 refine o_end ?_
 refine Wp.seq ?_
 refine c_regS ?_
 refine nO (x_mv rfl rfl ?_)
 refine nO (x_mv rfl rfl ?_)
 refine nO (x_ncp rfl rfl rfl ?_)
 refine nO (x_fap rfl F167_2 rfl rfl ?_)
 refine nO (x_fap rfl F53_0 rfl rfl ?_)
 refine WpO.ghb (q_op 0 4) ?_
 refine yG ?_
 intro _ hm
 refine nO (x_bs (rows := [[.int .i64 w, .ref () 4 0 (List.length ins)]]) A48 rfl rfl rfl ?_)
 obtain ⟨h1, hm⟩ := of_ite hm
 refine nO (x_apg (rows := List.map (ePhi true) g.b.phis ++ [[.int .i64 w, .ref () 4 0 (List.length ins)]]) (len' := List.length g.b.phis + 1) A48 N48 rfl rfl (by simp) rfl (argR_g rfl rfl) rfl (by simpa using h1) rfl (by simp) ?_)
 refine yR ?_
 intro _ hm
 refine o_end ?_
 refine Wp.seq ?_
 refine gH (f_cl (rows2 := List.map iL ins) (rows' := List.map (ePhi true) (g.b.phis ++ [({ w := w, ins := ins } : GPhi)])) 7 4 (List.length g.b.phis) 1 rfl rfl rfl (nest_map (enc := iL) (ins)) cat_get rfl (by simp) (cat_map rfl)) ?_
 refine gH (q_cl 0 7 4) ?_
 refine yG ?_
 intro _ hm
 obtain ⟨x2, h3, hm⟩ := of_bind hm
 refine nO (cG [0, 1, 2, 3] (spec_l2G_add_sim h3) ?_)
 refine yG ?_
 intro _ hm
 cases hm
 exact rG1 [0, 1, 2, 3]
/-- (*spec.l2G).fork -/
noncomputable def spec_l2G_fork_m (g : Gl2G) (gr : Gl1Rd) (grets : List Int) (gpars : List (List Int)) : Option (Gl2G × Gl1Rd) :=
 (Option.bind (spec_l2G_pick_m g gr grets gpars 1) fun x2 =>
 (Option.bind (spec_l2G_close_m x2.2.1 x2.2.2 grets gpars (({ kind := 3, a := x2.1, x := ((List.length g.f.blocks : Int)) + 1, y := ((List.length g.f.blocks : Int)) + 2 } : GTerm))) fun x4 =>
 (Option.bind (spec_l1Rd_below_m x4.2 3) fun x6 =>
 (Option.bind (spec_l2G_some_m x4.1 x6.2 grets gpars x6.1) fun x8 =>
 (Option.bind (spec_l1Rd_width_m x8.2) fun x10 =>
 (Option.bind (spec_l2G_pick_m x8.1 x10.2 grets gpars x10.1) fun x12 =>
 (Option.bind (spec_l2G_pick_m x12.2.1 x12.2.2 grets gpars 8) fun x14 =>
 (Option.bind (spec_l2G_close_m x14.2.1 x14.2.2 grets gpars (({ kind := 2, a := 0, x := ((List.length g.f.blocks : Int)) + 3, y := 0 } : GTerm))) fun x16 =>
 (Option.bind (spec_l1Rd_below_m x16.2 3) fun x18 =>
 (Option.bind (spec_l2G_some_m (({ f := x16.1.f, b := x16.1.b, next := x16.1.next, ids := x4.1.ids, ws := x4.1.ws } : Gl2G)) x18.2 grets gpars x18.1) fun x20 =>
 (Option.bind (spec_l2G_pick_m x20.1 x20.2 grets gpars x10.1) fun x22 =>
 (Option.bind (spec_l2G_pick_m x22.2.1 x22.2.2 grets gpars 8) fun x24 =>
 (Option.bind (spec_l2G_close_m x24.2.1 x24.2.2 grets gpars (({ kind := 2, a := 0, x := ((List.length g.f.blocks : Int)) + 3, y := 0 } : GTerm))) fun x26 =>
 (Option.bind (spec_l2G_phi_m (({ f := x26.1.f, b := x26.1.b, next := x26.1.next, ids := x4.1.ids, ws := x4.1.ws } : Gl2G)) x26.2 grets gpars x10.1 ([x12.1, x22.1])) fun x28 =>
 (Option.bind (spec_l2G_phi_m x28.2.1 x28.2.2 grets gpars 8 ([x14.1, x24.1])) fun x30 =>
 (some ((x30.2.1, x30.2.2))))))))))))))))))
theorem spec_l2G_fork_sim {g : Gl2G} {gr : Gl1Rd} {grets : List Int} {gpars : List (List Int)} {r : Gl2G × Gl1Rd} (hm : spec_l2G_fork_m g gr grets gpars = some r) : Sim Tryz.prog 194 [.one (.ptr () 0 0 0)] [⟨(), 15, [hl2G (.ptr () 1 0 0) (.ref () 2 0 (List.length grets)) (.ref () 3 0 (List.length gpars)) g]⟩, ⟨(), 2, [el1Rd false gr]⟩, ⟨(), 1, List.map iL grets⟩, ⟨(), 1, List.map (lL false 1 iL) gpars⟩] (.tup []) [⟨(), 15, [hl2G (.ptr () 1 0 0) (.ref () 2 0 (List.length grets)) (.ref () 3 0 (List.length gpars)) r.1]⟩, ⟨(), 2, [el1Rd false r.2]⟩, ⟨(), 1, List.map iL grets⟩, ⟨(), 1, List.map (lL false 1 iL) gpars⟩] := by
 refine fN 101 4 Tryz.func194 [] fun B hB0 => ?_
 unfold spec_l2G_fork_m at hm
 refine Wp.seq ?_
 refine c_regS ?_
 refine nO (x_mv rfl rfl ?_)
 refine nO (x_ncp rfl rfl rfl ?_)
 refine nO (x_fap rfl F167_1 rfl rfl ?_)
 refine nO (x_fap rfl F27_2 rfl rfl ?_)
 refine WpO.ghb (q_op 0 3) ?_
 refine yR ?_
 intro k1 hm
 refine o_end ?_
 refine Wp.seq ?_
 refine gH (q_cl 0 4 3) ?_
 refine yG ?_
 intro _ hm
 obtain ⟨x2, h3, hm⟩ := of_bind hm
 refine nO (cG [0, 1, 2, 3] (spec_l2G_pick_sim h3) ?_)
 refine yG ?_
 intro _ hm
 obtain ⟨x4, h5, hm⟩ := of_bind hm
 refine nO (cG [0, 1, 2, 3] (spec_l2G_close_sim h5) ?_)
 refine yG ?_
 intro _ hm
 obtain ⟨x6, h7, hm⟩ := of_bind hm
 refine nO (cG [1] (spec_l1Rd_below_sim h7) ?_)
 obtain ⟨x8, h9, hm⟩ := of_bind hm
 refine nO (cG [0, 1, 2, 3] (spec_l2G_some_sim h9) ?_)
 refine yG ?_
 intro _ hm
 obtain ⟨x10, h11, hm⟩ := of_bind hm
 refine nO (cG [1] (spec_l1Rd_width_sim h11) ?_)
 refine yG ?_
 intro _ hm
 obtain ⟨x12, h13, hm⟩ := of_bind hm
 refine nO (cG [0, 1, 2, 3] (spec_l2G_pick_sim h13) ?_)
 refine yG ?_
 intro _ hm
 obtain ⟨x14, h15, hm⟩ := of_bind hm
 refine nO (cG [0, 1, 2, 3] (spec_l2G_pick_sim h15) ?_)
 refine yG ?_
 intro _ hm
 obtain ⟨x16, h17, hm⟩ := of_bind hm
 refine nO (cG [0, 1, 2, 3] (spec_l2G_close_sim h17) ?_)
 refine yG ?_
 intro _ hm
 obtain ⟨x18, h19, hm⟩ := of_bind hm
 refine nO (cG [1] (spec_l1Rd_below_sim h19) ?_)
 obtain ⟨x20, h21, hm⟩ := of_bind hm
 refine nO (cG [0, 1, 2, 3] (spec_l2G_some_sim h21) ?_)
 refine yG ?_
 intro _ hm
 obtain ⟨x22, h23, hm⟩ := of_bind hm
 refine nO (cG [0, 1, 2, 3] (spec_l2G_pick_sim h23) ?_)
 refine yG ?_
 intro _ hm
 obtain ⟨x24, h25, hm⟩ := of_bind hm
 refine nO (cG [0, 1, 2, 3] (spec_l2G_pick_sim h25) ?_)
 refine yG ?_
 intro _ hm
 obtain ⟨x26, h27, hm⟩ := of_bind hm
 refine nO (cG [0, 1, 2, 3] (spec_l2G_close_sim h27) ?_)
 refine yG ?_
 intro _ hm
 refine nO (kM (iL) ([x12.1, x22.1]) ?_)
 obtain ⟨x28, h29, hm⟩ := of_bind hm
 refine nO (cO [0, 1, 2, 3] [5] (spec_l2G_phi_sim h29) ?_)
 refine yG ?_
 intro _ hm
 refine nO (kM (iL) ([x14.1, x24.1]) ?_)
 obtain ⟨x30, h31, hm⟩ := of_bind hm
 refine nO (cO [0, 1, 2, 3] [6] (spec_l2G_phi_sim h31) ?_)
 refine o_end ?_
 cases hm
 exact rGt [0, 1, 2, 3]
/-- (*spec.l2G).loop -/
noncomputable def spec_l2G_loop_m (g : Gl2G) (gr : Gl1Rd) (grets : List Int) (gpars : List (List Int)) : Option (Gl2G × Gl1Rd) :=
 (Option.bind (spec_l1Rd_below_m gr 5) fun x2 =>
 (Option.bind (spec_l2G_put_m g x2.2 grets gpars (({ op_ := 21, w := 8, a := 0, b := 0, c := 0, imm := x2.1, args := ([] : List Int) } : GInst))) fun x4 =>
 (Option.bind (spec_l1Rd_width_m x4.2.2) fun x6 =>
 (Option.bind (spec_l2G_pick_m x4.2.1 x6.2 grets gpars x6.1) fun x8 =>
 (Option.bind (spec_l2G_close_m x8.2.1 x8.2.2 grets gpars (({ kind := 2, a := 0, x := ((List.length g.f.blocks : Int)) + 1, y := 0 } : GTerm))) fun x10 =>
 (Option.bind (spec_l2G_phi_m x10.1 x10.2 grets gpars 8 ([x4.1, 0])) fun x12 =>
 (Option.bind (spec_l2G_phi_m x12.2.1 x12.2.2 grets gpars x6.1 ([x8.1, 0])) fun x14 =>
 (Option.bind (spec_l2G_put_m x14.2.1 x14.2.2 grets gpars (({ op_ := 21, w := 8, a := 0, b := 0, c := 0, imm := 0, args := ([] : List Int) } : GInst))) fun x16 =>
 (Option.bind (spec_l2G_put_m x16.2.1 x16.2.2 grets gpars (({ op_ := 15, w := 8, a := x12.1, b := x16.1, c := 0, imm := 0, args := ([] : List Int) } : GInst))) fun x18 =>
 (Option.bind (spec_l2G_close_m x18.2.1 x18.2.2 grets gpars (({ kind := 3, a := x18.1, x := ((List.length g.f.blocks : Int)) + 2, y := ((List.length g.f.blocks : Int)) + 3 } : GTerm))) fun x20 =>
 (Option.bind (spec_l2G_put_m x20.1 x20.2 grets gpars (({ op_ := 21, w := 8, a := 0, b := 0, c := 0, imm := 1, args := ([] : List Int) } : GInst))) fun x22 =>
 (Option.bind (spec_l2G_put_m x22.2.1 x22.2.2 grets gpars (({ op_ := 2, w := 8, a := x12.1, b := x22.1, c := 0, imm := 0, args := ([] : List Int) } : GInst))) fun x24 =>
 (Option.bind (spec_l1Rd_below_m x24.2.2 3) fun x26 =>
 (Option.bind (spec_l2G_some_m x24.2.1 x26.2 grets gpars x26.1) fun x28 =>
 (Option.bind (spec_l2G_pick_m x28.1 x28.2 grets gpars x6.1) fun x30 =>
 (Option.bind ((if (x30.1 == x14.1) = true then
 (Option.bind (spec_l2G_put_m x30.2.1 x30.2.2 grets gpars (({ op_ := 1, w := x6.1, a := x14.1, b := x8.1, c := 0, imm := 0, args := ([] : List Int) } : GInst))) fun x34 =>
 (some ((x34.2.1, x34.2.2, x34.1))))
 else
 (some ((x30.2.1, x30.2.2, x30.1))))) fun (j32 : Gl2G × Gl1Rd × Int) =>
 (Option.bind (spec_l2G_close_m j32.1 j32.2.1 grets gpars (({ kind := 2, a := 0, x := ((List.length g.f.blocks : Int)) + 1, y := 0 } : GTerm))) fun x37 =>
 (if 0 ≤ (((List.length g.f.blocks : Int)) + 1) ∧ (((List.length g.f.blocks : Int)) + 1) < (List.length x37.1.f.blocks : Int) then
 (if (0 : Int) ≤ 0 ∧ 0 < (List.length ((at_ x37.1.f.blocks (((List.length g.f.blocks : Int)) + 1)).phis) : Int) then
 (if (0 : Int) ≤ 1 ∧ 1 < (List.length ((at_ ((at_ x37.1.f.blocks (((List.length g.f.blocks : Int)) + 1)).phis) 0).ins) : Int) then
 (if 0 ≤ (((List.length g.f.blocks : Int)) + 1) ∧ (((List.length g.f.blocks : Int)) + 1) < (List.length (List.set x37.1.f.blocks (Int.toNat (((List.length g.f.blocks : Int)) + 1)) (({ phis := List.set ((at_ x37.1.f.blocks (((List.length g.f.blocks : Int)) + 1)).phis) (Int.toNat 0) (({ w := (at_ ((at_ x37.1.f.blocks (((List.length g.f.blocks : Int)) + 1)).phis) 0).w, ins := List.set ((at_ ((at_ x37.1.f.blocks (((List.length g.f.blocks : Int)) + 1)).phis) 0).ins) (Int.toNat 1) x24.1 } : GPhi)), insts := (at_ x37.1.f.blocks (((List.length g.f.blocks : Int)) + 1)).insts, term := ((at_ x37.1.f.blocks (((List.length g.f.blocks : Int)) + 1)).term) } : GBlock))) : Int) then
 (if (0 : Int) ≤ 1 ∧ 1 < (List.length ((at_ (List.set x37.1.f.blocks (Int.toNat (((List.length g.f.blocks : Int)) + 1)) (({ phis := List.set ((at_ x37.1.f.blocks (((List.length g.f.blocks : Int)) + 1)).phis) (Int.toNat 0) (({ w := (at_ ((at_ x37.1.f.blocks (((List.length g.f.blocks : Int)) + 1)).phis) 0).w, ins := List.set ((at_ ((at_ x37.1.f.blocks (((List.length g.f.blocks : Int)) + 1)).phis) 0).ins) (Int.toNat 1) x24.1 } : GPhi)), insts := (at_ x37.1.f.blocks (((List.length g.f.blocks : Int)) + 1)).insts, term := ((at_ x37.1.f.blocks (((List.length g.f.blocks : Int)) + 1)).term) } : GBlock))) (((List.length g.f.blocks : Int)) + 1)).phis) : Int) then
 (if (0 : Int) ≤ 1 ∧ 1 < (List.length ((at_ ((at_ (List.set x37.1.f.blocks (Int.toNat (((List.length g.f.blocks : Int)) + 1)) (({ phis := List.set ((at_ x37.1.f.blocks (((List.length g.f.blocks : Int)) + 1)).phis) (Int.toNat 0) (({ w := (at_ ((at_ x37.1.f.blocks (((List.length g.f.blocks : Int)) + 1)).phis) 0).w, ins := List.set ((at_ ((at_ x37.1.f.blocks (((List.length g.f.blocks : Int)) + 1)).phis) 0).ins) (Int.toNat 1) x24.1 } : GPhi)), insts := (at_ x37.1.f.blocks (((List.length g.f.blocks : Int)) + 1)).insts, term := ((at_ x37.1.f.blocks (((List.length g.f.blocks : Int)) + 1)).term) } : GBlock))) (((List.length g.f.blocks : Int)) + 1)).phis) 1).ins) : Int) then
 (some ((({ f := ({ params := x37.1.f.params, ret := x37.1.f.ret, blocks := List.set (List.set x37.1.f.blocks (Int.toNat (((List.length g.f.blocks : Int)) + 1)) (({ phis := List.set ((at_ x37.1.f.blocks (((List.length g.f.blocks : Int)) + 1)).phis) (Int.toNat 0) (({ w := (at_ ((at_ x37.1.f.blocks (((List.length g.f.blocks : Int)) + 1)).phis) 0).w, ins := List.set ((at_ ((at_ x37.1.f.blocks (((List.length g.f.blocks : Int)) + 1)).phis) 0).ins) (Int.toNat 1) x24.1 } : GPhi)), insts := (at_ x37.1.f.blocks (((List.length g.f.blocks : Int)) + 1)).insts, term := ((at_ x37.1.f.blocks (((List.length g.f.blocks : Int)) + 1)).term) } : GBlock))) (Int.toNat (((List.length g.f.blocks : Int)) + 1)) (({ phis := List.set ((at_ (List.set x37.1.f.blocks (Int.toNat (((List.length g.f.blocks : Int)) + 1)) (({ phis := List.set ((at_ x37.1.f.blocks (((List.length g.f.blocks : Int)) + 1)).phis) (Int.toNat 0) (({ w := (at_ ((at_ x37.1.f.blocks (((List.length g.f.blocks : Int)) + 1)).phis) 0).w, ins := List.set ((at_ ((at_ x37.1.f.blocks (((List.length g.f.blocks : Int)) + 1)).phis) 0).ins) (Int.toNat 1) x24.1 } : GPhi)), insts := (at_ x37.1.f.blocks (((List.length g.f.blocks : Int)) + 1)).insts, term := ((at_ x37.1.f.blocks (((List.length g.f.blocks : Int)) + 1)).term) } : GBlock))) (((List.length g.f.blocks : Int)) + 1)).phis) (Int.toNat 1) (({ w := (at_ ((at_ (List.set x37.1.f.blocks (Int.toNat (((List.length g.f.blocks : Int)) + 1)) (({ phis := List.set ((at_ x37.1.f.blocks (((List.length g.f.blocks : Int)) + 1)).phis) (Int.toNat 0) (({ w := (at_ ((at_ x37.1.f.blocks (((List.length g.f.blocks : Int)) + 1)).phis) 0).w, ins := List.set ((at_ ((at_ x37.1.f.blocks (((List.length g.f.blocks : Int)) + 1)).phis) 0).ins) (Int.toNat 1) x24.1 } : GPhi)), insts := (at_ x37.1.f.blocks (((List.length g.f.blocks : Int)) + 1)).insts, term := ((at_ x37.1.f.blocks (((List.length g.f.blocks : Int)) + 1)).term) } : GBlock))) (((List.length g.f.blocks : Int)) + 1)).phis) 1).w, ins := List.set ((at_ ((at_ (List.set x37.1.f.blocks (Int.toNat (((List.length g.f.blocks : Int)) + 1)) (({ phis := List.set ((at_ x37.1.f.blocks (((List.length g.f.blocks : Int)) + 1)).phis) (Int.toNat 0) (({ w := (at_ ((at_ x37.1.f.blocks (((List.length g.f.blocks : Int)) + 1)).phis) 0).w, ins := List.set ((at_ ((at_ x37.1.f.blocks (((List.length g.f.blocks : Int)) + 1)).phis) 0).ins) (Int.toNat 1) x24.1 } : GPhi)), insts := (at_ x37.1.f.blocks (((List.length g.f.blocks : Int)) + 1)).insts, term := ((at_ x37.1.f.blocks (((List.length g.f.blocks : Int)) + 1)).term) } : GBlock))) (((List.length g.f.blocks : Int)) + 1)).phis) 1).ins) (Int.toNat 1) j32.2.2 } : GPhi)), insts := (at_ (List.set x37.1.f.blocks (Int.toNat (((List.length g.f.blocks : Int)) + 1)) (({ phis := List.set ((at_ x37.1.f.blocks (((List.length g.f.blocks : Int)) + 1)).phis) (Int.toNat 0) (({ w := (at_ ((at_ x37.1.f.blocks (((List.length g.f.blocks : Int)) + 1)).phis) 0).w, ins := List.set ((at_ ((at_ x37.1.f.blocks (((List.length g.f.blocks : Int)) + 1)).phis) 0).ins) (Int.toNat 1) x24.1 } : GPhi)), insts := (at_ x37.1.f.blocks (((List.length g.f.blocks : Int)) + 1)).insts, term := ((at_ x37.1.f.blocks (((List.length g.f.blocks : Int)) + 1)).term) } : GBlock))) (((List.length g.f.blocks : Int)) + 1)).insts, term := ((at_ (List.set x37.1.f.blocks (Int.toNat (((List.length g.f.blocks : Int)) + 1)) (({ phis := List.set ((at_ x37.1.f.blocks (((List.length g.f.blocks : Int)) + 1)).phis) (Int.toNat 0) (({ w := (at_ ((at_ x37.1.f.blocks (((List.length g.f.blocks : Int)) + 1)).phis) 0).w, ins := List.set ((at_ ((at_ x37.1.f.blocks (((List.length g.f.blocks : Int)) + 1)).phis) 0).ins) (Int.toNat 1) x24.1 } : GPhi)), insts := (at_ x37.1.f.blocks (((List.length g.f.blocks : Int)) + 1)).insts, term := ((at_ x37.1.f.blocks (((List.length g.f.blocks : Int)) + 1)).term) } : GBlock))) (((List.length g.f.blocks : Int)) + 1)).term) } : GBlock)) } : GFunc), b := x37.1.b, next := x37.1.next, ids := x20.1.ids, ws := x20.1.ws } : Gl2G), x37.2)))
 else none)
 else none)
 else none)
 else none)
 else none)
 else none))))))))))))))))))
theorem spec_l2G_loop_sim {g : Gl2G} {gr : Gl1Rd} {grets : List Int} {gpars : List (List Int)} {r : Gl2G × Gl1Rd} (hm : spec_l2G_loop_m g gr grets gpars = some r) : Sim Tryz.prog 195 [.one (.ptr () 0 0 0)] [⟨(), 15, [hl2G (.ptr () 1 0 0) (.ref () 2 0 (List.length grets)) (.ref () 3 0 (List.length gpars)) g]⟩, ⟨(), 2, [el1Rd false gr]⟩, ⟨(), 1, List.map iL grets⟩, ⟨(), 1, List.map (lL false 1 iL) gpars⟩] (.tup []) [⟨(), 15, [hl2G (.ptr () 1 0 0) (.ref () 2 0 (List.length grets)) (.ref () 3 0 (List.length gpars)) r.1]⟩, ⟨(), 2, [el1Rd false r.2]⟩, ⟨(), 1, List.map iL grets⟩, ⟨(), 1, List.map (lL false 1 iL) gpars⟩] := by
 refine fN 145 4 Tryz.func195 [] fun B hB0 => ?_
 unfold spec_l2G_loop_m at hm
 refine Wp.seq ?_
 refine c_regS ?_
 refine nO (x_mv rfl rfl ?_)
 refine nO (x_ncp rfl rfl rfl ?_)
 refine nO (x_fap rfl F167_1 rfl rfl ?_)
 refine nO (x_fap rfl F27_2 rfl rfl ?_)
 refine WpO.ghb (q_op 0 3) ?_
 refine yR ?_
 intro k1 hm
 refine o_end ?_
 refine Wp.seq ?_
 refine gH (q_cl 0 4 3) ?_
 refine yG ?_
 intro _ hm
 obtain ⟨x2, h3, hm⟩ := of_bind hm
 refine nO (cG [1] (spec_l1Rd_below_sim h3) ?_)
 refine nO (x_bu (cells := [.int .i64 21, .int .i64 8, .int .i64 0, .int .i64 0, .int .i64 0, .int .i64 x2.1, .nl]) T29 rfl rfl rfl ?_)
 refine WpO.ghb (q_nb 27 6 1) ?_
 obtain ⟨x4, h5, hm⟩ := of_bind hm
 refine nO (cG [0, 1, 2, 3] (spec_l2G_put_sim h5) ?_)
 refine yG ?_
 intro _ hm
 obtain ⟨x6, h7, hm⟩ := of_bind hm
 refine nO (cG [1] (spec_l1Rd_width_sim h7) ?_)
 refine yG ?_
 intro _ hm
 obtain ⟨x8, h9, hm⟩ := of_bind hm
 refine nO (cG [0, 1, 2, 3] (spec_l2G_pick_sim h9) ?_)
 refine yG ?_
 intro _ hm
 obtain ⟨x10, h11, hm⟩ := of_bind hm
 refine nO (cG [0, 1, 2, 3] (spec_l2G_close_sim h11) ?_)
 refine yG ?_
 intro _ hm
 refine nO (kM (iL) ([x4.1, 0]) ?_)
 obtain ⟨x12, h13, hm⟩ := of_bind hm
 refine nO (cO [0, 1, 2, 3] [5] (spec_l2G_phi_sim h13) ?_)
 refine yG ?_
 intro _ hm
 refine nO (kM (iL) ([x8.1, 0]) ?_)
 obtain ⟨x14, h15, hm⟩ := of_bind hm
 refine nO (cO [0, 1, 2, 3] [6] (spec_l2G_phi_sim h15) ?_)
 refine nO (x_as rfl rfl ?_)
 refine o_end ?_
 refine Wp.seq ?_
 refine c_regS ?_
 refine nO (x_mv rfl rfl ?_)
 refine nO (x_bu (cells := [.int .i64 21, .int .i64 8, .int .i64 0, .int .i64 0, .int .i64 0, .int .i64 0, .nl]) T29 rfl rfl rfl ?_)
 refine WpO.ghb (q_nb 52 6 1) ?_
 obtain ⟨x16, h17, hm⟩ := of_bind hm
 refine nO (cG [0, 1, 2, 3] (spec_l2G_put_sim h17) ?_)
 refine nO (x_as rfl rfl ?_)
 refine o_end ?_
 refine Wp.seq ?_
 refine c_regS ?_
 refine nO (x_mv rfl rfl ?_)
 refine nO (x_mv rfl rfl ?_)
 refine nO (x_mv rfl rfl ?_)
 refine nO (x_bu (cells := [.int .i64 15, .int .i64 8, .int .i64 x12.1, .int .i64 x16.1, .int .i64 0, .int .i64 0, .nl]) T29 rfl rfl rfl ?_)
 refine WpO.ghb (q_nb 57 6 1) ?_
 obtain ⟨x18, h19, hm⟩ := of_bind hm
 refine nO (cG [0, 1, 2, 3] (spec_l2G_put_sim h19) ?_)
 refine yG ?_
 intro _ hm
 obtain ⟨x20, h21, hm⟩ := of_bind hm
 refine nO (cG [0, 1, 2, 3] (spec_l2G_close_sim h21) ?_)
 refine o_end ?_
 refine Wp.seq ?_
 refine c_regS ?_
 refine yR ?_
 intro _ hm
 refine o_end ?_
 refine Wp.seq ?_
 refine c_regS ?_
 refine yR ?_
 intro _ hm
 refine o_end ?_
 refine Wp.seq ?_
 refine c_regS ?_
 refine nO (x_mv rfl rfl ?_)
 refine nO (x_bu (cells := [.int .i64 21, .int .i64 8, .int .i64 0, .int .i64 0, .int .i64 0, .int .i64 1, .nl]) T29 rfl rfl rfl ?_)
 refine WpO.ghb (q_nb 76 6 1) ?_
 obtain ⟨x22, h23, hm⟩ := of_bind hm
 refine nO (cG [0, 1, 2, 3] (spec_l2G_put_sim h23) ?_)
 refine nO (x_as rfl rfl ?_)
 refine o_end ?_
 refine Wp.seq ?_
 refine c_regS ?_
 refine nO (x_mv rfl rfl ?_)
 refine nO (x_mv rfl rfl ?_)
 refine nO (x_mv rfl rfl ?_)
 refine nO (x_bu (cells := [.int .i64 2, .int .i64 8, .int .i64 x12.1, .int .i64 x22.1, .int .i64 0, .int .i64 0, .nl]) T29 rfl rfl rfl ?_)
 refine WpO.ghb (q_nb 81 6 1) ?_
 obtain ⟨x24, h25, hm⟩ := of_bind hm
 refine nO (cG [0, 1, 2, 3] (spec_l2G_put_sim h25) ?_)
 refine yG ?_
 intro _ hm
 obtain ⟨x26, h27, hm⟩ := of_bind hm
 refine nO (cG [1] (spec_l1Rd_below_sim h27) ?_)
 obtain ⟨x28, h29, hm⟩ := of_bind hm
 refine nO (cG [0, 1, 2, 3] (spec_l2G_some_sim h29) ?_)
 refine yG ?_
 intro _ hm
 obtain ⟨x30, h31, hm⟩ := of_bind hm
 refine nO (cG [0, 1, 2, 3] (spec_l2G_pick_sim h31) ?_)
 refine nO (x_as rfl rfl ?_)
 refine o_end ?_
 refine Wp.seq ?_
 obtain ⟨j32, hj36, hm⟩ := of_bind hm
 refine c_cut (St 145 [(0, vP 0), (2, vI ((List.length g.f.blocks : Int))), (10, .u (.one (.bs () 1 (List.map iL x20.1.ids)))), (11, .u (.one (.bs () 1 (List.map iL x20.1.ws)))), (13, vI x24.1), (14, vI j32.2.2)] [(0, oL 15 (hl2G (.ptr () 1 0 0) (.ref () 2 0 (List.length grets)) (.ref () 3 0 (List.length gpars)) j32.1)), (1, oL 2 (el1Rd false j32.2.1)), (2, oM 1 iL grets), (3, oM 1 (lL false 1 iL) gpars)] 4) ?_ ?_
 replace hm := hj36
 refine yG ?_
 intro _ hm
 refine bS hm (fun hb33 hm => ?_) fun hb33 hm => ?_
 refine c_regS ?_
 refine nO (x_mv rfl rfl ?_)
 refine nO (x_mv rfl rfl ?_)
 refine nO (x_mv rfl rfl ?_)
 refine nO (x_mv rfl rfl ?_)
 refine nO (x_bu (cells := [.int .i64 1, .int .i64 x6.1, .int .i64 x14.1, .int .i64 x8.1, .int .i64 0, .int .i64 0, .nl]) T29 rfl rfl rfl ?_)
 refine WpO.ghb (q_nb 100 6 1) ?_
 obtain ⟨x34, h35, hm⟩ := of_bind hm
 refine nO (cG [0, 1, 2, 3] (spec_l2G_put_sim h35) ?_)
 refine yG ?_
 intro _ hm
 cases hm
 exact vW [0, 1, 2, 3]
 refine c_skip ?_
 cases hm
 exact vW [0, 1, 2, 3]
 refine yG ?_
 intro _ hm
 obtain ⟨x37, h38, hm⟩ := of_bind hm
 refine nO (cG [0, 1, 2, 3] (spec_l2G_close_sim h38) ?_)
 refine o_end ?_
 refine Wp.seq ?_
 refine c_regS ?_
 refine nO (x_mv rfl rfl ?_)
 refine nO (x_ncp rfl rfl rfl ?_)
 refine nO (x_fap rfl F167_1 rfl rfl ?_)
 refine nO (x_fap rfl F27_2 rfl rfl ?_)
 refine WpO.ghb (q_op 0 3) ?_
 refine nO (x_ldp rfl T25 rfl rfl rfl rfl rfl ?_)
 refine nO (x_mv rfl rfl ?_)
 refine nO (x_addc T2 rfl rfl (by unfold inI; omega) ?_)
 obtain ⟨h39, hm⟩ := of_ite hm
 refine nO (x_ix0 rfl E25 rfl rfl rfl h39 ?_)
 refine nO (x_fap rfl F53_0 rfl rfl ?_)
 refine WpO.ghb (q_opM 4 0 h39) ?_
 refine nO (x_ldp rfl T48 rfl rfl (set_get h39) rfl rfl ?_)
 obtain ⟨h40, hm⟩ := of_ite hm
 refine nO (x_ix0 rfl E48 rfl rfl rfl h40 ?_)
 refine nO (x_fap rfl F55_1 rfl rfl ?_)
 refine WpO.ghb (q_opM 5 1 h40) ?_
 refine nO (x_ldp rfl T24 rfl rfl (set_get h40) rfl rfl ?_)
 refine yG ?_
 intro k2 hm
 refine nO (x_stn x24.1 T2 rfl rfl rfl k2.2 rfl rfl rfl rfl ?_)
 refine WpO.ghb (q_clT (({ w := (at_ ((at_ x37.1.f.blocks (((List.length g.f.blocks : Int)) + 1)).phis) 0).w, ins := List.set ((at_ ((at_ x37.1.f.blocks (((List.length g.f.blocks : Int)) + 1)).phis) 0).ins) (Int.toNat 1) x24.1 } : GPhi)) 5 6 1 h40) ?_
 refine WpO.ghb (q_clT (({ phis := List.set ((at_ x37.1.f.blocks (((List.length g.f.blocks : Int)) + 1)).phis) (Int.toNat 0) (({ w := (at_ ((at_ x37.1.f.blocks (((List.length g.f.blocks : Int)) + 1)).phis) 0).w, ins := List.set ((at_ ((at_ x37.1.f.blocks (((List.length g.f.blocks : Int)) + 1)).phis) 0).ins) (Int.toNat 1) x24.1 } : GPhi)), insts := (at_ x37.1.f.blocks (((List.length g.f.blocks : Int)) + 1)).insts, term := ((at_ x37.1.f.blocks (((List.length g.f.blocks : Int)) + 1)).term) } : GBlock)) 4 5 0 h39) ?_
 refine o_end ?_
 refine Wp.seq ?_
 refine gH (q_cl 0 4 3) ?_
 refine c_regS ?_
 refine nO (x_mv rfl rfl ?_)
 refine nO (x_ncp rfl rfl rfl ?_)
 refine nO (x_fap rfl F167_1 rfl rfl ?_)
 refine nO (x_fap rfl F27_2 rfl rfl ?_)
 refine WpO.ghb (q_op 0 3) ?_
 refine nO (x_ldp rfl T25 rfl rfl rfl rfl rfl ?_)
 refine nO (x_mv rfl rfl ?_)
 refine nO (x_addc T2 rfl rfl (by unfold inI; omega) ?_)
 obtain ⟨h42, hm⟩ := of_ite hm
 refine nO (x_ix0 rfl E25 rfl rfl rfl h42 ?_)
 refine nO (x_fap rfl F53_0 rfl rfl ?_)
 refine WpO.ghb (q_opM 7 0 h42) ?_
 refine nO (x_ldp rfl T48 rfl rfl (set_get h42) rfl rfl ?_)
 obtain ⟨h43, hm⟩ := of_ite hm
 refine nO (x_ix0 rfl E48 rfl rfl rfl h43 ?_)
 refine nO (x_fap rfl F55_1 rfl rfl ?_)
 refine WpO.ghb (q_opM 8 1 h43) ?_
 refine nO (x_ldp rfl T24 rfl rfl (set_get h43) rfl rfl ?_)
 refine yG ?_
 intro k3 hm
 refine nO (x_stn j32.2.2 T2 rfl rfl rfl k3.2 rfl rfl rfl rfl ?_)
 refine WpO.ghb (q_clT (({ w := (at_ ((at_ (List.set x37.1.f.blocks (Int.toNat (((List.length g.f.blocks : Int)) + 1)) (({ phis := List.set ((at_ x37.1.f.blocks (((List.length g.f.blocks : Int)) + 1)).phis) (Int.toNat 0) (({ w := (at_ ((at_ x37.1.f.blocks (((List.length g.f.blocks : Int)) + 1)).phis) 0).w, ins := List.set ((at_ ((at_ x37.1.f.blocks (((List.length g.f.blocks : Int)) + 1)).phis) 0).ins) (Int.toNat 1) x24.1 } : GPhi)), insts := (at_ x37.1.f.blocks (((List.length g.f.blocks : Int)) + 1)).insts, term := ((at_ x37.1.f.blocks (((List.length g.f.blocks : Int)) + 1)).term) } : GBlock))) (((List.length g.f.blocks : Int)) + 1)).phis) 1).w, ins := List.set ((at_ ((at_ (List.set x37.1.f.blocks (Int.toNat (((List.length g.f.blocks : Int)) + 1)) (({ phis := List.set ((at_ x37.1.f.blocks (((List.length g.f.blocks : Int)) + 1)).phis) (Int.toNat 0) (({ w := (at_ ((at_ x37.1.f.blocks (((List.length g.f.blocks : Int)) + 1)).phis) 0).w, ins := List.set ((at_ ((at_ x37.1.f.blocks (((List.length g.f.blocks : Int)) + 1)).phis) 0).ins) (Int.toNat 1) x24.1 } : GPhi)), insts := (at_ x37.1.f.blocks (((List.length g.f.blocks : Int)) + 1)).insts, term := ((at_ x37.1.f.blocks (((List.length g.f.blocks : Int)) + 1)).term) } : GBlock))) (((List.length g.f.blocks : Int)) + 1)).phis) 1).ins) (Int.toNat 1) j32.2.2 } : GPhi)) 8 9 1 h43) ?_
 refine WpO.ghb (q_clT (({ phis := List.set ((at_ (List.set x37.1.f.blocks (Int.toNat (((List.length g.f.blocks : Int)) + 1)) (({ phis := List.set ((at_ x37.1.f.blocks (((List.length g.f.blocks : Int)) + 1)).phis) (Int.toNat 0) (({ w := (at_ ((at_ x37.1.f.blocks (((List.length g.f.blocks : Int)) + 1)).phis) 0).w, ins := List.set ((at_ ((at_ x37.1.f.blocks (((List.length g.f.blocks : Int)) + 1)).phis) 0).ins) (Int.toNat 1) x24.1 } : GPhi)), insts := (at_ x37.1.f.blocks (((List.length g.f.blocks : Int)) + 1)).insts, term := ((at_ x37.1.f.blocks (((List.length g.f.blocks : Int)) + 1)).term) } : GBlock))) (((List.length g.f.blocks : Int)) + 1)).phis) (Int.toNat 1) (({ w := (at_ ((at_ (List.set x37.1.f.blocks (Int.toNat (((List.length g.f.blocks : Int)) + 1)) (({ phis := List.set ((at_ x37.1.f.blocks (((List.length g.f.blocks : Int)) + 1)).phis) (Int.toNat 0) (({ w := (at_ ((at_ x37.1.f.blocks (((List.length g.f.blocks : Int)) + 1)).phis) 0).w, ins := List.set ((at_ ((at_ x37.1.f.blocks (((List.length g.f.blocks : Int)) + 1)).phis) 0).ins) (Int.toNat 1) x24.1 } : GPhi)), insts := (at_ x37.1.f.blocks (((List.length g.f.blocks : Int)) + 1)).insts, term := ((at_ x37.1.f.blocks (((List.length g.f.blocks : Int)) + 1)).term) } : GBlock))) (((List.length g.f.blocks : Int)) + 1)).phis) 1).w, ins := List.set ((at_ ((at_ (List.set x37.1.f.blocks (Int.toNat (((List.length g.f.blocks : Int)) + 1)) (({ phis := List.set ((at_ x37.1.f.blocks (((List.length g.f.blocks : Int)) + 1)).phis) (Int.toNat 0) (({ w := (at_ ((at_ x37.1.f.blocks (((List.length g.f.blocks : Int)) + 1)).phis) 0).w, ins := List.set ((at_ ((at_ x37.1.f.blocks (((List.length g.f.blocks : Int)) + 1)).phis) 0).ins) (Int.toNat 1) x24.1 } : GPhi)), insts := (at_ x37.1.f.blocks (((List.length g.f.blocks : Int)) + 1)).insts, term := ((at_ x37.1.f.blocks (((List.length g.f.blocks : Int)) + 1)).term) } : GBlock))) (((List.length g.f.blocks : Int)) + 1)).phis) 1).ins) (Int.toNat 1) j32.2.2 } : GPhi)), insts := (at_ (List.set x37.1.f.blocks (Int.toNat (((List.length g.f.blocks : Int)) + 1)) (({ phis := List.set ((at_ x37.1.f.blocks (((List.length g.f.blocks : Int)) + 1)).phis) (Int.toNat 0) (({ w := (at_ ((at_ x37.1.f.blocks (((List.length g.f.blocks : Int)) + 1)).phis) 0).w, ins := List.set ((at_ ((at_ x37.1.f.blocks (((List.length g.f.blocks : Int)) + 1)).phis) 0).ins) (Int.toNat 1) x24.1 } : GPhi)), insts := (at_ x37.1.f.blocks (((List.length g.f.blocks : Int)) + 1)).insts, term := ((at_ x37.1.f.blocks (((List.length g.f.blocks : Int)) + 1)).term) } : GBlock))) (((List.length g.f.blocks : Int)) + 1)).insts, term := ((at_ (List.set x37.1.f.blocks (Int.toNat (((List.length g.f.blocks : Int)) + 1)) (({ phis := List.set ((at_ x37.1.f.blocks (((List.length g.f.blocks : Int)) + 1)).phis) (Int.toNat 0) (({ w := (at_ ((at_ x37.1.f.blocks (((List.length g.f.blocks : Int)) + 1)).phis) 0).w, ins := List.set ((at_ ((at_ x37.1.f.blocks (((List.length g.f.blocks : Int)) + 1)).phis) 0).ins) (Int.toNat 1) x24.1 } : GPhi)), insts := (at_ x37.1.f.blocks (((List.length g.f.blocks : Int)) + 1)).insts, term := ((at_ x37.1.f.blocks (((List.length g.f.blocks : Int)) + 1)).term) } : GBlock))) (((List.length g.f.blocks : Int)) + 1)).term) } : GBlock)) 7 8 0 h42) ?_
 refine o_end ?_
 refine Wp.seq ?_
 refine gH (q_cl 0 7 3) ?_
 refine yG ?_
 intro _ hm
 cases hm
 exact rGt [0, 1, 2, 3]
/-- (*spec.l2G).ends -/
noncomputable def spec_l2G_ends_m (g : Gl2G) (gr : Gl1Rd) (grets : List Int) (gpars : List (List Int)) : Option (Gl2G × Gl1Rd) :=
 (Option.bind (spec_l1Rd_once_m gr 14) fun x1 =>
 (if x1.1 = true then
 (Option.bind (spec_l2G_close_m g x1.2 grets gpars (({ kind := 4, a := 0, x := 0, y := 0 } : GTerm))) fun x4 =>
 (some ((x4.1, x4.2))))
 else
 (Option.bind (spec_l2G_pick_m g x1.2 grets gpars g.f.ret) fun x6 =>
 (Option.bind (spec_l2G_close_m x6.2.1 x6.2.2 grets gpars (({ kind := 1, a := x6.1, x := 0, y := 0 } : GTerm))) fun x8 =>
 (some ((x8.1, x8.2)))))))
theorem spec_l2G_ends_sim {g : Gl2G} {gr : Gl1Rd} {grets : List Int} {gpars : List (List Int)} {r : Gl2G × Gl1Rd} (hm : spec_l2G_ends_m g gr grets gpars = some r) : Sim Tryz.prog 196 [.one (.ptr () 0 0 0)] [⟨(), 15, [hl2G (.ptr () 1 0 0) (.ref () 2 0 (List.length grets)) (.ref () 3 0 (List.length gpars)) g]⟩, ⟨(), 2, [el1Rd false gr]⟩, ⟨(), 1, List.map iL grets⟩, ⟨(), 1, List.map (lL false 1 iL) gpars⟩] (.tup []) [⟨(), 15, [hl2G (.ptr () 1 0 0) (.ref () 2 0 (List.length grets)) (.ref () 3 0 (List.length gpars)) r.1]⟩, ⟨(), 2, [el1Rd false r.2]⟩, ⟨(), 1, List.map iL grets⟩, ⟨(), 1, List.map (lL false 1 iL) gpars⟩] := by
 refine fN 22 4 Tryz.func196 [] fun B hB0 => ?_
 unfold spec_l2G_ends_m at hm
 refine yG ?_
 intro _ hm
 obtain ⟨x1, h2, hm⟩ := of_bind hm
 refine nO (cG [1] (spec_l1Rd_once_sim h2) ?_)
 refine o_end ?_
 refine bS hm (fun hb3 hm => ?_) fun hb3 hm => ?_
 refine yG ?_
 intro _ hm
 obtain ⟨x4, h5, hm⟩ := of_bind hm
 refine nO (cG [0, 1, 2, 3] (spec_l2G_close_sim h5) ?_)
 refine o_end ?_
 refine c_ret ?_
 cases hm
 exact rGt [0, 1, 2, 3]
 refine yG ?_
 intro _ hm
 obtain ⟨x6, h7, hm⟩ := of_bind hm
 refine nO (cG [0, 1, 2, 3] (spec_l2G_pick_sim h7) ?_)
 refine yG ?_
 intro _ hm
 obtain ⟨x8, h9, hm⟩ := of_bind hm
 refine nO (cG [0, 1, 2, 3] (spec_l2G_close_sim h9) ?_)
 refine o_end ?_
 cases hm
 exact rGt [0, 1, 2, 3]
/-- (*spec.l1Rd).fn -/
noncomputable def spec_l1Rd_fn_m (vr : Gl1Rd) (rets : List Int) (pars : List (List Int)) : Option (GFunc × Gl1Rd) :=
 (Option.bind (spec_l1Rd_width_m vr) fun x1 =>
 (Option.bind (spec_l1Rd_below_m x1.2 3) fun x3 =>
 (Option.bind (loopO (fun (st5 : Gl1Rd × Gl2G × Int) =>
 ((if decide (st5.2.2 > 0) = true then
 (Option.bind (spec_l1Rd_width_m st5.1) fun x8 =>
 (if (List.length st5.2.1.f.params + List.length ([x8.1])) * 8 ≤ 140737488355328 ∧ List.length st5.2.1.f.params + List.length ([x8.1]) ≤ LIM then
 (Option.bind (spec_l2G_add_m (({ f := ({ params := st5.2.1.f.params ++ ([x8.1]), ret := st5.2.1.f.ret, blocks := st5.2.1.f.blocks } : GFunc), b := st5.2.1.b, next := st5.2.1.next, ids := st5.2.1.ids, ws := st5.2.1.ws } : Gl2G)) x8.2 rets pars x8.1) fun x11 =>
 (if inI (st5.2.2 - 1) then
 (some (Sum.inl ((x11.2.2, x11.2.1, st5.2.2 - 1))))
 else none))
 else none))
 else
 (some (Sum.inr (((st5.1, st5.2.1)))))) : Option ((Gl1Rd × Gl2G × Int) ⊕ ((Gl1Rd × Gl2G))))) (x3.2, ({ f := ({ params := ([] : List Int), ret := x1.1, blocks := ([] : List GBlock) } : GFunc), b := ({ phis := ([] : List GPhi), insts := ([] : List GInst), term := ({ kind := 0, a := 0, x := 0, y := 0 } : GTerm) } : GBlock), next := 0, ids := ([] : List Int), ws := ([] : List Int) } : Gl2G), x3.1)) fun (j6 : Gl1Rd × Gl2G) =>
 (Option.bind (spec_l1Rd_below_m j6.1 5) fun x16 =>
 (if inI (1 + x16.1) then
 (Option.bind (spec_l2G_some_m j6.2 x16.2 rets pars (1 + x16.1)) fun x19 =>
 (Option.bind ((Option.bind (spec_l1Rd_below_m x19.2 4) fun x22 =>
 (if (x22.1 == 0) = true then
 (Option.bind (spec_l2G_fork_m x19.1 x22.2 rets pars) fun x25 =>
 (some ((x25.2, x25.1))))
 else
 (if (x22.1 == 1) = true then
 (Option.bind (spec_l2G_loop_m x19.1 x22.2 rets pars) fun x28 =>
 (some ((x28.2, x28.1))))
 else
 (if (x22.1 == 2) = true then
 (Option.bind (spec_l2G_fork_m x19.1 x22.2 rets pars) fun x31 =>
 (Option.bind (spec_l1Rd_below_m x31.2 3) fun x33 =>
 (Option.bind (spec_l2G_some_m x31.1 x33.2 rets pars x33.1) fun x35 =>
 (Option.bind (spec_l2G_loop_m x35.1 x35.2 rets pars) fun x37 =>
 (some ((x37.2, x37.1)))))))
 else
 (some ((x22.2, x19.1)))))))) fun (j21 : Gl1Rd × Gl2G) =>
 (Option.bind (spec_l1Rd_below_m j21.1 3) fun x40 =>
 (Option.bind (spec_l2G_some_m j21.2 x40.2 rets pars x40.1) fun x42 =>
 (Option.bind (spec_l2G_ends_m x42.1 x42.2 rets pars) fun x44 =>
 (some ((({ params := x44.1.f.params, ret := x44.1.f.ret, blocks := x44.1.f.blocks } : GFunc), x44.2))))))))
 else none)))))
theorem spec_l1Rd_fn_sim {vr : Gl1Rd} {rets : List Int} {pars : List (List Int)} {r : GFunc × Gl1Rd} (hm : spec_l1Rd_fn_m vr rets pars = some r) : Sim Tryz.prog 114 [.one (.ptr () 0 0 0), .one (.ref () 1 0 (List.length rets)), .one (.ref () 2 0 (List.length pars))] [⟨(), 2, [el1Rd false vr]⟩, ⟨(), 1, List.map iL rets⟩, ⟨(), 1, List.map (lL false 1 iL) pars⟩] (.u (.agg (eFunc false r.1))) [⟨(), 2, [el1Rd false r.2]⟩, ⟨(), 1, List.map iL rets⟩, ⟨(), 1, List.map (lL false 1 iL) pars⟩] := by
 refine fN 79 3 Tryz.func114 [.cell 6 27] fun B hB0 => ?_
 unfold spec_l1Rd_fn_m at hm
 refine Wp.seq ?_
 refine c_regS ?_
 refine nO (x_al T27 (r := [.nl, .int .i64 0, .nl]) rfl rfl ?_)
 refine o_end ?_
 refine Wp.seq ?_
 refine c_regS ?_
 refine nO (x_mv rfl rfl ?_)
 refine nO (x_mv rfl rfl ?_)
 refine nO (x_mv rfl rfl ?_)
 refine nO (x_bu (cells := [.ptr () 0 0 0, .nl, .int .i64 0, .nl, .nl, .nl, .int .i64 0, .int .i64 0, .int .i64 0, .int .i64 0, .int .i64 0, .nl, .nl, .ref () 1 0 (List.length rets), .ref () 2 0 (List.length pars)]) T167 rfl rfl rfl ?_)
 refine WpO.ghb (q_nb 13 11 1) ?_
 refine WpO.ghb (q_nb 13 12 1) ?_
 refine yR ?_
 intro _ hm
 refine o_end ?_
 refine Wp.seq ?_
 refine gH (q_nlc 4 1 1) ?_
 refine gH (q_cz 4 5 1) ?_
 refine gH (q_nlc 4 3 6) ?_
 refine gH (q_cz 4 6 3) ?_
 refine gH (q_nlc 4 4 2) ?_
 refine gH (q_cz 4 7 4) ?_
 refine gH (q_nlc 4 5 7) ?_
 refine gH (q_cz 4 8 5) ?_
 refine yG ?_
 intro _ hm
 obtain ⟨x1, h2, hm⟩ := of_bind hm
 refine nO (cG [0] (spec_l1Rd_width_sim h2) ?_)
 refine yG ?_
 intro _ hm
 obtain ⟨x3, h4, hm⟩ := of_bind hm
 refine nO (cG [0] (spec_l1Rd_below_sim h4) ?_)
 refine yG ?_
 intro _ hm
 obtain ⟨j6, hl15, hm⟩ := of_bind hm
 refine lP hl15 (fun st5 => St 79 [(0, vP 0), (6, vP 3), (7, vP 4), (8, vI st5.2.2)] [(0, oL 2 (el1Rd false st5.1)), (1, oM 1 iL rets), (2, oM 1 (lL false 1 iL) pars), (3, oL 3 [.nl, .int .i64 0, .nl]), (4, oL 15 (hl2G (.ptr () 0 0 0) (.ref () 1 0 (List.length rets)) (.ref () 2 0 (List.length pars)) st5.2.1))] 5) (fun j6 => (.exit 0, St 79 [(0, vP 0), (6, vP 3), (7, vP 4)] [(0, oL 2 (el1Rd false j6.1)), (1, oM 1 iL rets), (2, oM 1 (lL false 1 iL) pars), (3, oL 3 [.nl, .int .i64 0, .nl]), (4, oL 15 (hl2G (.ptr () 0 0 0) (.ref () 1 0 (List.length rets)) (.ref () 2 0 (List.length pars)) j6.2))] 5)) (vW [0, 1, 2, 3, 4]) ?_ ?_
 intro st5 x hm
 refine yG ?_
 intro _ hm
 refine bS hm (fun hb7 hm => ?_) fun hb7 hm => ?_
 refine yG ?_
 intro _ hm
 obtain ⟨x8, h9, hm⟩ := of_bind hm
 refine nO (cG [0] (spec_l1Rd_width_sim h9) ?_)
 refine nO (x_as rfl rfl ?_)
 refine o_end ?_
 refine Wp.seq ?_
 refine c_regS ?_
 refine nO (x_mv rfl rfl ?_)
 refine nO (x_mv rfl rfl ?_)
 refine nO (x_ncp rfl rfl rfl ?_)
 refine nO (x_fap rfl F167_1 rfl rfl ?_)
 refine nO (x_fap rfl F27_0 rfl rfl ?_)
 refine WpO.ghb (q_op 4 1) ?_
 refine yG ?_
 intro _ hm
 refine nO (kM (iL) ([x8.1]) ?_)
 refine yR ?_
 intro k1 hm
 refine o_end ?_
 refine gH (q_cl 4 7 1) ?_
 refine yG ?_
 intro _ hm
 obtain ⟨x11, h12, hm⟩ := of_bind hm
 refine nO (cG [4, 0, 1, 2] (spec_l2G_add_sim h12) ?_)
 refine yG ?_
 intro k2 hm
 cases hm
 exact ⟨rfl, vW [0, 1, 2, 3, 4]⟩
 refine c_exit ?_
 cases hm
 exact ⟨rfl, vW [0, 1, 2, 3, 4]⟩
 refine yG ?_
 intro _ hm
 obtain ⟨x16, h17, hm⟩ := of_bind hm
 refine nO (cG [0] (spec_l1Rd_below_sim h17) ?_)
 refine yG ?_
 intro k3 hm
 obtain ⟨x19, h20, hm⟩ := of_bind hm
 refine nO (cG [4, 0, 1, 2] (spec_l2G_some_sim h20) ?_)
 refine o_end ?_
 refine Wp.seq ?_
 obtain ⟨j21, hj39, hm⟩ := of_bind hm
 refine c_cut (St 79 [(0, vP 0), (6, vP 3), (7, vP 4)] [(0, oL 2 (el1Rd false j21.1)), (1, oM 1 iL rets), (2, oM 1 (lL false 1 iL) pars), (3, oL 3 [.nl, .int .i64 0, .nl]), (4, oL 15 (hl2G (.ptr () 0 0 0) (.ref () 1 0 (List.length rets)) (.ref () 2 0 (List.length pars)) j21.2))] 5) ?_ ?_
 replace hm := hj39
 refine yG ?_
 intro _ hm
 obtain ⟨x22, h23, hm⟩ := of_bind hm
 refine nO (cG [0] (spec_l1Rd_below_sim h23) ?_)
 refine yG ?_
 intro _ hm
 refine bS hm (fun hb24 hm => ?_) fun hb24 hm => ?_
 refine yG ?_
 intro _ hm
 obtain ⟨x25, h26, hm⟩ := of_bind hm
 refine nO (cG [4, 0, 1, 2] (spec_l2G_fork_sim h26) ?_)
 refine o_end ?_
 cases hm
 exact vW [0, 1, 2, 3, 4]
 refine yG ?_
 intro _ hm
 refine bS hm (fun hb27 hm => ?_) fun hb27 hm => ?_
 refine yG ?_
 intro _ hm
 obtain ⟨x28, h29, hm⟩ := of_bind hm
 refine nO (cG [4, 0, 1, 2] (spec_l2G_loop_sim h29) ?_)
 refine o_end ?_
 cases hm
 exact vW [0, 1, 2, 3, 4]
 refine yG ?_
 intro _ hm
 refine bS hm (fun hb30 hm => ?_) fun hb30 hm => ?_
 refine yG ?_
 intro _ hm
 obtain ⟨x31, h32, hm⟩ := of_bind hm
 refine nO (cG [4, 0, 1, 2] (spec_l2G_fork_sim h32) ?_)
 refine yG ?_
 intro _ hm
 obtain ⟨x33, h34, hm⟩ := of_bind hm
 refine nO (cG [0] (spec_l1Rd_below_sim h34) ?_)
 obtain ⟨x35, h36, hm⟩ := of_bind hm
 refine nO (cG [4, 0, 1, 2] (spec_l2G_some_sim h36) ?_)
 refine yG ?_
 intro _ hm
 obtain ⟨x37, h38, hm⟩ := of_bind hm
 refine nO (cG [4, 0, 1, 2] (spec_l2G_loop_sim h38) ?_)
 refine o_end ?_
 cases hm
 exact vW [0, 1, 2, 3, 4]
 refine c_skip ?_
 cases hm
 exact vW [0, 1, 2, 3, 4]
 refine yG ?_
 intro _ hm
 obtain ⟨x40, h41, hm⟩ := of_bind hm
 refine nO (cG [0] (spec_l1Rd_below_sim h41) ?_)
 obtain ⟨x42, h43, hm⟩ := of_bind hm
 refine nO (cG [4, 0, 1, 2] (spec_l2G_some_sim h43) ?_)
 refine yG ?_
 intro _ hm
 obtain ⟨x44, h45, hm⟩ := of_bind hm
 refine nO (cG [4, 0, 1, 2] (spec_l2G_ends_sim h45) ?_)
 refine o_end ?_
 refine Wp.seq ?_
 refine c_regS ?_
 refine nO (x_mv rfl rfl ?_)
 refine nO (x_ncp rfl rfl rfl ?_)
 refine nO (x_fap rfl F167_1 rfl rfl ?_)
 refine WpO.ghb (q_op 4 1) ?_
 refine WpO.ghb (q_op 4 3) ?_
 refine nO (kL (.agg [.ref () 5 0 (List.length x44.1.f.params), .int .i64 x44.1.f.ret, .ref () 6 0 (List.length x44.1.f.blocks)]) ?_)
 refine yG ?_
 intro _ hm
 cases hm
 exact rG1h [0, 1, 2] (hg := (f_deepR (e := eBlock true) (e' := eBlock false) (xs := x44.1.f.blocks) 6 rfl).trans ((f_frR 0 0 rfl rfl rfl (by first | rfl | simp) rfl rfl).trans (f_frR 0 2 rfl rfl rfl (by first | rfl | simp) rfl rfl)))
/-- spec.CountOf -/
noncomputable def spec_CountOf_m (f : GFunc) : Option Int :=
 (Option.bind (loopO (fun (st2 : Int × Int) =>
 ((if decide (st2.2 < ((List.length f.blocks : Int))) = true then
 (if 0 ≤ st2.2 ∧ st2.2 < (List.length f.blocks : Int) then
 (if 0 ≤ st2.2 ∧ st2.2 < (List.length f.blocks : Int) then
 (if inI (st2.2 + 1) then
 (some (Sum.inl ((IntKind.i64.wrap (st2.1 + (IntKind.i64.wrap (((List.length ((at_ f.blocks st2.2).phis) : Int)) + ((List.length ((at_ f.blocks st2.2).insts) : Int))))), st2.2 + 1))))
 else none)
 else none)
 else none)
 else
 (some (Sum.inr st2.1))) : Option ((Int × Int) ⊕ (Int)))) ((List.length f.params : Int), 0)) fun (j3 : Int) =>
 (some j3))
theorem spec_CountOf_sim {f : GFunc} {r : Int} (hm : spec_CountOf_m f = some r) : Sim Tryz.prog 62 [.agg (eFunc false f)] [] (.u (.one (.int .i64 r))) [] := by
 refine fN 33 0 Tryz.func62 [.tmp 2] fun B hB0 => ?_
 have fW := trivial
 unfold spec_CountOf_m at hm
 refine yG ?_
 intro k1 hm
 obtain ⟨j3, hl12, hm⟩ := of_bind hm
 refine lP hl12 (fun st2 => St 33 [(1, vP 0), (3, vI st2.1), (4, vI st2.2)] [(0, oL 3 (eFunc false f))] 1) (fun j3 => (.exit 0, St 33 [(3, vI j3)] [] 0)) (vW [0]) ?_ ?_
 intro st2 x hm
 refine yG ?_
 intro k2 hm
 refine bS hm (fun hb5 hm => ?_) fun hb5 hm => ?_
 refine c_skip ?_
 refine Wp.seq ?_
 refine Wp.block ?_
 refine c_drw (Y := sysC _) mixed ?_
 refine tK 0 0 rfl (kV ?_)
 refine tK 1 1 rfl (kF ?_)
 refine tK 2 1 rfl (kD ?_)
 refine tK 3 0 rfl (kV ?_)
 obtain ⟨h6, hm⟩ := of_ite hm
 refine tK 4 0 rfl (x_ixb E25 rfl rfl h6 ?_)
 refine tK 5 0 rfl (x_fai F53_0 rfl ?_)
 refine tK 6 0 rfl (x_ldi T48 rfl rfl rfl ?_)
 refine tK 7 0 rfl (x_lnb N48 rfl fun hL7 => ?_)
 refine tK 8 1 rfl (kF ?_)
 refine tK 9 1 rfl (kD ?_)
 refine tK 10 0 rfl (kV ?_)
 obtain ⟨h8, hm⟩ := of_ite hm
 refine tK 11 0 rfl (x_ixb E25 rfl rfl h8 ?_)
 refine tK 12 0 rfl (x_fai F53_1 rfl ?_)
 refine tK 13 0 rfl (x_ldi T49 rfl rfl rfl ?_)
 refine tK 14 0 rfl (x_lnb N49 rfl fun hL9 => ?_)
 refine tK 15 0 rfl (x_binw T3 rfl rfl rfl ?_)
 refine tK 16 0 rfl (x_binw T2 rfl rfl rfl ?_)
 refine tK 17 0 rfl (x_as rfl rfl ?_)
 refine aN ?_
 refine yG ?_
 intro k3 hm
 cases hm
 exact ⟨rfl, vW [0]⟩
 refine c_exit ?_
 cases hm
 exact ⟨rfl, vW []⟩
 refine yG ?_
 intro _ hm
 cases hm
 exact rZ1
/-- (*spec.l1Rd).module -/
noncomputable def spec_l1Rd_module_m (vr : Gl1Rd) : Option (GModule × Gl1Rd) :=
 (Option.bind (spec_l1Rd_below_m vr 2) fun x1 =>
 (if inI (1 + x1.1) then
 (Option.bind (loopO (fun (st5 : Gl1Rd × (List GFunc) × (List Int) × (List (List Int)) × Int) =>
 ((if decide (st5.2.2.2.2 > 0) = true then
 (Option.bind (spec_l1Rd_fn_m st5.1 st5.2.2.1 st5.2.2.2.1) fun x8 =>
 (Option.bind ((Option.bind ((Option.bind (spec_CountOf_m x8.1) fun x12 =>
 (if decide (x12 > 60) = true then
 (some true)
 else
 (some (decide (((List.length x8.1.blocks : Int)) > 10)))))) fun (j11 : Bool) =>
 (if j11 = true then
 (some (({ params := ([] : List Int), ret := 8, blocks := [({ phis := ([] : List GPhi), insts := [({ op_ := 21, w := 8, a := 0, b := 0, c := 0, imm := 7, args := ([] : List Int) } : GInst)], term := (({ kind := 1, a := 0, x := 0, y := 0 } : GTerm)) } : GBlock)] } : GFunc)))
 else
 (some x8.1)))) fun (j10 : GFunc) =>
 (if (List.length st5.2.1 + List.length ([j10])) * 56 ≤ 140737488355328 ∧ List.length st5.2.1 + List.length ([j10]) ≤ LIM then
 (if (List.length st5.2.2.1 + List.length ([j10.ret])) * 8 ≤ 140737488355328 ∧ List.length st5.2.2.1 + List.length ([j10.ret]) ≤ LIM then
 (if (List.length st5.2.2.2.1 + List.length ([j10.params])) * 24 ≤ 140737488355328 ∧ List.length st5.2.2.2.1 + List.length ([j10.params]) ≤ LIM then
 (if inI (st5.2.2.2.2 - 1) then
 (some (Sum.inl ((x8.2, st5.2.1 ++ ([j10]), st5.2.2.1 ++ ([j10.ret]), st5.2.2.2.1 ++ ([j10.params]), st5.2.2.2.2 - 1))))
 else none)
 else none)
 else none)
 else none)))
 else
 (some (Sum.inr (((st5.1, st5.2.1)))))) : Option ((Gl1Rd × (List GFunc) × (List Int) × (List (List Int)) × Int) ⊕ ((Gl1Rd × (List GFunc)))))) (x1.2, ([] : List GFunc), ([] : List Int), ([] : List (List Int)), 1 + x1.1)) fun (j6 : Gl1Rd × (List GFunc)) =>
 (some ((({ funcs := j6.2 } : GModule), j6.1))))
 else none))
theorem spec_l1Rd_module_sim {vr : Gl1Rd} {r : GModule × Gl1Rd} (hm : spec_l1Rd_module_m vr = some r) : Sim Tryz.prog 59 [.one (.ptr () 0 0 0)] [⟨(), 2, [el1Rd false vr]⟩] (.u (.agg [.os () 3 (List.map (eFunc false) r.1.funcs)])) [⟨(), 2, [el1Rd false r.2]⟩] := by
 refine fN 54 1 Tryz.func59 [.cell 2 40] fun B hB0 => ?_
 unfold spec_l1Rd_module_m at hm
 refine yG ?_
 intro _ hm
 refine nO (kM (iL) (([] : List Int)) ?_)
 refine yG ?_
 intro _ hm
 refine nO (kM (lL false 1 iL) (([] : List (List Int))) ?_)
 refine yG ?_
 intro _ hm
 obtain ⟨x1, h2, hm⟩ := of_bind hm
 refine nO (cG [0] (spec_l1Rd_below_sim h2) ?_)
 refine yR ?_
 intro k1 hm
 refine o_end ?_
 refine Wp.block ?_
 refine gH (f_nlc (rows' := [[.ref () 5 0 (List.length ([] : List GFunc))]]) 2 0 0 3 rfl rfl rfl rfl) ?_
 obtain ⟨j6, hl24, hm⟩ := of_bind hm
 refine lP hl24 (fun st5 => St 54 [(0, vP 0), (2, vP 1), (3, vP 2), (4, vR 4 (List.length st5.2.2.1)), (5, vR 5 (List.length st5.2.2.2.1)), (6, vI st5.2.2.2.2)] [(0, oL 2 (el1Rd false st5.1)), (1, oL 1 [.nl]), (2, oL 1 [.ref () 3 0 (List.length st5.2.1)]), (3, oM 3 (eFunc false) st5.2.1), (4, oM 1 iL st5.2.2.1), (5, oM 1 (lL false 1 iL) st5.2.2.2.1)] 6) (fun j6 => (.exit 0, St 54 [(2, vP 1), (3, vP 2)] [(0, oL 2 (el1Rd false j6.1)), (1, oL 1 [.nl]), (2, oL 1 [.ref () 3 0 (List.length j6.2)]), (3, oM 3 (eFunc false) j6.2)] 4)) (vW [0, 1, 2, 5, 3, 4]) ?_ ?_
 intro st5 x hm
 refine yG ?_
 intro _ hm
 refine bS hm (fun hb7 hm => ?_) fun hb7 hm => ?_
 refine yG ?_
 intro _ hm
 obtain ⟨x8, h9, hm⟩ := of_bind hm
 refine nO (cG [0, 4, 5] (spec_l1Rd_fn_sim h9) ?_)
 refine yR ?_
 intro _ hm
 refine o_end ?_
 refine Wp.seq ?_
 obtain ⟨j10, hj18, hm⟩ := of_bind hm
 refine c_cut (St 54 [(0, vP 0), (2, vP 1), (3, vP 2), (4, vR 4 (List.length st5.2.2.1)), (5, vR 5 (List.length st5.2.2.2.1)), (6, vI st5.2.2.2.2), (7, vP 6)] [(0, oL 2 (el1Rd false x8.2)), (1, oL 1 [.nl]), (2, oL 1 [.ref () 3 0 (List.length st5.2.1)]), (3, oM 3 (eFunc false) st5.2.1), (4, oM 1 iL st5.2.2.1), (5, oM 1 (lL false 1 iL) st5.2.2.2.1), (6, oL 3 (eFunc false j10))] 7) ?_ ?_
 replace hm := hj18
 refine Wp.seq ?_
 obtain ⟨j11, hj16, hm⟩ := of_bind hm
 refine c_cut (St 54 [(0, vP 0), (2, vP 1), (3, vP 2), (4, vR 4 (List.length st5.2.2.1)), (5, vR 5 (List.length st5.2.2.2.1)), (6, vI st5.2.2.2.2), (7, vP 6), (30, vB j11)] [(0, oL 2 (el1Rd false x8.2)), (1, oL 1 [.nl]), (2, oL 1 [.ref () 3 0 (List.length st5.2.1)]), (3, oM 3 (eFunc false) st5.2.1), (4, oM 1 iL st5.2.2.1), (5, oM 1 (lL false 1 iL) st5.2.2.2.1), (6, oL 3 (eFunc false x8.1))] 7) ?_ ?_
 replace hm := hj16
 refine c_regS ?_
 refine nO (kW ?_)
 obtain ⟨x12, h13, hm⟩ := of_bind hm
 refine nO (aopK_A (cB (spec_CountOf_sim h13) ?_))
 refine yG ?_
 intro _ hm
 refine bG0 hm (fun hb14 hm => ?_) fun hb14 hm => ?_
 refine yG ?_
 intro k2 hm
 cases hm
 exact vW [0, 1, 2, 3, 4, 5, 6]
 refine yG ?_
 intro _ hm
 cases hm
 exact vW [0, 1, 2, 3, 4, 5, 6]
 refine bS hm (fun hb17 hm => ?_) fun hb17 hm => ?_
 refine c_regS ?_
 refine nO (x_bu (cells := [.int .i64 21, .int .i64 8, .int .i64 0, .int .i64 0, .int .i64 0, .int .i64 7, .nl]) T29 rfl rfl rfl ?_)
 refine WpO.ghb (q_nb 31 6 1) ?_
 refine nO (kM (eInst false) ([({ op_ := 21, w := 8, a := 0, b := 0, c := 0, imm := 7, args := ([] : List Int) } : GInst)]) ?_)
 refine WpO.ghb (f_frj (u' := .one (.bs () 7 (List.map (eInst false) ([({ op_ := 21, w := 8, a := 0, b := 0, c := 0, imm := 7, args := ([] : List Int) } : GInst)])))) 32 0 rfl rfl rfl (by first | rfl | simp) rfl rfl rfl) ?_
 refine nO (x_bu (cells := (eTerm (({ kind := 1, a := 0, x := 0, y := 0 } : GTerm)))) T51 rfl rfl rfl ?_)
 refine nO (x_bu (cells := [.nl, .bs () 7 (List.map (eInst false) ([({ op_ := 21, w := 8, a := 0, b := 0, c := 0, imm := 7, args := ([] : List Int) } : GInst)])), .int .i64 ((({ kind := 1, a := 0, x := 0, y := 0 } : GTerm)).kind), .int .i64 ((({ kind := 1, a := 0, x := 0, y := 0 } : GTerm)).a), .int .i64 ((({ kind := 1, a := 0, x := 0, y := 0 } : GTerm)).x), .int .i64 ((({ kind := 1, a := 0, x := 0, y := 0 } : GTerm)).y)]) T53 rfl rfl rfl ?_)
 refine WpO.ghb (q_nb 34 0 2) ?_
 refine nO (kM (eBlock false) ([({ phis := ([] : List GPhi), insts := [({ op_ := 21, w := 8, a := 0, b := 0, c := 0, imm := 7, args := ([] : List Int) } : GInst)], term := (({ kind := 1, a := 0, x := 0, y := 0 } : GTerm)) } : GBlock)]) ?_)
 refine WpO.ghb (f_frj (u' := .one (.bs () 6 (List.map (eBlock false) ([({ phis := ([] : List GPhi), insts := [({ op_ := 21, w := 8, a := 0, b := 0, c := 0, imm := 7, args := ([] : List Int) } : GInst)], term := (({ kind := 1, a := 0, x := 0, y := 0 } : GTerm)) } : GBlock)])))) 35 0 rfl rfl rfl (by first | rfl | simp) rfl rfl rfl) ?_
 refine nO (x_bu (cells := [.nl, .int .i64 8, .bs () 6 (List.map (eBlock false) ([({ phis := ([] : List GPhi), insts := [({ op_ := 21, w := 8, a := 0, b := 0, c := 0, imm := 7, args := ([] : List Int) } : GInst)], term := (({ kind := 1, a := 0, x := 0, y := 0 } : GTerm)) } : GBlock)]))]) T27 rfl rfl rfl ?_)
 refine WpO.ghb (q_nb 36 0 1) ?_
 refine yG ?_
 intro _ hm
 cases hm
 exact vW [0, 1, 2, 3, 4, 5, 6]
 refine c_skip ?_
 cases hm
 exact vW [0, 1, 2, 3, 4, 5, 6]
 refine yG ?_
 intro _ hm
 refine nO (kW ?_)
 refine nO (kM (eFunc false) ([j10]) ?_)
 refine yG ?_
 intro k3 hm
 refine nO (kM (iL) ([j10.ret]) ?_)
 refine yG ?_
 intro k4 hm
 refine nO (kM (lL false 1 iL) ([j10.params]) ?_)
 refine yG ?_
 intro k5 hm
 cases hm
 exact ⟨rfl, vW [0, 1, 2, 8, 10, 12]⟩
 refine c_exit ?_
 cases hm
 exact ⟨rfl, vW [0, 1, 2, 3]⟩
 refine Wp.seq ?_
 refine c_regS ?_
 refine nO (kW ?_)
 refine yG ?_
 intro _ hm
 cases hm
 exact rG1h [0] (hg := f_fold 0 0 rfl rfl rfl rfl)
/-- (*spec.l1Rd).near -/
noncomputable def spec_l1Rd_near_m (vr : Gl1Rd) (low : Int) (high : Int) : Option (Int × Gl1Rd) :=
 (Option.bind (spec_l1Rd_below_m vr 8) fun x1 =>
 (if (x1.1 == 0) = true then
 (some ((low, x1.2)))
 else
 (if (x1.1 == 1) = true then
 (some ((high, x1.2)))
 else
 (if decide (high < low) = true then
 (some ((low, x1.2)))
 else
 (Option.bind (spec_l1Rd_word_m x1.2) fun x6 =>
 (if inI ((IntKind.i64.wrap (high - low)) + 1) then
 (if (IntKind.u64.wrap ((IntKind.i64.wrap (high - low)) + 1)) ≠ 0 then
 (some ((IntKind.i64.wrap (low + (IntKind.i64.wrap (Int.tmod (x6.1 / 2 ^ min (Int.toNat 1) (IntKind.bits .u64)) (IntKind.u64.wrap ((IntKind.i64.wrap (high - low)) + 1))))), x6.2)))
 else none)
 else none))))))
theorem spec_l1Rd_near_sim {vr : Gl1Rd} {low : Int} {high : Int} {r : Int × Gl1Rd} (hm : spec_l1Rd_near_m vr low high = some r) : Sim Tryz.prog 116 [.one (.ptr () 0 0 0), .one (.int .i64 low), .one (.int .i64 high)] [⟨(), 2, [el1Rd false vr]⟩] (.u (.one (.int .i64 r.1))) [⟨(), 2, [el1Rd false r.2]⟩] := by
 refine fN 31 1 Tryz.func116 [.tmp 6] fun B hB0 => ?_
 have fW := trivial
 unfold spec_l1Rd_near_m at hm
 refine yG ?_
 intro _ hm
 obtain ⟨x1, h2, hm⟩ := of_bind hm
 refine nO (cG [0] (spec_l1Rd_below_sim h2) ?_)
 refine yG ?_
 intro _ hm
 refine bS hm (fun hb3 hm => ?_) fun hb3 hm => ?_
 refine yG ?_
 intro _ hm
 cases hm
 exact rG1 [0]
 refine yG ?_
 intro _ hm
 refine bS hm (fun hb4 hm => ?_) fun hb4 hm => ?_
 refine yG ?_
 intro _ hm
 cases hm
 exact rG1 [0]
 refine yG ?_
 intro _ hm
 refine bS hm (fun hb5 hm => ?_) fun hb5 hm => ?_
 refine yG ?_
 intro _ hm
 cases hm
 exact rG1 [0]
 refine yG ?_
 intro _ hm
 obtain ⟨x6, h7, hm⟩ := of_bind hm
 refine nO (cG [0] (spec_l1Rd_word_sim h7) ?_)
 refine yG ?_
 intro _ hm
 refine nO (x_binw T2 rfl rfl rfl ?_)
 refine yG ?_
 intro k1 hm
 refine nO (x_binw T2 rfl rfl rfl ?_)
 refine yG ?_
 intro _ hm
 cases hm
 exact rG1 [0]
/-- (*spec.l1Rd).off -/
noncomputable def spec_l1Rd_off_m (vr : Gl1Rd) (low : Int) (high : Int) : Option (Int × Gl1Rd) :=
 (Option.bind (spec_l1Rd_once_m vr 24) fun x1 =>
 (if x1.1 = true then
 (if inI (low - 1) then
 (if inI (high + 1) then
 (Option.bind (spec_l1Rd_below_m x1.2 4) fun x6 =>
 (if 0 ≤ x6.1 ∧ x6.1 < (List.length ([low - 1, high + 1, (-9223372036854775808), 9223372036854775807]) : Int) then
 (some ((at_ ([low - 1, high + 1, (-9223372036854775808), 9223372036854775807]) x6.1, x6.2)))
 else none))
 else none)
 else none)
 else
 (Option.bind (spec_l1Rd_near_m x1.2 low high) fun x9 =>
 (some ((x9.1, x9.2))))))
theorem spec_l1Rd_off_sim {vr : Gl1Rd} {low : Int} {high : Int} {r : Int × Gl1Rd} (hm : spec_l1Rd_off_m vr low high = some r) : Sim Tryz.prog 64 [.one (.ptr () 0 0 0), .one (.int .i64 low), .one (.int .i64 high)] [⟨(), 2, [el1Rd false vr]⟩] (.u (.one (.int .i64 r.1))) [⟨(), 2, [el1Rd false r.2]⟩] := by
 refine fN 22 1 Tryz.func64 [.tmp 6] fun B hB0 => ?_
 unfold spec_l1Rd_off_m at hm
 refine yG ?_
 intro _ hm
 obtain ⟨x1, h2, hm⟩ := of_bind hm
 refine nO (cG [0] (spec_l1Rd_once_sim h2) ?_)
 refine o_end ?_
 refine bS hm (fun hb3 hm => ?_) fun hb3 hm => ?_
 refine yG ?_
 intro k1 hm
 refine nO (kM (iL) ([low - 1, high + 1, (-9223372036854775808), 9223372036854775807]) ?_)
 refine yG ?_
 intro _ hm
 obtain ⟨x6, h7, hm⟩ := of_bind hm
 refine nO (cG [0] (spec_l1Rd_below_sim h7) ?_)
 refine yG ?_
 intro k2 hm
 cases hm
 exact rG1 [0]
 refine yG ?_
 intro _ hm
 obtain ⟨x9, h10, hm⟩ := of_bind hm
 refine nO (cG [0] (spec_l1Rd_near_sim h10) ?_)
 refine yG ?_
 intro _ hm
 cases hm
 exact rG1 [0]
/-- spec.DrawFoldedInst -/
noncomputable def spec_DrawFoldedInst_m (code : List Int) : Option (GFunc × GInst) :=
 (Option.bind (spec_l1Rd_module_m ((spec_l1Open_m code))) fun x1 =>
 (if (0 : Int) ≤ 0 ∧ 0 < (List.length x1.1.funcs : Int) then
 (Option.bind ((Option.bind (spec_l1Rd_below_m x1.2 ((List.length ((at_ x1.1.funcs 0).blocks) : Int))) fun x6 =>
 (if 0 ≤ x6.1 ∧ x6.1 < (List.length ((at_ x1.1.funcs 0).blocks) : Int) then
 (some ((x6.2, at_ ((at_ x1.1.funcs 0).blocks) x6.1)))
 else none))) fun (j4 : Gl1Rd × GBlock) =>
 (Option.bind ((if (((List.length j4.2.insts : Int)) == 0) = true then
 (some ((j4.1, true)))
 else
 (Option.bind (spec_l1Rd_once_m j4.1 8) fun x13 =>
 (some ((x13.2, x13.1)))))) fun (j10 : Gl1Rd × Bool) =>
 (if j10.2 = true then
 (Option.bind (spec_CountOf_m (at_ x1.1.funcs 0)) fun x17 =>
 (if inI (x17 - 1) then
 (Option.bind ((Option.bind (spec_l1Rd_below_m j10.1 17) fun x21 =>
 (if inI (1 + x21.1) then
 (Option.bind (spec_l1Rd_width_m x21.2) fun x24 =>
 (Option.bind (spec_l1Rd_off_m x24.2 0 (x17 - 1)) fun x26 =>
 (Option.bind (spec_l1Rd_off_m x26.2 0 (x17 - 1)) fun x28 =>
 (some ((1 + x21.1, x24.1, x26.1, x28.1))))))
 else none))) fun (j20 : Int × Int × Int × Int) =>
 (some ((({ params := (at_ x1.1.funcs 0).params, ret := (at_ x1.1.funcs 0).ret, blocks := (at_ x1.1.funcs 0).blocks } : GFunc), ({ op_ := j20.1, w := j20.2.1, a := j20.2.2.1, b := j20.2.2.2, c := 0, imm := 0, args := [] } : GInst)))))
 else none))
 else
 (Option.bind ((Option.bind (spec_l1Rd_below_m j10.1 ((List.length j4.2.insts : Int))) fun x33 =>
 (if 0 ≤ x33.1 ∧ x33.1 < (List.length j4.2.insts : Int) then
 (some (at_ j4.2.insts x33.1))
 else none))) fun (j31 : GInst) =>
 (some ((({ params := (at_ x1.1.funcs 0).params, ret := (at_ x1.1.funcs 0).ret, blocks := (at_ x1.1.funcs 0).blocks } : GFunc), ({ op_ := j31.op_, w := j31.w, a := j31.a, b := j31.b, c := j31.c, imm := j31.imm, args := j31.args } : GInst))))))))
 else none))
theorem spec_DrawFoldedInst_sim {code : List Int} {r : GFunc × GInst} (hm : spec_DrawFoldedInst_m code = some r) : Sim Tryz.prog 14 [.one (.bs () 1 (List.map (iK .u8) code))] [] (.tup [.agg (eFunc false r.1), .agg (eInst false r.2)]) [] := by
 refine fN 58 0 Tryz.func14 [.cell 2 27, .cell 3 29] fun B hB0 => ?_
 unfold spec_DrawFoldedInst_m at hm
 refine yG ?_
 intro _ hm
 refine nO (cG [] (spec_l1Open_sim code) ?_)
 refine yG ?_
 intro _ hm
 obtain ⟨x1, h2, hm⟩ := of_bind hm
 refine nO (cG [2] (spec_l1Rd_module_sim h2) ?_)
 refine nO (x_fd F40_0 rfl rfl rfl ?_)
 refine yG ?_
 intro k1 hm
 refine nO (x_ldn rfl T27 rfl rfl k1.2 (pk_all rfl rfl) rfl ?_)
 refine yR ?_
 intro _ hm
 refine o_end ?_
 refine Wp.seq ?_
 obtain ⟨j4, hj9, hm⟩ := of_bind hm
 refine c_cut (St 58 [(2, vP 0), (3, vP 1), (4, vP 2), (5, vP 3), (6, vP 4)] [(0, oL 3 [.nl, .int .i64 0, .nl]), (1, oL 7 [.int .i64 0, .int .i64 0, .int .i64 0, .int .i64 0, .int .i64 0, .int .i64 0, .nl]), (2, oL 2 (el1Rd false j4.1)), (3, oL 3 (eFunc false (at_ x1.1.funcs 0))), (4, oL 6 (eBlock false j4.2))] 5) ?_ ?_
 replace hm := hj9
 refine c_drw (Y := sysH _ [2] []) mixed ?_
 obtain ⟨x6, h7, hm⟩ := of_bind hm
 have hS3_6 := (spec_l1Rd_below_sim h7)
 obtain ⟨h8, hm⟩ := of_ite hm
 refine tE 0 [1, 7, 8, 10] rfl (kF ?_)
 refine tE 1 [7, 8, 10] rfl (kD ?_)
 refine tK 2 0 rfl (kV ?_)
 refine tD 3 1 [4, 5, 6, 7, 8, 10] rfl (kF ?_)
 refine tD 4 1 [5, 6, 7, 8, 10] rfl (kD ?_)
 refine tK 5 0 rfl (x_lnb N25 rfl fun hL5 => ?_)
 refine t_n 6 [9] (by decide +kernel) (.cons (wy rfl (x_cgS (H := [2]) (X := []) (v := .u (.one (.int .i64 x6.1))) (nobs := []) (oa' := _) (nx' := 5) hS3_6 [2] rfl (by decide) (h_c rfl h_n) rfl (g_1 rfl rfl rfl (g_1 rfl rfl rfl g_n)) ent60 rfl rfl rfl rfl ?_ rfl)) (.cons (wy rfl (x_al T53 (r := [.nl, .nl, .int .i64 0, .int .i64 0, .int .i64 0, .int .i64 0]) rfl rfl ?_)) .nil))
 refine tK 7 0 rfl (x_ixb E25 rfl rfl h8 ?_)
 refine tK 8 0 rfl (x_ldi T53 rfl (pk_all rfl rfl) rfl ?_)
 refine oK 9 rfl (x_al T53 (r := [.nl, .nl, .int .i64 0, .int .i64 0, .int .i64 0, .int .i64 0]) rfl rfl ?_)
 refine oK 10 rfl (kS ?_)
 refine aN ?_
 cases hm
 exact vW [0, 1, 2, 4, 5]
 refine oK 6 rfl (x_cgS (H := [2]) (X := []) (v := .u (.one (.int .i64 x6.1))) (nobs := []) (oa' := _) (nx' := 6) hS3_6 [2] rfl (by decide) (h_c rfl h_n) rfl (g_1 rfl rfl rfl (g_1 rfl rfl rfl g_n)) ent60 rfl rfl rfl rfl ?_ rfl)
 refine tK 7 0 rfl (x_ixb E25 rfl rfl h8 ?_)
 refine tK 8 0 rfl (x_ldi T53 rfl (pk_all rfl rfl) rfl ?_)
 refine oK 10 rfl (kS ?_)
 refine aN ?_
 cases hm
 exact vW [0, 1, 2, 4, 5]
 refine Wp.seq ?_
 refine Wp.seq ?_
 obtain ⟨j10, hj15, hm⟩ := of_bind hm
 refine c_cut (St 58 [(2, vP 0), (3, vP 1), (4, vP 2), (5, vP 3), (6, vP 4), (31, vB j10.2)] [(0, oL 3 [.nl, .int .i64 0, .nl]), (1, oL 7 [.int .i64 0, .int .i64 0, .int .i64 0, .int .i64 0, .int .i64 0, .int .i64 0, .nl]), (2, oL 2 (el1Rd false j10.1)), (3, oL 3 (eFunc false (at_ x1.1.funcs 0))), (4, oL 6 (eBlock false j4.2))] 5) ?_ ?_
 replace hm := hj15
 refine yG ?_
 intro k2 hm
 refine bG0 hm (fun hb12 hm => ?_) fun hb12 hm => ?_
 refine yG ?_
 intro _ hm
 obtain ⟨x13, h14, hm⟩ := of_bind hm
 refine gO_t rfl rfl rfl (cG [2] (spec_l1Rd_once_sim h14) ?_)
 refine yG ?_
 intro _ hm
 cases hm
 exact vW [0, 1, 2, 3, 4]
 refine yG ?_
 intro _ hm
 cases hm
 exact vW [0, 1, 2, 3, 4]
 refine bS hm (fun hb16 hm => ?_) fun hb16 hm => ?_
 refine Wp.seq ?_
 refine c_regS ?_
 refine nO (kW ?_)
 obtain ⟨x17, h18, hm⟩ := of_bind hm
 refine nO (aopK_A (cB (spec_CountOf_sim h18) ?_))
 refine yR ?_
 intro k3 hm
 refine o_end ?_
 refine Wp.seq ?_
 obtain ⟨j20, hj30, hm⟩ := of_bind hm
 refine c_cut (St 58 [(2, vP 0), (3, vP 1)] [(0, oL 3 (eFunc false (at_ x1.1.funcs 0))), (1, oL 7 [.int .i64 j20.1, .int .i64 j20.2.1, .int .i64 j20.2.2.1, .int .i64 j20.2.2.2, .int .i64 0, .int .i64 0, .nl])] 2) ?_ ?_
 replace hm := hj30
 refine c_drw (Y := sysG _) mixed ?_
 refine tK 1 0 rfl (kV ?_)
 refine tK 4 0 rfl (kV ?_)
 refine tK 6 0 rfl (kV ?_)
 refine tK 7 0 rfl (kV ?_)
 refine tK 9 0 rfl (kV ?_)
 refine tK 10 0 rfl (kV ?_)
 refine t_2 0 2 rfl rfl (by decide +kernel) ?_ ?_
 refine (kW ?_)
 obtain ⟨x21, h22, hm⟩ := of_bind hm
 refine oK 2 rfl (cgG [2] (spec_l1Rd_below_sim h22) ?_)
 obtain ⟨h23, hm⟩ := of_ite hm
 refine tK 3 0 rfl (x_addc T3 rfl rfl h23 ?_)
 obtain ⟨x24, h25, hm⟩ := of_bind hm
 refine oK 5 rfl (cgG [2] (spec_l1Rd_width_sim h25) ?_)
 obtain ⟨x26, h27, hm⟩ := of_bind hm
 refine oK 8 rfl (cgG [2] (spec_l1Rd_off_sim h27) ?_)
 obtain ⟨x28, h29, hm⟩ := of_bind hm
 refine oK 11 rfl (cgG [2] (spec_l1Rd_off_sim h29) ?_)
 refine tK 12 0 rfl (kB ([.int .i64 (1 + x21.1), .int .i64 x24.1, .int .i64 x26.1, .int .i64 x28.1, .int .i64 0, .int .i64 0, .nl]) ?_)
 refine oK 13 rfl (kS ?_)
 refine oK 14 rfl (kS ?_)
 refine aN ?_
 cases hm
 exact vW [0, 1]
 obtain ⟨x21, h22, hm⟩ := of_bind hm
 refine (cgG [2] (spec_l1Rd_below_sim h22) ?_)
 obtain ⟨h23, hm⟩ := of_ite hm
 refine tK 3 0 rfl (x_addc T3 rfl rfl h23 ?_)
 refine t_2 0 5 rfl rfl (by decide +kernel) ?_ ?_
 refine (kW ?_)
 obtain ⟨x24, h25, hm⟩ := of_bind hm
 refine oK 5 rfl (cgG [2] (spec_l1Rd_width_sim h25) ?_)
 obtain ⟨x26, h27, hm⟩ := of_bind hm
 refine oK 8 rfl (cgG [2] (spec_l1Rd_off_sim h27) ?_)
 obtain ⟨x28, h29, hm⟩ := of_bind hm
 refine oK 11 rfl (cgG [2] (spec_l1Rd_off_sim h29) ?_)
 refine tK 12 0 rfl (kB ([.int .i64 (1 + x21.1), .int .i64 x24.1, .int .i64 x26.1, .int .i64 x28.1, .int .i64 0, .int .i64 0, .nl]) ?_)
 refine oK 13 rfl (kS ?_)
 refine oK 14 rfl (kS ?_)
 refine aN ?_
 cases hm
 exact vW [0, 1]
 obtain ⟨x24, h25, hm⟩ := of_bind hm
 refine (cgG [2] (spec_l1Rd_width_sim h25) ?_)
 refine t_2 0 8 rfl rfl (by decide +kernel) ?_ ?_
 refine (kW ?_)
 obtain ⟨x26, h27, hm⟩ := of_bind hm
 refine oK 8 rfl (cgG [2] (spec_l1Rd_off_sim h27) ?_)
 obtain ⟨x28, h29, hm⟩ := of_bind hm
 refine oK 11 rfl (cgG [2] (spec_l1Rd_off_sim h29) ?_)
 refine tK 12 0 rfl (kB ([.int .i64 (1 + x21.1), .int .i64 x24.1, .int .i64 x26.1, .int .i64 x28.1, .int .i64 0, .int .i64 0, .nl]) ?_)
 refine oK 13 rfl (kS ?_)
 refine oK 14 rfl (kS ?_)
 refine aN ?_
 cases hm
 exact vW [0, 1]
 obtain ⟨x26, h27, hm⟩ := of_bind hm
 refine (cgG [2] (spec_l1Rd_off_sim h27) ?_)
 refine t_2 0 11 rfl rfl (by decide +kernel) ?_ ?_
 refine (kW ?_)
 obtain ⟨x28, h29, hm⟩ := of_bind hm
 refine oK 11 rfl (cgG [2] (spec_l1Rd_off_sim h29) ?_)
 refine tK 12 0 rfl (kB ([.int .i64 (1 + x21.1), .int .i64 x24.1, .int .i64 x26.1, .int .i64 x28.1, .int .i64 0, .int .i64 0, .nl]) ?_)
 refine oK 13 rfl (kS ?_)
 refine oK 14 rfl (kS ?_)
 refine aN ?_
 cases hm
 exact vW [0, 1]
 obtain ⟨x28, h29, hm⟩ := of_bind hm
 refine (cgG [2] (spec_l1Rd_off_sim h29) ?_)
 refine tK 0 1 rfl (kW ?_)
 refine tK 12 0 rfl (kB ([.int .i64 (1 + x21.1), .int .i64 x24.1, .int .i64 x26.1, .int .i64 x28.1, .int .i64 0, .int .i64 0, .nl]) ?_)
 refine oK 13 rfl (kS ?_)
 refine oK 14 rfl (kS ?_)
 refine aN ?_
 cases hm
 exact vW [0, 1]
 refine c_ret ?_
 cases hm
 exact rZth (hg := f_nl 1 6 1 false rfl rfl rfl)
 refine c_skip ?_
 refine Wp.seq ?_
 obtain ⟨j31, hj36, hm⟩ := of_bind hm
 refine c_cut (St 58 [(2, vP 0), (3, vP 1)] [(0, oL 3 (eFunc false (at_ x1.1.funcs 0))), (1, oL 7 (eInst false j31))] 2) ?_ ?_
 replace hm := hj36
 refine c_drw (Y := sysH _ [2] []) mixed ?_
 obtain ⟨x33, h34, hm⟩ := of_bind hm
 have hS7_7 := (spec_l1Rd_below_sim h34)
 obtain ⟨h35, hm⟩ := of_ite hm
 refine tE 0 [10, 11] rfl (kW ?_)
 refine tK 3 0 rfl (kV ?_)
 refine tD 4 1 [5, 6, 7, 8, 9, 10, 11] rfl (kF ?_)
 refine tD 5 1 [6, 7, 8, 9, 10, 11] rfl (kD ?_)
 refine tK 6 0 rfl (x_lnb N49 rfl fun hL32 => ?_)
 refine t_n 1 [7] (by decide +kernel) (.cons (wy rfl (x_fap rfl F53_1 rfl rfl ?_)) (.cons (wy rfl (x_cgS (H := [2]) (X := []) (v := .u (.one (.int .i64 x33.1))) (nobs := []) (oa' := _) (nx' := 5) hS7_7 [2] rfl (by decide) (h_c rfl h_n) rfl (g_1 rfl rfl rfl (g_1 rfl rfl rfl g_n)) ent60 rfl rfl rfl rfl ?_ rfl)) .nil))
 refine t_n 2 [7] (by decide +kernel) (.cons (wy rfl (x_ldp rfl T49 rfl rfl rfl rfl rfl ?_)) (.cons (wy rfl (x_cgS (H := [2]) (X := []) (v := .u (.one (.int .i64 x33.1))) (nobs := []) (oa' := _) (nx' := 5) hS7_7 [2] rfl (by decide) (h_c rfl h_n) rfl (g_1 rfl rfl rfl (g_1 rfl rfl rfl g_n)) ent60 rfl rfl rfl rfl ?_ rfl)) .nil))
 refine oK 7 rfl (x_cgS (H := [2]) (X := []) (v := .u (.one (.int .i64 x33.1))) (nobs := []) (oa' := _) (nx' := 5) hS7_7 [2] rfl (by decide) (h_c rfl h_n) rfl (g_1 rfl rfl rfl (g_1 rfl rfl rfl g_n)) ent60 rfl rfl rfl rfl ?_ rfl)
 refine tK 8 0 rfl (x_ixb E49 rfl rfl h35 ?_)
 refine tK 9 0 rfl (x_ldi T29 rfl (pk_all rfl rfl) rfl ?_)
 refine oK 10 rfl (kS ?_)
 refine oK 11 rfl (kS ?_)
 refine aN ?_
 cases hm
 exact vW [0, 1]
 refine t_n 2 [10] (by decide +kernel) (.cons (wy rfl (x_ldp rfl T49 rfl rfl rfl rfl rfl ?_)) (.cons (wy rfl (x_st T27 (rows := [(eFunc false (at_ x1.1.funcs 0))]) rfl rfl rfl rfl rfl rfl rfl rfl ?_)) .nil))
 refine tK 8 0 rfl (x_ixb E49 rfl rfl h35 ?_)
 refine tK 9 0 rfl (x_ldi T29 rfl (pk_all rfl rfl) rfl ?_)
 refine oK 10 rfl (kS ?_)
 refine oK 11 rfl (kS ?_)
 refine aN ?_
 cases hm
 exact vW [0, 1]
 refine tK 2 1 rfl (kD ?_)
 refine tK 8 0 rfl (x_ixb E49 rfl rfl h35 ?_)
 refine tK 9 0 rfl (x_ldi T29 rfl (pk_all rfl rfl) rfl ?_)
 refine oK 11 rfl (kS ?_)
 refine aN ?_
 cases hm
 exact vW [0, 1]
 refine t_n 1 [10] (by decide +kernel) (.cons (wy rfl (x_fap rfl F53_1 rfl rfl ?_)) (.cons (wy rfl (x_st T27 (rows := [(eFunc false (at_ x1.1.funcs 0))]) rfl rfl rfl rfl rfl rfl rfl rfl ?_)) .nil))
 refine t_n 2 [10] (by decide +kernel) (.cons (wy rfl (x_ldp rfl T49 rfl rfl rfl rfl rfl ?_)) (.cons (wy rfl (x_st T27 (rows := [(eFunc false (at_ x1.1.funcs 0))]) rfl rfl rfl rfl rfl rfl rfl rfl ?_)) .nil))
 refine tK 8 0 rfl (x_ixb E49 rfl rfl h35 ?_)
 refine tK 9 0 rfl (x_ldi T29 rfl (pk_all rfl rfl) rfl ?_)
 refine oK 10 rfl (kS ?_)
 refine oK 11 rfl (kS ?_)
 refine aN ?_
 cases hm
 exact vW [0, 1]
 refine tK 2 1 rfl (kD ?_)
 refine tK 8 0 rfl (x_ixb E49 rfl rfl h35 ?_)
 refine tK 9 0 rfl (x_ldi T29 rfl (pk_all rfl rfl) rfl ?_)
 refine oK 11 rfl (kS ?_)
 refine aN ?_
 cases hm
 exact vW [0, 1]
 refine tK 1 1 rfl (kF ?_)
 refine tK 2 1 rfl (kD ?_)
 refine tK 8 0 rfl (x_ixb E49 rfl rfl h35 ?_)
 refine tK 9 0 rfl (x_ldi T29 rfl (pk_all rfl rfl) rfl ?_)
 refine oK 11 rfl (kS ?_)
 refine aN ?_
 cases hm
 exact vW [0, 1]
 refine c_ret ?_
 cases hm
 exact rZt
/-- impl.WidthOk -/
noncomputable def impl_WidthOk_m (w : Int) : Bool :=
 (((w == 1) || ((w == 8) || ((w == 16) || (w == 32)))))
theorem impl_WidthOk_sim (w : Int) : Sim Tryz.prog 157 [.one (.int .i64 w)] [] (.u (.one (.bool ((impl_WidthOk_m w))))) [] := by
 generalize hm : impl_WidthOk_m w = r
 refine fN 17 0 Tryz.func157 [.tmp 2] fun B hB0 => ?_
 unfold impl_WidthOk_m at hm
 refine Wp.seq ?_
 refine c_regS ?_
 refine nO (x_as rfl rfl ?_)
 refine o_end ?_
 refine Wp.seq ?_
 refine c_cut (St 17 [(2, vB (((w == 1) || ((w == 8) || ((w == 16) || (w == 32))))))] [] 0) ?_ ?_
 refine yG ?_
 intro _ hm
 refine gO_s rfl rfl rfl (fun hb2 => ?_) (fun hb2 => ?_)
 refine yG ?_
 intro _ hm
 refine gO_s rfl rfl rfl (fun hb3 => ?_) (fun hb3 => ?_)
 refine yG ?_
 intro _ hm
 refine gO_s rfl rfl rfl (fun hb4 => ?_) (fun hb4 => ?_)
 refine yG ?_
 intro _ hm
 exact w_ [] (.cons (by simp only [hb2, hb3, hb4, BO]; rfl) rfl .nil) .nil (by decide) (hB_0 hB0)
 refine yG ?_
 intro _ hm
 exact w_ [] (.cons (by simp only [hb2, hb3, hb4, BO]; rfl) rfl .nil) .nil (by decide) (hB_0 hB0)
 refine yG ?_
 intro _ hm
 exact w_ [] (.cons (by simp only [hb2, hb3, BO]; rfl) rfl .nil) .nil (by decide) (hB_0 hB0)
 refine yG ?_
 intro _ hm
 exact w_ [] (.cons (by simp only [hb2, BO]; rfl) rfl .nil) .nil (by decide) (hB_0 hB0)
 refine c_ret ?_
 cases hm
 exact rZ1
/-- impl.within -/
noncomputable def impl_within_m (n : Int) (low : Int) (high : Int) : Bool :=
 ((decide (n ≥ low) && decide (n ≤ high)))
theorem impl_within_sim (n : Int) (low : Int) (high : Int) : Sim Tryz.prog 80 [.one (.int .i64 n), .one (.int .i64 low), .one (.int .i64 high)] [] (.u (.one (.bool ((impl_within_m n low high))))) [] := by
 generalize hm : impl_within_m n low high = r
 refine fN 15 0 Tryz.func80 [.tmp 6] fun B hB0 => ?_
 unfold impl_within_m at hm
 refine Wp.seq ?_
 refine c_regS ?_
 refine nO (x_as rfl rfl ?_)
 refine o_end ?_
 refine Wp.seq ?_
 refine c_cut (St 15 [(6, vB ((decide (n ≥ low) && decide (n ≤ high))))] [] 0) ?_ ?_
 refine yG ?_
 intro _ hm
 refine gO_s rfl rfl rfl (fun hb2 => ?_) (fun hb2 => ?_)
 refine yG ?_
 intro _ hm
 exact w_ [] (.cons (by simp only [hb2, BO]; rfl) rfl .nil) .nil (by decide) (hB_0 hB0)
 refine yG ?_
 intro _ hm
 exact w_ [] (.cons (by simp only [hb2, BO]; rfl) rfl .nil) .nil (by decide) (hB_0 hB0)
 refine c_ret ?_
 cases hm
 exact rZ1
/-- slices.IndexFunc[[]int64,int64] -/
noncomputable def slices_IndexFunc_int64_int64_m (s : List Int) (f : Int → Option Bool) : Option Int :=
 (Option.bind (loopO (fun (st2 : Int) =>
 ((if decide (st2 < ((List.length s : Int))) = true then
 (if 0 ≤ st2 ∧ st2 < (List.length s : Int) then
 (Option.bind (f (at_ s st2)) fun x7 =>
 (if x7 = true then
 (some (Sum.inr ((Sum.inl st2))))
 else
 (if inI (st2 + 1) then
 (some (Sum.inl (st2 + 1)))
 else none)))
 else none)
 else
 (some (Sum.inr ((Sum.inr (())))))) : Option ((Int) ⊕ (Int ⊕ Unit)))) 0) fun (y11 : Int ⊕ Unit) => match y11 with
 | (Sum.inl j3) =>
 (some j3)
 | (Sum.inr j4) =>
 (some ((-1))))
theorem slices_IndexFunc_int64_int64_sim (s : List Int) (fi : FuncId) (fc : List (L Unit)) (f : Int → Option Bool) (hef : Ent Tryz.prog fi) (hcf : CapOk fc) (hsf : ∀ z0 y, f z0 = some y → Sim Tryz.prog fi ([.one (.int .i64 z0)] ++ List.map .one fc) [] (.u (.one (.bool y))) []) {r : Int} (hm : slices_IndexFunc_int64_int64_m s f = some r) : Sim Tryz.prog 198 [.one (.bs () 1 (List.map iL s)), .one (.fn () fi fc)] [] (.u (.one (.int .i64 r))) [] := by
 refine sim_st (N := 19) (k0 := 0) Tryz.func198 rfl rfl rfl rfl (rs := [.tmp 4]) rfl (by simp [leavesU, idsL, List.all_cons, hcf.ids]) rfl fun B hB0 => ?_
 unfold slices_IndexFunc_int64_int64_m at hm
 refine yG ?_
 intro k1 hm
 obtain ⟨y11, hl12, hm⟩ := of_bind hm
 refine c_loop hl12 (fun (st2 : Int) => St 19 [(0, .u (.one (.bs () 1 (List.map iL s)))), (1, .u (.one (.fn () fi fc))), (7, vI ((List.length s : Int))), (8, vI st2)] [] 0) (fun (y : Int ⊕ Unit) => match y with | (Sum.inl j3) => (.ret, St 19 [(4, vI j3)] [] 0) | (Sum.inr j4) => (.exit 0, St 19 [] [] 0)) (w_ [] (.cons rfl rfl (.cons (by rw [fnv_ren hcf]; rfl) (fnv_knows hcf _ _) (.cons rfl rfl (.cons rfl rfl .nil)))) .nil (by decide) (hB_0 hB0)) ?_ (by rintro (_ | _) <;> simp) ?_
 intro st2 x hm
 refine yG ?_
 intro _ hm
 refine bS hm (fun hb5 hm => ?_) fun hb5 hm => ?_
 refine yG ?_
 intro k2 hm
 obtain ⟨x7, h8, hm⟩ := of_bind hm
 refine nO (aopK_A (x_call (v := .u (.one (.bool x7))) (nobs := []) (oa' := _) (nx' := 0) rfl (a_1 rfl (b_s rfl) a_n) hcf.bor hef (hsf (at_ s st2) x7 h8) rfl rfl rfl rfl ?_))
 refine o_end ?_
 refine bS hm (fun hb9 hm => ?_) fun hb9 hm => ?_
 refine yG ?_
 intro _ hm
 cases hm
 exact ⟨rfl, vW []⟩
 refine yG ?_
 intro k3 hm
 cases hm
 exact ⟨rfl, w_ [] (.cons rfl rfl (.cons (by rw [fnv_ren hcf]; rfl) (fnv_knows hcf _ _) (.cons rfl rfl (.cons rfl rfl .nil)))) .nil (by decide) (hB_0 hB0)⟩
 refine c_exit ?_
 cases hm
 exact ⟨rfl, vW []⟩
 rcases y11 with j3 | j4 <;> simp only at hm
 cases hm
 exact rZ1
 refine yG ?_
 intro _ hm
 cases hm
 exact rZ1
/-- slices.ContainsFunc[[]int64,int64] -/
noncomputable def slices_ContainsFunc_int64_int64_m (s : List Int) (f : Int → Option Bool) : Option Bool :=
 (Option.bind (slices_IndexFunc_int64_int64_m s f) fun x1 =>
 (some (decide (x1 ≥ 0))))
theorem slices_ContainsFunc_int64_int64_sim (s : List Int) (fi : FuncId) (fc : List (L Unit)) (f : Int → Option Bool) (hef : Ent Tryz.prog fi) (hcf : CapOk fc) (hsf : ∀ z0 y, f z0 = some y → Sim Tryz.prog fi ([.one (.int .i64 z0)] ++ List.map .one fc) [] (.u (.one (.bool y))) []) {r : Bool} (hm : slices_ContainsFunc_int64_int64_m s f = some r) : Sim Tryz.prog 118 [.one (.bs () 1 (List.map iL s)), .one (.fn () fi fc)] [] (.u (.one (.bool r))) [] := by
 refine sim_st (N := 9) (k0 := 0) Tryz.func118 rfl rfl rfl rfl (rs := [.tmp 4]) rfl (by simp [leavesU, idsL, List.all_cons, hcf.ids]) rfl fun B hB0 => ?_
 unfold slices_ContainsFunc_int64_int64_m at hm
 refine yG ?_
 intro _ hm
 obtain ⟨x1, h2, hm⟩ := of_bind hm
 refine nO (aopK_A (x_call (v := .u (.one (.int .i64 x1))) (nobs := []) (oa' := _) (nx' := 0) rfl (a_1 rfl (b_s rfl) (a_1 rfl (b_f hcf.bor) a_n)) c_n ent198 (slices_IndexFunc_int64_int64_sim s fi fc f hef hcf hsf h2) rfl rfl rfl rfl ?_))
 refine yG ?_
 intro _ hm
 cases hm
 exact rZ1
/-- impl.isFunc$1 -/
noncomputable def impl_isFunc_1_m (w : Int) : Bool :=
 ((!((impl_WidthOk_m w))))
theorem impl_isFunc_1_sim (w : Int) : Sim Tryz.prog 158 [.one (.int .i64 w)] [] (.u (.one (.bool ((impl_isFunc_1_m w))))) [] := by
 generalize hm : impl_isFunc_1_m w = r
 refine fN 6 0 Tryz.func158 [.tmp 2] fun B hB0 => ?_
 unfold impl_isFunc_1_m at hm
 refine yG ?_
 intro _ hm
 refine nO (aopK_A (cB (impl_WidthOk_sim w) ?_))
 refine yG ?_
 intro _ hm
 cases hm
 exact rZ1
/-- impl.CountOf -/
noncomputable def impl_CountOf_m (f : GFunc) : Option Int :=
 (Option.bind (loopO (fun (st3 : Int × Int) =>
 ((if decide (st3.1 < ((List.length f.blocks : Int))) = true then
 (if 0 ≤ st3.1 ∧ st3.1 < (List.length f.blocks : Int) then
 (if inI (st3.2 + (((List.length ((at_ f.blocks st3.1).phis) : Int)) + ((List.length ((at_ f.blocks st3.1).insts) : Int)))) then
 (if inI (st3.1 + 1) then
 (some (Sum.inl ((st3.1 + 1, st3.2 + (((List.length ((at_ f.blocks st3.1).phis) : Int)) + ((List.length ((at_ f.blocks st3.1).insts) : Int)))))))
 else none)
 else none)
 else none)
 else
 (some (Sum.inr st3.2))) : Option ((Int × Int) ⊕ (Int)))) (0, (List.length f.params : Int))) fun (j4 : Int) =>
 (some j4))
theorem impl_CountOf_sim {f : GFunc} {r : Int} (hm : impl_CountOf_m f = some r) : Sim Tryz.prog 67 [.agg (eFunc false f)] [] (.u (.one (.int .i64 r))) [] := by
 refine fN 27 0 Tryz.func67 [.tmp 2] fun B hB0 => ?_
 unfold impl_CountOf_m at hm
 refine yG ?_
 intro k1 hm
 obtain ⟨j4, hl12, hm⟩ := of_bind hm
 refine lP hl12 (fun st3 => St 27 [(3, vI st3.2), (10, .u (.one (.bs () 6 (List.map (eBlock false) f.blocks)))), (11, vI ((List.length f.blocks : Int))), (12, vI st3.1)] [] 0) (fun j4 => (.exit 0, St 27 [(3, vI j4)] [] 0)) (vW []) ?_ ?_
 intro st3 x hm
 refine yG ?_
 intro _ hm
 refine bS hm (fun hb5 hm => ?_) fun hb5 hm => ?_
 refine yG ?_
 intro k2 hm
 refine nO (x_ldi T53 rfl (pk_all rfl rfl) rfl ?_)
 refine yG ?_
 intro k3 hm
 cases hm
 exact ⟨rfl, vW []⟩
 refine c_exit ?_
 cases hm
 exact ⟨rfl, vW []⟩
 refine yG ?_
 intro _ hm
 cases hm
 exact rZ1
/-- impl.isFunc$2$1 -/
noncomputable def impl_isFunc_2_1_m (id : Int) (a : Int) : Option Bool :=
 (if inI (a - 1) then
 (some ((!((impl_within_m id 0 (a - 1))))))
 else none)
theorem impl_isFunc_2_1_sim {id : Int} {a : Int} {r : Bool} (hm : impl_isFunc_2_1_m id a = some r) : Sim Tryz.prog 161 [.one (.int .i64 id), .one (.ip () (iL a))] [] (.u (.one (.bool r))) [] := by
 refine fN 9 0 Tryz.func161 [.tmp 3] fun B hB0 => ?_
 unfold impl_isFunc_2_1_m at hm
 refine yG ?_
 intro k1 hm
 refine nO (aopK_A (cB (impl_within_sim id 0 (a - 1)) ?_))
 refine yG ?_
 intro _ hm
 cases hm
 exact rZ1
/-- impl.isFunc$2 -/
noncomputable def impl_isFunc_2_m (p : GPhi) (a : Int) : Option Bool :=
 (Option.bind ((if (!((impl_WidthOk_m p.w))) = true then
 (some true)
 else
 (if decide (((List.length p.ins : Int)) > 10) = true then
 (some true)
 else
 (Option.bind (slices_ContainsFunc_int64_int64_m p.ins ((fun z0 => impl_isFunc_2_1_m z0 a))) fun x5 =>
 (some x5))))) fun (j1 : Bool) =>
 (some j1))
theorem impl_isFunc_2_sim {p : GPhi} {a : Int} {r : Bool} (hm : impl_isFunc_2_m p a = some r) : Sim Tryz.prog 160 [.agg (ePhi false p), .one (.ip () (iL a))] [] (.u (.one (.bool r))) [] := by
 refine fN 20 0 Tryz.func160 [.tmp 3] fun B hB0 => ?_
 unfold impl_isFunc_2_m at hm
 refine Wp.seq ?_
 refine c_regS ?_
 refine yR ?_
 intro _ hm
 refine o_end ?_
 refine Wp.seq ?_
 obtain ⟨j1, hj7, hm⟩ := of_bind hm
 refine c_cut (St 20 [(3, vB j1)] [] 0) ?_ ?_
 replace hm := hj7
 refine yG ?_
 intro _ hm
 refine nO (aopK_A (cB (impl_WidthOk_sim p.w) ?_))
 refine yG ?_
 intro _ hm
 refine bG0 hm (fun hb2 hm => ?_) fun hb2 hm => ?_
 refine yG ?_
 intro k1 hm
 refine bG0 hm (fun hb4 hm => ?_) fun hb4 hm => ?_
 refine yG ?_
 intro _ hm
 refine gO_t rfl rfl rfl (x_mf (ls := [.ip () (iL a)]) rfl ?_)
 obtain ⟨x5, h6, hm⟩ := of_bind hm
 refine gO_t rfl rfl rfl (aopK_A (x_call (v := .u (.one (.bool x5))) (nobs := []) (oa' := _) (nx' := 1) rfl (a_1 rfl (b_s rfl) (a_1 rfl (b_f (c_c b_ip c_n)) a_n)) c_n ent118 (slices_ContainsFunc_int64_int64_sim p.ins 161 [.ip () (iL a)] (fun z0 => impl_isFunc_2_1_m z0 a) ent161 rfl (fun z0 y hy => impl_isFunc_2_1_sim hy) h6) rfl rfl rfl rfl ?_))
 refine yG ?_
 intro _ hm
 cases hm
 exact vW []
 refine yG ?_
 intro _ hm
 cases hm
 exact vW []
 refine yG ?_
 intro _ hm
 cases hm
 exact vW []
 refine c_ret ?_
 cases hm
 exact rZ1
end Go.Proofs.YtghdhjgoicnbcaaGreat.AM

namespace Go.Proofs.YtghdhjgoicnbcaaGreat.AM
open Go
set_option linter.unusedSimpArgs false
set_option linter.unusedVariables false
set_option maxHeartbeats 8000000
set_option maxRecDepth 100000
attribute [local irreducible] aopK awpOps Wp St WpO
/-- slices.IndexFunc[[]impl.Phi,impl.Phi] -/
noncomputable def slices_IndexFunc_impl_Phi_impl_Phi_m (s : List GPhi) (f : GPhi → Option Bool) : Option Int :=
 (Option.bind (loopO (fun (st2 : Int) =>
 ((if decide (st2 < ((List.length s : Int))) = true then
 (if 0 ≤ st2 ∧ st2 < (List.length s : Int) then
 (Option.bind (f (at_ s st2)) fun x7 =>
 (if x7 = true then
 (some (Sum.inr ((Sum.inl st2))))
 else
 (if inI (st2 + 1) then
 (some (Sum.inl (st2 + 1)))
 else none)))
 else none)
 else
 (some (Sum.inr ((Sum.inr (())))))) : Option ((Int) ⊕ (Int ⊕ Unit)))) 0) fun (y11 : Int ⊕ Unit) => match y11 with
 | (Sum.inl j3) =>
 (some j3)
 | (Sum.inr j4) =>
 (some ((-1))))
theorem slices_IndexFunc_impl_Phi_impl_Phi_sim (s : List GPhi) (fi : FuncId) (fc : List (L Unit)) (f : GPhi → Option Bool) (hef : Ent Tryz.prog fi) (hcf : CapOk fc) (hsf : ∀ z0 y, f z0 = some y → Sim Tryz.prog fi ([.agg (ePhi false z0)] ++ List.map .one fc) [] (.u (.one (.bool y))) []) {r : Int} (hm : slices_IndexFunc_impl_Phi_impl_Phi_m s f = some r) : Sim Tryz.prog 220 [.one (.bs () 2 (List.map (ePhi false) s)), .one (.fn () fi fc)] [] (.u (.one (.int .i64 r))) [] := by
 refine sim_st (N := 19) (k0 := 0) Tryz.func220 rfl rfl rfl rfl (rs := [.tmp 4]) rfl (by simp [leavesU, idsL, List.all_cons, hcf.ids]) rfl fun B hB0 => ?_
 unfold slices_IndexFunc_impl_Phi_impl_Phi_m at hm
 refine yG ?_
 intro k1 hm
 obtain ⟨y11, hl12, hm⟩ := of_bind hm
 refine c_loop hl12 (fun (st2 : Int) => St 19 [(0, .u (.one (.bs () 2 (List.map (ePhi false) s)))), (1, .u (.one (.fn () fi fc))), (7, vI ((List.length s : Int))), (8, vI st2)] [] 0) (fun (y : Int ⊕ Unit) => match y with | (Sum.inl j3) => (.ret, St 19 [(4, vI j3)] [] 0) | (Sum.inr j4) => (.exit 0, St 19 [] [] 0)) (w_ [] (.cons rfl rfl (.cons (by rw [fnv_ren hcf]; rfl) (fnv_knows hcf _ _) (.cons rfl rfl (.cons rfl rfl .nil)))) .nil (by decide) (hB_0 hB0)) ?_ (by rintro (_ | _) <;> simp) ?_
 intro st2 x hm
 refine yG ?_
 intro _ hm
 refine bS hm (fun hb5 hm => ?_) fun hb5 hm => ?_
 refine yG ?_
 intro k2 hm
 refine nO (x_ldi T55 rfl (pk_all rfl rfl) rfl ?_)
 obtain ⟨x7, h8, hm⟩ := of_bind hm
 refine nO (aopK_A (x_call (v := .u (.one (.bool x7))) (nobs := []) (oa' := _) (nx' := 0) rfl (a_a rfl (c_all rfl) a_n) hcf.bor hef (hsf (at_ s st2) x7 h8) rfl rfl rfl rfl ?_))
 refine o_end ?_
 refine bS hm (fun hb9 hm => ?_) fun hb9 hm => ?_
 refine yG ?_
 intro _ hm
 cases hm
 exact ⟨rfl, vW []⟩
 refine yG ?_
 intro k3 hm
 cases hm
 exact ⟨rfl, w_ [] (.cons rfl rfl (.cons (by rw [fnv_ren hcf]; rfl) (fnv_knows hcf _ _) (.cons rfl rfl (.cons rfl rfl .nil)))) .nil (by decide) (hB_0 hB0)⟩
 refine c_exit ?_
 cases hm
 exact ⟨rfl, vW []⟩
 rcases y11 with j3 | j4 <;> simp only at hm
 cases hm
 exact rZ1
 refine yG ?_
 intro _ hm
 cases hm
 exact rZ1
/-- slices.ContainsFunc[[]impl.Phi,impl.Phi] -/
noncomputable def slices_ContainsFunc_impl_Phi_impl_Phi_m (s : List GPhi) (f : GPhi → Option Bool) : Option Bool :=
 (Option.bind (slices_IndexFunc_impl_Phi_impl_Phi_m s f) fun x1 =>
 (some (decide (x1 ≥ 0))))
theorem slices_ContainsFunc_impl_Phi_impl_Phi_sim (s : List GPhi) (fi : FuncId) (fc : List (L Unit)) (f : GPhi → Option Bool) (hef : Ent Tryz.prog fi) (hcf : CapOk fc) (hsf : ∀ z0 y, f z0 = some y → Sim Tryz.prog fi ([.agg (ePhi false z0)] ++ List.map .one fc) [] (.u (.one (.bool y))) []) {r : Bool} (hm : slices_ContainsFunc_impl_Phi_impl_Phi_m s f = some r) : Sim Tryz.prog 159 [.one (.bs () 2 (List.map (ePhi false) s)), .one (.fn () fi fc)] [] (.u (.one (.bool r))) [] := by
 refine sim_st (N := 9) (k0 := 0) Tryz.func159 rfl rfl rfl rfl (rs := [.tmp 4]) rfl (by simp [leavesU, idsL, List.all_cons, hcf.ids]) rfl fun B hB0 => ?_
 unfold slices_ContainsFunc_impl_Phi_impl_Phi_m at hm
 refine yG ?_
 intro _ hm
 obtain ⟨x1, h2, hm⟩ := of_bind hm
 refine nO (aopK_A (x_call (v := .u (.one (.int .i64 x1))) (nobs := []) (oa' := _) (nx' := 0) rfl (a_1 rfl (b_s rfl) (a_1 rfl (b_f hcf.bor) a_n)) c_n ent220 (slices_IndexFunc_impl_Phi_impl_Phi_sim s fi fc f hef hcf hsf h2) rfl rfl rfl rfl ?_))
 refine yG ?_
 intro _ hm
 cases hm
 exact rZ1
/-- impl.isBinary -/
noncomputable def impl_isBinary_m (op_ : Int) : Bool :=
 ((impl_within_m op_ 1 17))
theorem impl_isBinary_sim (op_ : Int) : Sim Tryz.prog 124 [.one (.int .i64 op_)] [] (.u (.one (.bool ((impl_isBinary_m op_))))) [] := by
 generalize hm : impl_isBinary_m op_ = r
 refine fN 5 0 Tryz.func124 [.tmp 2] fun B hB0 => ?_
 unfold impl_isBinary_m at hm
 refine yG ?_
 intro _ hm
 refine nO (aopK_A (cB (impl_within_sim op_ 1 17) ?_))
 refine yG ?_
 intro _ hm
 cases hm
 exact rZ1
/-- impl.isCast -/
noncomputable def impl_isCast_m (op_ : Int) : Bool :=
 ((impl_within_m op_ 18 20))
theorem impl_isCast_sim (op_ : Int) : Sim Tryz.prog 126 [.one (.int .i64 op_)] [] (.u (.one (.bool ((impl_isCast_m op_))))) [] := by
 generalize hm : impl_isCast_m op_ = r
 refine fN 5 0 Tryz.func126 [.tmp 2] fun B hB0 => ?_
 unfold impl_isCast_m at hm
 refine yG ?_
 intro _ hm
 refine nO (aopK_A (cB (impl_within_sim op_ 18 20) ?_))
 refine yG ?_
 intro _ hm
 cases hm
 exact rZ1
/-- slices.Clone[[]int64,int64] -/
noncomputable def slices_Clone_int64_int64_m (s : List Int) : Option (List Int) :=
  (if (List.length ([] : List Int) + List.length s) * 8 ≤ 140737488355328 ∧ List.length ([] : List Int) + List.length s ≤ LIM then (some (([] : List Int) ++ s)) else none)
theorem slices_Clone_int64_int64_sim {s : List Int} {r : List Int} (hm : slices_Clone_int64_int64_m s = some r) : Sim Tryz.prog 123 [.one (.bs () 1 (List.map iL s))] [] (.u (.one (.os () 1 (List.map iL r)))) [] := by
  refine sim_st (N := 8) (k0 := 0) Tryz.func123 rfl rfl rfl rfl (rs := [.tmp 2]) rfl rfl rfl fun B hB0 => ?_
  unfold slices_Clone_int64_int64_m at hm
  obtain ⟨h1, hm⟩ := of_ite hm
  have hr := Option.some.inj hm
  refine Wp.seq ?_
  refine c_reg (Y := sysA _) ?_
  refine n_ (x_as rfl rfl ?_)
  refine z_ ?_
  refine Wp.seq ?_
  refine Wp.seq ?_
  refine c_regS ?_
  refine o_run (Y := sysA _) 1 ?_
  refine n_ (x_mv rfl rfl ?_)
  refine z_ ?_
  refine o_nlq (e := 2) (by kernel_rfl) rfl rfl (fun hq => ?_) ?_
  · refine o_end ?_
    refine c_t rfl rfl ?_
    refine Wp.seq ?_
    refine c_reg (Y := sysA _) ?_
    refine n_ (x_as rfl rfl ?_)
    refine z_ ?_
    refine c_ret ?_
    have hs : s = [] := List.map_eq_nil_iff.1 hq
    subst hs
    rw [← hr]
    exact ret0 (us' := [.one (.os () 1 (List.map iL (([] : List Int) ++ [])))]) rfl (r_tmp rfl rfl rfl r_nil) ((f_nl 0 0 1 true rfl rfl rfl).trans f_done) rfl rfl
  · refine o_end ?_
    refine c_f rfl rfl ?_
    refine c_skip ?_
    refine Wp.seq ?_
    refine c_reg (Y := sysA _) ?_
    refine n_ (x_bsm (enc := iL) (([] : List Int)) A24 rfl rfl rfl rfl ?_)
    refine n_ (x_mv rfl rfl ?_)
    refine n_ (x_apr (enc := iL) (xs := ([] : List Int)) (ys := s) A24 N24 (encB_N _) rfl rfl rfl (argR_b _) h1 ?_)
    refine n_ (x_as rfl rfl ?_)
    refine z_ ?_
    refine c_ret ?_
    rw [← hr]
    exact ret0 (us' := [.one (.os () 1 (List.map iL (([] : List Int) ++ s)))]) rfl (r_tmp rfl rfl rfl r_nil) ((f_fold 0 0 rfl rfl rfl rfl).trans f_done) rfl rfl

/-- impl.OperandsOf -/
noncomputable def impl_OperandsOf_m (i : GInst) : Option (List Int) :=
 (if ((impl_isBinary_m i.op_) || (i.op_ == 24)) = true then
 (some ([i.a, i.b]))
 else
 (if ((impl_isCast_m i.op_) || ((i.op_ == 23) || ((i.op_ == 25) || (i.op_ == 27)))) = true then
 (some ([i.a]))
 else
 (if (i.op_ == 22) = true then
 (some ([i.a, i.b, i.c]))
 else
 (if (i.op_ == 26) = true then
 (Option.bind (slices_Clone_int64_int64_m i.args) fun x11 =>
 (some x11))
 else
 (some ([]))))))
theorem impl_OperandsOf_sim {i : GInst} {r : List Int} (hm : impl_OperandsOf_m i = some r) : Sim Tryz.prog 117 [.agg (eInst false i)] [] (.u (.one (.os () 1 (List.map iL r)))) [] := by
 refine fN 57 0 Tryz.func117 [.tmp 2] fun B hB0 => ?_
 unfold impl_OperandsOf_m at hm
 refine Wp.seq ?_
 refine c_regS ?_
 refine yR ?_
 intro _ hm
 refine o_end ?_
 refine Wp.seq ?_
 refine Wp.block ?_
 refine Wp.seq ?_
 refine c_cut (St 57 [(1, vP 0), (3, vB (((impl_isBinary_m i.op_) || (i.op_ == 24))))] [(0, oL 7 (eInst false i))] 1) ?_ ?_
 refine yG ?_
 intro _ hm
 refine nO (aopK_A (cB (impl_isBinary_sim i.op_) ?_))
 refine yG ?_
 intro _ hm
 refine gO_s rfl rfl rfl (fun hb2 => ?_) (fun hb2 => ?_)
 refine yG ?_
 intro _ hm
 exact w_ [0] (.cons rfl rfl (.cons (by simp only [hb2, BO]; rfl) rfl .nil)) (.lit rfl rfl .nil) (by decide) (hB_0 hB0)
 refine yG ?_
 intro _ hm
 exact w_ [0] (.cons rfl rfl (.cons (by simp only [hb2, BO]; rfl) rfl .nil)) (.lit rfl rfl .nil) (by decide) (hB_0 hB0)
 refine bS hm (fun hb3 hm => ?_) fun hb3 hm => ?_
 refine yG ?_
 intro _ hm
 refine nO (kM (iL) ([i.a, i.b]) ?_)
 refine yG ?_
 intro _ hm
 cases hm
 exact rZ1h (hg := f_fold 0 0 rfl rfl rfl rfl)
 refine Wp.seq ?_
 refine c_cut (St 57 [(1, vP 0), (17, vB (((impl_isCast_m i.op_) || ((i.op_ == 23) || ((i.op_ == 25) || (i.op_ == 27))))))] [(0, oL 7 (eInst false i))] 1) ?_ ?_
 refine yG ?_
 intro _ hm
 refine nO (aopK_A (cB (impl_isCast_sim i.op_) ?_))
 refine yG ?_
 intro _ hm
 refine gO_s rfl rfl rfl (fun hb5 => ?_) (fun hb5 => ?_)
 refine yG ?_
 intro _ hm
 refine gO_s rfl rfl rfl (fun hb6 => ?_) (fun hb6 => ?_)
 refine yG ?_
 intro _ hm
 refine gO_s rfl rfl rfl (fun hb7 => ?_) (fun hb7 => ?_)
 refine yG ?_
 intro _ hm
 exact w_ [0] (.cons rfl rfl (.cons (by simp only [hb5, hb6, hb7, BO]; rfl) rfl .nil)) (.lit rfl rfl .nil) (by decide) (hB_0 hB0)
 refine yG ?_
 intro _ hm
 exact w_ [0] (.cons rfl rfl (.cons (by simp only [hb5, hb6, hb7, BO]; rfl) rfl .nil)) (.lit rfl rfl .nil) (by decide) (hB_0 hB0)
 refine yG ?_
 intro _ hm
 exact w_ [0] (.cons rfl rfl (.cons (by simp only [hb5, hb6, BO]; rfl) rfl .nil)) (.lit rfl rfl .nil) (by decide) (hB_0 hB0)
 refine yG ?_
 intro _ hm
 exact w_ [0] (.cons rfl rfl (.cons (by simp only [hb5, BO]; rfl) rfl .nil)) (.lit rfl rfl .nil) (by decide) (hB_0 hB0)
 refine bS hm (fun hb8 hm => ?_) fun hb8 hm => ?_
 refine yG ?_
 intro _ hm
 refine nO (kM (iL) ([i.a]) ?_)
 refine yG ?_
 intro _ hm
 cases hm
 exact rZ1h (hg := f_fold 0 0 rfl rfl rfl rfl)
 refine yG ?_
 intro _ hm
 refine bS hm (fun hb9 hm => ?_) fun hb9 hm => ?_
 refine yG ?_
 intro _ hm
 refine nO (kM (iL) ([i.a, i.b, i.c]) ?_)
 refine yG ?_
 intro _ hm
 cases hm
 exact rZ1h (hg := f_fold 0 0 rfl rfl rfl rfl)
 refine yG ?_
 intro _ hm
 refine bS hm (fun hb10 hm => ?_) fun hb10 hm => ?_
 refine yG ?_
 intro _ hm
 obtain ⟨x11, h12, hm⟩ := of_bind hm
 refine nO (aopK_A (cB (slices_Clone_int64_int64_sim h12) ?_))
 refine yG ?_
 intro _ hm
 cases hm
 exact rZ1h (hg := f_fold 0 0 rfl rfl rfl rfl)
 refine yG ?_
 intro _ hm
 cases hm
 exact rZ1h (hg := f_nl 0 0 1 true rfl rfl rfl)
/-- impl.isInst$1 -/
noncomputable def impl_isInst_1_m (id : Int) (a : Int) : Option Bool :=
 (if inI (a - 1) then
 (some ((!((impl_within_m id 0 (a - 1))))))
 else none)
theorem impl_isInst_1_sim {id : Int} {a : Int} {r : Bool} (hm : impl_isInst_1_m id a = some r) : Sim Tryz.prog 119 [.one (.int .i64 id), .one (.ip () (iL a))] [] (.u (.one (.bool r))) [] := by
 refine fN 9 0 Tryz.func119 [.tmp 3] fun B hB0 => ?_
 unfold impl_isInst_1_m at hm
 refine yG ?_
 intro k1 hm
 refine nO (aopK_A (cB (impl_within_sim id 0 (a - 1)) ?_))
 refine yG ?_
 intro _ hm
 cases hm
 exact rZ1
/-- impl.isInst$2 -/
noncomputable def impl_isInst_2_m (n : Int) : Bool :=
 ((n != 0))
theorem impl_isInst_2_sim (n : Int) : Sim Tryz.prog 120 [.one (.int .i64 n)] [] (.u (.one (.bool ((impl_isInst_2_m n))))) [] := by
 generalize hm : impl_isInst_2_m n = r
 refine fN 5 0 Tryz.func120 [.tmp 2] fun B hB0 => ?_
 unfold impl_isInst_2_m at hm
 refine yG ?_
 intro _ hm
 cases hm
 exact rZ1
/-- impl.isWidth -/
noncomputable def impl_isWidth_m (i : GInst) : Bool :=
 (if ((i.op_ == 24) || (i.op_ == 25)) = true then
 ((i.w == 0))
 else
 (if (i.op_ == 23) = true then
 ((i.w == 8))
 else
 ((impl_WidthOk_m i.w))))
theorem impl_isWidth_sim (i : GInst) : Sim Tryz.prog 121 [.agg (eInst false i)] [] (.u (.one (.bool ((impl_isWidth_m i))))) [] := by
 generalize hm : impl_isWidth_m i = r
 refine fN 19 0 Tryz.func121 [.tmp 2] fun B hB0 => ?_
 unfold impl_isWidth_m at hm
 refine Wp.seq ?_
 refine c_regS ?_
 refine yR ?_
 intro _ hm
 refine o_end ?_
 refine Wp.seq ?_
 refine Wp.seq ?_
 refine c_regS ?_
 refine yR ?_
 intro _ hm
 refine o_end ?_
 refine Wp.block ?_
 refine Wp.seq ?_
 refine c_cut (St 19 [(1, vP 0), (4, vI i.op_), (5, vB (((i.op_ == 24) || (i.op_ == 25))))] [(0, oL 7 (eInst false i))] 1) ?_ ?_
 refine yG ?_
 intro _ hm
 refine c_s rfl rfl (fun hb2 => ?_) (fun hb2 => ?_)
 refine c_skip ?_
 exact w_ [0] (.cons rfl rfl (.cons rfl rfl (.cons (by simp only [hb2, BO]; rfl) rfl .nil))) (.lit rfl rfl .nil) (by decide) (hB_0 hB0)
 refine yG ?_
 intro _ hm
 exact w_ [0] (.cons rfl rfl (.cons rfl rfl (.cons (by simp only [hb2, BO]; rfl) rfl .nil))) (.lit rfl rfl .nil) (by decide) (hB_0 hB0)
 refine bS hm (fun hb3 hm => ?_) fun hb3 hm => ?_
 refine yG ?_
 intro _ hm
 cases hm
 exact rZ1
 refine yG ?_
 intro _ hm
 refine bS hm (fun hb4 hm => ?_) fun hb4 hm => ?_
 refine yG ?_
 intro _ hm
 cases hm
 exact rZ1
 refine yG ?_
 intro _ hm
 refine nO (aopK_A (cB (impl_WidthOk_sim i.w) ?_))
 refine yG ?_
 intro _ hm
 cases hm
 exact rZ1
/-- impl.mask -/
noncomputable def impl_mask_m (w : Int) : Option Int :=
 (if 0 ≤ w then
 (if inI ((IntKind.i64.wrap (1 * 2 ^ min (Int.toNat w) (IntKind.bits .i64))) - 1) then
 (some ((IntKind.i64.wrap (1 * 2 ^ min (Int.toNat w) (IntKind.bits .i64))) - 1))
 else none)
 else none)
theorem impl_mask_sim {w : Int} {r : Int} (hm : impl_mask_m w = some r) : Sim Tryz.prog 203 [.one (.int .i64 w)] [] (.u (.one (.int .i64 r))) [] := by
 refine fN 6 0 Tryz.func203 [.tmp 2] fun B hB0 => ?_
 unfold impl_mask_m at hm
 refine yG ?_
 intro k1 hm
 cases hm
 exact rZ1
/-- impl.isValue -/
noncomputable def impl_isValue_m (w : Int) (v : Int) : Option Bool :=
 (Option.bind ((if (impl_WidthOk_m w) = true then
 (Option.bind (impl_mask_m w) fun x3 =>
 (some ((impl_within_m v 0 x3))))
 else
 (some false))) fun (j1 : Bool) =>
 (some j1))
theorem impl_isValue_sim {w : Int} {v : Int} {r : Bool} (hm : impl_isValue_m w v = some r) : Sim Tryz.prog 130 [.one (.int .i64 w), .one (.int .i64 v)] [] (.u (.one (.bool r))) [] := by
 refine fN 13 0 Tryz.func130 [.tmp 4] fun B hB0 => ?_
 unfold impl_isValue_m at hm
 refine Wp.seq ?_
 refine c_regS ?_
 refine nO (x_as rfl rfl ?_)
 refine o_end ?_
 refine Wp.seq ?_
 obtain ⟨j1, hj5, hm⟩ := of_bind hm
 refine c_cut (St 13 [(4, vB j1)] [] 0) ?_ ?_
 replace hm := hj5
 refine yG ?_
 intro _ hm
 refine nO (aopK_A (cB (impl_WidthOk_sim w) ?_))
 refine yG ?_
 intro _ hm
 refine bG1 hm (fun hb2 hm => ?_) fun hb2 hm => ?_
 refine yG ?_
 intro _ hm
 obtain ⟨x3, h4, hm⟩ := of_bind hm
 refine gO_t rfl rfl rfl (aopK_A (cB (impl_mask_sim h4) ?_))
 refine gO_t rfl rfl rfl (aopK_A (cB (impl_within_sim v 0 x3) ?_))
 refine yG ?_
 intro _ hm
 cases hm
 exact vW []
 refine yG ?_
 intro _ hm
 cases hm
 exact vW []
 refine c_ret ?_
 cases hm
 exact rZ1
/-- impl.isImm -/
noncomputable def impl_isImm_m (i : GInst) (funcs : Int) : Option Bool :=
 (if (i.op_ == 21) = true then
 (Option.bind (impl_isValue_m i.w i.imm) fun x2 =>
 (some x2))
 else
 (if (i.op_ == 26) = true then
 (if inI (funcs - 1) then
 (some ((impl_within_m i.imm 0 (funcs - 1))))
 else none)
 else
 (some ((i.imm == 0)))))
theorem impl_isImm_sim {i : GInst} {funcs : Int} {r : Bool} (hm : impl_isImm_m i funcs = some r) : Sim Tryz.prog 122 [.agg (eInst false i), .one (.int .i64 funcs)] [] (.u (.one (.bool r))) [] := by
 refine fN 24 0 Tryz.func122 [.tmp 4] fun B hB0 => ?_
 unfold impl_isImm_m at hm
 refine yG ?_
 intro _ hm
 refine bS hm (fun hb1 hm => ?_) fun hb1 hm => ?_
 refine yG ?_
 intro _ hm
 obtain ⟨x2, h3, hm⟩ := of_bind hm
 refine nO (aopK_A (cB (impl_isValue_sim h3) ?_))
 refine yG ?_
 intro _ hm
 cases hm
 exact rZ1
 refine yG ?_
 intro _ hm
 refine bS hm (fun hb4 hm => ?_) fun hb4 hm => ?_
 refine yG ?_
 intro k1 hm
 refine nO (aopK_A (cB (impl_within_sim i.imm 0 (funcs - 1)) ?_))
 refine yG ?_
 intro _ hm
 cases hm
 exact rZ1
 refine yG ?_
 intro _ hm
 cases hm
 exact rZ1
/-- impl.isInst -/
noncomputable def impl_isInst_m (i : GInst) (ids : Int) (funcs : Int) : Option Bool :=
 (if (if (!((impl_within_m i.op_ 1 27))) = true then true else (decide (((List.length i.args : Int)) > 4) || (decide (((List.length i.args : Int)) > 0) && (i.op_ != 26)))) = true then
 (some false)
 else
 (Option.bind (impl_OperandsOf_m i) fun x8 =>
 (Option.bind (slices_ContainsFunc_int64_int64_m x8 ((fun z0 => impl_isInst_1_m z0 ids))) fun x10 =>
 (if x10 = true then
 (some false)
 else
 (Option.bind ((if (i.op_ == 26) = true then
 (some (([] : List Int)))
 else
 (some x8))) fun (j13 : (List Int)) =>
 (if 0 ≤ ((List.length j13 : Int)) ∧ (Int.toNat ((List.length j13 : Int))) ≤ (List.length ([i.a, i.b, i.c])) ∧ (List.length ([i.a, i.b, i.c])) ≤ List.length ([i.a, i.b, i.c]) then
 (Option.bind (slices_ContainsFunc_int64_int64_m (List.drop (Int.toNat ((List.length j13 : Int))) ([i.a, i.b, i.c])) ((fun z0 => some (impl_isInst_2_m z0)))) fun x18 =>
 (if x18 = true then
 (some false)
 else
 (Option.bind ((if (impl_isWidth_m i) = true then
 (Option.bind (impl_isImm_m i funcs) fun x23 =>
 (some x23))
 else
 (some false))) fun (j21 : Bool) =>
 (some j21))))
 else none))))))
theorem impl_isInst_sim {i : GInst} {ids : Int} {funcs : Int} {r : Bool} (hm : impl_isInst_m i ids funcs = some r) : Sim Tryz.prog 66 [.agg (eInst false i), .one (.int .i64 ids), .one (.int .i64 funcs)] [] (.u (.one (.bool r))) [] := by
 refine fN 57 0 Tryz.func66 [.tmp 6] fun B hB0 => ?_
 unfold impl_isInst_m at hm
 refine Wp.seq ?_
 refine c_regS ?_
 refine yR ?_
 intro _ hm
 refine o_end ?_
 refine Wp.seq ?_
 refine Wp.seq ?_
 refine c_cut (St 57 [(2, vI funcs), (3, vP 0), (4, vP 1), (29, vB ((if (!((impl_within_m i.op_ 1 27))) = true then true else (decide (((List.length i.args : Int)) > 4) || (decide (((List.length i.args : Int)) > 0) && (i.op_ != 26))))))] [(0, oL 7 (eInst false i)), (1, oL 1 [.int .i64 ids])] 2) ?_ ?_
 refine yG ?_
 intro _ hm
 refine nO (aopK_A (cB (impl_within_sim i.op_ 1 27) ?_))
 refine yG ?_
 intro _ hm
 refine gO_s rfl rfl rfl (fun hb2 => ?_) (fun hb2 => ?_)
 refine yG ?_
 intro k1 hm
 refine gO_s rfl rfl rfl (fun hb4 => ?_) (fun hb4 => ?_)
 refine yG ?_
 intro k2 hm
 refine gO_s rfl rfl rfl (fun hb6 => ?_) (fun hb6 => ?_)
 refine yG ?_
 intro _ hm
 exact w_ [0, 1] (.cons rfl rfl (.cons rfl rfl (.cons rfl rfl (.cons (by simp only [hb2, hb4, hb6, BO]; rfl) rfl .nil)))) (.lit rfl rfl (.lit rfl rfl .nil)) (by decide) (hB_0 hB0)
 refine yG ?_
 intro _ hm
 exact w_ [0, 1] (.cons rfl rfl (.cons rfl rfl (.cons rfl rfl (.cons (by simp only [hb2, hb4, hb6, BO]; rfl) rfl .nil)))) (.lit rfl rfl (.lit rfl rfl .nil)) (by decide) (hB_0 hB0)
 refine yG ?_
 intro _ hm
 exact w_ [0, 1] (.cons rfl rfl (.cons rfl rfl (.cons rfl rfl (.cons (by simp only [hb2, hb4, BO]; rfl) rfl .nil)))) (.lit rfl rfl (.lit rfl rfl .nil)) (by decide) (hB_0 hB0)
 refine yG ?_
 intro _ hm
 exact w_ [0, 1] (.cons rfl rfl (.cons rfl rfl (.cons rfl rfl (.cons (by simp only [hb2, BO]; rfl) rfl .nil)))) (.lit rfl rfl (.lit rfl rfl .nil)) (by decide) (hB_0 hB0)
 refine bS hm (fun hb7 hm => ?_) fun hb7 hm => ?_
 refine yG ?_
 intro _ hm
 cases hm
 exact rZ1
 refine yG ?_
 intro _ hm
 refine nO (kW ?_)
 obtain ⟨x8, h9, hm⟩ := of_bind hm
 refine nO (aopK_A (cB (impl_OperandsOf_sim h9) ?_))
 refine yG ?_
 intro _ hm
 refine nO (x_mf (ls := [.ptr () 1 0 0]) rfl ?_)
 obtain ⟨x10, h11, hm⟩ := of_bind hm
 refine nO (aopK_A (x_call (v := .u (.one (.bool x10))) (nobs := []) (oa' := _) (nx' := 3) rfl (a_1 rfl (b_r rfl) (a_1 rfl (b_f (c_c (b_p (cs := [.int .i64 ids]) rfl (c_c (b_s rfl) c_n) rfl) c_n)) a_n)) c_n ent118 (slices_ContainsFunc_int64_int64_sim x8 119 [.ip () [.int .i64 ids]] (fun z0 => impl_isInst_1_m z0 ids) ent119 rfl (fun z0 y hy => impl_isInst_1_sim hy) h11) rfl rfl rfl rfl ?_))
 refine o_end ?_
 refine bS hm (fun hb12 hm => ?_) fun hb12 hm => ?_
 refine yG ?_
 intro _ hm
 cases hm
 exact rZ1
 refine c_skip ?_
 refine Wp.seq ?_
 obtain ⟨j13, hj15, hm⟩ := of_bind hm
 refine c_cut (St 57 [(2, vI funcs), (3, vP 0), (7, vR 1 (List.length j13))] [(0, oL 7 (eInst false i)), (1, oM 1 iL j13)] 2) ?_ ?_
 replace hm := hj15
 refine yG ?_
 intro _ hm
 refine bS hm (fun hb14 hm => ?_) fun hb14 hm => ?_
 refine yG ?_
 intro _ hm
 cases hm
 exact (GhB.trans (f_nls (u' := .one (.ref () 3 0 0)) 7 0 1 rfl rfl rfl rfl) (vW [0, 3]))
 refine c_skip ?_
 cases hm
 exact vW [0, 2]
 refine yG ?_
 intro _ hm
 refine nO (kM (iL) ([i.a, i.b, i.c]) ?_)
 refine yG ?_
 intro k3 hm
 obtain ⟨h17, hm⟩ := of_ite hm
 refine nO (x_slr (l := (Int.toNat ((List.length j13 : Int)))) (h := (List.length ([i.a, i.b, i.c]))) rfl E24 rfl rfl (bd_s rfl h17.1) bd_n h17.2 ?_)
 refine WpO.ghb (f_cutd 48 ([i.a, i.b, i.c]) (List.drop (Int.toNat ((List.length j13 : Int))) ([i.a, i.b, i.c])) rfl rfl rfl (by simp only [List.length_take, List.length_drop] <;> omega) (by first | rfl | (simp only [Nat.zero_add]; done) | (simp only [Nat.zero_add]; exact List.take_of_length_le (by first | (simp only [List.length_drop] <;> omega) | (simp <;> omega))) | exact List.take_of_length_le (by simp only [List.length_drop, Nat.zero_add] <;> omega))) ?_
 obtain ⟨x18, h19, hm⟩ := of_bind hm
 refine nO (aopK_A (x_call (v := .u (.one (.bool x18))) (nobs := []) (oa' := _) (nx' := 4) rfl (a_1 rfl (b_r rfl) (a_1 rfl (b_f c_n) a_n)) c_n ent118 (slices_ContainsFunc_int64_int64_sim (List.drop (Int.toNat ((List.length j13 : Int))) ([i.a, i.b, i.c])) 120 [] (fun z0 => some (impl_isInst_2_m z0)) ent120 rfl (fun z0 y hy => by cases hy; exact impl_isInst_2_sim z0) h19) rfl rfl rfl rfl ?_))
 refine o_end ?_
 refine bS hm (fun hb20 hm => ?_) fun hb20 hm => ?_
 refine yG ?_
 intro _ hm
 cases hm
 exact rZ1
 refine c_skip ?_
 refine Wp.seq ?_
 obtain ⟨j21, hj25, hm⟩ := of_bind hm
 refine c_cut (St 57 [(6, vB j21)] [] 0) ?_ ?_
 replace hm := hj25
 refine c_regS ?_
 refine nO (kW ?_)
 refine nO (aopK_A (cB (impl_isWidth_sim i) ?_))
 refine yG ?_
 intro _ hm
 refine bG1 hm (fun hb22 hm => ?_) fun hb22 hm => ?_
 refine gO_t rfl rfl rfl (kW ?_)
 refine yG ?_
 intro _ hm
 obtain ⟨x23, h24, hm⟩ := of_bind hm
 refine gO_t rfl rfl rfl (aopK_A (cB (impl_isImm_sim h24) ?_))
 refine yG ?_
 intro _ hm
 cases hm
 exact vW []
 refine yG ?_
 intro _ hm
 cases hm
 exact vW []
 refine c_ret ?_
 cases hm
 exact rZ1
/-- impl.isFunc$3 -/
noncomputable def impl_isFunc_3_m (i : GInst) (a : Int) (aq : Int) : Option Bool :=
 (Option.bind (impl_isInst_m i a aq) fun x1 =>
 (some ((!x1))))
theorem impl_isFunc_3_sim {i : GInst} {a : Int} {aq : Int} {r : Bool} (hm : impl_isFunc_3_m i a aq = some r) : Sim Tryz.prog 162 [.agg (eInst false i), .one (.ip () (iL a)), .one (.ip () (iL aq))] [] (.u (.one (.bool r))) [] := by
 refine fN 10 0 Tryz.func162 [.tmp 4] fun B hB0 => ?_
 unfold impl_isFunc_3_m at hm
 refine yG ?_
 intro _ hm
 refine nO (kW ?_)
 refine yG ?_
 intro _ hm
 obtain ⟨x1, h2, hm⟩ := of_bind hm
 refine nO (aopK_A (cB (impl_isInst_sim h2) ?_))
 refine yG ?_
 intro _ hm
 cases hm
 exact rZ1
/-- slices.IndexFunc[[]impl.Inst,impl.Inst] -/
noncomputable def slices_IndexFunc_impl_Inst_impl_Inst_m (s : List GInst) (f : GInst → Option Bool) : Option Int :=
 (Option.bind (loopO (fun (st2 : Int) =>
 ((if decide (st2 < ((List.length s : Int))) = true then
 (if 0 ≤ st2 ∧ st2 < (List.length s : Int) then
 (Option.bind (f (at_ s st2)) fun x7 =>
 (if x7 = true then
 (some (Sum.inr ((Sum.inl st2))))
 else
 (if inI (st2 + 1) then
 (some (Sum.inl (st2 + 1)))
 else none)))
 else none)
 else
 (some (Sum.inr ((Sum.inr (())))))) : Option ((Int) ⊕ (Int ⊕ Unit)))) 0) fun (y11 : Int ⊕ Unit) => match y11 with
 | (Sum.inl j3) =>
 (some j3)
 | (Sum.inr j4) =>
 (some ((-1))))
theorem slices_IndexFunc_impl_Inst_impl_Inst_sim (s : List GInst) (fi : FuncId) (fc : List (L Unit)) (f : GInst → Option Bool) (hef : Ent Tryz.prog fi) (hcf : CapOk fc) (hsf : ∀ z0 y, f z0 = some y → Sim Tryz.prog fi ([.agg (eInst false z0)] ++ List.map .one fc) [] (.u (.one (.bool y))) []) {r : Int} (hm : slices_IndexFunc_impl_Inst_impl_Inst_m s f = some r) : Sim Tryz.prog 214 [.one (.bs () 7 (List.map (eInst false) s)), .one (.fn () fi fc)] [] (.u (.one (.int .i64 r))) [] := by
 refine sim_st (N := 19) (k0 := 0) Tryz.func214 rfl rfl rfl rfl (rs := [.tmp 4]) rfl (by simp [leavesU, idsL, List.all_cons, hcf.ids]) rfl fun B hB0 => ?_
 unfold slices_IndexFunc_impl_Inst_impl_Inst_m at hm
 refine yG ?_
 intro k1 hm
 obtain ⟨y11, hl12, hm⟩ := of_bind hm
 refine c_loop hl12 (fun (st2 : Int) => St 19 [(0, .u (.one (.bs () 7 (List.map (eInst false) s)))), (1, .u (.one (.fn () fi fc))), (7, vI ((List.length s : Int))), (8, vI st2)] [] 0) (fun (y : Int ⊕ Unit) => match y with | (Sum.inl j3) => (.ret, St 19 [(4, vI j3)] [] 0) | (Sum.inr j4) => (.exit 0, St 19 [] [] 0)) (w_ [] (.cons rfl rfl (.cons (by rw [fnv_ren hcf]; rfl) (fnv_knows hcf _ _) (.cons rfl rfl (.cons rfl rfl .nil)))) .nil (by decide) (hB_0 hB0)) ?_ (by rintro (_ | _) <;> simp) ?_
 intro st2 x hm
 refine yG ?_
 intro _ hm
 refine bS hm (fun hb5 hm => ?_) fun hb5 hm => ?_
 refine yG ?_
 intro k2 hm
 refine nO (x_ldi T29 rfl (pk_all rfl rfl) rfl ?_)
 obtain ⟨x7, h8, hm⟩ := of_bind hm
 refine nO (aopK_A (x_call (v := .u (.one (.bool x7))) (nobs := []) (oa' := _) (nx' := 0) rfl (a_a rfl (c_all rfl) a_n) hcf.bor hef (hsf (at_ s st2) x7 h8) rfl rfl rfl rfl ?_))
 refine o_end ?_
 refine bS hm (fun hb9 hm => ?_) fun hb9 hm => ?_
 refine yG ?_
 intro _ hm
 cases hm
 exact ⟨rfl, vW []⟩
 refine yG ?_
 intro k3 hm
 cases hm
 exact ⟨rfl, w_ [] (.cons rfl rfl (.cons (by rw [fnv_ren hcf]; rfl) (fnv_knows hcf _ _) (.cons rfl rfl (.cons rfl rfl .nil)))) .nil (by decide) (hB_0 hB0)⟩
 refine c_exit ?_
 cases hm
 exact ⟨rfl, vW []⟩
 rcases y11 with j3 | j4 <;> simp only at hm
 cases hm
 exact rZ1
 refine yG ?_
 intro _ hm
 cases hm
 exact rZ1
/-- slices.ContainsFunc[[]impl.Inst,impl.Inst] -/
noncomputable def slices_ContainsFunc_impl_Inst_impl_Inst_m (s : List GInst) (f : GInst → Option Bool) : Option Bool :=
 (Option.bind (slices_IndexFunc_impl_Inst_impl_Inst_m s f) fun x1 =>
 (some (decide (x1 ≥ 0))))
theorem slices_ContainsFunc_impl_Inst_impl_Inst_sim (s : List GInst) (fi : FuncId) (fc : List (L Unit)) (f : GInst → Option Bool) (hef : Ent Tryz.prog fi) (hcf : CapOk fc) (hsf : ∀ z0 y, f z0 = some y → Sim Tryz.prog fi ([.agg (eInst false z0)] ++ List.map .one fc) [] (.u (.one (.bool y))) []) {r : Bool} (hm : slices_ContainsFunc_impl_Inst_impl_Inst_m s f = some r) : Sim Tryz.prog 146 [.one (.bs () 7 (List.map (eInst false) s)), .one (.fn () fi fc)] [] (.u (.one (.bool r))) [] := by
 refine sim_st (N := 9) (k0 := 0) Tryz.func146 rfl rfl rfl rfl (rs := [.tmp 4]) rfl (by simp [leavesU, idsL, List.all_cons, hcf.ids]) rfl fun B hB0 => ?_
 unfold slices_ContainsFunc_impl_Inst_impl_Inst_m at hm
 refine yG ?_
 intro _ hm
 obtain ⟨x1, h2, hm⟩ := of_bind hm
 refine nO (aopK_A (x_call (v := .u (.one (.int .i64 x1))) (nobs := []) (oa' := _) (nx' := 0) rfl (a_1 rfl (b_s rfl) (a_1 rfl (b_f hcf.bor) a_n)) c_n ent214 (slices_IndexFunc_impl_Inst_impl_Inst_sim s fi fc f hef hcf hsf h2) rfl rfl rfl rfl ?_))
 refine yG ?_
 intro _ hm
 cases hm
 exact rZ1
/-- impl.isTerm$1 -/
noncomputable def impl_isTerm_1_m (b : Int) (a : GFunc) : Bool :=
 ((impl_within_m b 0 (((List.length a.blocks : Int)) - 1)))
theorem impl_isTerm_1_sim (b : Int) (a : GFunc) : Sim Tryz.prog 221 [.one (.int .i64 b), .one (.ip () (eFunc false a))] [] (.u (.one (.bool ((impl_isTerm_1_m b a))))) [] := by
 generalize hm : impl_isTerm_1_m b a = r
 refine fN 10 0 Tryz.func221 [.tmp 3] fun B hB0 => ?_
 unfold impl_isTerm_1_m at hm
 refine yG ?_
 intro k1 hm
 refine nO (aopK_A (cB (impl_within_sim b 0 (((List.length a.blocks : Int)) - 1)) ?_))
 refine yG ?_
 intro _ hm
 cases hm
 exact rZ1
/-- impl.isTerm -/
noncomputable def impl_isTerm_m (f : GFunc) (t : GTerm) (ids : Int) : Option Bool :=
 (if (t.kind == 1) = true then
 (Option.bind ((if inI (ids - 1) then
 (if (impl_within_m t.a 0 (ids - 1)) = true then
 (if (t.x == 0) = true then
 (some ((t.y == 0)))
 else
 (some false))
 else
 (some false))
 else none)) fun (j2 : Bool) =>
 (some j2))
 else
 (if (t.kind == 2) = true then
 (some (((t.a == 0) && ((impl_isTerm_1_m t.x f) && (t.y == 0)))))
 else
 (if (t.kind == 3) = true then
 (Option.bind ((if inI (ids - 1) then
 (if (impl_within_m t.a 0 (ids - 1)) = true then
 (if (impl_isTerm_1_m t.x f) = true then
 (if (impl_isTerm_1_m t.y f) = true then
 (some ((t.x != t.y)))
 else
 (some false))
 else
 (some false))
 else
 (some false))
 else none)) fun (j12 : Bool) =>
 (some j12))
 else
 (if (t.kind == 4) = true then
 (some (((t.a == 0) && ((t.x == 0) && (t.y == 0)))))
 else
 (some false)))))
theorem impl_isTerm_sim {f : GFunc} {t : GTerm} {ids : Int} {r : Bool} (hm : impl_isTerm_m f t ids = some r) : Sim Tryz.prog 163 [.agg (eFunc false f), .agg (eTerm t), .one (.int .i64 ids)] [] (.u (.one (.bool r))) [] := by
 refine fN 85 0 Tryz.func163 [.tmp 6] fun B hB0 => ?_
 unfold impl_isTerm_m at hm
 refine yG ?_
 intro _ hm
 refine nO (x_mf (ls := [.ptr () 0 0 0]) rfl ?_)
 refine yG ?_
 intro _ hm
 refine bS hm (fun hb1 hm => ?_) fun hb1 hm => ?_
 refine Wp.seq ?_
 obtain ⟨j2, hj6, hm⟩ := of_bind hm
 refine c_cut (St 85 [(6, vB j2)] [] 0) ?_ ?_
 replace hm := hj6
 refine yG ?_
 intro k1 hm
 refine nO (aopK_A (cB (impl_within_sim t.a 0 (ids - 1)) ?_))
 refine yG ?_
 intro _ hm
 refine bG1 hm (fun hb4 hm => ?_) fun hb4 hm => ?_
 refine yG ?_
 intro _ hm
 refine bG1 hm (fun hb5 hm => ?_) fun hb5 hm => ?_
 refine yG ?_
 intro _ hm
 cases hm
 exact vW []
 refine yG ?_
 intro _ hm
 cases hm
 exact vW []
 refine yG ?_
 intro _ hm
 cases hm
 exact vW []
 refine c_ret ?_
 cases hm
 exact rZ1
 refine yG ?_
 intro _ hm
 refine bS hm (fun hb7 hm => ?_) fun hb7 hm => ?_
 refine Wp.seq ?_
 refine c_cut (St 85 [(6, vB (((t.a == 0) && ((impl_isTerm_1_m t.x f) && (t.y == 0)))))] [] 0) ?_ ?_
 refine yG ?_
 intro _ hm
 refine gO_s rfl rfl rfl (fun hb9 => ?_) (fun hb9 => ?_)
 refine yG ?_
 intro _ hm
 refine gO_t rfl rfl rfl (aopK_A (x_call (v := .u (.one (.bool ((impl_isTerm_1_m t.x f))))) (nobs := []) (oa' := _) (nx' := 2) rfl (a_1 rfl (b_s rfl) a_n) (c_c (b_p rfl (c_all rfl) rfl) c_n) ent221 (impl_isTerm_1_sim t.x f) rfl rfl rfl rfl ?_))
 refine yG ?_
 intro _ hm
 refine gO_s rfl rfl rfl (fun hb10 => ?_) (fun hb10 => ?_)
 refine yG ?_
 intro _ hm
 exact w_ [] (.cons (by simp only [hb9, hb10, BO]; rfl) rfl .nil) .nil (by decide) (hB_0 hB0)
 refine yG ?_
 intro _ hm
 exact w_ [] (.cons (by simp only [hb9, hb10, BO]; rfl) rfl .nil) .nil (by decide) (hB_0 hB0)
 refine yG ?_
 intro _ hm
 exact w_ [] (.cons (by simp only [hb9, BO]; rfl) rfl .nil) .nil (by decide) (hB_0 hB0)
 refine c_ret ?_
 cases hm
 exact rZ1
 refine yG ?_
 intro _ hm
 refine bS hm (fun hb11 hm => ?_) fun hb11 hm => ?_
 refine Wp.seq ?_
 obtain ⟨j12, hj17, hm⟩ := of_bind hm
 refine c_cut (St 85 [(6, vB j12)] [] 0) ?_ ?_
 replace hm := hj17
 refine yG ?_
 intro k2 hm
 refine nO (aopK_A (cB (impl_within_sim t.a 0 (ids - 1)) ?_))
 refine yG ?_
 intro _ hm
 refine bG1 hm (fun hb14 hm => ?_) fun hb14 hm => ?_
 refine yG ?_
 intro _ hm
 refine gO_t rfl rfl rfl (aopK_A (x_call (v := .u (.one (.bool ((impl_isTerm_1_m t.x f))))) (nobs := []) (oa' := _) (nx' := 2) rfl (a_1 rfl (b_s rfl) a_n) (c_c (b_p rfl (c_all rfl) rfl) c_n) ent221 (impl_isTerm_1_sim t.x f) rfl rfl rfl rfl ?_))
 refine yG ?_
 intro _ hm
 refine bG1 hm (fun hb15 hm => ?_) fun hb15 hm => ?_
 refine yG ?_
 intro _ hm
 refine gO_t rfl rfl rfl (aopK_A (x_call (v := .u (.one (.bool ((impl_isTerm_1_m t.y f))))) (nobs := []) (oa' := _) (nx' := 2) rfl (a_1 rfl (b_s rfl) a_n) (c_c (b_p rfl (c_all rfl) rfl) c_n) ent221 (impl_isTerm_1_sim t.y f) rfl rfl rfl rfl ?_))
 refine yG ?_
 intro _ hm
 refine bG1 hm (fun hb16 hm => ?_) fun hb16 hm => ?_
 refine yG ?_
 intro _ hm
 cases hm
 exact vW []
 refine yG ?_
 intro _ hm
 cases hm
 exact vW []
 refine yG ?_
 intro _ hm
 cases hm
 exact vW []
 refine yG ?_
 intro _ hm
 cases hm
 exact vW []
 refine c_ret ?_
 cases hm
 exact rZ1
 refine yG ?_
 intro _ hm
 refine bS hm (fun hb18 hm => ?_) fun hb18 hm => ?_
 refine Wp.seq ?_
 refine c_cut (St 85 [(6, vB (((t.a == 0) && ((t.x == 0) && (t.y == 0)))))] [] 0) ?_ ?_
 refine yG ?_
 intro _ hm
 refine gO_s rfl rfl rfl (fun hb20 => ?_) (fun hb20 => ?_)
 refine yG ?_
 intro _ hm
 refine gO_s rfl rfl rfl (fun hb21 => ?_) (fun hb21 => ?_)
 refine yG ?_
 intro _ hm
 exact w_ [] (.cons (by simp only [hb20, hb21, BO]; rfl) rfl .nil) .nil (by decide) (hB_0 hB0)
 refine yG ?_
 intro _ hm
 exact w_ [] (.cons (by simp only [hb20, hb21, BO]; rfl) rfl .nil) .nil (by decide) (hB_0 hB0)
 refine yG ?_
 intro _ hm
 exact w_ [] (.cons (by simp only [hb20, BO]; rfl) rfl .nil) .nil (by decide) (hB_0 hB0)
 refine c_ret ?_
 cases hm
 exact rZ1
 refine yG ?_
 intro _ hm
 cases hm
 exact rZ1
end Go.Proofs.YtghdhjgoicnbcaaGreat.AM
