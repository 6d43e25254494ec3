import Derived.Test.YtmckcjoacfekcaaAm34
import Derived.Test.YtmckcjoacfekcaaProg
import Derived.KernelRfl
/-! Printed by a program of this repo (wip/gen): types, encoders, facts of types. -/
namespace Go.Proofs.Ytmckcjoacfekcaa.AM
open Go
theorem mixed : Try.prog.follows .mixedOrders = true := by kernel_rfl
theorem b_nl : True := trivial
structure GMIns where
  op_ : Int
  w : Int
  d : Int
  a : Int
  b : Int
  c : Int
  imm : Int

def zMIns : GMIns := { op_ := 0, w := 0, d := 0, a := 0, b := 0, c := 0, imm := 0 }
instance : Inhabited GMIns := ⟨zMIns⟩
def eMIns (x : GMIns) : List (L Unit) := [.int .i64 x.op_, .int .i64 x.w, .int .i64 x.d, .int .i64 x.a, .int .i64 x.b, .int .i64 x.c, .int .i64 x.imm]
instance : EncB eMIns := ⟨fun _ => rfl⟩
instance : EncF eMIns := ⟨fun _ => rfl⟩
structure GProgram where
  regs : Int
  params : List Int
  widths : List Int
  code : List GMIns

def zProgram : GProgram := { regs := 0, params := [], widths := [], code := [] }
instance : Inhabited GProgram := ⟨zProgram⟩
def eProgram (o : Bool) (x : GProgram) : List (L Unit) := [.int .i64 x.regs, sl o 1 (List.map iL x.params), sl o 1 (List.map iL x.widths), sl o 7 (List.map eMIns x.code)]
instance : EncB (eProgram false) := ⟨fun _ => rfl⟩
instance (o : Bool) : EncO (eProgram o) := ⟨fun _ => by cases o <;> rfl⟩
instance : EncF (eProgram true) := ⟨fun _ => by simp only [eProgram, sl, immFreeC, immFreeL, immF_map, Bool.and_self]⟩
theorem T2 : tiOf Try.prog 2 = some { kd := .int .i64, agg := false, size := 1, bytes := 8, zero := [.int .i64 0], fields := [], elem := 0, places := [] } := by kernel_rfl
theorem T3 : tiOf Try.prog 3 = some { kd := .int .i64, agg := false, size := 1, bytes := 8, zero := [.int .i64 0], fields := [], elem := 0, places := [] } := by kernel_rfl
theorem T4 : tiOf Try.prog 4 = some { kd := .bool, agg := false, size := 1, bytes := 1, zero := [.bool false], fields := [], elem := 0, places := [] } := by kernel_rfl
theorem T5 : tiOf Try.prog 5 = some { kd := .int .u8, agg := false, size := 1, bytes := 1, zero := [.int .u8 0], fields := [], elem := 0, places := [] } := by kernel_rfl
theorem T24 : tiOf Try.prog 24 = some { kd := .slice, agg := false, size := 1, bytes := 24, zero := [.nl], fields := [], elem := 2, places := [] } := by kernel_rfl
theorem T34 : tiOf Try.prog 34 = some { kd := .slice, agg := false, size := 1, bytes := 24, zero := [.nl], fields := [], elem := 109, places := [] } := by kernel_rfl
theorem T36 : tiOf Try.prog 36 = some { kd := .struct, agg := true, size := 4, bytes := 80, zero := [.int .i64 0, .nl, .nl, .nl], fields := [(0, 2), (1, 24), (2, 24), (3, 34)], elem := 0, places := [(0, 1), (1, 1), (2, 1), (3, 1)] } := by kernel_rfl
theorem T39 : tiOf Try.prog 39 = some { kd := .slice, agg := false, size := 1, bytes := 24, zero := [.nl], fields := [], elem := 78, places := [] } := by kernel_rfl
theorem T41 : tiOf Try.prog 41 = some { kd := .struct, agg := true, size := 4, bytes := 80, zero := [.int .i64 0, .nl, .nl, .nl], fields := [(0, 2), (1, 24), (2, 24), (3, 39)], elem := 0, places := [(0, 1), (1, 1), (2, 1), (3, 1)] } := by kernel_rfl
theorem T78 : tiOf Try.prog 78 = some { kd := .struct, agg := true, size := 7, bytes := 56, zero := [.int .i64 0, .int .i64 0, .int .i64 0, .int .i64 0, .int .i64 0, .int .i64 0, .int .i64 0], fields := [(0, 2), (1, 2), (2, 2), (3, 2), (4, 2), (5, 2), (6, 2)], elem := 0, places := [(0, 1), (1, 1), (2, 1), (3, 1), (4, 1), (5, 1), (6, 1)] } := by kernel_rfl
theorem T109 : tiOf Try.prog 109 = some { kd := .struct, agg := true, size := 7, bytes := 56, zero := [.int .i64 0, .int .i64 0, .int .i64 0, .int .i64 0, .int .i64 0, .int .i64 0, .int .i64 0], fields := [(0, 2), (1, 2), (2, 2), (3, 2), (4, 2), (5, 2), (6, 2)], elem := 0, places := [(0, 1), (1, 1), (2, 1), (3, 1), (4, 1), (5, 1), (6, 1)] } := by kernel_rfl
theorem T140 : tiOf Try.prog 140 = some { kd := .int .u64, agg := false, size := 1, bytes := 8, zero := [.int .u64 0], fields := [], elem := 0, places := [] } := by kernel_rfl
theorem E22 : elS Try.prog 22 = some 1 := by kernel_rfl
theorem E24 : elS Try.prog 24 = some 1 := by kernel_rfl
theorem E34 : elS Try.prog 34 = some 7 := by kernel_rfl
theorem E39 : elS Try.prog 39 = some 7 := by kernel_rfl
theorem A24 : elF Try.prog 24 = some (1, 8, [.int .i64 0]) := by kernel_rfl
theorem A39 : elF Try.prog 39 = some (7, 56, [.int .i64 0, .int .i64 0, .int .i64 0, .int .i64 0, .int .i64 0, .int .i64 0, .int .i64 0]) := by kernel_rfl
theorem N9 : lnF Try.prog 9 = some .str := by kernel_rfl
theorem N22 : lnF Try.prog 22 = some .slice := by kernel_rfl
theorem N24 : lnF Try.prog 24 = some .slice := by kernel_rfl
theorem N34 : lnF Try.prog 34 = some .slice := by kernel_rfl
theorem N39 : lnF Try.prog 39 = some .slice := by kernel_rfl
theorem F36_0 : fldF Try.prog 36 0 = some (0, { kd := .int .i64, agg := false, size := 1, bytes := 8, zero := [.int .i64 0], fields := [], elem := 0, places := [] }) := by kernel_rfl
theorem F36_1 : fldF Try.prog 36 1 = some (1, { kd := .slice, agg := false, size := 1, bytes := 24, zero := [.nl], fields := [], elem := 2, places := [] }) := by kernel_rfl
theorem F36_2 : fldF Try.prog 36 2 = some (2, { kd := .slice, agg := false, size := 1, bytes := 24, zero := [.nl], fields := [], elem := 2, places := [] }) := by kernel_rfl
theorem F36_3 : fldF Try.prog 36 3 = some (3, { kd := .slice, agg := false, size := 1, bytes := 24, zero := [.nl], fields := [], elem := 109, places := [] }) := by kernel_rfl
theorem F41_0 : fldF Try.prog 41 0 = some (0, { kd := .int .i64, agg := false, size := 1, bytes := 8, zero := [.int .i64 0], fields := [], elem := 0, places := [] }) := by kernel_rfl
theorem F41_1 : fldF Try.prog 41 1 = some (1, { kd := .slice, agg := false, size := 1, bytes := 24, zero := [.nl], fields := [], elem := 2, places := [] }) := by kernel_rfl
theorem F41_2 : fldF Try.prog 41 2 = some (2, { kd := .slice, agg := false, size := 1, bytes := 24, zero := [.nl], fields := [], elem := 2, places := [] }) := by kernel_rfl
theorem F41_3 : fldF Try.prog 41 3 = some (3, { kd := .slice, agg := false, size := 1, bytes := 24, zero := [.nl], fields := [], elem := 78, places := [] }) := by kernel_rfl
theorem F78_0 : fldF Try.prog 78 0 = some (0, { kd := .int .i64, agg := false, size := 1, bytes := 8, zero := [.int .i64 0], fields := [], elem := 0, places := [] }) := by kernel_rfl
theorem F78_1 : fldF Try.prog 78 1 = some (1, { kd := .int .i64, agg := false, size := 1, bytes := 8, zero := [.int .i64 0], fields := [], elem := 0, places := [] }) := by kernel_rfl
theorem F78_2 : fldF Try.prog 78 2 = some (2, { kd := .int .i64, agg := false, size := 1, bytes := 8, zero := [.int .i64 0], fields := [], elem := 0, places := [] }) := by kernel_rfl
theorem F78_3 : fldF Try.prog 78 3 = some (3, { kd := .int .i64, agg := false, size := 1, bytes := 8, zero := [.int .i64 0], fields := [], elem := 0, places := [] }) := by kernel_rfl
theorem F78_4 : fldF Try.prog 78 4 = some (4, { kd := .int .i64, agg := false, size := 1, bytes := 8, zero := [.int .i64 0], fields := [], elem := 0, places := [] }) := by kernel_rfl
theorem F78_5 : fldF Try.prog 78 5 = some (5, { kd := .int .i64, agg := false, size := 1, bytes := 8, zero := [.int .i64 0], fields := [], elem := 0, places := [] }) := by kernel_rfl
theorem F78_6 : fldF Try.prog 78 6 = some (6, { kd := .int .i64, agg := false, size := 1, bytes := 8, zero := [.int .i64 0], fields := [], elem := 0, places := [] }) := by kernel_rfl
theorem F109_0 : fldF Try.prog 109 0 = some (0, { kd := .int .i64, agg := false, size := 1, bytes := 8, zero := [.int .i64 0], fields := [], elem := 0, places := [] }) := by kernel_rfl
theorem F109_1 : fldF Try.prog 109 1 = some (1, { kd := .int .i64, agg := false, size := 1, bytes := 8, zero := [.int .i64 0], fields := [], elem := 0, places := [] }) := by kernel_rfl
theorem F109_2 : fldF Try.prog 109 2 = some (2, { kd := .int .i64, agg := false, size := 1, bytes := 8, zero := [.int .i64 0], fields := [], elem := 0, places := [] }) := by kernel_rfl
theorem F109_3 : fldF Try.prog 109 3 = some (3, { kd := .int .i64, agg := false, size := 1, bytes := 8, zero := [.int .i64 0], fields := [], elem := 0, places := [] }) := by kernel_rfl
theorem F109_4 : fldF Try.prog 109 4 = some (4, { kd := .int .i64, agg := false, size := 1, bytes := 8, zero := [.int .i64 0], fields := [], elem := 0, places := [] }) := by kernel_rfl
theorem F109_5 : fldF Try.prog 109 5 = some (5, { kd := .int .i64, agg := false, size := 1, bytes := 8, zero := [.int .i64 0], fields := [], elem := 0, places := [] }) := by kernel_rfl
theorem F109_6 : fldF Try.prog 109 6 = some (6, { kd := .int .i64, agg := false, size := 1, bytes := 8, zero := [.int .i64 0], fields := [], elem := 0, places := [] }) := by kernel_rfl
theorem S78 : stInt Try.prog 78 7 = true := by decide +kernel
theorem ent18 : Ent Try.prog 18 := ⟨Try.f18, Try.func18, by decide +kernel, rfl⟩
theorem ent19 : Ent Try.prog 19 := ⟨Try.f19, Try.func19, by decide +kernel, rfl⟩
theorem ent20 : Ent Try.prog 20 := ⟨Try.f20, Try.func20, by decide +kernel, rfl⟩
theorem ent21 : Ent Try.prog 21 := ⟨Try.f21, Try.func21, by decide +kernel, rfl⟩
theorem ent22 : Ent Try.prog 22 := ⟨Try.f22, Try.func22, by decide +kernel, rfl⟩
theorem ent47 : Ent Try.prog 47 := ⟨Try.f47, Try.func47, by decide +kernel, rfl⟩
theorem ent48 : Ent Try.prog 48 := ⟨Try.f48, Try.func48, by decide +kernel, rfl⟩
theorem ent49 : Ent Try.prog 49 := ⟨Try.f49, Try.func49, by decide +kernel, rfl⟩
theorem ent50 : Ent Try.prog 50 := ⟨Try.f50, Try.func50, by decide +kernel, rfl⟩
theorem ent51 : Ent Try.prog 51 := ⟨Try.f51, Try.func51, by decide +kernel, rfl⟩
theorem ent52 : Ent Try.prog 52 := ⟨Try.f52, Try.func52, by decide +kernel, rfl⟩
theorem ent53 : Ent Try.prog 53 := ⟨Try.f53, Try.func53, by decide +kernel, rfl⟩
theorem ent54 : Ent Try.prog 54 := ⟨Try.f54, Try.func54, by decide +kernel, rfl⟩
theorem ent55 : Ent Try.prog 55 := ⟨Try.f55, Try.func55, by decide +kernel, rfl⟩
theorem ent56 : Ent Try.prog 56 := ⟨Try.f56, Try.func56, by decide +kernel, rfl⟩
theorem ent57 : Ent Try.prog 57 := ⟨Try.f57, Try.func57, by decide +kernel, rfl⟩
theorem ent58 : Ent Try.prog 58 := ⟨Try.f58, Try.func58, by decide +kernel, rfl⟩
theorem ent59 : Ent Try.prog 59 := ⟨Try.f59, Try.func59, by decide +kernel, rfl⟩
theorem ent60 : Ent Try.prog 60 := ⟨Try.f60, Try.func60, by decide +kernel, rfl⟩
theorem ent61 : Ent Try.prog 61 := ⟨Try.f61, Try.func61, by decide +kernel, rfl⟩
theorem ent62 : Ent Try.prog 62 := ⟨Try.f62, Try.func62, by decide +kernel, rfl⟩
theorem ent63 : Ent Try.prog 63 := ⟨Try.f63, Try.func63, by decide +kernel, rfl⟩
theorem ent64 : Ent Try.prog 64 := ⟨Try.f64, Try.func64, by decide +kernel, rfl⟩
theorem ent65 : Ent Try.prog 65 := ⟨Try.f65, Try.func65, by decide +kernel, rfl⟩
theorem ent83 : Ent Try.prog 83 := ⟨Try.f83, Try.func83, by decide +kernel, rfl⟩
theorem ent84 : Ent Try.prog 84 := ⟨Try.f84, Try.func84, by decide +kernel, rfl⟩
theorem ent93 : Ent Try.prog 93 := ⟨Try.f93, Try.func93, by decide +kernel, rfl⟩
theorem ent94 : Ent Try.prog 94 := ⟨Try.f94, Try.func94, by decide +kernel, rfl⟩
theorem ent95 : Ent Try.prog 95 := ⟨Try.f95, Try.func95, by decide +kernel, rfl⟩
theorem ent96 : Ent Try.prog 96 := ⟨Try.f96, Try.func96, by decide +kernel, rfl⟩
theorem ent97 : Ent Try.prog 97 := ⟨Try.f97, Try.func97, by decide +kernel, rfl⟩
theorem ent98 : Ent Try.prog 98 := ⟨Try.f98, Try.func98, by decide +kernel, rfl⟩
theorem ent99 : Ent Try.prog 99 := ⟨Try.f99, Try.func99, by decide +kernel, rfl⟩
theorem ent100 : Ent Try.prog 100 := ⟨Try.f100, Try.func100, by decide +kernel, rfl⟩
theorem ent101 : Ent Try.prog 101 := ⟨Try.f101, Try.func101, by decide +kernel, rfl⟩
theorem ent102 : Ent Try.prog 102 := ⟨Try.f102, Try.func102, by decide +kernel, rfl⟩
theorem ent112 : Ent Try.prog 112 := ⟨Try.f112, Try.func112, by decide +kernel, rfl⟩
theorem ent113 : Ent Try.prog 113 := ⟨Try.f113, Try.func113, by decide +kernel, rfl⟩
theorem ent114 : Ent Try.prog 114 := ⟨Try.f114, Try.func114, by decide +kernel, rfl⟩
theorem ent115 : Ent Try.prog 115 := ⟨Try.f115, Try.func115, by decide +kernel, rfl⟩
theorem ent126 : Ent Try.prog 126 := ⟨Try.f126, Try.func126, by decide +kernel, rfl⟩
theorem ent127 : Ent Try.prog 127 := ⟨Try.f127, Try.func127, by decide +kernel, rfl⟩
end Go.Proofs.Ytmckcjoacfekcaa.AM
