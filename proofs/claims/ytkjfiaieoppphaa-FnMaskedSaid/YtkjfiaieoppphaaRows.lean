/-
  No cell of these rows narrows 'for every input' (looked for: loops, veiled, ifaces, maps, wideKeys, modest, calm, conditions, laid).
  DERIVED. THE GIVEN ROWS OF THIS SEAT. 5 by the template 'for every input the law returns true; each argument reads behind the call as it read before'; 0 by the template 'total and deterministic' (their statements: YtkjfiaieoppphaaTotals.lean).
  GIVEN WITH THE SEED: the statements are not yours to turn. If you find one false, say at which input.
  Laid BY PROGRAM, IN A SANDBOX (cutbox-rows.mjs): the forced cells as the released guide's own fill.sh prints them over the translation 9198778576fdee76… (all of the seat's roots in one cut). By AI agents, Wed Nov 11 2026. No macro, syntax, notation, axiom, sorry.
-/
import Derived.Test.YtkjfiaieoppphaaChecked
import GoSem.Claim
import GoSem.ClaimJoined
import GoSem.ClaimMapViews
import Derived.JoinedTies
import Derived.KernelRfl
namespace Go.Proofs.Ytkjfiaieoppphaa
/- THE CELL 'sum', in the pinned program and in every row, IS THE sha256 OF THE DUMP (.gsa) THAT YtkjfiaieoppphaaProg.lean LOADS. Nothing in Lean hashes anything: it is a label: what it is worth is what the hold of that sum in a sandbox is worth. -/
noncomputable def Try.pinned : Pinned := { name := "ytkjfiaieoppphaa", sum := "9198778576fdee76ce59e1fe5046ab15a387f4b99d5b07c45079073797df8e88", checked := Try.checked }
namespace Rows
def none {H : Type} : Left H := { results := [], args := [] }

/-- 'laws.FnCasts': WHATEVER THE INPUT: true; the input reads as it did. -/
def fnCastsSpec : ChangeSpec := { name := "fnCasts", fn := fun _ => fun
  | [d] => { results := [.lit (.bool true)], args := [d] }
  | _ => none }
def fnCastsRow : OpenClaim := { program := "ytkjfiaieoppphaa", sum := "9198778576fdee76ce59e1fe5046ab15a387f4b99d5b07c45079073797df8e88", func := "loop.example/g00457/laws.FnCasts", spec := "fnCasts", apart := false }
def FnCastsSaid : Prop := fnCastsRow.holds Try.pinned (OpenSpec.ofChange fnCastsSpec)

/-- ITS FALSE NEIGHBOUR: 'it returns false'. Refute it at one input. -/
def fnCastsWrong : ChangeSpec := { name := "fnCasts", fn := fun _ => fun
  | [d] => { results := [.lit (.bool false)], args := [d] }
  | _ => none }
def FnCastsWrongFalsely : Prop := fnCastsRow.holds Try.pinned (OpenSpec.ofChange fnCastsWrong)

/-- 'laws.FnMasked': WHATEVER THE INPUT: true; the input reads as it did. -/
def fnMaskedSpec : ChangeSpec := { name := "fnMasked", fn := fun _ => fun
  | [d] => { results := [.lit (.bool true)], args := [d] }
  | _ => none }
def fnMaskedRow : OpenClaim := { program := "ytkjfiaieoppphaa", sum := "9198778576fdee76ce59e1fe5046ab15a387f4b99d5b07c45079073797df8e88", func := "loop.example/g00457/laws.FnMasked", spec := "fnMasked", apart := false }
def FnMaskedSaid : Prop := fnMaskedRow.holds Try.pinned (OpenSpec.ofChange fnMaskedSpec)

/-- ITS FALSE NEIGHBOUR: 'it returns false'. Refute it at one input. -/
def fnMaskedWrong : ChangeSpec := { name := "fnMasked", fn := fun _ => fun
  | [d] => { results := [.lit (.bool false)], args := [d] }
  | _ => none }
def FnMaskedWrongFalsely : Prop := fnMaskedRow.holds Try.pinned (OpenSpec.ofChange fnMaskedWrong)

/-- 'laws.FnDivided': WHATEVER THE INPUT: true; the input reads as it did. -/
def fnDividedSpec : ChangeSpec := { name := "fnDivided", fn := fun _ => fun
  | [d] => { results := [.lit (.bool true)], args := [d] }
  | _ => none }
def fnDividedRow : OpenClaim := { program := "ytkjfiaieoppphaa", sum := "9198778576fdee76ce59e1fe5046ab15a387f4b99d5b07c45079073797df8e88", func := "loop.example/g00457/laws.FnDivided", spec := "fnDivided", apart := false }
def FnDividedSaid : Prop := fnDividedRow.holds Try.pinned (OpenSpec.ofChange fnDividedSpec)

/-- ITS FALSE NEIGHBOUR: 'it returns false'. Refute it at one input. -/
def fnDividedWrong : ChangeSpec := { name := "fnDivided", fn := fun _ => fun
  | [d] => { results := [.lit (.bool false)], args := [d] }
  | _ => none }
def FnDividedWrongFalsely : Prop := fnDividedRow.holds Try.pinned (OpenSpec.ofChange fnDividedWrong)

/-- 'laws.FnOrders': WHATEVER THE INPUT: true; the input reads as it did. -/
def fnOrdersSpec : ChangeSpec := { name := "fnOrders", fn := fun _ => fun
  | [d] => { results := [.lit (.bool true)], args := [d] }
  | _ => none }
def fnOrdersRow : OpenClaim := { program := "ytkjfiaieoppphaa", sum := "9198778576fdee76ce59e1fe5046ab15a387f4b99d5b07c45079073797df8e88", func := "loop.example/g00457/laws.FnOrders", spec := "fnOrders", apart := false }
def FnOrdersSaid : Prop := fnOrdersRow.holds Try.pinned (OpenSpec.ofChange fnOrdersSpec)

/-- ITS FALSE NEIGHBOUR: 'it returns false'. Refute it at one input. -/
def fnOrdersWrong : ChangeSpec := { name := "fnOrders", fn := fun _ => fun
  | [d] => { results := [.lit (.bool false)], args := [d] }
  | _ => none }
def FnOrdersWrongFalsely : Prop := fnOrdersRow.holds Try.pinned (OpenSpec.ofChange fnOrdersWrong)

/-- 'laws.FnTwos': WHATEVER THE INPUT: true; the input reads as it did. -/
def fnTwosSpec : ChangeSpec := { name := "fnTwos", fn := fun _ => fun
  | [d] => { results := [.lit (.bool true)], args := [d] }
  | _ => none }
def fnTwosRow : OpenClaim := { program := "ytkjfiaieoppphaa", sum := "9198778576fdee76ce59e1fe5046ab15a387f4b99d5b07c45079073797df8e88", func := "loop.example/g00457/laws.FnTwos", spec := "fnTwos", apart := false }
def FnTwosSaid : Prop := fnTwosRow.holds Try.pinned (OpenSpec.ofChange fnTwosSpec)

/-- ITS FALSE NEIGHBOUR: 'it returns false'. Refute it at one input. -/
def fnTwosWrong : ChangeSpec := { name := "fnTwos", fn := fun _ => fun
  | [d] => { results := [.lit (.bool false)], args := [d] }
  | _ => none }
def FnTwosWrongFalsely : Prop := fnTwosRow.holds Try.pinned (OpenSpec.ofChange fnTwosWrong)

/- THE SECOND FORM. 'bulk': how many values and letters a reading holds, each counted each time it is reached (what is shared counts as often as it is met; a slice's spare places count too). A statement '..UptoSaid' is the law's where the arguments, and the package variables that the reading takes, are together of bulk at most 1048576: NARROWER than '..Said'. Prove '..Said' where nothing that the law and all that it calls make is longer than what came in: it says more and counts as full. Else prove '..UptoSaid'. A law counts once. -/
mutual
def uptoBulk {H : Type} : DataW H → Nat
  | .lit (.string bytes) => bytes.length + 1
  | .lit _ => 1
  | .nil => 1
  | .ptr d => uptoBulk d + 1
  | .slice elems spare => uptoBulkAll elems + uptoBulkAll spare + 1
  | .agg parts => uptoBulkAll parts + 1
  | .iface _ d => uptoBulk d + 1
  | .map entries => uptoBulkEntries entries + 1
  | .held _ => 1
def uptoBulkAll {H : Type} : List (DataW H) → Nat
  | [] => 0
  | d :: r => uptoBulk d + uptoBulkAll r
def uptoBulkEntries {H : Type} : List (Lit × DataW H) → Nat
  | [] => 0
  | x :: r => uptoBulkEntry x + uptoBulkEntries r
def uptoBulkEntry {H : Type} : Lit × DataW H → Nat
  | (.string bytes, d) => bytes.length + uptoBulk d + 1
  | (_, d) => uptoBulk d + 1
 end
def uptoSmall : (H : Type) → List (DataW H) → Bool := fun _ ds => decide (uptoBulkAll ds ≤ 1048576)
def OpenSpec.upto (s : _root_.Go.ChangeSpec) : _root_.Go.OpenSpec := { _root_.Go.OpenSpec.ofChange s with cond := some uptoSmall }

/-- 'laws.FnCasts', WHERE WHAT IT READS IS OF BULK AT MOST 1048576: true; the input reads as it did. -/
def fnCastsUptoRow : OpenClaim := { program := "ytkjfiaieoppphaa", sum := "9198778576fdee76ce59e1fe5046ab15a387f4b99d5b07c45079073797df8e88", func := "loop.example/g00457/laws.FnCasts", spec := "fnCasts", apart := false, narrowed := true }
def FnCastsUptoSaid : Prop := fnCastsUptoRow.holds Try.pinned (OpenSpec.upto fnCastsSpec)

/-- 'laws.FnMasked', WHERE WHAT IT READS IS OF BULK AT MOST 1048576: true; the input reads as it did. -/
def fnMaskedUptoRow : OpenClaim := { program := "ytkjfiaieoppphaa", sum := "9198778576fdee76ce59e1fe5046ab15a387f4b99d5b07c45079073797df8e88", func := "loop.example/g00457/laws.FnMasked", spec := "fnMasked", apart := false, narrowed := true }
def FnMaskedUptoSaid : Prop := fnMaskedUptoRow.holds Try.pinned (OpenSpec.upto fnMaskedSpec)

/-- 'laws.FnDivided', WHERE WHAT IT READS IS OF BULK AT MOST 1048576: true; the input reads as it did. -/
def fnDividedUptoRow : OpenClaim := { program := "ytkjfiaieoppphaa", sum := "9198778576fdee76ce59e1fe5046ab15a387f4b99d5b07c45079073797df8e88", func := "loop.example/g00457/laws.FnDivided", spec := "fnDivided", apart := false, narrowed := true }
def FnDividedUptoSaid : Prop := fnDividedUptoRow.holds Try.pinned (OpenSpec.upto fnDividedSpec)

/-- 'laws.FnOrders', WHERE WHAT IT READS IS OF BULK AT MOST 1048576: true; the input reads as it did. -/
def fnOrdersUptoRow : OpenClaim := { program := "ytkjfiaieoppphaa", sum := "9198778576fdee76ce59e1fe5046ab15a387f4b99d5b07c45079073797df8e88", func := "loop.example/g00457/laws.FnOrders", spec := "fnOrders", apart := false, narrowed := true }
def FnOrdersUptoSaid : Prop := fnOrdersUptoRow.holds Try.pinned (OpenSpec.upto fnOrdersSpec)

/-- 'laws.FnTwos', WHERE WHAT IT READS IS OF BULK AT MOST 1048576: true; the input reads as it did. -/
def fnTwosUptoRow : OpenClaim := { program := "ytkjfiaieoppphaa", sum := "9198778576fdee76ce59e1fe5046ab15a387f4b99d5b07c45079073797df8e88", func := "loop.example/g00457/laws.FnTwos", spec := "fnTwos", apart := false, narrowed := true }
def FnTwosUptoSaid : Prop := fnTwosUptoRow.holds Try.pinned (OpenSpec.upto fnTwosSpec)

end Rows
end Go.Proofs.Ytkjfiaieoppphaa
