/-
  No cell of these rows narrows 'for every input' (looked for: loops, veiled, ifaces, maps, wideKeys, modest, calm, conditions, laid).
  DERIVED. THE GIVEN ROWS OF THIS SEAT. 10 by the template 'for every input the law returns true; each argument reads behind the call as it read before'; 0 by the template 'total and deterministic' (their statements: YtghdhjgoicnbcaaGreatTotals.lean).
  GIVEN WITH THE SEED: the statements are not yours to turn. If you find one false, say at which input.
  Laid BY PROGRAM, IN A SANDBOX (cutbox-rows.mjs): the forced cells as the released guide's own fill.sh prints them over the translation 1b34c145320ecf6d… (all of the seat's roots in one cut). By AI agents, Wed Nov 11 2026. No macro, syntax, notation, axiom, sorry.
-/
import Derived.Test.YtghdhjgoicnbcaaGreatChecked
import GoSem.Claim
import GoSem.ClaimJoined
import GoSem.ClaimMapViews
import Derived.JoinedTies
import Derived.KernelRfl
namespace Go.Proofs.YtghdhjgoicnbcaaGreat
/- THE CELL 'sum', in the pinned program and in every row, IS THE sha256 OF THE DUMP (.gsa) THAT YtghdhjgoicnbcaaGreatProg.lean LOADS. Nothing in Lean hashes anything: it is a label: what it is worth is what the hold of that sum in a sandbox is worth. -/
noncomputable def Tryz.pinned : Pinned := { name := "ytghdhjgoicnbcaagreat", sum := "1b34c145320ecf6d87c8ceb8940fe12f902f3ad68aaa2fb61a106f1ef0fddd1d", checked := Tryz.checked }
namespace Rows
def none {H : Type} : Left H := { results := [], args := [] }

/-- 'laws.FnFoldedInst': WHATEVER THE INPUT: true; the input reads as it did. -/
def fnFoldedInstSpec : ChangeSpec := { name := "fnFoldedInst", fn := fun _ => fun
  | [d] => { results := [.lit (.bool true)], args := [d] }
  | _ => none }
def fnFoldedInstRow : OpenClaim := { program := "ytghdhjgoicnbcaagreat", sum := "1b34c145320ecf6d87c8ceb8940fe12f902f3ad68aaa2fb61a106f1ef0fddd1d", func := "loop.example/g00457/laws.FnFoldedInst", spec := "fnFoldedInst", unfollowed := true, recurses := true, apart := false }
def FnFoldedInstSaid : Prop := fnFoldedInstRow.holds Tryz.pinned (OpenSpec.ofChange fnFoldedInstSpec)

/-- ITS FALSE NEIGHBOUR: 'it returns false'. Refute it at one input. -/
def fnFoldedInstWrong : ChangeSpec := { name := "fnFoldedInst", fn := fun _ => fun
  | [d] => { results := [.lit (.bool false)], args := [d] }
  | _ => none }
def FnFoldedInstWrongFalsely : Prop := fnFoldedInstRow.holds Tryz.pinned (OpenSpec.ofChange fnFoldedInstWrong)

/-- 'laws.FnChecked': WHATEVER THE INPUT: true; the input reads as it did. -/
def fnCheckedSpec : ChangeSpec := { name := "fnChecked", fn := fun _ => fun
  | [d] => { results := [.lit (.bool true)], args := [d] }
  | _ => none }
def fnCheckedRow : OpenClaim := { program := "ytghdhjgoicnbcaagreat", sum := "1b34c145320ecf6d87c8ceb8940fe12f902f3ad68aaa2fb61a106f1ef0fddd1d", func := "loop.example/g00457/laws.FnChecked", spec := "fnChecked", unfollowed := true, recurses := true, apart := false }
def FnCheckedSaid : Prop := fnCheckedRow.holds Tryz.pinned (OpenSpec.ofChange fnCheckedSpec)

/-- ITS FALSE NEIGHBOUR: 'it returns false'. Refute it at one input. -/
def fnCheckedWrong : ChangeSpec := { name := "fnChecked", fn := fun _ => fun
  | [d] => { results := [.lit (.bool false)], args := [d] }
  | _ => none }
def FnCheckedWrongFalsely : Prop := fnCheckedRow.holds Tryz.pinned (OpenSpec.ofChange fnCheckedWrong)

/-- 'laws.FnExactCritical': WHATEVER THE INPUT: true; the input reads as it did. -/
def fnExactCriticalSpec : ChangeSpec := { name := "fnExactCritical", fn := fun _ => fun
  | [d] => { results := [.lit (.bool true)], args := [d] }
  | _ => none }
def fnExactCriticalRow : OpenClaim := { program := "ytghdhjgoicnbcaagreat", sum := "1b34c145320ecf6d87c8ceb8940fe12f902f3ad68aaa2fb61a106f1ef0fddd1d", func := "loop.example/g00457/laws.FnExactCritical", spec := "fnExactCritical", unfollowed := true, recurses := true, apart := false }
def FnExactCriticalSaid : Prop := fnExactCriticalRow.holds Tryz.pinned (OpenSpec.ofChange fnExactCriticalSpec)

/-- ITS FALSE NEIGHBOUR: 'it returns false'. Refute it at one input. -/
def fnExactCriticalWrong : ChangeSpec := { name := "fnExactCritical", fn := fun _ => fun
  | [d] => { results := [.lit (.bool false)], args := [d] }
  | _ => none }
def FnExactCriticalWrongFalsely : Prop := fnExactCriticalRow.holds Tryz.pinned (OpenSpec.ofChange fnExactCriticalWrong)

/-- 'laws.FnExactLiveIn': WHATEVER THE INPUT: true; the input reads as it did. -/
def fnExactLiveInSpec : ChangeSpec := { name := "fnExactLiveIn", fn := fun _ => fun
  | [d1, d2] => { results := [.lit (.bool true)], args := [d1, d2] }
  | _ => none }
def fnExactLiveInRow : OpenClaim := { program := "ytghdhjgoicnbcaagreat", sum := "1b34c145320ecf6d87c8ceb8940fe12f902f3ad68aaa2fb61a106f1ef0fddd1d", func := "loop.example/g00457/laws.FnExactLiveIn", spec := "fnExactLiveIn", unfollowed := true, recurses := true, apart := false }
def FnExactLiveInSaid : Prop := fnExactLiveInRow.holds Tryz.pinned (OpenSpec.ofChange fnExactLiveInSpec)

/-- ITS FALSE NEIGHBOUR: 'it returns false'. Refute it at one input. -/
def fnExactLiveInWrong : ChangeSpec := { name := "fnExactLiveIn", fn := fun _ => fun
  | [d1, d2] => { results := [.lit (.bool false)], args := [d1, d2] }
  | _ => none }
def FnExactLiveInWrongFalsely : Prop := fnExactLiveInRow.holds Tryz.pinned (OpenSpec.ofChange fnExactLiveInWrong)

/-- 'laws.FnExactLiveOut': WHATEVER THE INPUT: true; the input reads as it did. -/
def fnExactLiveOutSpec : ChangeSpec := { name := "fnExactLiveOut", fn := fun _ => fun
  | [d1, d2] => { results := [.lit (.bool true)], args := [d1, d2] }
  | _ => none }
def fnExactLiveOutRow : OpenClaim := { program := "ytghdhjgoicnbcaagreat", sum := "1b34c145320ecf6d87c8ceb8940fe12f902f3ad68aaa2fb61a106f1ef0fddd1d", func := "loop.example/g00457/laws.FnExactLiveOut", spec := "fnExactLiveOut", unfollowed := true, recurses := true, apart := false }
def FnExactLiveOutSaid : Prop := fnExactLiveOutRow.holds Tryz.pinned (OpenSpec.ofChange fnExactLiveOutSpec)

/-- ITS FALSE NEIGHBOUR: 'it returns false'. Refute it at one input. -/
def fnExactLiveOutWrong : ChangeSpec := { name := "fnExactLiveOut", fn := fun _ => fun
  | [d1, d2] => { results := [.lit (.bool false)], args := [d1, d2] }
  | _ => none }
def FnExactLiveOutWrongFalsely : Prop := fnExactLiveOutRow.holds Tryz.pinned (OpenSpec.ofChange fnExactLiveOutWrong)

/-- 'laws.FnExactPressure': WHATEVER THE INPUT: true; the input reads as it did. -/
def fnExactPressureSpec : ChangeSpec := { name := "fnExactPressure", fn := fun _ => fun
  | [d] => { results := [.lit (.bool true)], args := [d] }
  | _ => none }
def fnExactPressureRow : OpenClaim := { program := "ytghdhjgoicnbcaagreat", sum := "1b34c145320ecf6d87c8ceb8940fe12f902f3ad68aaa2fb61a106f1ef0fddd1d", func := "loop.example/g00457/laws.FnExactPressure", spec := "fnExactPressure", unfollowed := true, recurses := true, apart := false }
def FnExactPressureSaid : Prop := fnExactPressureRow.holds Tryz.pinned (OpenSpec.ofChange fnExactPressureSpec)

/-- ITS FALSE NEIGHBOUR: 'it returns false'. Refute it at one input. -/
def fnExactPressureWrong : ChangeSpec := { name := "fnExactPressure", fn := fun _ => fun
  | [d] => { results := [.lit (.bool false)], args := [d] }
  | _ => none }
def FnExactPressureWrongFalsely : Prop := fnExactPressureRow.holds Tryz.pinned (OpenSpec.ofChange fnExactPressureWrong)

/-- 'laws.FnExactLiveAfter': WHATEVER THE INPUT: true; the input reads as it did. -/
def fnExactLiveAfterSpec : ChangeSpec := { name := "fnExactLiveAfter", fn := fun _ => fun
  | [d1, d2] => { results := [.lit (.bool true)], args := [d1, d2] }
  | _ => none }
def fnExactLiveAfterRow : OpenClaim := { program := "ytghdhjgoicnbcaagreat", sum := "1b34c145320ecf6d87c8ceb8940fe12f902f3ad68aaa2fb61a106f1ef0fddd1d", func := "loop.example/g00457/laws.FnExactLiveAfter", spec := "fnExactLiveAfter", unfollowed := true, recurses := true, apart := false }
def FnExactLiveAfterSaid : Prop := fnExactLiveAfterRow.holds Tryz.pinned (OpenSpec.ofChange fnExactLiveAfterSpec)

/-- ITS FALSE NEIGHBOUR: 'it returns false'. Refute it at one input. -/
def fnExactLiveAfterWrong : ChangeSpec := { name := "fnExactLiveAfter", fn := fun _ => fun
  | [d1, d2] => { results := [.lit (.bool false)], args := [d1, d2] }
  | _ => none }
def FnExactLiveAfterWrongFalsely : Prop := fnExactLiveAfterRow.holds Tryz.pinned (OpenSpec.ofChange fnExactLiveAfterWrong)

/-- 'laws.FnExactMeet': WHATEVER THE INPUT: true; the input reads as it did. -/
def fnExactMeetSpec : ChangeSpec := { name := "fnExactMeet", fn := fun _ => fun
  | [d1, d2, d3] => { results := [.lit (.bool true)], args := [d1, d2, d3] }
  | _ => none }
def fnExactMeetRow : OpenClaim := { program := "ytghdhjgoicnbcaagreat", sum := "1b34c145320ecf6d87c8ceb8940fe12f902f3ad68aaa2fb61a106f1ef0fddd1d", func := "loop.example/g00457/laws.FnExactMeet", spec := "fnExactMeet", unfollowed := true, recurses := true, apart := false }
def FnExactMeetSaid : Prop := fnExactMeetRow.holds Tryz.pinned (OpenSpec.ofChange fnExactMeetSpec)

/-- ITS FALSE NEIGHBOUR: 'it returns false'. Refute it at one input. -/
def fnExactMeetWrong : ChangeSpec := { name := "fnExactMeet", fn := fun _ => fun
  | [d1, d2, d3] => { results := [.lit (.bool false)], args := [d1, d2, d3] }
  | _ => none }
def FnExactMeetWrongFalsely : Prop := fnExactMeetRow.holds Tryz.pinned (OpenSpec.ofChange fnExactMeetWrong)

/-- 'laws.FnExactColoursOk': WHATEVER THE INPUT: true; the input reads as it did. -/
def fnExactColoursOkSpec : ChangeSpec := { name := "fnExactColoursOk", fn := fun _ => fun
  | [d1, d2] => { results := [.lit (.bool true)], args := [d1, d2] }
  | _ => none }
def fnExactColoursOkRow : OpenClaim := { program := "ytghdhjgoicnbcaagreat", sum := "1b34c145320ecf6d87c8ceb8940fe12f902f3ad68aaa2fb61a106f1ef0fddd1d", func := "loop.example/g00457/laws.FnExactColoursOk", spec := "fnExactColoursOk", unfollowed := true, recurses := true, apart := false }
def FnExactColoursOkSaid : Prop := fnExactColoursOkRow.holds Tryz.pinned (OpenSpec.ofChange fnExactColoursOkSpec)

/-- ITS FALSE NEIGHBOUR: 'it returns false'. Refute it at one input. -/
def fnExactColoursOkWrong : ChangeSpec := { name := "fnExactColoursOk", fn := fun _ => fun
  | [d1, d2] => { results := [.lit (.bool false)], args := [d1, d2] }
  | _ => none }
def FnExactColoursOkWrongFalsely : Prop := fnExactColoursOkRow.holds Tryz.pinned (OpenSpec.ofChange fnExactColoursOkWrong)

/-- 'laws.FnExactColoursOf': WHATEVER THE INPUT: true; the input reads as it did. -/
def fnExactColoursOfSpec : ChangeSpec := { name := "fnExactColoursOf", fn := fun _ => fun
  | [d] => { results := [.lit (.bool true)], args := [d] }
  | _ => none }
def fnExactColoursOfRow : OpenClaim := { program := "ytghdhjgoicnbcaagreat", sum := "1b34c145320ecf6d87c8ceb8940fe12f902f3ad68aaa2fb61a106f1ef0fddd1d", func := "loop.example/g00457/laws.FnExactColoursOf", spec := "fnExactColoursOf", unfollowed := true, recurses := true, apart := false }
def FnExactColoursOfSaid : Prop := fnExactColoursOfRow.holds Tryz.pinned (OpenSpec.ofChange fnExactColoursOfSpec)

/-- ITS FALSE NEIGHBOUR: 'it returns false'. Refute it at one input. -/
def fnExactColoursOfWrong : ChangeSpec := { name := "fnExactColoursOf", fn := fun _ => fun
  | [d] => { results := [.lit (.bool false)], args := [d] }
  | _ => none }
def FnExactColoursOfWrongFalsely : Prop := fnExactColoursOfRow.holds Tryz.pinned (OpenSpec.ofChange fnExactColoursOfWrong)

/- THE SECOND FORM. 'bulk': how many values and letters a reading holds, each counted each time it is reached (what is shared counts as often as it is met; a slice's spare places count too). A statement '..UptoSaid' is the law's where the arguments, and the package variables that the reading takes, are together of bulk at most 1048576: NARROWER than '..Said'. Prove '..Said' where nothing that the law and all that it calls make is longer than what came in: it says more and counts as full. Else prove '..UptoSaid'. A law counts once. -/
mutual
def uptoBulk {H : Type} : DataW H → Nat
  | .lit (.string bytes) => bytes.length + 1
  | .lit _ => 1
  | .nil => 1
  | .ptr d => uptoBulk d + 1
  | .slice elems spare => uptoBulkAll elems + uptoBulkAll spare + 1
  | .agg parts => uptoBulkAll parts + 1
  | .iface _ d => uptoBulk d + 1
  | .map entries => uptoBulkEntries entries + 1
  | .held _ => 1
def uptoBulkAll {H : Type} : List (DataW H) → Nat
  | [] => 0
  | d :: r => uptoBulk d + uptoBulkAll r
def uptoBulkEntries {H : Type} : List (Lit × DataW H) → Nat
  | [] => 0
  | x :: r => uptoBulkEntry x + uptoBulkEntries r
def uptoBulkEntry {H : Type} : Lit × DataW H → Nat
  | (.string bytes, d) => bytes.length + uptoBulk d + 1
  | (_, d) => uptoBulk d + 1
 end
def uptoSmall : (H : Type) → List (DataW H) → Bool := fun _ ds => decide (uptoBulkAll ds ≤ 1048576)
def OpenSpec.upto (s : _root_.Go.ChangeSpec) : _root_.Go.OpenSpec := { _root_.Go.OpenSpec.ofChange s with cond := some uptoSmall }

/-- 'laws.FnFoldedInst', WHERE WHAT IT READS IS OF BULK AT MOST 1048576: true; the input reads as it did. -/
def fnFoldedInstUptoRow : OpenClaim := { program := "ytghdhjgoicnbcaagreat", sum := "1b34c145320ecf6d87c8ceb8940fe12f902f3ad68aaa2fb61a106f1ef0fddd1d", func := "loop.example/g00457/laws.FnFoldedInst", spec := "fnFoldedInst", unfollowed := true, recurses := true, apart := false, narrowed := true }
def FnFoldedInstUptoSaid : Prop := fnFoldedInstUptoRow.holds Tryz.pinned (OpenSpec.upto fnFoldedInstSpec)

/-- 'laws.FnChecked', WHERE WHAT IT READS IS OF BULK AT MOST 1048576: true; the input reads as it did. -/
def fnCheckedUptoRow : OpenClaim := { program := "ytghdhjgoicnbcaagreat", sum := "1b34c145320ecf6d87c8ceb8940fe12f902f3ad68aaa2fb61a106f1ef0fddd1d", func := "loop.example/g00457/laws.FnChecked", spec := "fnChecked", unfollowed := true, recurses := true, apart := false, narrowed := true }
def FnCheckedUptoSaid : Prop := fnCheckedUptoRow.holds Tryz.pinned (OpenSpec.upto fnCheckedSpec)

/-- 'laws.FnExactCritical', WHERE WHAT IT READS IS OF BULK AT MOST 1048576: true; the input reads as it did. -/
def fnExactCriticalUptoRow : OpenClaim := { program := "ytghdhjgoicnbcaagreat", sum := "1b34c145320ecf6d87c8ceb8940fe12f902f3ad68aaa2fb61a106f1ef0fddd1d", func := "loop.example/g00457/laws.FnExactCritical", spec := "fnExactCritical", unfollowed := true, recurses := true, apart := false, narrowed := true }
def FnExactCriticalUptoSaid : Prop := fnExactCriticalUptoRow.holds Tryz.pinned (OpenSpec.upto fnExactCriticalSpec)

/-- 'laws.FnExactLiveIn', WHERE WHAT IT READS IS OF BULK AT MOST 1048576: true; the input reads as it did. -/
def fnExactLiveInUptoRow : OpenClaim := { program := "ytghdhjgoicnbcaagreat", sum := "1b34c145320ecf6d87c8ceb8940fe12f902f3ad68aaa2fb61a106f1ef0fddd1d", func := "loop.example/g00457/laws.FnExactLiveIn", spec := "fnExactLiveIn", unfollowed := true, recurses := true, apart := false, narrowed := true }
def FnExactLiveInUptoSaid : Prop := fnExactLiveInUptoRow.holds Tryz.pinned (OpenSpec.upto fnExactLiveInSpec)

/-- 'laws.FnExactLiveOut', WHERE WHAT IT READS IS OF BULK AT MOST 1048576: true; the input reads as it did. -/
def fnExactLiveOutUptoRow : OpenClaim := { program := "ytghdhjgoicnbcaagreat", sum := "1b34c145320ecf6d87c8ceb8940fe12f902f3ad68aaa2fb61a106f1ef0fddd1d", func := "loop.example/g00457/laws.FnExactLiveOut", spec := "fnExactLiveOut", unfollowed := true, recurses := true, apart := false, narrowed := true }
def FnExactLiveOutUptoSaid : Prop := fnExactLiveOutUptoRow.holds Tryz.pinned (OpenSpec.upto fnExactLiveOutSpec)

/-- 'laws.FnExactPressure', WHERE WHAT IT READS IS OF BULK AT MOST 1048576: true; the input reads as it did. -/
def fnExactPressureUptoRow : OpenClaim := { program := "ytghdhjgoicnbcaagreat", sum := "1b34c145320ecf6d87c8ceb8940fe12f902f3ad68aaa2fb61a106f1ef0fddd1d", func := "loop.example/g00457/laws.FnExactPressure", spec := "fnExactPressure", unfollowed := true, recurses := true, apart := false, narrowed := true }
def FnExactPressureUptoSaid : Prop := fnExactPressureUptoRow.holds Tryz.pinned (OpenSpec.upto fnExactPressureSpec)

/-- 'laws.FnExactLiveAfter', WHERE WHAT IT READS IS OF BULK AT MOST 1048576: true; the input reads as it did. -/
def fnExactLiveAfterUptoRow : OpenClaim := { program := "ytghdhjgoicnbcaagreat", sum := "1b34c145320ecf6d87c8ceb8940fe12f902f3ad68aaa2fb61a106f1ef0fddd1d", func := "loop.example/g00457/laws.FnExactLiveAfter", spec := "fnExactLiveAfter", unfollowed := true, recurses := true, apart := false, narrowed := true }
def FnExactLiveAfterUptoSaid : Prop := fnExactLiveAfterUptoRow.holds Tryz.pinned (OpenSpec.upto fnExactLiveAfterSpec)

/-- 'laws.FnExactMeet', WHERE WHAT IT READS IS OF BULK AT MOST 1048576: true; the input reads as it did. -/
def fnExactMeetUptoRow : OpenClaim := { program := "ytghdhjgoicnbcaagreat", sum := "1b34c145320ecf6d87c8ceb8940fe12f902f3ad68aaa2fb61a106f1ef0fddd1d", func := "loop.example/g00457/laws.FnExactMeet", spec := "fnExactMeet", unfollowed := true, recurses := true, apart := false, narrowed := true }
def FnExactMeetUptoSaid : Prop := fnExactMeetUptoRow.holds Tryz.pinned (OpenSpec.upto fnExactMeetSpec)

/-- 'laws.FnExactColoursOk', WHERE WHAT IT READS IS OF BULK AT MOST 1048576: true; the input reads as it did. -/
def fnExactColoursOkUptoRow : OpenClaim := { program := "ytghdhjgoicnbcaagreat", sum := "1b34c145320ecf6d87c8ceb8940fe12f902f3ad68aaa2fb61a106f1ef0fddd1d", func := "loop.example/g00457/laws.FnExactColoursOk", spec := "fnExactColoursOk", unfollowed := true, recurses := true, apart := false, narrowed := true }
def FnExactColoursOkUptoSaid : Prop := fnExactColoursOkUptoRow.holds Tryz.pinned (OpenSpec.upto fnExactColoursOkSpec)

/-- 'laws.FnExactColoursOf', WHERE WHAT IT READS IS OF BULK AT MOST 1048576: true; the input reads as it did. -/
def fnExactColoursOfUptoRow : OpenClaim := { program := "ytghdhjgoicnbcaagreat", sum := "1b34c145320ecf6d87c8ceb8940fe12f902f3ad68aaa2fb61a106f1ef0fddd1d", func := "loop.example/g00457/laws.FnExactColoursOf", spec := "fnExactColoursOf", unfollowed := true, recurses := true, apart := false, narrowed := true }
def FnExactColoursOfUptoSaid : Prop := fnExactColoursOfUptoRow.holds Tryz.pinned (OpenSpec.upto fnExactColoursOfSpec)

end Rows
end Go.Proofs.YtghdhjgoicnbcaaGreat
