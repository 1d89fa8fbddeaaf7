/-
  No cell of these rows narrows 'for every input' (looked for: loops, veiled, ifaces, maps, wideKeys, modest, calm, conditions, laid).
  DERIVED. THE GIVEN ROWS OF THIS SEAT. 12 by the template 'for every input the law returns true; each argument reads behind the call as it read before'; 0 by the template 'total and deterministic' (their statements: YtcpepepdinkioaaTotals.lean).
  GIVEN WITH THE SEED: the statements are not yours to turn. If you find one false, say at which input.
  Laid BY PROGRAM, IN A SANDBOX (cutbox-rows.mjs): the forced cells as the released guide's own fill.sh prints them over the translation 9956ecbc411aa45b… (all of the seat's roots in one cut). By AI agents, Wed Nov 11 2026. No macro, syntax, notation, axiom, sorry.
-/
import Derived.Test.YtcpepepdinkioaaChecked
import GoSem.Claim
import GoSem.ClaimJoined
import GoSem.ClaimMapViews
import Derived.JoinedTies
import Derived.KernelRfl
namespace Go.Proofs.Ytcpepepdinkioaa
/- THE CELL 'sum', in the pinned program and in every row, IS THE sha256 OF THE DUMP (.gsa) THAT YtcpepepdinkioaaProg.lean LOADS. Nothing in Lean hashes anything: it is a label: what it is worth is what the hold of that sum in a sandbox is worth. -/
noncomputable def Try.pinned : Pinned := { name := "ytcpepepdinkioaa", sum := "9956ecbc411aa45b5c89c9ca02136dccc826fdd7b624f895ef6578a940b78462", checked := Try.checked }
namespace Rows
def none {H : Type} : Left H := { results := [], args := [] }

/-- 'laws.FnExactPlaneNumbers': WHATEVER THE INPUT: true; the input reads as it did. -/
def fnExactPlaneNumbersSpec : ChangeSpec := { name := "fnExactPlaneNumbers", fn := fun _ => fun
  | [d] => { results := [.lit (.bool true)], args := [d] }
  | _ => none }
def fnExactPlaneNumbersRow : OpenClaim := { program := "ytcpepepdinkioaa", sum := "9956ecbc411aa45b5c89c9ca02136dccc826fdd7b624f895ef6578a940b78462", func := "loop.example/g01135/laws.FnExactPlaneNumbers", spec := "fnExactPlaneNumbers", apart := false }
def FnExactPlaneNumbersSaid : Prop := fnExactPlaneNumbersRow.holds Try.pinned (OpenSpec.ofChange fnExactPlaneNumbersSpec)

/-- ITS FALSE NEIGHBOUR: 'it returns false'. Refute it at one input. -/
def fnExactPlaneNumbersWrong : ChangeSpec := { name := "fnExactPlaneNumbers", fn := fun _ => fun
  | [d] => { results := [.lit (.bool false)], args := [d] }
  | _ => none }
def FnExactPlaneNumbersWrongFalsely : Prop := fnExactPlaneNumbersRow.holds Try.pinned (OpenSpec.ofChange fnExactPlaneNumbersWrong)

/-- 'laws.FnExactSwitchPlan': WHATEVER THE INPUT: true; the input reads as it did. -/
def fnExactSwitchPlanSpec : ChangeSpec := { name := "fnExactSwitchPlan", fn := fun _ => fun
  | [d1, d2] => { results := [.lit (.bool true)], args := [d1, d2] }
  | _ => none }
def fnExactSwitchPlanRow : OpenClaim := { program := "ytcpepepdinkioaa", sum := "9956ecbc411aa45b5c89c9ca02136dccc826fdd7b624f895ef6578a940b78462", func := "loop.example/g01135/laws.FnExactSwitchPlan", spec := "fnExactSwitchPlan", apart := false }
def FnExactSwitchPlanSaid : Prop := fnExactSwitchPlanRow.holds Try.pinned (OpenSpec.ofChange fnExactSwitchPlanSpec)

/-- ITS FALSE NEIGHBOUR: 'it returns false'. Refute it at one input. -/
def fnExactSwitchPlanWrong : ChangeSpec := { name := "fnExactSwitchPlan", fn := fun _ => fun
  | [d1, d2] => { results := [.lit (.bool false)], args := [d1, d2] }
  | _ => none }
def FnExactSwitchPlanWrongFalsely : Prop := fnExactSwitchPlanRow.holds Try.pinned (OpenSpec.ofChange fnExactSwitchPlanWrong)

/-- 'laws.FnExactPerceptronTrace': WHATEVER THE INPUT: true; the input reads as it did. -/
def fnExactPerceptronTraceSpec : ChangeSpec := { name := "fnExactPerceptronTrace", fn := fun _ => fun
  | [d1, d2] => { results := [.lit (.bool true)], args := [d1, d2] }
  | _ => none }
def fnExactPerceptronTraceRow : OpenClaim := { program := "ytcpepepdinkioaa", sum := "9956ecbc411aa45b5c89c9ca02136dccc826fdd7b624f895ef6578a940b78462", func := "loop.example/g01135/laws.FnExactPerceptronTrace", spec := "fnExactPerceptronTrace", apart := false }
def FnExactPerceptronTraceSaid : Prop := fnExactPerceptronTraceRow.holds Try.pinned (OpenSpec.ofChange fnExactPerceptronTraceSpec)

/-- ITS FALSE NEIGHBOUR: 'it returns false'. Refute it at one input. -/
def fnExactPerceptronTraceWrong : ChangeSpec := { name := "fnExactPerceptronTrace", fn := fun _ => fun
  | [d1, d2] => { results := [.lit (.bool false)], args := [d1, d2] }
  | _ => none }
def FnExactPerceptronTraceWrongFalsely : Prop := fnExactPerceptronTraceRow.holds Try.pinned (OpenSpec.ofChange fnExactPerceptronTraceWrong)

/-- 'laws.FnExactDualCounts': WHATEVER THE INPUT: true; the input reads as it did. -/
def fnExactDualCountsSpec : ChangeSpec := { name := "fnExactDualCounts", fn := fun _ => fun
  | [d1, d2] => { results := [.lit (.bool true)], args := [d1, d2] }
  | _ => none }
def fnExactDualCountsRow : OpenClaim := { program := "ytcpepepdinkioaa", sum := "9956ecbc411aa45b5c89c9ca02136dccc826fdd7b624f895ef6578a940b78462", func := "loop.example/g01135/laws.FnExactDualCounts", spec := "fnExactDualCounts", apart := false }
def FnExactDualCountsSaid : Prop := fnExactDualCountsRow.holds Try.pinned (OpenSpec.ofChange fnExactDualCountsSpec)

/-- ITS FALSE NEIGHBOUR: 'it returns false'. Refute it at one input. -/
def fnExactDualCountsWrong : ChangeSpec := { name := "fnExactDualCounts", fn := fun _ => fun
  | [d1, d2] => { results := [.lit (.bool false)], args := [d1, d2] }
  | _ => none }
def FnExactDualCountsWrongFalsely : Prop := fnExactDualCountsRow.holds Try.pinned (OpenSpec.ofChange fnExactDualCountsWrong)

/-- 'laws.FnExactAfterNet': WHATEVER THE INPUT: true; the input reads as it did. -/
def fnExactAfterNetSpec : ChangeSpec := { name := "fnExactAfterNet", fn := fun _ => fun
  | [d1, d2] => { results := [.lit (.bool true)], args := [d1, d2] }
  | _ => none }
def fnExactAfterNetRow : OpenClaim := { program := "ytcpepepdinkioaa", sum := "9956ecbc411aa45b5c89c9ca02136dccc826fdd7b624f895ef6578a940b78462", func := "loop.example/g01135/laws.FnExactAfterNet", spec := "fnExactAfterNet", apart := false }
def FnExactAfterNetSaid : Prop := fnExactAfterNetRow.holds Try.pinned (OpenSpec.ofChange fnExactAfterNetSpec)

/-- ITS FALSE NEIGHBOUR: 'it returns false'. Refute it at one input. -/
def fnExactAfterNetWrong : ChangeSpec := { name := "fnExactAfterNet", fn := fun _ => fun
  | [d1, d2] => { results := [.lit (.bool false)], args := [d1, d2] }
  | _ => none }
def FnExactAfterNetWrongFalsely : Prop := fnExactAfterNetRow.holds Try.pinned (OpenSpec.ofChange fnExactAfterNetWrong)

/-- 'laws.FnExactRunPerceptron': WHATEVER THE INPUT: true; the input reads as it did. -/
def fnExactRunPerceptronSpec : ChangeSpec := { name := "fnExactRunPerceptron", fn := fun _ => fun
  | [d1, d2] => { results := [.lit (.bool true)], args := [d1, d2] }
  | _ => none }
def fnExactRunPerceptronRow : OpenClaim := { program := "ytcpepepdinkioaa", sum := "9956ecbc411aa45b5c89c9ca02136dccc826fdd7b624f895ef6578a940b78462", func := "loop.example/g01135/laws.FnExactRunPerceptron", spec := "fnExactRunPerceptron", apart := false }
def FnExactRunPerceptronSaid : Prop := fnExactRunPerceptronRow.holds Try.pinned (OpenSpec.ofChange fnExactRunPerceptronSpec)

/-- ITS FALSE NEIGHBOUR: 'it returns false'. Refute it at one input. -/
def fnExactRunPerceptronWrong : ChangeSpec := { name := "fnExactRunPerceptron", fn := fun _ => fun
  | [d1, d2] => { results := [.lit (.bool false)], args := [d1, d2] }
  | _ => none }
def FnExactRunPerceptronWrongFalsely : Prop := fnExactRunPerceptronRow.holds Try.pinned (OpenSpec.ofChange fnExactRunPerceptronWrong)

/-- 'laws.FnExactJoinNets': WHATEVER THE INPUT: true; the input reads as it did. -/
def fnExactJoinNetsSpec : ChangeSpec := { name := "fnExactJoinNets", fn := fun _ => fun
  | [d1, d2] => { results := [.lit (.bool true)], args := [d1, d2] }
  | _ => none }
def fnExactJoinNetsRow : OpenClaim := { program := "ytcpepepdinkioaa", sum := "9956ecbc411aa45b5c89c9ca02136dccc826fdd7b624f895ef6578a940b78462", func := "loop.example/g01135/laws.FnExactJoinNets", spec := "fnExactJoinNets", apart := false }
def FnExactJoinNetsSaid : Prop := fnExactJoinNetsRow.holds Try.pinned (OpenSpec.ofChange fnExactJoinNetsSpec)

/-- ITS FALSE NEIGHBOUR: 'it returns false'. Refute it at one input. -/
def fnExactJoinNetsWrong : ChangeSpec := { name := "fnExactJoinNets", fn := fun _ => fun
  | [d1, d2] => { results := [.lit (.bool false)], args := [d1, d2] }
  | _ => none }
def FnExactJoinNetsWrongFalsely : Prop := fnExactJoinNetsRow.holds Try.pinned (OpenSpec.ofChange fnExactJoinNetsWrong)

/-- 'laws.FnExactOwnTable': WHATEVER THE INPUT: true; the input reads as it did. -/
def fnExactOwnTableSpec : ChangeSpec := { name := "fnExactOwnTable", fn := fun _ => fun
  | [d] => { results := [.lit (.bool true)], args := [d] }
  | _ => none }
def fnExactOwnTableRow : OpenClaim := { program := "ytcpepepdinkioaa", sum := "9956ecbc411aa45b5c89c9ca02136dccc826fdd7b624f895ef6578a940b78462", func := "loop.example/g01135/laws.FnExactOwnTable", spec := "fnExactOwnTable", apart := false }
def FnExactOwnTableSaid : Prop := fnExactOwnTableRow.holds Try.pinned (OpenSpec.ofChange fnExactOwnTableSpec)

/-- ITS FALSE NEIGHBOUR: 'it returns false'. Refute it at one input. -/
def fnExactOwnTableWrong : ChangeSpec := { name := "fnExactOwnTable", fn := fun _ => fun
  | [d] => { results := [.lit (.bool false)], args := [d] }
  | _ => none }
def FnExactOwnTableWrongFalsely : Prop := fnExactOwnTableRow.holds Try.pinned (OpenSpec.ofChange fnExactOwnTableWrong)

/-- 'laws.FnExactPocketPlane': WHATEVER THE INPUT: true; the input reads as it did. -/
def fnExactPocketPlaneSpec : ChangeSpec := { name := "fnExactPocketPlane", fn := fun _ => fun
  | [d1, d2] => { results := [.lit (.bool true)], args := [d1, d2] }
  | _ => none }
def fnExactPocketPlaneRow : OpenClaim := { program := "ytcpepepdinkioaa", sum := "9956ecbc411aa45b5c89c9ca02136dccc826fdd7b624f895ef6578a940b78462", func := "loop.example/g01135/laws.FnExactPocketPlane", spec := "fnExactPocketPlane", apart := false }
def FnExactPocketPlaneSaid : Prop := fnExactPocketPlaneRow.holds Try.pinned (OpenSpec.ofChange fnExactPocketPlaneSpec)

/-- ITS FALSE NEIGHBOUR: 'it returns false'. Refute it at one input. -/
def fnExactPocketPlaneWrong : ChangeSpec := { name := "fnExactPocketPlane", fn := fun _ => fun
  | [d1, d2] => { results := [.lit (.bool false)], args := [d1, d2] }
  | _ => none }
def FnExactPocketPlaneWrongFalsely : Prop := fnExactPocketPlaneRow.holds Try.pinned (OpenSpec.ofChange fnExactPocketPlaneWrong)

/-- 'laws.FnExactNegateNet': WHATEVER THE INPUT: true; the input reads as it did. -/
def fnExactNegateNetSpec : ChangeSpec := { name := "fnExactNegateNet", fn := fun _ => fun
  | [d] => { results := [.lit (.bool true)], args := [d] }
  | _ => none }
def fnExactNegateNetRow : OpenClaim := { program := "ytcpepepdinkioaa", sum := "9956ecbc411aa45b5c89c9ca02136dccc826fdd7b624f895ef6578a940b78462", func := "loop.example/g01135/laws.FnExactNegateNet", spec := "fnExactNegateNet", apart := false }
def FnExactNegateNetSaid : Prop := fnExactNegateNetRow.holds Try.pinned (OpenSpec.ofChange fnExactNegateNetSpec)

/-- ITS FALSE NEIGHBOUR: 'it returns false'. Refute it at one input. -/
def fnExactNegateNetWrong : ChangeSpec := { name := "fnExactNegateNet", fn := fun _ => fun
  | [d] => { results := [.lit (.bool false)], args := [d] }
  | _ => none }
def FnExactNegateNetWrongFalsely : Prop := fnExactNegateNetRow.holds Try.pinned (OpenSpec.ofChange fnExactNegateNetWrong)

/-- 'laws.FnExactPanelOf': WHATEVER THE INPUT: true; the input reads as it did. -/
def fnExactPanelOfSpec : ChangeSpec := { name := "fnExactPanelOf", fn := fun _ => fun
  | [d1, d2] => { results := [.lit (.bool true)], args := [d1, d2] }
  | _ => none }
def fnExactPanelOfRow : OpenClaim := { program := "ytcpepepdinkioaa", sum := "9956ecbc411aa45b5c89c9ca02136dccc826fdd7b624f895ef6578a940b78462", func := "loop.example/g01135/laws.FnExactPanelOf", spec := "fnExactPanelOf", apart := false }
def FnExactPanelOfSaid : Prop := fnExactPanelOfRow.holds Try.pinned (OpenSpec.ofChange fnExactPanelOfSpec)

/-- ITS FALSE NEIGHBOUR: 'it returns false'. Refute it at one input. -/
def fnExactPanelOfWrong : ChangeSpec := { name := "fnExactPanelOf", fn := fun _ => fun
  | [d1, d2] => { results := [.lit (.bool false)], args := [d1, d2] }
  | _ => none }
def FnExactPanelOfWrongFalsely : Prop := fnExactPanelOfRow.holds Try.pinned (OpenSpec.ofChange fnExactPanelOfWrong)

/-- 'laws.FnExactNewConsole': WHATEVER THE INPUT: true; the input reads as it did. -/
def fnExactNewConsoleSpec : ChangeSpec := { name := "fnExactNewConsole", fn := fun _ => fun
  | [d] => { results := [.lit (.bool true)], args := [d] }
  | _ => none }
def fnExactNewConsoleRow : OpenClaim := { program := "ytcpepepdinkioaa", sum := "9956ecbc411aa45b5c89c9ca02136dccc826fdd7b624f895ef6578a940b78462", func := "loop.example/g01135/laws.FnExactNewConsole", spec := "fnExactNewConsole", apart := false }
def FnExactNewConsoleSaid : Prop := fnExactNewConsoleRow.holds Try.pinned (OpenSpec.ofChange fnExactNewConsoleSpec)

/-- ITS FALSE NEIGHBOUR: 'it returns false'. Refute it at one input. -/
def fnExactNewConsoleWrong : ChangeSpec := { name := "fnExactNewConsole", fn := fun _ => fun
  | [d] => { results := [.lit (.bool false)], args := [d] }
  | _ => none }
def FnExactNewConsoleWrongFalsely : Prop := fnExactNewConsoleRow.holds Try.pinned (OpenSpec.ofChange fnExactNewConsoleWrong)

/- THE SECOND FORM. 'bulk': how many values and letters a reading holds, each counted each time it is reached (what is shared counts as often as it is met; a slice's spare places count too). A statement '..UptoSaid' is the law's where the arguments, and the package variables that the reading takes, are together of bulk at most 1048576: NARROWER than '..Said'. Prove '..Said' where nothing that the law and all that it calls make is longer than what came in: it says more and counts as full. Else prove '..UptoSaid'. A law counts once. -/
mutual
def uptoBulk {H : Type} : DataW H → Nat
  | .lit (.string bytes) => bytes.length + 1
  | .lit _ => 1
  | .nil => 1
  | .ptr d => uptoBulk d + 1
  | .slice elems spare => uptoBulkAll elems + uptoBulkAll spare + 1
  | .agg parts => uptoBulkAll parts + 1
  | .iface _ d => uptoBulk d + 1
  | .map entries => uptoBulkEntries entries + 1
  | .held _ => 1
def uptoBulkAll {H : Type} : List (DataW H) → Nat
  | [] => 0
  | d :: r => uptoBulk d + uptoBulkAll r
def uptoBulkEntries {H : Type} : List (Lit × DataW H) → Nat
  | [] => 0
  | x :: r => uptoBulkEntry x + uptoBulkEntries r
def uptoBulkEntry {H : Type} : Lit × DataW H → Nat
  | (.string bytes, d) => bytes.length + uptoBulk d + 1
  | (_, d) => uptoBulk d + 1
 end
def uptoSmall : (H : Type) → List (DataW H) → Bool := fun _ ds => decide (uptoBulkAll ds ≤ 1048576)
def OpenSpec.upto (s : _root_.Go.ChangeSpec) : _root_.Go.OpenSpec := { _root_.Go.OpenSpec.ofChange s with cond := some uptoSmall }

/-- 'laws.FnExactPlaneNumbers', WHERE WHAT IT READS IS OF BULK AT MOST 1048576: true; the input reads as it did. -/
def fnExactPlaneNumbersUptoRow : OpenClaim := { program := "ytcpepepdinkioaa", sum := "9956ecbc411aa45b5c89c9ca02136dccc826fdd7b624f895ef6578a940b78462", func := "loop.example/g01135/laws.FnExactPlaneNumbers", spec := "fnExactPlaneNumbers", apart := false, narrowed := true }
def FnExactPlaneNumbersUptoSaid : Prop := fnExactPlaneNumbersUptoRow.holds Try.pinned (OpenSpec.upto fnExactPlaneNumbersSpec)

/-- 'laws.FnExactSwitchPlan', WHERE WHAT IT READS IS OF BULK AT MOST 1048576: true; the input reads as it did. -/
def fnExactSwitchPlanUptoRow : OpenClaim := { program := "ytcpepepdinkioaa", sum := "9956ecbc411aa45b5c89c9ca02136dccc826fdd7b624f895ef6578a940b78462", func := "loop.example/g01135/laws.FnExactSwitchPlan", spec := "fnExactSwitchPlan", apart := false, narrowed := true }
def FnExactSwitchPlanUptoSaid : Prop := fnExactSwitchPlanUptoRow.holds Try.pinned (OpenSpec.upto fnExactSwitchPlanSpec)

/-- 'laws.FnExactPerceptronTrace', WHERE WHAT IT READS IS OF BULK AT MOST 1048576: true; the input reads as it did. -/
def fnExactPerceptronTraceUptoRow : OpenClaim := { program := "ytcpepepdinkioaa", sum := "9956ecbc411aa45b5c89c9ca02136dccc826fdd7b624f895ef6578a940b78462", func := "loop.example/g01135/laws.FnExactPerceptronTrace", spec := "fnExactPerceptronTrace", apart := false, narrowed := true }
def FnExactPerceptronTraceUptoSaid : Prop := fnExactPerceptronTraceUptoRow.holds Try.pinned (OpenSpec.upto fnExactPerceptronTraceSpec)

/-- 'laws.FnExactDualCounts', WHERE WHAT IT READS IS OF BULK AT MOST 1048576: true; the input reads as it did. -/
def fnExactDualCountsUptoRow : OpenClaim := { program := "ytcpepepdinkioaa", sum := "9956ecbc411aa45b5c89c9ca02136dccc826fdd7b624f895ef6578a940b78462", func := "loop.example/g01135/laws.FnExactDualCounts", spec := "fnExactDualCounts", apart := false, narrowed := true }
def FnExactDualCountsUptoSaid : Prop := fnExactDualCountsUptoRow.holds Try.pinned (OpenSpec.upto fnExactDualCountsSpec)

/-- 'laws.FnExactAfterNet', WHERE WHAT IT READS IS OF BULK AT MOST 1048576: true; the input reads as it did. -/
def fnExactAfterNetUptoRow : OpenClaim := { program := "ytcpepepdinkioaa", sum := "9956ecbc411aa45b5c89c9ca02136dccc826fdd7b624f895ef6578a940b78462", func := "loop.example/g01135/laws.FnExactAfterNet", spec := "fnExactAfterNet", apart := false, narrowed := true }
def FnExactAfterNetUptoSaid : Prop := fnExactAfterNetUptoRow.holds Try.pinned (OpenSpec.upto fnExactAfterNetSpec)

/-- 'laws.FnExactRunPerceptron', WHERE WHAT IT READS IS OF BULK AT MOST 1048576: true; the input reads as it did. -/
def fnExactRunPerceptronUptoRow : OpenClaim := { program := "ytcpepepdinkioaa", sum := "9956ecbc411aa45b5c89c9ca02136dccc826fdd7b624f895ef6578a940b78462", func := "loop.example/g01135/laws.FnExactRunPerceptron", spec := "fnExactRunPerceptron", apart := false, narrowed := true }
def FnExactRunPerceptronUptoSaid : Prop := fnExactRunPerceptronUptoRow.holds Try.pinned (OpenSpec.upto fnExactRunPerceptronSpec)

/-- 'laws.FnExactJoinNets', WHERE WHAT IT READS IS OF BULK AT MOST 1048576: true; the input reads as it did. -/
def fnExactJoinNetsUptoRow : OpenClaim := { program := "ytcpepepdinkioaa", sum := "9956ecbc411aa45b5c89c9ca02136dccc826fdd7b624f895ef6578a940b78462", func := "loop.example/g01135/laws.FnExactJoinNets", spec := "fnExactJoinNets", apart := false, narrowed := true }
def FnExactJoinNetsUptoSaid : Prop := fnExactJoinNetsUptoRow.holds Try.pinned (OpenSpec.upto fnExactJoinNetsSpec)

/-- 'laws.FnExactOwnTable', WHERE WHAT IT READS IS OF BULK AT MOST 1048576: true; the input reads as it did. -/
def fnExactOwnTableUptoRow : OpenClaim := { program := "ytcpepepdinkioaa", sum := "9956ecbc411aa45b5c89c9ca02136dccc826fdd7b624f895ef6578a940b78462", func := "loop.example/g01135/laws.FnExactOwnTable", spec := "fnExactOwnTable", apart := false, narrowed := true }
def FnExactOwnTableUptoSaid : Prop := fnExactOwnTableUptoRow.holds Try.pinned (OpenSpec.upto fnExactOwnTableSpec)

/-- 'laws.FnExactPocketPlane', WHERE WHAT IT READS IS OF BULK AT MOST 1048576: true; the input reads as it did. -/
def fnExactPocketPlaneUptoRow : OpenClaim := { program := "ytcpepepdinkioaa", sum := "9956ecbc411aa45b5c89c9ca02136dccc826fdd7b624f895ef6578a940b78462", func := "loop.example/g01135/laws.FnExactPocketPlane", spec := "fnExactPocketPlane", apart := false, narrowed := true }
def FnExactPocketPlaneUptoSaid : Prop := fnExactPocketPlaneUptoRow.holds Try.pinned (OpenSpec.upto fnExactPocketPlaneSpec)

/-- 'laws.FnExactNegateNet', WHERE WHAT IT READS IS OF BULK AT MOST 1048576: true; the input reads as it did. -/
def fnExactNegateNetUptoRow : OpenClaim := { program := "ytcpepepdinkioaa", sum := "9956ecbc411aa45b5c89c9ca02136dccc826fdd7b624f895ef6578a940b78462", func := "loop.example/g01135/laws.FnExactNegateNet", spec := "fnExactNegateNet", apart := false, narrowed := true }
def FnExactNegateNetUptoSaid : Prop := fnExactNegateNetUptoRow.holds Try.pinned (OpenSpec.upto fnExactNegateNetSpec)

/-- 'laws.FnExactPanelOf', WHERE WHAT IT READS IS OF BULK AT MOST 1048576: true; the input reads as it did. -/
def fnExactPanelOfUptoRow : OpenClaim := { program := "ytcpepepdinkioaa", sum := "9956ecbc411aa45b5c89c9ca02136dccc826fdd7b624f895ef6578a940b78462", func := "loop.example/g01135/laws.FnExactPanelOf", spec := "fnExactPanelOf", apart := false, narrowed := true }
def FnExactPanelOfUptoSaid : Prop := fnExactPanelOfUptoRow.holds Try.pinned (OpenSpec.upto fnExactPanelOfSpec)

/-- 'laws.FnExactNewConsole', WHERE WHAT IT READS IS OF BULK AT MOST 1048576: true; the input reads as it did. -/
def fnExactNewConsoleUptoRow : OpenClaim := { program := "ytcpepepdinkioaa", sum := "9956ecbc411aa45b5c89c9ca02136dccc826fdd7b624f895ef6578a940b78462", func := "loop.example/g01135/laws.FnExactNewConsole", spec := "fnExactNewConsole", apart := false, narrowed := true }
def FnExactNewConsoleUptoSaid : Prop := fnExactNewConsoleUptoRow.holds Try.pinned (OpenSpec.upto fnExactNewConsoleSpec)

end Rows
end Go.Proofs.Ytcpepepdinkioaa
