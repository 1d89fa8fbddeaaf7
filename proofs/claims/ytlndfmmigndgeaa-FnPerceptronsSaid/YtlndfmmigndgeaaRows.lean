/-
  No cell of these rows narrows 'for every input' (looked for: loops, veiled, ifaces, maps, wideKeys, modest, calm, conditions, laid).
  DERIVED. THE GIVEN ROWS OF THIS SEAT. 6 by the template 'for every input the law returns true; each argument reads behind the call as it read before'; 0 by the template 'total and deterministic' (their statements: YtlndfmmigndgeaaTotals.lean).
  GIVEN WITH THE SEED: the statements are not yours to turn. If you find one false, say at which input.
  Laid BY PROGRAM, IN A SANDBOX (cutbox-rows.mjs): the forced cells as the released guide's own fill.sh prints them over the translation 10aca7eb49eb1c7e… (all of the seat's roots in one cut). By AI agents, Wed Nov 11 2026. No macro, syntax, notation, axiom, sorry.
-/
import Derived.Test.YtlndfmmigndgeaaChecked
import GoSem.Claim
import GoSem.ClaimJoined
import GoSem.ClaimMapViews
import Derived.JoinedTies
import Derived.KernelRfl
namespace Go.Proofs.Ytlndfmmigndgeaa
/- THE CELL 'sum', in the pinned program and in every row, IS THE sha256 OF THE DUMP (.gsa) THAT YtlndfmmigndgeaaProg.lean LOADS. Nothing in Lean hashes anything: it is a label: what it is worth is what the hold of that sum in a sandbox is worth. -/
noncomputable def Try.pinned : Pinned := { name := "ytlndfmmigndgeaa", sum := "10aca7eb49eb1c7ef58dd285b93ed712518b5d2931a252f52ea39387b2ed7c83", checked := Try.checked }
namespace Rows
def none {H : Type} : Left H := { results := [], args := [] }

/-- 'laws.FnExperts': WHATEVER THE INPUT: true; the input reads as it did. -/
def fnExpertsSpec : ChangeSpec := { name := "fnExperts", fn := fun _ => fun
  | [d] => { results := [.lit (.bool true)], args := [d] }
  | _ => none }
def fnExpertsRow : OpenClaim := { program := "ytlndfmmigndgeaa", sum := "10aca7eb49eb1c7ef58dd285b93ed712518b5d2931a252f52ea39387b2ed7c83", func := "loop.example/g01135/laws.FnExperts", spec := "fnExperts", unfollowed := true, recurses := true, apart := false }
def FnExpertsSaid : Prop := fnExpertsRow.holds Try.pinned (OpenSpec.ofChange fnExpertsSpec)

/-- ITS FALSE NEIGHBOUR: 'it returns false'. Refute it at one input. -/
def fnExpertsWrong : ChangeSpec := { name := "fnExperts", fn := fun _ => fun
  | [d] => { results := [.lit (.bool false)], args := [d] }
  | _ => none }
def FnExpertsWrongFalsely : Prop := fnExpertsRow.holds Try.pinned (OpenSpec.ofChange fnExpertsWrong)

/-- 'laws.FnNets': WHATEVER THE INPUT: true; the input reads as it did. -/
def fnNetsSpec : ChangeSpec := { name := "fnNets", fn := fun _ => fun
  | [d] => { results := [.lit (.bool true)], args := [d] }
  | _ => none }
def fnNetsRow : OpenClaim := { program := "ytlndfmmigndgeaa", sum := "10aca7eb49eb1c7ef58dd285b93ed712518b5d2931a252f52ea39387b2ed7c83", func := "loop.example/g01135/laws.FnNets", spec := "fnNets", apart := false }
def FnNetsSaid : Prop := fnNetsRow.holds Try.pinned (OpenSpec.ofChange fnNetsSpec)

/-- ITS FALSE NEIGHBOUR: 'it returns false'. Refute it at one input. -/
def fnNetsWrong : ChangeSpec := { name := "fnNets", fn := fun _ => fun
  | [d] => { results := [.lit (.bool false)], args := [d] }
  | _ => none }
def FnNetsWrongFalsely : Prop := fnNetsRow.holds Try.pinned (OpenSpec.ofChange fnNetsWrong)

/-- 'laws.FnPerceptrons': WHATEVER THE INPUT: true; the input reads as it did. -/
def fnPerceptronsSpec : ChangeSpec := { name := "fnPerceptrons", fn := fun _ => fun
  | [d] => { results := [.lit (.bool true)], args := [d] }
  | _ => none }
def fnPerceptronsRow : OpenClaim := { program := "ytlndfmmigndgeaa", sum := "10aca7eb49eb1c7ef58dd285b93ed712518b5d2931a252f52ea39387b2ed7c83", func := "loop.example/g01135/laws.FnPerceptrons", spec := "fnPerceptrons", apart := false }
def FnPerceptronsSaid : Prop := fnPerceptronsRow.holds Try.pinned (OpenSpec.ofChange fnPerceptronsSpec)

/-- ITS FALSE NEIGHBOUR: 'it returns false'. Refute it at one input. -/
def fnPerceptronsWrong : ChangeSpec := { name := "fnPerceptrons", fn := fun _ => fun
  | [d] => { results := [.lit (.bool false)], args := [d] }
  | _ => none }
def FnPerceptronsWrongFalsely : Prop := fnPerceptronsRow.holds Try.pinned (OpenSpec.ofChange fnPerceptronsWrong)

/-- 'laws.FnSchoolTables': WHATEVER THE INPUT: true; the input reads as it did. -/
def fnSchoolTablesSpec : ChangeSpec := { name := "fnSchoolTables", fn := fun _ => fun
  | [d] => { results := [.lit (.bool true)], args := [d] }
  | _ => none }
def fnSchoolTablesRow : OpenClaim := { program := "ytlndfmmigndgeaa", sum := "10aca7eb49eb1c7ef58dd285b93ed712518b5d2931a252f52ea39387b2ed7c83", func := "loop.example/g01135/laws.FnSchoolTables", spec := "fnSchoolTables", unfollowed := true, recurses := true, apart := false }
def FnSchoolTablesSaid : Prop := fnSchoolTablesRow.holds Try.pinned (OpenSpec.ofChange fnSchoolTablesSpec)

/-- ITS FALSE NEIGHBOUR: 'it returns false'. Refute it at one input. -/
def fnSchoolTablesWrong : ChangeSpec := { name := "fnSchoolTables", fn := fun _ => fun
  | [d] => { results := [.lit (.bool false)], args := [d] }
  | _ => none }
def FnSchoolTablesWrongFalsely : Prop := fnSchoolTablesRow.holds Try.pinned (OpenSpec.ofChange fnSchoolTablesWrong)

/-- 'laws.FnGates': WHATEVER THE INPUT: true; the input reads as it did. -/
def fnGatesSpec : ChangeSpec := { name := "fnGates", fn := fun _ => fun
  | [d] => { results := [.lit (.bool true)], args := [d] }
  | _ => none }
def fnGatesRow : OpenClaim := { program := "ytlndfmmigndgeaa", sum := "10aca7eb49eb1c7ef58dd285b93ed712518b5d2931a252f52ea39387b2ed7c83", func := "loop.example/g01135/laws.FnGates", spec := "fnGates", unfollowed := true, recurses := true, apart := false }
def FnGatesSaid : Prop := fnGatesRow.holds Try.pinned (OpenSpec.ofChange fnGatesSpec)

/-- ITS FALSE NEIGHBOUR: 'it returns false'. Refute it at one input. -/
def fnGatesWrong : ChangeSpec := { name := "fnGates", fn := fun _ => fun
  | [d] => { results := [.lit (.bool false)], args := [d] }
  | _ => none }
def FnGatesWrongFalsely : Prop := fnGatesRow.holds Try.pinned (OpenSpec.ofChange fnGatesWrong)

/-- 'laws.FnSwitches': WHATEVER THE INPUT: true; the input reads as it did. -/
def fnSwitchesSpec : ChangeSpec := { name := "fnSwitches", fn := fun _ => fun
  | [d] => { results := [.lit (.bool true)], args := [d] }
  | _ => none }
def fnSwitchesRow : OpenClaim := { program := "ytlndfmmigndgeaa", sum := "10aca7eb49eb1c7ef58dd285b93ed712518b5d2931a252f52ea39387b2ed7c83", func := "loop.example/g01135/laws.FnSwitches", spec := "fnSwitches", apart := false }
def FnSwitchesSaid : Prop := fnSwitchesRow.holds Try.pinned (OpenSpec.ofChange fnSwitchesSpec)

/-- ITS FALSE NEIGHBOUR: 'it returns false'. Refute it at one input. -/
def fnSwitchesWrong : ChangeSpec := { name := "fnSwitches", fn := fun _ => fun
  | [d] => { results := [.lit (.bool false)], args := [d] }
  | _ => none }
def FnSwitchesWrongFalsely : Prop := fnSwitchesRow.holds Try.pinned (OpenSpec.ofChange fnSwitchesWrong)

/- THE SECOND FORM. 'bulk': how many values and letters a reading holds, each counted each time it is reached (what is shared counts as often as it is met; a slice's spare places count too). A statement '..UptoSaid' is the law's where the arguments, and the package variables that the reading takes, are together of bulk at most 1048576: NARROWER than '..Said'. Prove '..Said' where nothing that the law and all that it calls make is longer than what came in: it says more and counts as full. Else prove '..UptoSaid'. A law counts once. -/
mutual
def uptoBulk {H : Type} : DataW H → Nat
  | .lit (.string bytes) => bytes.length + 1
  | .lit _ => 1
  | .nil => 1
  | .ptr d => uptoBulk d + 1
  | .slice elems spare => uptoBulkAll elems + uptoBulkAll spare + 1
  | .agg parts => uptoBulkAll parts + 1
  | .iface _ d => uptoBulk d + 1
  | .map entries => uptoBulkEntries entries + 1
  | .held _ => 1
def uptoBulkAll {H : Type} : List (DataW H) → Nat
  | [] => 0
  | d :: r => uptoBulk d + uptoBulkAll r
def uptoBulkEntries {H : Type} : List (Lit × DataW H) → Nat
  | [] => 0
  | x :: r => uptoBulkEntry x + uptoBulkEntries r
def uptoBulkEntry {H : Type} : Lit × DataW H → Nat
  | (.string bytes, d) => bytes.length + uptoBulk d + 1
  | (_, d) => uptoBulk d + 1
 end
def uptoSmall : (H : Type) → List (DataW H) → Bool := fun _ ds => decide (uptoBulkAll ds ≤ 1048576)
def OpenSpec.upto (s : _root_.Go.ChangeSpec) : _root_.Go.OpenSpec := { _root_.Go.OpenSpec.ofChange s with cond := some uptoSmall }

/-- 'laws.FnExperts', WHERE WHAT IT READS IS OF BULK AT MOST 1048576: true; the input reads as it did. -/
def fnExpertsUptoRow : OpenClaim := { program := "ytlndfmmigndgeaa", sum := "10aca7eb49eb1c7ef58dd285b93ed712518b5d2931a252f52ea39387b2ed7c83", func := "loop.example/g01135/laws.FnExperts", spec := "fnExperts", unfollowed := true, recurses := true, apart := false, narrowed := true }
def FnExpertsUptoSaid : Prop := fnExpertsUptoRow.holds Try.pinned (OpenSpec.upto fnExpertsSpec)

/-- 'laws.FnNets', WHERE WHAT IT READS IS OF BULK AT MOST 1048576: true; the input reads as it did. -/
def fnNetsUptoRow : OpenClaim := { program := "ytlndfmmigndgeaa", sum := "10aca7eb49eb1c7ef58dd285b93ed712518b5d2931a252f52ea39387b2ed7c83", func := "loop.example/g01135/laws.FnNets", spec := "fnNets", apart := false, narrowed := true }
def FnNetsUptoSaid : Prop := fnNetsUptoRow.holds Try.pinned (OpenSpec.upto fnNetsSpec)

/-- 'laws.FnPerceptrons', WHERE WHAT IT READS IS OF BULK AT MOST 1048576: true; the input reads as it did. -/
def fnPerceptronsUptoRow : OpenClaim := { program := "ytlndfmmigndgeaa", sum := "10aca7eb49eb1c7ef58dd285b93ed712518b5d2931a252f52ea39387b2ed7c83", func := "loop.example/g01135/laws.FnPerceptrons", spec := "fnPerceptrons", apart := false, narrowed := true }
def FnPerceptronsUptoSaid : Prop := fnPerceptronsUptoRow.holds Try.pinned (OpenSpec.upto fnPerceptronsSpec)

/-- 'laws.FnSchoolTables', WHERE WHAT IT READS IS OF BULK AT MOST 1048576: true; the input reads as it did. -/
def fnSchoolTablesUptoRow : OpenClaim := { program := "ytlndfmmigndgeaa", sum := "10aca7eb49eb1c7ef58dd285b93ed712518b5d2931a252f52ea39387b2ed7c83", func := "loop.example/g01135/laws.FnSchoolTables", spec := "fnSchoolTables", unfollowed := true, recurses := true, apart := false, narrowed := true }
def FnSchoolTablesUptoSaid : Prop := fnSchoolTablesUptoRow.holds Try.pinned (OpenSpec.upto fnSchoolTablesSpec)

/-- 'laws.FnGates', WHERE WHAT IT READS IS OF BULK AT MOST 1048576: true; the input reads as it did. -/
def fnGatesUptoRow : OpenClaim := { program := "ytlndfmmigndgeaa", sum := "10aca7eb49eb1c7ef58dd285b93ed712518b5d2931a252f52ea39387b2ed7c83", func := "loop.example/g01135/laws.FnGates", spec := "fnGates", unfollowed := true, recurses := true, apart := false, narrowed := true }
def FnGatesUptoSaid : Prop := fnGatesUptoRow.holds Try.pinned (OpenSpec.upto fnGatesSpec)

/-- 'laws.FnSwitches', WHERE WHAT IT READS IS OF BULK AT MOST 1048576: true; the input reads as it did. -/
def fnSwitchesUptoRow : OpenClaim := { program := "ytlndfmmigndgeaa", sum := "10aca7eb49eb1c7ef58dd285b93ed712518b5d2931a252f52ea39387b2ed7c83", func := "loop.example/g01135/laws.FnSwitches", spec := "fnSwitches", apart := false, narrowed := true }
def FnSwitchesUptoSaid : Prop := fnSwitchesUptoRow.holds Try.pinned (OpenSpec.upto fnSwitchesSpec)

end Rows
end Go.Proofs.Ytlndfmmigndgeaa
