/-
  No cell of these rows narrows 'for every input' (looked for: loops, veiled, ifaces, maps, wideKeys, modest, calm, conditions, laid).
  DERIVED. THE GIVEN ROWS OF THIS SEAT. 12 by the template 'for every input the law returns true; each argument reads behind the call as it read before'; 0 by the template 'total and deterministic' (their statements: YtgebhckfdcajoaaTotals.lean).
  GIVEN WITH THE SEED: the statements are not yours to turn. If you find one false, say at which input.
  Laid BY PROGRAM, IN A SANDBOX (cutbox-rows.mjs): the forced cells as the released guide's own fill.sh prints them over the translation 2ad8d81b2177261a… (all of the seat's roots in one cut). By AI agents, Wed Nov 11 2026. No macro, syntax, notation, axiom, sorry.
-/
import Derived.Test.YtgebhckfdcajoaaChecked
import GoSem.Claim
import GoSem.ClaimJoined
import GoSem.ClaimMapViews
import Derived.JoinedTies
import Derived.KernelRfl
namespace Go.Proofs.Ytgebhckfdcajoaa
/- THE CELL 'sum', in the pinned program and in every row, IS THE sha256 OF THE DUMP (.gsa) THAT YtgebhckfdcajoaaProg.lean LOADS. Nothing in Lean hashes anything: it is a label: what it is worth is what the hold of that sum in a sandbox is worth. -/
noncomputable def Try.pinned : Pinned := { name := "ytgebhckfdcajoaa", sum := "2ad8d81b2177261adfe6be43184cf2da1b51d62a1e6c967d72eef03c3d2a3326", checked := Try.checked }
namespace Rows
def none {H : Type} : Left H := { results := [], args := [] }

/-- 'laws.FnExactNewSchool': WHATEVER THE INPUT: true; the input reads as it did. -/
def fnExactNewSchoolSpec : ChangeSpec := { name := "fnExactNewSchool", fn := fun _ => fun
  | [d] => { results := [.lit (.bool true)], args := [d] }
  | _ => none }
def fnExactNewSchoolRow : OpenClaim := { program := "ytgebhckfdcajoaa", sum := "2ad8d81b2177261adfe6be43184cf2da1b51d62a1e6c967d72eef03c3d2a3326", func := "loop.example/g01135/laws.FnExactNewSchool", spec := "fnExactNewSchool", plainKeys := false, apart := false }
def FnExactNewSchoolSaid : Prop := fnExactNewSchoolRow.holds Try.pinned (OpenSpec.ofChange fnExactNewSchoolSpec)

/-- ITS FALSE NEIGHBOUR: 'it returns false'. Refute it at one input. -/
def fnExactNewSchoolWrong : ChangeSpec := { name := "fnExactNewSchool", fn := fun _ => fun
  | [d] => { results := [.lit (.bool false)], args := [d] }
  | _ => none }
def FnExactNewSchoolWrongFalsely : Prop := fnExactNewSchoolRow.holds Try.pinned (OpenSpec.ofChange fnExactNewSchoolWrong)

/-- 'laws.FnExactStepPerceptron': WHATEVER THE INPUT: true; the input reads as it did. -/
def fnExactStepPerceptronSpec : ChangeSpec := { name := "fnExactStepPerceptron", fn := fun _ => fun
  | [d1, d2, d3] => { results := [.lit (.bool true)], args := [d1, d2, d3] }
  | _ => none }
def fnExactStepPerceptronRow : OpenClaim := { program := "ytgebhckfdcajoaa", sum := "2ad8d81b2177261adfe6be43184cf2da1b51d62a1e6c967d72eef03c3d2a3326", func := "loop.example/g01135/laws.FnExactStepPerceptron", spec := "fnExactStepPerceptron", plainKeys := false, apart := false }
def FnExactStepPerceptronSaid : Prop := fnExactStepPerceptronRow.holds Try.pinned (OpenSpec.ofChange fnExactStepPerceptronSpec)

/-- ITS FALSE NEIGHBOUR: 'it returns false'. Refute it at one input. -/
def fnExactStepPerceptronWrong : ChangeSpec := { name := "fnExactStepPerceptron", fn := fun _ => fun
  | [d1, d2, d3] => { results := [.lit (.bool false)], args := [d1, d2, d3] }
  | _ => none }
def FnExactStepPerceptronWrongFalsely : Prop := fnExactStepPerceptronRow.holds Try.pinned (OpenSpec.ofChange fnExactStepPerceptronWrong)

/-- 'laws.FnExactIsValidRecord': WHATEVER THE INPUT: true; the input reads as it did. -/
def fnExactIsValidRecordSpec : ChangeSpec := { name := "fnExactIsValidRecord", fn := fun _ => fun
  | [d] => { results := [.lit (.bool true)], args := [d] }
  | _ => none }
def fnExactIsValidRecordRow : OpenClaim := { program := "ytgebhckfdcajoaa", sum := "2ad8d81b2177261adfe6be43184cf2da1b51d62a1e6c967d72eef03c3d2a3326", func := "loop.example/g01135/laws.FnExactIsValidRecord", spec := "fnExactIsValidRecord", inPlace := ["internal/bytealg.IndexByteString", "internal/bytealg.IndexString"], named := ["internal/bytealg.MaxLen"], plainKeys := false, apart := false }
def FnExactIsValidRecordSaid : Prop := fnExactIsValidRecordRow.holds Try.pinned (OpenSpec.ofChange fnExactIsValidRecordSpec)

/-- ITS FALSE NEIGHBOUR: 'it returns false'. Refute it at one input. -/
def fnExactIsValidRecordWrong : ChangeSpec := { name := "fnExactIsValidRecord", fn := fun _ => fun
  | [d] => { results := [.lit (.bool false)], args := [d] }
  | _ => none }
def FnExactIsValidRecordWrongFalsely : Prop := fnExactIsValidRecordRow.holds Try.pinned (OpenSpec.ofChange fnExactIsValidRecordWrong)

/-- 'laws.FnExactIsSchool': WHATEVER THE INPUT: true; the input reads as it did. -/
def fnExactIsSchoolSpec : ChangeSpec := { name := "fnExactIsSchool", fn := fun _ => fun
  | [d] => { results := [.lit (.bool true)], args := [d] }
  | _ => none }
def fnExactIsSchoolRow : OpenClaim := { program := "ytgebhckfdcajoaa", sum := "2ad8d81b2177261adfe6be43184cf2da1b51d62a1e6c967d72eef03c3d2a3326", func := "loop.example/g01135/laws.FnExactIsSchool", spec := "fnExactIsSchool", plainKeys := false, apart := false }
def FnExactIsSchoolSaid : Prop := fnExactIsSchoolRow.holds Try.pinned (OpenSpec.ofChange fnExactIsSchoolSpec)

/-- ITS FALSE NEIGHBOUR: 'it returns false'. Refute it at one input. -/
def fnExactIsSchoolWrong : ChangeSpec := { name := "fnExactIsSchool", fn := fun _ => fun
  | [d] => { results := [.lit (.bool false)], args := [d] }
  | _ => none }
def FnExactIsSchoolWrongFalsely : Prop := fnExactIsSchoolRow.holds Try.pinned (OpenSpec.ofChange fnExactIsSchoolWrong)

/-- 'laws.FnExactLiftSample': WHATEVER THE INPUT: true; the input reads as it did. -/
def fnExactLiftSampleSpec : ChangeSpec := { name := "fnExactLiftSample", fn := fun _ => fun
  | [d] => { results := [.lit (.bool true)], args := [d] }
  | _ => none }
def fnExactLiftSampleRow : OpenClaim := { program := "ytgebhckfdcajoaa", sum := "2ad8d81b2177261adfe6be43184cf2da1b51d62a1e6c967d72eef03c3d2a3326", func := "loop.example/g01135/laws.FnExactLiftSample", spec := "fnExactLiftSample", plainKeys := false, apart := false }
def FnExactLiftSampleSaid : Prop := fnExactLiftSampleRow.holds Try.pinned (OpenSpec.ofChange fnExactLiftSampleSpec)

/-- ITS FALSE NEIGHBOUR: 'it returns false'. Refute it at one input. -/
def fnExactLiftSampleWrong : ChangeSpec := { name := "fnExactLiftSample", fn := fun _ => fun
  | [d] => { results := [.lit (.bool false)], args := [d] }
  | _ => none }
def FnExactLiftSampleWrongFalsely : Prop := fnExactLiftSampleRow.holds Try.pinned (OpenSpec.ofChange fnExactLiftSampleWrong)

/-- 'laws.FnExactJoinSamples': WHATEVER THE INPUT: true; the input reads as it did. -/
def fnExactJoinSamplesSpec : ChangeSpec := { name := "fnExactJoinSamples", fn := fun _ => fun
  | [d1, d2] => { results := [.lit (.bool true)], args := [d1, d2] }
  | _ => none }
def fnExactJoinSamplesRow : OpenClaim := { program := "ytgebhckfdcajoaa", sum := "2ad8d81b2177261adfe6be43184cf2da1b51d62a1e6c967d72eef03c3d2a3326", func := "loop.example/g01135/laws.FnExactJoinSamples", spec := "fnExactJoinSamples", plainKeys := false, apart := false }
def FnExactJoinSamplesSaid : Prop := fnExactJoinSamplesRow.holds Try.pinned (OpenSpec.ofChange fnExactJoinSamplesSpec)

/-- ITS FALSE NEIGHBOUR: 'it returns false'. Refute it at one input. -/
def fnExactJoinSamplesWrong : ChangeSpec := { name := "fnExactJoinSamples", fn := fun _ => fun
  | [d1, d2] => { results := [.lit (.bool false)], args := [d1, d2] }
  | _ => none }
def FnExactJoinSamplesWrongFalsely : Prop := fnExactJoinSamplesRow.holds Try.pinned (OpenSpec.ofChange fnExactJoinSamplesWrong)

/-- 'laws.FnExactTurnLabels': WHATEVER THE INPUT: true; the input reads as it did. -/
def fnExactTurnLabelsSpec : ChangeSpec := { name := "fnExactTurnLabels", fn := fun _ => fun
  | [d] => { results := [.lit (.bool true)], args := [d] }
  | _ => none }
def fnExactTurnLabelsRow : OpenClaim := { program := "ytgebhckfdcajoaa", sum := "2ad8d81b2177261adfe6be43184cf2da1b51d62a1e6c967d72eef03c3d2a3326", func := "loop.example/g01135/laws.FnExactTurnLabels", spec := "fnExactTurnLabels", plainKeys := false, apart := false }
def FnExactTurnLabelsSaid : Prop := fnExactTurnLabelsRow.holds Try.pinned (OpenSpec.ofChange fnExactTurnLabelsSpec)

/-- ITS FALSE NEIGHBOUR: 'it returns false'. Refute it at one input. -/
def fnExactTurnLabelsWrong : ChangeSpec := { name := "fnExactTurnLabels", fn := fun _ => fun
  | [d] => { results := [.lit (.bool false)], args := [d] }
  | _ => none }
def FnExactTurnLabelsWrongFalsely : Prop := fnExactTurnLabelsRow.holds Try.pinned (OpenSpec.ofChange fnExactTurnLabelsWrong)

/-- 'laws.FnMistakeBounds': WHATEVER THE INPUT: true; the input reads as it did. -/
def fnMistakeBoundsSpec : ChangeSpec := { name := "fnMistakeBounds", fn := fun _ => fun
  | [d] => { results := [.lit (.bool true)], args := [d] }
  | _ => none }
def fnMistakeBoundsRow : OpenClaim := { program := "ytgebhckfdcajoaa", sum := "2ad8d81b2177261adfe6be43184cf2da1b51d62a1e6c967d72eef03c3d2a3326", func := "loop.example/g01135/laws.FnMistakeBounds", spec := "fnMistakeBounds", unfollowed := true, recurses := true, plainKeys := false, apart := false }
def FnMistakeBoundsSaid : Prop := fnMistakeBoundsRow.holds Try.pinned (OpenSpec.ofChange fnMistakeBoundsSpec)

/-- ITS FALSE NEIGHBOUR: 'it returns false'. Refute it at one input. -/
def fnMistakeBoundsWrong : ChangeSpec := { name := "fnMistakeBounds", fn := fun _ => fun
  | [d] => { results := [.lit (.bool false)], args := [d] }
  | _ => none }
def FnMistakeBoundsWrongFalsely : Prop := fnMistakeBoundsRow.holds Try.pinned (OpenSpec.ofChange fnMistakeBoundsWrong)

/-- 'laws.FnExactMoveSample': WHATEVER THE INPUT: true; the input reads as it did. -/
def fnExactMoveSampleSpec : ChangeSpec := { name := "fnExactMoveSample", fn := fun _ => fun
  | [d1, d2] => { results := [.lit (.bool true)], args := [d1, d2] }
  | _ => none }
def fnExactMoveSampleRow : OpenClaim := { program := "ytgebhckfdcajoaa", sum := "2ad8d81b2177261adfe6be43184cf2da1b51d62a1e6c967d72eef03c3d2a3326", func := "loop.example/g01135/laws.FnExactMoveSample", spec := "fnExactMoveSample", plainKeys := false, apart := false }
def FnExactMoveSampleSaid : Prop := fnExactMoveSampleRow.holds Try.pinned (OpenSpec.ofChange fnExactMoveSampleSpec)

/-- ITS FALSE NEIGHBOUR: 'it returns false'. Refute it at one input. -/
def fnExactMoveSampleWrong : ChangeSpec := { name := "fnExactMoveSample", fn := fun _ => fun
  | [d1, d2] => { results := [.lit (.bool false)], args := [d1, d2] }
  | _ => none }
def FnExactMoveSampleWrongFalsely : Prop := fnExactMoveSampleRow.holds Try.pinned (OpenSpec.ofChange fnExactMoveSampleWrong)

/-- 'laws.FnExactFollowingSays': WHATEVER THE INPUT: true; the input reads as it did. -/
def fnExactFollowingSaysSpec : ChangeSpec := { name := "fnExactFollowingSays", fn := fun _ => fun
  | [d] => { results := [.lit (.bool true)], args := [d] }
  | _ => none }
def fnExactFollowingSaysRow : OpenClaim := { program := "ytgebhckfdcajoaa", sum := "2ad8d81b2177261adfe6be43184cf2da1b51d62a1e6c967d72eef03c3d2a3326", func := "loop.example/g01135/laws.FnExactFollowingSays", spec := "fnExactFollowingSays", unfollowed := true, recurses := true, plainKeys := false, apart := false }
def FnExactFollowingSaysSaid : Prop := fnExactFollowingSaysRow.holds Try.pinned (OpenSpec.ofChange fnExactFollowingSaysSpec)

/-- ITS FALSE NEIGHBOUR: 'it returns false'. Refute it at one input. -/
def fnExactFollowingSaysWrong : ChangeSpec := { name := "fnExactFollowingSays", fn := fun _ => fun
  | [d] => { results := [.lit (.bool false)], args := [d] }
  | _ => none }
def FnExactFollowingSaysWrongFalsely : Prop := fnExactFollowingSaysRow.holds Try.pinned (OpenSpec.ofChange fnExactFollowingSaysWrong)

/-- 'laws.FnExactDuelSplit': WHATEVER THE INPUT: true; the input reads as it did. -/
def fnExactDuelSplitSpec : ChangeSpec := { name := "fnExactDuelSplit", fn := fun _ => fun
  | [d] => { results := [.lit (.bool true)], args := [d] }
  | _ => none }
def fnExactDuelSplitRow : OpenClaim := { program := "ytgebhckfdcajoaa", sum := "2ad8d81b2177261adfe6be43184cf2da1b51d62a1e6c967d72eef03c3d2a3326", func := "loop.example/g01135/laws.FnExactDuelSplit", spec := "fnExactDuelSplit", unfollowed := true, recurses := true, plainKeys := false, apart := false }
def FnExactDuelSplitSaid : Prop := fnExactDuelSplitRow.holds Try.pinned (OpenSpec.ofChange fnExactDuelSplitSpec)

/-- ITS FALSE NEIGHBOUR: 'it returns false'. Refute it at one input. -/
def fnExactDuelSplitWrong : ChangeSpec := { name := "fnExactDuelSplit", fn := fun _ => fun
  | [d] => { results := [.lit (.bool false)], args := [d] }
  | _ => none }
def FnExactDuelSplitWrongFalsely : Prop := fnExactDuelSplitRow.holds Try.pinned (OpenSpec.ofChange fnExactDuelSplitWrong)

/-- 'laws.FnExactKernelMistakes': WHATEVER THE INPUT: true; the input reads as it did. -/
def fnExactKernelMistakesSpec : ChangeSpec := { name := "fnExactKernelMistakes", fn := fun _ => fun
  | [d1, d2, d3] => { results := [.lit (.bool true)], args := [d1, d2, d3] }
  | _ => none }
def fnExactKernelMistakesRow : OpenClaim := { program := "ytgebhckfdcajoaa", sum := "2ad8d81b2177261adfe6be43184cf2da1b51d62a1e6c967d72eef03c3d2a3326", func := "loop.example/g01135/laws.FnExactKernelMistakes", spec := "fnExactKernelMistakes", unfollowed := true, recurses := true, plainKeys := false, apart := false }
def FnExactKernelMistakesSaid : Prop := fnExactKernelMistakesRow.holds Try.pinned (OpenSpec.ofChange fnExactKernelMistakesSpec)

/-- ITS FALSE NEIGHBOUR: 'it returns false'. Refute it at one input. -/
def fnExactKernelMistakesWrong : ChangeSpec := { name := "fnExactKernelMistakes", fn := fun _ => fun
  | [d1, d2, d3] => { results := [.lit (.bool false)], args := [d1, d2, d3] }
  | _ => none }
def FnExactKernelMistakesWrongFalsely : Prop := fnExactKernelMistakesRow.holds Try.pinned (OpenSpec.ofChange fnExactKernelMistakesWrong)

/- THE SECOND FORM. 'bulk': how many values and letters a reading holds, each counted each time it is reached (what is shared counts as often as it is met; a slice's spare places count too). A statement '..UptoSaid' is the law's where the arguments, and the package variables that the reading takes, are together of bulk at most 1048576: NARROWER than '..Said'. Prove '..Said' where nothing that the law and all that it calls make is longer than what came in: it says more and counts as full. Else prove '..UptoSaid'. A law counts once. -/
mutual
def uptoBulk {H : Type} : DataW H → Nat
  | .lit (.string bytes) => bytes.length + 1
  | .lit _ => 1
  | .nil => 1
  | .ptr d => uptoBulk d + 1
  | .slice elems spare => uptoBulkAll elems + uptoBulkAll spare + 1
  | .agg parts => uptoBulkAll parts + 1
  | .iface _ d => uptoBulk d + 1
  | .map entries => uptoBulkEntries entries + 1
  | .held _ => 1
def uptoBulkAll {H : Type} : List (DataW H) → Nat
  | [] => 0
  | d :: r => uptoBulk d + uptoBulkAll r
def uptoBulkEntries {H : Type} : List (Lit × DataW H) → Nat
  | [] => 0
  | x :: r => uptoBulkEntry x + uptoBulkEntries r
def uptoBulkEntry {H : Type} : Lit × DataW H → Nat
  | (.string bytes, d) => bytes.length + uptoBulk d + 1
  | (_, d) => uptoBulk d + 1
 end
def uptoSmall : (H : Type) → List (DataW H) → Bool := fun _ ds => decide (uptoBulkAll ds ≤ 1048576)
def OpenSpec.upto (s : _root_.Go.ChangeSpec) : _root_.Go.OpenSpec := { _root_.Go.OpenSpec.ofChange s with cond := some uptoSmall }

/-- 'laws.FnExactNewSchool', WHERE WHAT IT READS IS OF BULK AT MOST 1048576: true; the input reads as it did. -/
def fnExactNewSchoolUptoRow : OpenClaim := { program := "ytgebhckfdcajoaa", sum := "2ad8d81b2177261adfe6be43184cf2da1b51d62a1e6c967d72eef03c3d2a3326", func := "loop.example/g01135/laws.FnExactNewSchool", spec := "fnExactNewSchool", plainKeys := false, apart := false, narrowed := true }
def FnExactNewSchoolUptoSaid : Prop := fnExactNewSchoolUptoRow.holds Try.pinned (OpenSpec.upto fnExactNewSchoolSpec)

/-- 'laws.FnExactStepPerceptron', WHERE WHAT IT READS IS OF BULK AT MOST 1048576: true; the input reads as it did. -/
def fnExactStepPerceptronUptoRow : OpenClaim := { program := "ytgebhckfdcajoaa", sum := "2ad8d81b2177261adfe6be43184cf2da1b51d62a1e6c967d72eef03c3d2a3326", func := "loop.example/g01135/laws.FnExactStepPerceptron", spec := "fnExactStepPerceptron", plainKeys := false, apart := false, narrowed := true }
def FnExactStepPerceptronUptoSaid : Prop := fnExactStepPerceptronUptoRow.holds Try.pinned (OpenSpec.upto fnExactStepPerceptronSpec)

/-- 'laws.FnExactIsValidRecord', WHERE WHAT IT READS IS OF BULK AT MOST 1048576: true; the input reads as it did. -/
def fnExactIsValidRecordUptoRow : OpenClaim := { program := "ytgebhckfdcajoaa", sum := "2ad8d81b2177261adfe6be43184cf2da1b51d62a1e6c967d72eef03c3d2a3326", func := "loop.example/g01135/laws.FnExactIsValidRecord", spec := "fnExactIsValidRecord", inPlace := ["internal/bytealg.IndexByteString", "internal/bytealg.IndexString"], named := ["internal/bytealg.MaxLen"], plainKeys := false, apart := false, narrowed := true }
def FnExactIsValidRecordUptoSaid : Prop := fnExactIsValidRecordUptoRow.holds Try.pinned (OpenSpec.upto fnExactIsValidRecordSpec)

/-- 'laws.FnExactIsSchool', WHERE WHAT IT READS IS OF BULK AT MOST 1048576: true; the input reads as it did. -/
def fnExactIsSchoolUptoRow : OpenClaim := { program := "ytgebhckfdcajoaa", sum := "2ad8d81b2177261adfe6be43184cf2da1b51d62a1e6c967d72eef03c3d2a3326", func := "loop.example/g01135/laws.FnExactIsSchool", spec := "fnExactIsSchool", plainKeys := false, apart := false, narrowed := true }
def FnExactIsSchoolUptoSaid : Prop := fnExactIsSchoolUptoRow.holds Try.pinned (OpenSpec.upto fnExactIsSchoolSpec)

/-- 'laws.FnExactLiftSample', WHERE WHAT IT READS IS OF BULK AT MOST 1048576: true; the input reads as it did. -/
def fnExactLiftSampleUptoRow : OpenClaim := { program := "ytgebhckfdcajoaa", sum := "2ad8d81b2177261adfe6be43184cf2da1b51d62a1e6c967d72eef03c3d2a3326", func := "loop.example/g01135/laws.FnExactLiftSample", spec := "fnExactLiftSample", plainKeys := false, apart := false, narrowed := true }
def FnExactLiftSampleUptoSaid : Prop := fnExactLiftSampleUptoRow.holds Try.pinned (OpenSpec.upto fnExactLiftSampleSpec)

/-- 'laws.FnExactJoinSamples', WHERE WHAT IT READS IS OF BULK AT MOST 1048576: true; the input reads as it did. -/
def fnExactJoinSamplesUptoRow : OpenClaim := { program := "ytgebhckfdcajoaa", sum := "2ad8d81b2177261adfe6be43184cf2da1b51d62a1e6c967d72eef03c3d2a3326", func := "loop.example/g01135/laws.FnExactJoinSamples", spec := "fnExactJoinSamples", plainKeys := false, apart := false, narrowed := true }
def FnExactJoinSamplesUptoSaid : Prop := fnExactJoinSamplesUptoRow.holds Try.pinned (OpenSpec.upto fnExactJoinSamplesSpec)

/-- 'laws.FnExactTurnLabels', WHERE WHAT IT READS IS OF BULK AT MOST 1048576: true; the input reads as it did. -/
def fnExactTurnLabelsUptoRow : OpenClaim := { program := "ytgebhckfdcajoaa", sum := "2ad8d81b2177261adfe6be43184cf2da1b51d62a1e6c967d72eef03c3d2a3326", func := "loop.example/g01135/laws.FnExactTurnLabels", spec := "fnExactTurnLabels", plainKeys := false, apart := false, narrowed := true }
def FnExactTurnLabelsUptoSaid : Prop := fnExactTurnLabelsUptoRow.holds Try.pinned (OpenSpec.upto fnExactTurnLabelsSpec)

/-- 'laws.FnMistakeBounds', WHERE WHAT IT READS IS OF BULK AT MOST 1048576: true; the input reads as it did. -/
def fnMistakeBoundsUptoRow : OpenClaim := { program := "ytgebhckfdcajoaa", sum := "2ad8d81b2177261adfe6be43184cf2da1b51d62a1e6c967d72eef03c3d2a3326", func := "loop.example/g01135/laws.FnMistakeBounds", spec := "fnMistakeBounds", unfollowed := true, recurses := true, plainKeys := false, apart := false, narrowed := true }
def FnMistakeBoundsUptoSaid : Prop := fnMistakeBoundsUptoRow.holds Try.pinned (OpenSpec.upto fnMistakeBoundsSpec)

/-- 'laws.FnExactMoveSample', WHERE WHAT IT READS IS OF BULK AT MOST 1048576: true; the input reads as it did. -/
def fnExactMoveSampleUptoRow : OpenClaim := { program := "ytgebhckfdcajoaa", sum := "2ad8d81b2177261adfe6be43184cf2da1b51d62a1e6c967d72eef03c3d2a3326", func := "loop.example/g01135/laws.FnExactMoveSample", spec := "fnExactMoveSample", plainKeys := false, apart := false, narrowed := true }
def FnExactMoveSampleUptoSaid : Prop := fnExactMoveSampleUptoRow.holds Try.pinned (OpenSpec.upto fnExactMoveSampleSpec)

/-- 'laws.FnExactFollowingSays', WHERE WHAT IT READS IS OF BULK AT MOST 1048576: true; the input reads as it did. -/
def fnExactFollowingSaysUptoRow : OpenClaim := { program := "ytgebhckfdcajoaa", sum := "2ad8d81b2177261adfe6be43184cf2da1b51d62a1e6c967d72eef03c3d2a3326", func := "loop.example/g01135/laws.FnExactFollowingSays", spec := "fnExactFollowingSays", unfollowed := true, recurses := true, plainKeys := false, apart := false, narrowed := true }
def FnExactFollowingSaysUptoSaid : Prop := fnExactFollowingSaysUptoRow.holds Try.pinned (OpenSpec.upto fnExactFollowingSaysSpec)

/-- 'laws.FnExactDuelSplit', WHERE WHAT IT READS IS OF BULK AT MOST 1048576: true; the input reads as it did. -/
def fnExactDuelSplitUptoRow : OpenClaim := { program := "ytgebhckfdcajoaa", sum := "2ad8d81b2177261adfe6be43184cf2da1b51d62a1e6c967d72eef03c3d2a3326", func := "loop.example/g01135/laws.FnExactDuelSplit", spec := "fnExactDuelSplit", unfollowed := true, recurses := true, plainKeys := false, apart := false, narrowed := true }
def FnExactDuelSplitUptoSaid : Prop := fnExactDuelSplitUptoRow.holds Try.pinned (OpenSpec.upto fnExactDuelSplitSpec)

/-- 'laws.FnExactKernelMistakes', WHERE WHAT IT READS IS OF BULK AT MOST 1048576: true; the input reads as it did. -/
def fnExactKernelMistakesUptoRow : OpenClaim := { program := "ytgebhckfdcajoaa", sum := "2ad8d81b2177261adfe6be43184cf2da1b51d62a1e6c967d72eef03c3d2a3326", func := "loop.example/g01135/laws.FnExactKernelMistakes", spec := "fnExactKernelMistakes", unfollowed := true, recurses := true, plainKeys := false, apart := false, narrowed := true }
def FnExactKernelMistakesUptoSaid : Prop := fnExactKernelMistakesUptoRow.holds Try.pinned (OpenSpec.upto fnExactKernelMistakesSpec)

end Rows
end Go.Proofs.Ytgebhckfdcajoaa
