/- The law FnExactEncodeRecord: for every number and record it returns true. -/
import Derived.Test.YthgjpoeneihmnaaFnSJ
namespace Go.Proofs.Ythgjpoeneihmnaa.Ev
open Go
set_option linter.unusedVariables false
set_option linter.unusedSimpArgs false
set_option maxRecDepth 100000
set_option exponentiation.threshold 100000

theorem sz2_of {a b : Nat} (h : 0 ≤ szAll [a, b] 1048576) : a ≤ 1048576 ∧ b ≤ 1048576 := by
  obtain ⟨_, h2⟩ := szAll_le (by decide) h
  have := h2 a (by simp)
  have := h2 b (by simp)
  omega
theorem lim_str {x : ByteArray} (h : WfD .str x) : x.data.toList.length ≤ maxL := by
  have h : x.size ≤ 140737488351232 := h
  show x.size ≤ _
  unfold maxL; omega

end Go.Proofs.Ythgjpoeneihmnaa.Ev
