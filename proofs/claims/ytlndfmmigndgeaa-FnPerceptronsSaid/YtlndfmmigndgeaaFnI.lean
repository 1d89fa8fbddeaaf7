/- Joined samples. -/
import Derived.Test.YtlndfmmigndgeaaFnH
namespace Go.Proofs.Ytlndfmmigndgeaa.Ev
open Go
set_option linter.unusedVariables false
set_option linter.unusedSimpArgs false
set_option maxRecDepth 100000
set_option exponentiation.threshold 100000

theorem room_join {n m b : Nat} (h : n + m ≤ 1048576) (hb : b ≤ 4096) : (n + m) * b ≤ 140737488355328 := by
  have : (n + m) * b ≤ 1048578 * 4096 := Nat.mul_le_mul (by omega) hb
  omega
theorem len_join {n m : Nat} (h : n + m ≤ 1048576) : n + m ≤ maxLen := by simp [maxLen]; omega

def joined (a b : Sample) : Sample := (a.1 ++ b.1, a.2.1 ++ b.2.1, ())
def joinR (a b : Sample) : Sample × Bool × Unit :=
  if isSample a && (isSample b && isSample (joined a b)) then (joined a b, true, ()) else (zeroSample, false, ())
theorem joinR_no {a b : Sample} (h : (isSample a && (isSample b && isSample (joined a b))) = false) : joinR a b = (zeroSample, false, ()) := by unfold joinR; rw [h]; rfl
theorem joinR_yes {a b : Sample} (h : (isSample a && (isSample b && isSample (joined a b))) = true) : joinR a b = (joined a b, true, ()) := by unfold joinR; rw [h]; rfl

end Go.Proofs.Ytlndfmmigndgeaa.Ev

