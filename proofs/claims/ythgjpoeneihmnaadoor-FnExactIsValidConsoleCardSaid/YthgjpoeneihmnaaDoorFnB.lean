/- Numbers, lists, samples and planes: functions of the program and of the reference. -/
import Derived.Test.YthgjpoeneihmnaaDoorFnA
namespace Go.Proofs.YthgjpoeneihmnaaDoor.Ev
open Go
set_option linter.unusedVariables false
set_option linter.unusedSimpArgs false
set_option maxRecDepth 100000
set_option exponentiation.threshold 100000

theorem room_snoc {n b : Nat} (h : n ≤ 1048577) (hb : b ≤ 4096) : (n + 1) * b ≤ 140737488355328 := by
  have : (n + 1) * b ≤ 1048578 * 4096 := Nat.mul_le_mul (by omega) hb
  omega
theorem room_make {d : Int} {b : Nat} (h0 : 0 ≤ d) (h1 : d ≤ 1048577) (hb : b ≤ 4096) : 0 ≤ d ∧ d ≤ d ∧ d * (b : Int) ≤ 140737488355328 ∧ d ≤ maxInt := by
  refine ⟨h0, Int.le_refl _, ?_, by simp [maxInt]; omega⟩
  have : d * (b : Int) ≤ 1048577 * 4096 := Int.mul_le_mul h1 (by omega) (by omega) (by omega)
  omega
theorem len_snoc {n : Nat} (h : n ≤ 1048577) : n + 1 ≤ maxLen := by simp [maxLen]; omega

def inB (n lo hi : Int) : Bool := decide (lo ≤ n) && decide (n ≤ hi)

theorem i_within_ok (n lo hi : Int) : orc.pc n_i_within [.d tI n, .d tI lo, .d tI hi] ⟨.bool, .fz, inB n lo hi⟩ := by
  refine p_i_within true rfl rfl ?_
  conv => whnf
  refine cond_intro (fun h => ?_) (fun h => ?_)
  · conv => whnf
    have h : lo ≤ n := by simpa using h
    exact ⟨_, _, rfl, .inl rfl, fin1 (by simp [inB, h])⟩
  · conv => whnf
    have h : ¬ lo ≤ n := by simpa using h
    exact ⟨_, _, rfl, .inl rfl, fin1 (by simp [inB, h])⟩

theorem s_l1In_ok (n lo hi : Int) : orc.pc n_s_l1In [.d tI n, .d tI lo, .d tI hi] ⟨.bool, .fz, inB n lo hi⟩ := by
  refine p_s_l1In true rfl rfl ?_
  conv => whnf
  refine cond_intro (fun h => ?_) (fun h => ?_)
  · conv => whnf
    have h : lo ≤ n := by simpa using h
    exact ⟨_, _, rfl, .inl rfl, fin1 (by simp [inB, h])⟩
  · conv => whnf
    have h : ¬ lo ≤ n := by simpa using h
    exact ⟨_, _, rfl, .inl rfl, fin1 (by simp [inB, h])⟩

/-- A new School. -/
def zeroSchool (d : Nat) : School := (([], [], ()), (List.replicate d 0, 0, ()), 0, 0, ())

def newS (d : Int) : School := if inB d 1 4 then zeroSchool d.toNat else zeroSchool 0
theorem newS_no {d : Int} (h : inB d 1 4 = false) : newS d = zeroSchool 0 := by simp [newS, h]
theorem newS_yes {d : Int} (h : inB d 1 4 = true) : newS d = zeroSchool d.toNat := by simp [newS, h]
theorem replicate_len {d : Int} (h : inB d 1 4 = true) : 0 ≤ d ∧ d ≤ 4 ∧ d.toNat ≤ 4 := by
  simp [inB] at h; omega

end Go.Proofs.YthgjpoeneihmnaaDoor.Ev
