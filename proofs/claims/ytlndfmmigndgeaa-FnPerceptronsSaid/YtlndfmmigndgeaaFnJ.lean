/- Numbers of a school's plane, new consoles. -/
import Derived.Test.YtlndfmmigndgeaaFnI
namespace Go.Proofs.Ytlndfmmigndgeaa.Ev
open Go
set_option linter.unusedVariables false
set_option linter.unusedSimpArgs false
set_option maxRecDepth 100000
set_option exponentiation.threshold 100000

theorem tot_le (l : List (List Int)) (h : ∀ x ∈ l, x.length ≤ 1048576) : tot l ≤ l.length * 1048576 := by
  induction l with
  | nil => simp [tot]
  | cons x l ih =>
    have h1 := h x (by simp)
    have h2 := ih fun y hy => h y (by simp [hy])
    simp only [tot, List.length_cons, Nat.succ_mul]
    omega
theorem tot_bd {l : List (List Int)} (h : Fit2 l) : tot l ≤ 1099511627776 := by
  have := tot_le l h.2
  have : l.length * 1048576 ≤ 1048576 * 1048576 := Nat.mul_le_mul_right _ h.1
  omega

theorem map_range_snoc {α : Type} (f : Nat → α) (n : Nat) : (List.range (n + 1)).map f = (List.range n).map f ++ [f n] := by rw [List.range_succ]; simp

abbrev shLB : Sh := .pair tIS (.pair .bool .unit)
def oLB : Ow := .pr (.ow .fz) .fz

def nums (s : School) : List Int := s.2.1.1 ++ [s.2.1.2.1]
def numsR (s : School) : List Int × Bool × Unit := if isSchool s then (nums s, true, ()) else ([], false, ())
theorem numsR_no {s : School} (h : isSchool s = false) : numsR s = ([], false, ()) := by simp [numsR, h]
theorem numsR_yes {s : School} (h : isSchool s = true) : numsR s = (nums s, true, ()) := by simp [numsR, h]

theorem s_l12Numbers_ok (s : School) (hs : FitSc s) : orc.pc n_s_l12Numbers [.d shSchool s] ⟨tIS, .ow .fz, nums s⟩ := by
  have hp := hs.pl
  refine p_s_l12Numbers true rfl rfl ?_
  conv => whnf
  refine ⟨_, s_l1Own_ok _ hs.pl, (by first | exact (fun _ => rfl) | exact (fun h => Bool.noConfusion h)), ?_⟩
  conv => whnf
  refine ⟨⟨room_snoc (Nat.le_trans hp (by decide)) (by decide), len_snoc (Nat.le_trans hp (by decide))⟩, ?_⟩
  conv => whnf
  exact ⟨_, _, rfl, .inl rfl, fin1 (rfl)⟩

theorem s_PlaneNumbers_ok (s : School) (hs : FitSc s) : orc.pc n_s_PlaneNumbers [.d shSchool s] ⟨shLB, oLB, numsR s⟩ := by
  refine p_s_PlaneNumbers true rfl rfl ?_
  conv => whnf
  refine ⟨_, s_l12Good_ok _ hs, (by first | exact (fun _ => rfl) | exact (fun h => Bool.noConfusion h)), ?_⟩
  conv => whnf
  refine cond_intro (fun h => ?_) (fun h => ?_)
  · have h : isSchool s = false := by simpa using h
    rw [numsR_no h]
    conv => whnf
    exact ⟨_, _, rfl, .inl rfl, rfl⟩
  · have h : isSchool s = true := by simpa using h
    rw [numsR_yes h]
    conv => whnf
    refine ⟨_, s_l12Numbers_ok _ hs, (by first | exact (fun _ => rfl) | exact (fun h => Bool.noConfusion h)), ?_⟩
    conv => whnf
    exact ⟨_, _, rfl, .inl rfl, rfl⟩

theorem i_PlaneNumbers_ok (s : School) (hs : FitSc s) : orc.pc n_i_PlaneNumbers [.d shSchool s] ⟨shLB, oLB, numsR s⟩ := by
  have hp := hs.pl
  refine p_i_PlaneNumbers true rfl rfl ?_
  conv => whnf
  refine ⟨_, i_IsSchool_ok _ hs, (by first | exact (fun _ => rfl) | exact (fun h => Bool.noConfusion h)), ?_⟩
  conv => whnf
  refine cond_intro (fun h => ?_) (fun h => ?_)
  · have h : isSchool s = false := by simpa using h
    rw [numsR_no h]
    conv => whnf
    exact ⟨_, _, rfl, .inl rfl, rfl⟩
  · have h : isSchool s = true := by simpa using h
    rw [numsR_yes h]
    conv => whnf
    refine ⟨_, i_copied_ok _ hs.pl, (by first | exact (fun _ => rfl) | exact (fun h => Bool.noConfusion h)), ?_⟩
    conv => whnf
    refine ⟨⟨room_snoc (Nat.le_trans hp (by decide)) (by decide), len_snoc (Nat.le_trans hp (by decide))⟩, ?_⟩
    conv => whnf
    exact ⟨_, _, rfl, .inl rfl, rfl⟩

theorem numsR_len {s : School} (hs : FitSc s) : (numsR s).1.length ≤ 1048577 := by
  have hp := hs.pl
  cases h : isSchool s with
  | true => rw [numsR_yes h]; simp [nums]; omega
  | false => rw [numsR_no h]; simp

end Go.Proofs.Ytlndfmmigndgeaa.Ev
