/- Numbers, lists, samples and planes: functions of the program and of the reference. -/
import Derived.Test.YtlndfmmigndgeaaFnA
namespace Go.Proofs.Ytlndfmmigndgeaa.Ev
open Go
set_option linter.unusedVariables false
set_option linter.unusedSimpArgs false
set_option maxRecDepth 100000
set_option exponentiation.threshold 100000

theorem room_snoc {n b : Nat} (h : n ≤ 1048577) (hb : b ≤ 4096) : (n + 1) * b ≤ 140737488355328 := by
  have : (n + 1) * b ≤ 1048578 * 4096 := Nat.mul_le_mul (by omega) hb
  omega
theorem room_make {d : Int} {b : Nat} (h0 : 0 ≤ d) (h1 : d ≤ 1048577) (hb : b ≤ 4096) : 0 ≤ d ∧ d ≤ d ∧ d * (b : Int) ≤ 140737488355328 ∧ d ≤ maxInt := by
  refine ⟨h0, Int.le_refl _, ?_, by simp [maxInt]; omega⟩
  have : d * (b : Int) ≤ 1048577 * 4096 := Int.mul_le_mul h1 (by omega) (by omega) (by omega)
  omega
theorem len_snoc {n : Nat} (h : n ≤ 1048577) : n + 1 ≤ maxLen := by simp [maxLen]; omega

def inB (n lo hi : Int) : Bool := decide (lo ≤ n) && decide (n ≤ hi)

theorem i_within_ok (n lo hi : Int) : orc.pc n_i_within [.d tI n, .d tI lo, .d tI hi] ⟨.bool, .fz, inB n lo hi⟩ := by
  refine p_i_within true rfl rfl ?_
  conv => whnf
  refine cond_intro (fun h => ?_) (fun h => ?_)
  · conv => whnf
    have h : lo ≤ n := by simpa using h
    exact ⟨_, _, rfl, .inl rfl, fin1 (by simp [inB, h])⟩
  · conv => whnf
    have h : ¬ lo ≤ n := by simpa using h
    exact ⟨_, _, rfl, .inl rfl, fin1 (by simp [inB, h])⟩

theorem s_l1In_ok (n lo hi : Int) : orc.pc n_s_l1In [.d tI n, .d tI lo, .d tI hi] ⟨.bool, .fz, inB n lo hi⟩ := by
  refine p_s_l1In true rfl rfl ?_
  conv => whnf
  refine cond_intro (fun h => ?_) (fun h => ?_)
  · conv => whnf
    have h : lo ≤ n := by simpa using h
    exact ⟨_, _, rfl, .inl rfl, fin1 (by simp [inB, h])⟩
  · conv => whnf
    have h : ¬ lo ≤ n := by simpa using h
    exact ⟨_, _, rfl, .inl rfl, fin1 (by simp [inB, h])⟩

theorem s_l1Own_ok (l : List Int) (hl : l.length ≤ 1048576) : orc.pc n_s_l1Own [.d tIS l] ⟨tIS, .ow .fz, l⟩ := by
  refine p_s_l1Own true rfl rfl ?_
  conv => whnf
  refine ⟨⟨?_, ?_⟩, ?_⟩
  · show ([].length + l.length) * 8 ≤ _
    simp; omega
  · simp [maxLen]; omega
  conv => whnf
  exact ⟨_, _, rfl, .inl rfl, fin1 (rfl)⟩

theorem s_l12Own_ok (s : School) (hs : FitSc s) : orc.pc n_s_l12Own [.d shSchool s] ⟨shSchool, shSchool.full, s⟩ := by
  have hp := hs.sm.p.1
  refine p_s_l12Own true rfl rfl ?_
  conv => whnf
  refine ⟨_, s_l1Own_ok _ hs.sm.l, (by first | exact (fun _ => rfl) | exact (fun h => Bool.noConfusion h)), ?_⟩
  conv => whnf
  refine loop_ups (X := Int × List (List Int)) (fun (i, x) => [⟨0, 4, false, .d tI i⟩, ⟨0, 3, true, .pair .unit (.pair (.pair (.own tIS (.ow .fz) x) (.pair (.own tI .fz s.1.2.1) .unit)) (.d (.pair shPlane (.pair tI (.pair tI .unit))) s.2))⟩]) (fun (i, _) => s.1.1.length - i.toNat) (fun (i, x) => ∃ n : Nat, i = n ∧ x = s.1.1.take n ∧ n ≤ s.1.1.length) (0, []) ?_ ⟨0, rfl, rfl, by omega⟩ ?_
  · refine st_eq ?_
    conv => whnf
    exact ⟨rfl⟩
  rintro ⟨_, _⟩ ⟨n, rfl, rfl, hn⟩
  conv => whnf
  refine cond_intro (fun h => ?_) (fun h => ?_)
  · have h : n < s.1.1.length := by simpa using h
    conv => whnf
    refine ⟨⟨by omega, by omega⟩, ?_⟩
    conv => whnf
    refine ⟨_, s_l1Own_ok _ (hs.sm.p.at h _), (by first | exact (fun _ => rfl) | exact (fun h => Bool.noConfusion h)), ?_⟩
    conv => whnf
    refine ⟨⟨room_snoc (by simp; omega) (by decide), len_snoc (by simp; omega)⟩, ?_⟩
    conv => whnf
    refine ⟨(_, _), rfl, ⟨n + 1, wrap_succ h (by unfold Short; omega), ?_, by omega⟩, ?_⟩
    · rw [take_getD _ h tIS.dflt]; rfl
    · rw [wrap_succ h (by unfold Short; omega)]; simp; omega
  · have h : ¬ n < s.1.1.length := by simpa using h
    obtain rfl : n = s.1.1.length := by omega
    rw [List.take_length]
    conv => whnf
    refine ⟨_, s_l1Own_ok _ hs.pl, (by first | exact (fun _ => rfl) | exact (fun h => Bool.noConfusion h)), ?_⟩
    conv => whnf
    exact ⟨_, _, rfl, .inl rfl, rfl⟩


/-- A new School. -/
def zeroSchool (d : Nat) : School := (([], [], ()), (List.replicate d 0, 0, ()), 0, 0, ())

def newS (d : Int) : School := if inB d 1 4 then zeroSchool d.toNat else zeroSchool 0
theorem newS_no {d : Int} (h : inB d 1 4 = false) : newS d = zeroSchool 0 := by simp [newS, h]
theorem newS_yes {d : Int} (h : inB d 1 4 = true) : newS d = zeroSchool d.toNat := by simp [newS, h]
theorem replicate_len {d : Int} (h : inB d 1 4 = true) : 0 ≤ d ∧ d ≤ 4 ∧ d.toNat ≤ 4 := by
  simp [inB] at h; omega

theorem s_NewSchool_ok (d : Int) : orc.pc n_s_NewSchool [.d tI d] ⟨.pair shSchool (.pair .bool .unit), .pr shSchool.full .fz, (newS d, inB d 1 4, ())⟩ := by
  refine p_s_NewSchool true rfl rfl ?_
  conv => whnf
  refine ⟨_, s_l1In_ok _ _ _, (by first | exact (fun _ => rfl) | exact (fun h => Bool.noConfusion h)), ?_⟩
  conv => whnf
  refine cond_intro (fun h => ?_) (fun h => ?_)
  · have h : inB d 1 4 = false := by simpa using h
    conv => whnf
    rw [h, newS_no h]
    exact ⟨_, _, rfl, .inl rfl, rfl⟩
  · have h : inB d 1 4 = true := by simpa using h
    have hd := replicate_len h
    conv => whnf
    refine ⟨room_make hd.1 (by omega) (by decide), ?_⟩
    conv => whnf
    refine ⟨_, s_l12Own_ok _ ⟨⟨⟨by simp [castDen], by simp [castDen]⟩, by simp [castDen]⟩, by simp [castDen]; omega⟩, (by first | exact (fun _ => rfl) | exact (fun h => Bool.noConfusion h)), ?_⟩
    conv => whnf
    rw [h, newS_yes h]
    exact ⟨_, _, rfl, .inl rfl, rfl⟩

end Go.Proofs.Ytlndfmmigndgeaa.Ev
