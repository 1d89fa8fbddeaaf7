/- Joined samples. -/
import Derived.Test.YtgebhckfdcajoaaFnH
namespace Go.Proofs.Ytgebhckfdcajoaa.Ev
open Go
set_option linter.unusedVariables false
set_option linter.unusedSimpArgs false
set_option maxRecDepth 100000
set_option exponentiation.threshold 100000

theorem room_join {n m b : Nat} (h : n + m ≤ 1048576) (hb : b ≤ 4096) : (n + m) * b ≤ 140737488355328 := by
  have : (n + m) * b ≤ 1048578 * 4096 := Nat.mul_le_mul (by omega) hb
  omega
theorem len_join {n m : Nat} (h : n + m ≤ 1048576) : n + m ≤ maxLen := by simp [maxLen]; omega

def joined (a b : Sample) : Sample := (a.1 ++ b.1, a.2.1 ++ b.2.1, ())
def joinR (a b : Sample) : Sample × Bool × Unit :=
  if isSample a && (isSample b && isSample (joined a b)) then (joined a b, true, ()) else (zeroSample, false, ())
theorem joinR_no {a b : Sample} (h : (isSample a && (isSample b && isSample (joined a b))) = false) : joinR a b = (zeroSample, false, ()) := by unfold joinR; rw [h]; rfl
theorem joinR_yes {a b : Sample} (h : (isSample a && (isSample b && isSample (joined a b))) = true) : joinR a b = (joined a b, true, ()) := by unfold joinR; rw [h]; rfl

theorem i_JoinSamples_ok (a b : Sample) (ha : FitS a) (hb : FitS b) (hj : FitS (joined a b)) : orc.pc n_i_JoinSamples [.d shSample a, .d shSample b] ⟨shSaB, oSaB, joinR a b⟩ := by
  have h1 : a.1.length + b.1.length ≤ 1048576 := by have := hj.p.1; simpa [joined] using this
  have h2 : a.2.1.length + b.2.1.length ≤ 1048576 := by have := hj.l; simpa [joined] using this
  refine p_i_JoinSamples true rfl rfl ?_
  conv => whnf
  refine ⟨_, i_IsSample_ok _ ha, (by first | exact (fun _ => rfl) | exact (fun h => Bool.noConfusion h)), ?_⟩
  conv => whnf
  refine cond_intro (fun q0 => ?_) (fun q0 => ?_)
  · have q : isSample a = true := by simpa using q0
    conv => whnf
    refine ⟨_, i_IsSample_ok _ hb, (by first | exact (fun _ => rfl) | exact (fun h => Bool.noConfusion h)), ?_⟩
    conv => whnf
    refine cond_intro (fun r0 => ?_) (fun r0 => ?_)
    · have r : isSample b = false := not_true r0
      rw [joinR_no (by rw [q, r]; rfl)]
      conv => whnf
      exact ⟨_, _, rfl, .inl rfl, rfl⟩
    · have r : isSample b = true := not_false r0
      conv => whnf
      refine ⟨_, i_Sample_own_ok _ ha, (by first | exact (fun _ => rfl) | exact (fun h => Bool.noConfusion h)), ?_⟩
      conv => whnf
      refine ⟨_, i_Sample_own_ok _ hb, (by first | exact (fun _ => rfl) | exact (fun h => Bool.noConfusion h)), ?_⟩
      conv => whnf
      refine ⟨⟨room_join h1 (by decide), len_join h1⟩, ?_⟩
      conv => whnf
      refine ⟨⟨room_join h2 (by decide), len_join h2⟩, ?_⟩
      conv => whnf
      refine ⟨_, i_IsSample_ok (joined a b) hj, (by first | exact (fun _ => rfl) | exact (fun h => Bool.noConfusion h)), ?_⟩
      conv => whnf
      refine cond_intro (fun w0 => ?_) (fun w0 => ?_)
      · have w : isSample (joined a b) = false := not_true w0
        rw [joinR_no (by rw [w]; simp)]
        conv => whnf
        exact ⟨_, _, rfl, .inl rfl, rfl⟩
      · have w : isSample (joined a b) = true := not_false w0
        rw [joinR_yes (by rw [q, r, w]; rfl)]
        conv => whnf
        exact ⟨_, _, rfl, .inl rfl, rfl⟩
  · have q : isSample a = false := by simpa using q0
    rw [joinR_no (by rw [q]; rfl)]
    conv => whnf
    exact ⟨_, _, rfl, .inl rfl, rfl⟩

theorem s_JoinSamples_ok (a b : Sample) (ha : FitS a) (hb : FitS b) (hj : FitS (joined a b)) : orc.pc n_s_JoinSamples [.d shSample a, .d shSample b] ⟨shSaB, oSaB, joinR a b⟩ := by
  have h1 : a.1.length + b.1.length ≤ 1048576 := by have := hj.p.1; simpa [joined] using this
  have h2 : a.2.1.length + b.2.1.length ≤ 1048576 := by have := hj.l; simpa [joined] using this
  refine p_s_JoinSamples true rfl rfl ?_
  conv => whnf
  refine ⟨_, s_l2Sample_ok _ ha, (by first | exact (fun _ => rfl) | exact (fun h => Bool.noConfusion h)), ?_⟩
  conv => whnf
  refine cond_intro (fun q0 => ?_) (fun q0 => ?_)
  · have q : isSample a = true := by simpa using q0
    conv => whnf
    refine ⟨_, s_l2Sample_ok _ hb, (by first | exact (fun _ => rfl) | exact (fun h => Bool.noConfusion h)), ?_⟩
    conv => whnf
    refine cond_intro (fun r0 => ?_) (fun r0 => ?_)
    · have r : isSample b = false := not_true r0
      rw [joinR_no (by rw [q, r]; rfl)]
      conv => whnf
      exact ⟨_, _, rfl, .inl rfl, rfl⟩
    · have r : isSample b = true := not_false r0
      conv => whnf
      refine ⟨_, s_l2Rows_ok _ ha.p, (by first | exact (fun _ => rfl) | exact (fun h => Bool.noConfusion h)), ?_⟩
      conv => whnf
      refine ⟨_, s_l2Rows_ok _ hb.p, (by first | exact (fun _ => rfl) | exact (fun h => Bool.noConfusion h)), ?_⟩
      conv => whnf
      refine ⟨⟨room_join h1 (by decide), len_join h1⟩, ?_⟩
      conv => whnf
      refine ⟨_, s_l1Own_ok _ ha.l, (by first | exact (fun _ => rfl) | exact (fun h => Bool.noConfusion h)), ?_⟩
      conv => whnf
      refine ⟨⟨room_join h2 (by decide), len_join h2⟩, ?_⟩
      conv => whnf
      cases w : isSample (joined a b) with
      | false =>
        rw [joinR_no (by rw [w]; simp)]
        refine ⟨_, _, s_l2KeptSample_no (st := _ :: _) (Nat.succ_pos _) (x := (joined a b).1) (y := (joined a b).2.1) (fun K h => h) (fun K h => h) hj w, ?_⟩
        conv => whnf
        exact ⟨_, _, rfl, .inl rfl, rfl⟩
      | true =>
        rw [joinR_yes (by rw [q, r, w]; rfl)]
        refine ⟨_, _, s_l2KeptSample_yes (st := _ :: _) (Nat.succ_pos _) (x := (joined a b).1) (y := (joined a b).2.1) (fun K h => h) (fun K h => h) hj w, ?_⟩
        conv => whnf
        exact ⟨_, _, rfl, .inl rfl, rfl⟩
  · have q : isSample a = false := by simpa using q0
    rw [joinR_no (by rw [q]; rfl)]
    conv => whnf
    exact ⟨_, _, rfl, .inl rfl, rfl⟩

end Go.Proofs.Ytgebhckfdcajoaa.Ev

