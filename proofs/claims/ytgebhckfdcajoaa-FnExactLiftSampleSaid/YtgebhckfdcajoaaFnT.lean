/- Lifted samples. -/
import Derived.Test.YtgebhckfdcajoaaFnJ
namespace Go.Proofs.Ytgebhckfdcajoaa.Ev
open Go
set_option linter.unusedVariables false
set_option linter.unusedSimpArgs false
set_option maxRecDepth 100000
set_option exponentiation.threshold 100000

def up1 (x : List Int) : List Int := x ++ [-1]
def okLift (s : Sample) : Bool := isSample s && (!(s.1.length == 0) && !(fstLen s == 4))
def liftR (s : Sample) : Sample × Bool × Unit := if okLift s then ((s.1.map up1, s.2.1, ()), true, ()) else (zeroSample, false, ())
theorem liftR_no {s : Sample} (h : okLift s = false) : liftR s = (zeroSample, false, ()) := by simp [liftR, h]
theorem liftR_yes {s : Sample} (h : okLift s = true) : liftR s = ((s.1.map up1, s.2.1, ()), true, ()) := by simp [liftR, h]
theorem map_snocS (f : List Int → List Int) {l : List (List Int)} {n : Nat} (h : n < l.length) : (l.take (n + 1)).map f = (l.take n).map f ++ [f (l.getD n tIS.dflt)] := by
  rw [take_getD l h tIS.dflt]; simp
theorem set_mapS {l : List (List Int)} {f : List Int → List Int} {n : Nat} (h : n < l.length) : ((l.take n).map f ++ l.drop n).set n (f (l.getD n tIS.dflt)) = (l.take (n + 1)).map f ++ l.drop (n + 1) := by
  rw [drop_getD l h tIS.dflt, set_at (by simp; omega), map_snocS f h]; simp
theorem nat4 {n : Nat} {b : Bool} (h : ((n : Int) == 4) = b) : (n == 4) = b := by
  rw [← h]; exact (natBeq n 4).symm
theorem sample_pt {s : Sample} (h : isSample s = true) : s.1.length ≤ 16 ∧ ∀ n, n < s.1.length → (s.1.getD n tIS.dflt).length ≤ 4 := by
  unfold isSample at h
  simp only [Bool.and_eq_true, decide_eq_true_eq] at h
  obtain ⟨⟨h1, _⟩, h3, _⟩ := h
  refine ⟨h1, fun n hn => ?_⟩
  have := List.all_eq_true.1 h3 _ (getD_mem hn tIS.dflt)
  simp only [okPt, isPoint, inB, Bool.and_eq_true, decide_eq_true_eq] at this
  omega

theorem s_LiftSample_ok (s : Sample) (hs : FitS s) : orc.pc n_s_LiftSample [.d shSample s] ⟨shSaB, oSaB, liftR s⟩ := by
  refine p_s_LiftSample true rfl rfl ?_
  conv => whnf
  refine ⟨_, s_l2Sample_ok _ hs, (by first | exact (fun _ => rfl) | exact (fun h => Bool.noConfusion h)), ?_⟩
  conv => whnf
  refine cond_intro (fun q0 => ?_) (fun q0 => ?_)
  · have q : isSample s = true := by simpa using q0
    obtain ⟨f1, f2⟩ := sample_pt q
    conv => whnf
    repeat ((first | refine cond_t q0 ?_ | refine cond_f (hT q0) ?_ | refine cond_t (gT q0) ?_); conv => whnf)
    refine cond_intro (fun r0 => ?_) (fun r0 => ?_)
    · have r : s.1.length ≠ 0 := by simp at r0; intro e; exact r0 (by simpa using e)
      have hz : s.1.getD 0 tIS.dflt = s.1.headD [] := getD_zero _ _
      conv => whnf
      repeat ((first | refine cond_t q0 ?_ | refine cond_f (hT q0) ?_ | refine cond_t (gT q0) ?_ | refine cond_t r0 ?_ | refine cond_f (hT r0) ?_ | refine cond_t (gT r0) ?_); conv => whnf)
      refine ⟨⟨by omega, by omega⟩, ?_⟩
      conv => whnf
      repeat ((first | refine cond_t q0 ?_ | refine cond_f (hT q0) ?_ | refine cond_t (gT q0) ?_ | refine cond_t r0 ?_ | refine cond_f (hT r0) ?_ | refine cond_t (gT r0) ?_); conv => whnf)
      refine cond_intro (fun t0 => ?_) (fun t0 => ?_)
      · have t : (fstLen s == 4) = true := by unfold fstLen; rw [← hz]; exact nat4 t0
        rw [liftR_no (by unfold okLift; rw [t]; simp)]
        conv => whnf
        exact ⟨_, _, rfl, .inl rfl, rfl⟩
      · have t : (fstLen s == 4) = false := by unfold fstLen; rw [← hz]; exact nat4 t0
        rw [liftR_yes (by unfold okLift; rw [q, t]; simp [r])]
        conv => whnf
        refine ⟨_, s_l1Own_ok _ hs.l, (by first | exact (fun _ => rfl) | exact (fun h => Bool.noConfusion h)), ?_⟩
        conv => whnf
        have hp := hs.p
        have hll := hp.1
        refine loop_ups (X := Int × List (List Int)) (fun (i, x) => [⟨0, 5, false, .d tI i⟩, ⟨0, 4, true, .pair .unit (.pair (.own tIS (.ow .fz) x) (.pair (.own tI .fz s.2.1) .unit))⟩]) (fun (i, _) => s.1.length - i.toNat) (fun (i, x) => ∃ n : Nat, i = n ∧ x = (s.1.take n).map up1 ∧ n ≤ s.1.length) (0, []) ?_ ⟨0, rfl, rfl, by omega⟩ ?_
        · refine st_eq ?_
          conv => whnf
          exact ⟨rfl⟩
        rintro ⟨_, _⟩ ⟨n, rfl, rfl, hn⟩
        conv => whnf
        refine cond_intro (fun h => ?_) (fun h => ?_)
        · have h : n < s.1.length := by simpa using h
          have h4 := f2 n h
          conv => whnf
          refine ⟨⟨Int.natCast_nonneg _, Int.ofNat_lt.2 h⟩, ?_⟩
          conv => whnf
          refine ⟨_, s_l1Own_ok _ (hp.at h _), (by first | exact (fun _ => rfl) | exact (fun h => Bool.noConfusion h)), ?_⟩
          conv => whnf
          refine ⟨⟨room_snoc (Nat.le_trans h4 (by decide)) (by decide), len_snoc (Nat.le_trans h4 (by decide))⟩, ?_⟩
          conv => whnf
          refine ⟨⟨room_snoc (by simp; omega) (by decide), len_snoc (by simp; omega)⟩, ?_⟩
          conv => whnf
          refine ⟨(_, _), rfl, ⟨n + 1, wrap_succ h (by unfold Short; omega), ?_, by omega⟩, ?_⟩
          · rw [map_snocS _ h]; rfl
          · rw [wrap_succ h (by unfold Short; omega)]; simp; omega
        · have h : ¬ n < s.1.length := by simpa using h
          obtain rfl : n = s.1.length := by omega
          rw [List.take_length]
          conv => whnf
          exact ⟨_, _, rfl, .inl rfl, rfl⟩
    · have r : s.1.length = 0 := by simp at r0; simp [r0]
      rw [liftR_no (by unfold okLift; rw [r]; simp)]
      conv => whnf
      repeat ((first | refine cond_t q0 ?_ | refine cond_f (hT q0) ?_ | refine cond_t (gT q0) ?_ | refine cond_f r0 ?_ | refine cond_t (hF r0) ?_ | refine cond_f (gF r0) ?_); conv => whnf)
      exact ⟨_, _, rfl, .inl rfl, rfl⟩
  · have q : isSample s = false := by simpa using q0
    rw [liftR_no (by unfold okLift; rw [q]; rfl)]
    conv => whnf
    repeat ((first | refine cond_f q0 ?_ | refine cond_t (hF q0) ?_ | refine cond_f (gF q0) ?_); conv => whnf)
    exact ⟨_, _, rfl, .inl rfl, rfl⟩

theorem i_LiftSample_ok (s : Sample) (hs : FitS s) : orc.pc n_i_LiftSample [.d shSample s] ⟨shSaB, oSaB, liftR s⟩ := by
  refine p_i_LiftSample true rfl rfl ?_
  conv => whnf
  refine ⟨_, i_IsSample_ok _ hs, (by first | exact (fun _ => rfl) | exact (fun h => Bool.noConfusion h)), ?_⟩
  conv => whnf
  refine cond_intro (fun q0 => ?_) (fun q0 => ?_)
  · have q : isSample s = true := by simpa using q0
    obtain ⟨f1, f2⟩ := sample_pt q
    conv => whnf
    repeat ((first | refine cond_t q0 ?_ | refine cond_f (hT q0) ?_ | refine cond_t (gT q0) ?_); conv => whnf)
    refine cond_intro (fun r0 => ?_) (fun r0 => ?_)
    · have r : s.1.length ≠ 0 := by simp at r0; intro e; exact r0 (by simpa using e)
      have hz : s.1.getD 0 tIS.dflt = s.1.headD [] := getD_zero _ _
      conv => whnf
      repeat ((first | refine cond_t q0 ?_ | refine cond_f (hT q0) ?_ | refine cond_t (gT q0) ?_ | refine cond_t r0 ?_ | refine cond_f (hT r0) ?_ | refine cond_t (gT r0) ?_); conv => whnf)
      refine ⟨⟨by omega, by omega⟩, ?_⟩
      conv => whnf
      repeat ((first | refine cond_t q0 ?_ | refine cond_f (hT q0) ?_ | refine cond_t (gT q0) ?_ | refine cond_t r0 ?_ | refine cond_f (hT r0) ?_ | refine cond_t (gT r0) ?_); conv => whnf)
      refine cond_intro (fun t0 => ?_) (fun t0 => ?_)
      · have t : (fstLen s == 4) = true := by unfold fstLen; rw [← hz]; exact nat4 t0
        rw [liftR_no (by unfold okLift; rw [t]; simp)]
        conv => whnf
        exact ⟨_, _, rfl, .inl rfl, rfl⟩
      · have t : (fstLen s == 4) = false := by unfold fstLen; rw [← hz]; exact nat4 t0
        rw [liftR_yes (by unfold okLift; rw [q, t]; simp [r])]
        conv => whnf
        refine ⟨_, i_Sample_own_ok _ hs, (by first | exact (fun _ => rfl) | exact (fun h => Bool.noConfusion h)), ?_⟩
        conv => whnf
        have hp := hs.p
        have hll := hp.1
        refine loop_ups (X := Int × List (List Int)) (fun (i, x) => [⟨0, 30, false, .d tI i⟩, ⟨0, 4, true, .pair .unit (.pair (.own tIS (.ow .fz) x) (.pair (.own tI .fz s.2.1) (.d .unit ())))⟩]) (fun (i, _) => s.1.length - i.toNat) (fun (i, x) => ∃ n : Nat, i = n ∧ x = (s.1.take n).map up1 ++ s.1.drop n ∧ n ≤ s.1.length) (0, s.1) ?_ ⟨0, rfl, rfl, by omega⟩ ?_
        · refine st_eq ?_
          conv => whnf
          exact ⟨rfl⟩
        rintro ⟨_, _⟩ ⟨n, rfl, rfl, hn⟩
        have hlen : ((s.1.take n).map up1 ++ s.1.drop n).length = s.1.length := by simp; omega
        conv => whnf
        refine cond_intro (fun h => ?_) (fun h => ?_)
        · have h : n < s.1.length := by simpa using h
          have h4 := f2 n h
          have hg : ((s.1.take n).map up1 ++ s.1.drop n).getD n tIS.dflt = s.1.getD n tIS.dflt := by
            rw [getD_mid (by simp; omega), drop_getD s.1 h tIS.dflt]; rfl
          have h4' : (((s.1.take n).map up1 ++ s.1.drop n).getD n tIS.dflt).length ≤ 4 := by rw [hg]; exact h4
          conv => whnf
          refine ⟨⟨Int.natCast_nonneg _, by rw [hlen]; exact Int.ofNat_lt.2 h⟩, ?_⟩
          conv => whnf
          refine ⟨(show n < _ by rw [hlen]; exact h), ?_⟩
          conv => whnf
          refine ⟨(show n < _ by rw [hlen]; exact h), ?_⟩
          conv => whnf
          refine ⟨(show n < _ by rw [hlen]; exact h), ?_⟩
          conv => whnf
          refine ⟨⟨room_snoc (Nat.le_trans h4' (by decide)) (by decide), len_snoc (Nat.le_trans h4' (by decide))⟩, ?_⟩
          conv => whnf
          refine ⟨⟨Int.natCast_nonneg _, by rw [hlen]; exact Int.ofNat_lt.2 h⟩, ?_⟩
          conv => whnf
          refine ⟨rfl, ?_⟩
          conv => whnf
          refine ⟨(_, _), rfl, ⟨n + 1, wrap_succ h (by unfold Short; omega), ?_, by omega⟩, ?_⟩
          · show ((s.1.take n).map up1 ++ s.1.drop n).set n (up1 (((s.1.take n).map up1 ++ s.1.drop n).getD n tIS.dflt)) = _
            rw [hg]
            exact set_mapS h
          · rw [wrap_succ h (by unfold Short; omega)]; simp; omega
        · have h : ¬ n < s.1.length := by simpa using h
          obtain rfl : n = s.1.length := by omega
          rw [List.take_length, List.drop_length, List.append_nil]
          conv => whnf
          exact ⟨_, _, rfl, .inl rfl, rfl⟩
    · have r : s.1.length = 0 := by simp at r0; simp [r0]
      rw [liftR_no (by unfold okLift; rw [r]; simp)]
      conv => whnf
      repeat ((first | refine cond_t q0 ?_ | refine cond_f (hT q0) ?_ | refine cond_t (gT q0) ?_ | refine cond_f r0 ?_ | refine cond_t (hF r0) ?_ | refine cond_f (gF r0) ?_); conv => whnf)
      exact ⟨_, _, rfl, .inl rfl, rfl⟩
  · have q : isSample s = false := by simpa using q0
    rw [liftR_no (by unfold okLift; rw [q]; rfl)]
    conv => whnf
    repeat ((first | refine cond_f q0 ?_ | refine cond_t (hF q0) ?_ | refine cond_f (gF q0) ?_); conv => whnf)
    exact ⟨_, _, rfl, .inl rfl, rfl⟩

end Go.Proofs.Ytgebhckfdcajoaa.Ev
