/- Panels of experts. -/
import Derived.Test.YtlndfmmigndgeaaFnJ
namespace Go.Proofs.Ytlndfmmigndgeaa.Ev
open Go
set_option linter.unusedVariables false
set_option linter.unusedSimpArgs false
set_option maxRecDepth 100000
set_option exponentiation.threshold 100000

theorem i_areLabels_ok (l : List Int) (hl : l.length ≤ 1048576) : orc.pc n_i_areLabels [.d tIS l] ⟨.bool, .fz, l.all isLabel⟩ := by
  refine p_i_areLabels true rfl rfl ?_
  conv => whnf
  refine loop_ups (X := Int) (fun i => [⟨0, 7, false, .d tI i⟩]) (fun i => l.length - i.toNat) (fun i => ∃ n : Nat, i = n ∧ n ≤ l.length ∧ l.all isLabel = (l.drop n).all isLabel) 0 ?_ ⟨0, rfl, by omega, rfl⟩ ?_
  · refine st_eq ?_
    conv => whnf
    exact ⟨rfl⟩
  rintro _ ⟨n, rfl, hn, hi⟩
  conv => whnf
  refine cond_intro (fun h => ?_) (fun h => ?_)
  · have h : n < l.length := by simpa using h
    rw [all_drop _ l h tI.dflt] at hi
    conv => whnf
    refine ⟨⟨by omega, by omega⟩, ?_⟩
    conv => whnf
    refine ⟨_, i_isLabel_ok _, (by first | exact (fun _ => rfl) | exact (fun h => Bool.noConfusion h)), ?_⟩
    conv => whnf
    refine cond_intro (fun g => ?_) (fun g => ?_)
    · have g : isLabel (l.getD n tI.dflt) = false := by simpa using g
      conv => whnf
      exact ⟨_, _, rfl, .inl rfl, fin1 (by rw [hi, g]; rfl)⟩
    · have g : isLabel (l.getD n tI.dflt) = true := by simpa using g
      conv => whnf
      refine ⟨_, rfl, ⟨n + 1, wrap_succ h (by unfold Short; omega), by omega, by rw [hi, g]; rfl⟩, ?_⟩
      rw [wrap_succ h (by unfold Short; omega)]; simp; omega
  · have h : ¬ n < l.length := by simpa using h
    conv => whnf
    exact ⟨_, _, rfl, .inl rfl, fin1 (by rw [hi, drop_len h]; rfl)⟩

def okSay (m : Nat) (l : List Int) : Bool := l.length == m && l.all (inB · (-1) 1)
def isPanel (p : Sample) : Bool := inB p.1.length 1 8 && (decide (p.2.1.length ≤ 16) && (p.2.1.all isLabel && p.1.all (okSay p.2.1.length)))

theorem len_eq {a b : Nat} (h : (((a : Int) != (b : Int)) == false) = true) : a = b := by simp at h; omega
theorem len_ne {a b : Nat} (h : (((a : Int) != (b : Int)) == false) = false) : a ≠ b := by simp at h; omega
theorem okSay_yes {m : Nat} {l : List Int} (h : l.length = m) (g : l.all (inB · (-1) 1) = true) : okSay m l = true := by unfold okSay; rw [g, h]; simp
theorem okSay_len {m : Nat} {l : List Int} (h : l.length ≠ m) : okSay m l = false := by unfold okSay; simp [h]
theorem okSay_all {m : Nat} {l : List Int} (g : l.all (inB · (-1) 1) = false) : okSay m l = false := by unfold okSay; rw [g]; simp

theorem i_IsPanel_ok (p : Sample) (hp : FitS p) : orc.pc n_i_IsPanel [.d shSample p] ⟨.bool, .fz, isPanel p⟩ := by
  have h1 := hp.p.1
  have h2 := hp.l
  refine p_i_IsPanel true rfl rfl ?_
  conv => whnf
  refine ⟨_, i_within_ok _ _ _, (by first | exact (fun _ => rfl) | exact (fun h => Bool.noConfusion h)), ?_⟩
  conv => whnf
  refine cond_intro (fun q0 => ?_) (fun q0 => ?_)
  · have q : inB p.1.length 1 8 = true := by simpa using q0
    conv => whnf
    repeat ((first | refine cond_t q0 ?_ | refine cond_f (hT q0) ?_ | refine cond_t (gT q0) ?_); conv => whnf)
    refine cond_intro (fun r0 => ?_) (fun r0 => ?_)
    · have r : p.2.1.length ≤ 16 := by simp at r0; omega
      conv => whnf
      repeat ((first | refine cond_t q0 ?_ | refine cond_f (hT q0) ?_ | refine cond_t (gT q0) ?_ | refine cond_t r0 ?_ | refine cond_f (hT r0) ?_ | refine cond_t (gT r0) ?_); conv => whnf)
      refine ⟨_, i_areLabels_ok _ h2, (by first | exact (fun _ => rfl) | exact (fun h => Bool.noConfusion h)), ?_⟩
      conv => whnf
      repeat ((first | refine cond_t q0 ?_ | refine cond_f (hT q0) ?_ | refine cond_t (gT q0) ?_ | refine cond_t r0 ?_ | refine cond_f (hT r0) ?_ | refine cond_t (gT r0) ?_); conv => whnf)
      refine cond_intro (fun t0 => ?_) (fun t0 => ?_)
      · have t : p.2.1.all isLabel = false := by simpa using t0
        conv => whnf
        exact ⟨_, _, rfl, .inl rfl, fin1 (by unfold isPanel; rw [q, t]; simp)⟩
      have t : p.2.1.all isLabel = true := by simpa using t0
      have base : isPanel p = p.1.all (okSay p.2.1.length) := by unfold isPanel; rw [q, t]; simp [r]
      conv => whnf
      refine loop_ups (X := Int) (fun i => [⟨0, 25, false, .d tI i⟩]) (fun i => p.1.length - i.toNat) (fun i => ∃ n : Nat, i = n ∧ n ≤ p.1.length ∧ isPanel p = (p.1.drop n).all (okSay p.2.1.length)) 0 ?_ ⟨0, rfl, by omega, by rw [base]; rfl⟩ ?_
      · refine st_eq ?_
        conv => whnf
        exact ⟨rfl⟩
      rintro _ ⟨n, rfl, hn, hi⟩
      conv => whnf
      refine cond_intro (fun k => ?_) (fun k => ?_)
      · have k : n < p.1.length := by simpa using k
        rw [all_drop _ p.1 k tIS.dflt] at hi
        conv => whnf
        refine ⟨⟨by omega, by omega⟩, ?_⟩
        conv => whnf
        refine cond_intro (fun u0 => ?_) (fun u0 => ?_)
        · have u : (p.1.getD n tIS.dflt).length = p.2.1.length := len_eq u0
          conv => whnf
          repeat ((first | refine cond_t u0 ?_ | refine cond_f (hT u0) ?_ | refine cond_t (gT u0) ?_); conv => whnf)
          refine ⟨_, i_allWithin_ok _ _ _ (hp.p.at k _), (by first | exact (fun _ => rfl) | exact (fun h => Bool.noConfusion h)), ?_⟩
          conv => whnf
          repeat ((first | refine cond_t u0 ?_ | refine cond_f (hT u0) ?_ | refine cond_t (gT u0) ?_); conv => whnf)
          refine cond_intro (fun v0 => ?_) (fun v0 => ?_)
          · have v : (p.1.getD n tIS.dflt).all (inB · (-1) 1) = false := by simpa using v0
            conv => whnf
            exact ⟨_, _, rfl, .inl rfl, fin1 (by rw [hi, okSay_all v]; rfl)⟩
          · have v : (p.1.getD n tIS.dflt).all (inB · (-1) 1) = true := by simpa using v0
            conv => whnf
            refine ⟨_, rfl, ⟨n + 1, wrap_succ k (by unfold Short; omega), by omega, by rw [hi, okSay_yes u v]; rfl⟩, ?_⟩
            rw [wrap_succ k (by unfold Short; omega)]; simp; omega
        · have u : (p.1.getD n tIS.dflt).length ≠ p.2.1.length := len_ne u0
          conv => whnf
          repeat ((first | refine cond_f u0 ?_ | refine cond_t (hF u0) ?_ | refine cond_f (gF u0) ?_); conv => whnf)
          exact ⟨_, _, rfl, .inl rfl, fin1 (by rw [hi, okSay_len u]; rfl)⟩
      · have k : ¬ n < p.1.length := by simpa using k
        conv => whnf
        exact ⟨_, _, rfl, .inl rfl, fin1 (by rw [hi, drop_len k]; rfl)⟩
    · have r : ¬ p.2.1.length ≤ 16 := by simp at r0; omega
      conv => whnf
      repeat ((first | refine cond_t q0 ?_ | refine cond_f (hT q0) ?_ | refine cond_t (gT q0) ?_ | refine cond_f r0 ?_ | refine cond_t (hF r0) ?_ | refine cond_f (gF r0) ?_); conv => whnf)
      exact ⟨_, _, rfl, .inl rfl, fin1 (by unfold isPanel; simp [r])⟩
  · have q : inB p.1.length 1 8 = false := by simpa using q0
    conv => whnf
    repeat ((first | refine cond_f q0 ?_ | refine cond_t (hF q0) ?_ | refine cond_f (gF q0) ?_); conv => whnf)
    exact ⟨_, _, rfl, .inl rfl, fin1 (by unfold isPanel; rw [q]; rfl)⟩

theorem s_l11Says_ok (l : List Int) (m : Nat) (hl : l.length ≤ 1048576) : orc.pc n_s_l11Says [.d tIS l, .d tI (m : Int)] ⟨.bool, .fz, okSay m l⟩ := by
  refine p_s_l11Says true rfl rfl ?_
  conv => whnf
  refine loop_ups (X := Int) (fun i => [⟨0, 5, false, .d tI i⟩]) (fun i => l.length - i.toNat) (fun i => ∃ n : Nat, i = n ∧ n ≤ l.length ∧ l.all (inB · (-1) 1) = (l.drop n).all (inB · (-1) 1)) 0 ?_ ⟨0, rfl, by omega, rfl⟩ ?_
  · refine st_eq ?_
    conv => whnf
    exact ⟨rfl⟩
  rintro _ ⟨n, rfl, hn, hi⟩
  conv => whnf
  refine cond_intro (fun h => ?_) (fun h => ?_)
  · have h : n < l.length := by simpa using h
    rw [all_drop _ l h tI.dflt] at hi
    conv => whnf
    refine ⟨⟨by omega, by omega⟩, ?_⟩
    conv => whnf
    refine ⟨_, s_l1In_ok _ _ _, (by first | exact (fun _ => rfl) | exact (fun h => Bool.noConfusion h)), ?_⟩
    conv => whnf
    refine cond_intro (fun g => ?_) (fun g => ?_)
    · have g : inB (l.getD n tI.dflt) (-1) 1 = false := by simpa using g
      conv => whnf
      exact ⟨_, _, rfl, .inl rfl, fin1 (by rw [okSay, hi, g]; simp)⟩
    · have g : inB (l.getD n tI.dflt) (-1) 1 = true := by simpa using g
      conv => whnf
      refine ⟨_, rfl, ⟨n + 1, wrap_succ h (by unfold Short; omega), by omega, by rw [hi, g]; rfl⟩, ?_⟩
      rw [wrap_succ h (by unfold Short; omega)]; simp; omega
  · have h : ¬ n < l.length := by simpa using h
    conv => whnf
    exact ⟨_, _, rfl, .inl rfl, fin1 (by rw [okSay, hi, drop_len h]; rw [Bool.eq_iff_iff]; simp; omega)⟩

theorem s_l11Panel_ok (p : Sample) (hp : FitS p) : orc.pc n_s_l11Panel [.d shSample p] ⟨.bool, .fz, isPanel p⟩ := by
  have h1 := hp.p.1
  have h2 := hp.l
  refine p_s_l11Panel true rfl rfl ?_
  conv => whnf
  refine loop_ups (X := Int) (fun i => [⟨0, 3, false, .d tI i⟩]) (fun i => p.1.length - i.toNat) (fun i => ∃ n : Nat, i = n ∧ n ≤ p.1.length ∧ p.1.all (okSay p.2.1.length) = (p.1.drop n).all (okSay p.2.1.length)) 0 ?_ ⟨0, rfl, by omega, rfl⟩ ?_
  · refine st_eq ?_
    conv => whnf
    exact ⟨rfl⟩
  rintro _ ⟨n, rfl, hn, hi⟩
  conv => whnf
  refine cond_intro (fun k => ?_) (fun k => ?_)
  · have k : n < p.1.length := by simpa using k
    rw [all_drop _ p.1 k tIS.dflt] at hi
    conv => whnf
    refine ⟨⟨by omega, by omega⟩, ?_⟩
    conv => whnf
    refine ⟨_, s_l11Says_ok (p.1.getD n tIS.dflt) p.2.1.length (hp.p.at k _), (by first | exact (fun _ => rfl) | exact (fun h => Bool.noConfusion h)), ?_⟩
    conv => whnf
    refine cond_intro (fun u0 => ?_) (fun u0 => ?_)
    · have u : okSay p.2.1.length (p.1.getD n tIS.dflt) = false := by simpa using u0
      conv => whnf
      exact ⟨_, _, rfl, .inl rfl, fin1 (by unfold isPanel; rw [hi, u]; simp)⟩
    · have u : okSay p.2.1.length (p.1.getD n tIS.dflt) = true := by simpa using u0
      conv => whnf
      refine ⟨_, rfl, ⟨n + 1, wrap_succ k (by unfold Short; omega), by omega, by rw [hi, u]; rfl⟩, ?_⟩
      rw [wrap_succ k (by unfold Short; omega)]; simp; omega
  · have k : ¬ n < p.1.length := by simpa using k
    have all : p.1.all (okSay p.2.1.length) = true := by rw [hi, drop_len k]; rfl
    have base : isPanel p = (inB p.1.length 1 8 && (decide (p.2.1.length ≤ 16) && p.2.1.all isLabel)) := by unfold isPanel; rw [all]; simp
    conv => whnf
    refine ⟨_, s_l1In_ok _ _ _, (by first | exact (fun _ => rfl) | exact (fun h => Bool.noConfusion h)), ?_⟩
    conv => whnf
    refine cond_intro (fun q0 => ?_) (fun q0 => ?_)
    · have q : inB p.1.length 1 8 = true := by simpa using q0
      conv => whnf
      repeat ((first | refine cond_t q0 ?_ | refine cond_f (hT q0) ?_ | refine cond_t (gT q0) ?_); conv => whnf)
      refine cond_intro (fun r0 => ?_) (fun r0 => ?_)
      · have r : p.2.1.length ≤ 16 := by simp at r0; omega
        conv => whnf
        repeat ((first | refine cond_t q0 ?_ | refine cond_f (hT q0) ?_ | refine cond_t (gT q0) ?_ | refine cond_t r0 ?_ | refine cond_f (hT r0) ?_ | refine cond_t (gT r0) ?_); conv => whnf)
        refine ⟨_, s_l2Labels_ok _ h2, (by first | exact (fun _ => rfl) | exact (fun h => Bool.noConfusion h)), ?_⟩
        conv => whnf
        repeat ((first | refine cond_t q0 ?_ | refine cond_f (hT q0) ?_ | refine cond_t (gT q0) ?_ | refine cond_t r0 ?_ | refine cond_f (hT r0) ?_ | refine cond_t (gT r0) ?_); conv => whnf)
        exact ⟨_, _, rfl, .inl rfl, fin1 (by rw [base, q]; simp [r])⟩
      · have r : ¬ p.2.1.length ≤ 16 := by simp at r0; omega
        conv => whnf
        repeat ((first | refine cond_t q0 ?_ | refine cond_f (hT q0) ?_ | refine cond_t (gT q0) ?_ | refine cond_f r0 ?_ | refine cond_t (hF r0) ?_ | refine cond_f (gF r0) ?_); conv => whnf)
        exact ⟨_, _, rfl, .inl rfl, fin1 (by rw [base, q]; simp [r])⟩
    · have q : inB p.1.length 1 8 = false := by simpa using q0
      conv => whnf
      repeat ((first | refine cond_f q0 ?_ | refine cond_t (hF q0) ?_ | refine cond_f (gF q0) ?_); conv => whnf)
      exact ⟨_, _, rfl, .inl rfl, fin1 (by rw [base, q]; rfl)⟩

end Go.Proofs.Ytlndfmmigndgeaa.Ev
