/- The law FnExactStepPerceptron: for every plane, point and label it returns true. -/
import Derived.Test.YtgebhckfdcajoaaFnG
namespace Go.Proofs.Ytgebhckfdcajoaa.Ev
open Go
set_option linter.unusedVariables false
set_option linter.unusedSimpArgs false
set_option maxRecDepth 100000
set_option exponentiation.threshold 100000

theorem stepR_fit (p : Plane) (x : List Int) (l : Int) (hp : p.1.length ≤ 1048576) : (stepR p x l).1.1.length ≤ 1048576 := by
  unfold stepR
  split
  · unfold nextP
    split
    · exact hp
    · show (addW p.1 x l).length ≤ _
      rw [addW_length]; exact hp
  · simp [zeroPlane]

theorem l_FnExactStepPerceptron_ok (p : Plane) (hw : WfD shPlane p) (x : List Int) (hx : WfD tIS x) (l : Int) (hl : WfD tI l) : orc.pc n_l_FnExactStepPerceptron [.d shPlane p, .d tIS x, .d tI l] truePk := by
  refine p_l_FnExactStepPerceptron true rfl rfl ?_
  conv => whnf
  refine cond_intro (fun h => ?_) (fun h => ?_)
  · conv => whnf
    exact ⟨_, _, rfl, .inl rfl, rfl⟩
  have hx : x.length ≤ 1048576 := by simp at h; omega
  conv => whnf
  refine ⟨_, l_szPlane_ok p 1048576 (lim_list hw.1) (by decide) (by decide), (by first | exact (fun _ => rfl) | exact (fun h => Bool.noConfusion h)), ?_⟩
  conv => whnf
  refine cond_intro (fun h => ?_) (fun h => ?_)
  · conv => whnf
    exact ⟨_, _, rfl, .inl rfl, rfl⟩
  have h : ¬ szL p.1.length 1048576 < 0 := of_decide_eq_false h
  obtain ⟨hf, _⟩ := szL_le (Int.not_lt.1 h)
  have hf : p.1.length ≤ 1048576 := by omega
  have hr := stepR_fit p x l hf
  conv => whnf
  refine ⟨_, l_toPlane_ok p hf, (by first | exact (fun _ => rfl) | exact (fun h => Bool.noConfusion h)), ?_⟩
  conv => whnf
  refine ⟨_, l_toIntS_ok x hx, (by first | exact (fun _ => rfl) | exact (fun h => Bool.noConfusion h)), ?_⟩
  conv => whnf
  refine ⟨_, s_StepPerceptron_ok p x l hf hx, (by first | exact (fun _ => rfl) | exact (fun h => Bool.noConfusion h)), ?_⟩
  conv => whnf
  refine ⟨_, l_toPlane_ok p hf, (by first | exact (fun _ => rfl) | exact (fun h => Bool.noConfusion h)), ?_⟩
  conv => whnf
  refine ⟨_, l_toIntS_ok x hx, (by first | exact (fun _ => rfl) | exact (fun h => Bool.noConfusion h)), ?_⟩
  conv => whnf
  refine ⟨_, i_StepPerceptron_ok p x l hf hx, (by first | exact (fun _ => rfl) | exact (fun h => Bool.noConfusion h)), ?_⟩
  conv => whnf
  refine ⟨_, l_eqPlane_ok _ _ hr, (by first | exact (fun _ => rfl) | exact (fun h => Bool.noConfusion h)), ?_⟩
  conv => whnf
  refine cond_t (show ((!decide ((stepR p x l).1 = (stepR p x l).1)) == false) = true by simp) ?_
  conv => whnf
  refine cond_t (show ((!((stepR p x l).2.1 == (stepR p x l).2.1)) == false) = true by simp) ?_
  conv => whnf
  refine cond_f (show (!((stepR p x l).2.2.1 == (stepR p x l).2.2.1)) = false by simp) ?_
  conv => whnf
  refine ⟨_, l_toPlane_ok p hf, (by first | exact (fun _ => rfl) | exact (fun h => Bool.noConfusion h)), ?_⟩
  conv => whnf
  refine ⟨_, l_eqPlane_ok _ _ hf, (by first | exact (fun _ => rfl) | exact (fun h => Bool.noConfusion h)), ?_⟩
  conv => whnf
  refine cond_f (show (!decide (p = p)) = false by simp) ?_
  conv => whnf
  refine ⟨_, l_toIntS_ok x hx, (by first | exact (fun _ => rfl) | exact (fun h => Bool.noConfusion h)), ?_⟩
  conv => whnf
  refine ⟨_, l_eqIntS_ok _ _ hx, (by first | exact (fun _ => rfl) | exact (fun h => Bool.noConfusion h)), ?_⟩
  conv => whnf
  refine cond_f (show (!decide (x = x)) = false by simp) ?_
  conv => whnf
  refine ⟨_, _, l_markPlane_at p.1 p.2 rfl rfl rfl 1 hf (by omega) (by omega), ?_⟩
  conv => whnf
  refine ⟨_, _, l_markIntS_at x rfl rfl rfl (1 + p.1.length) hx (by omega) (by omega), ?_⟩
  conv => whnf
  refine ⟨_, l_eqPlane_ok _ _ hr, (by first | exact (fun _ => rfl) | exact (fun h => Bool.noConfusion h)), ?_⟩
  conv => whnf
  refine cond_t (show ((!decide ((stepR p x l).1 = (stepR p x l).1)) == false) = true by simp) ?_
  conv => whnf
  refine cond_t (show ((!((stepR p x l).2.1 == (stepR p x l).2.1)) == false) = true by simp) ?_
  conv => whnf
  refine cond_f (show (!((stepR p x l).2.2.1 == (stepR p x l).2.2.1)) = false by simp) ?_
  conv => whnf
  refine ⟨_, _, l_markPlane_at (stepR p x l).1.1 (stepR p x l).1.2 rfl rfl rfl 1 hr (by omega) (by omega), ?_⟩
  conv => whnf
  have hh := l_heldPlane_ok (stepR p x l).1.1.length (stepR p x l).1.2 1 hr (by omega) (by omega)
  refine ⟨_, hh, (by first | exact (fun _ => rfl) | exact (fun h => Bool.noConfusion h)), ?_⟩
  conv => whnf
  refine cond_f (by simp) ?_
  conv => whnf
  refine ⟨_, l_toPlane_ok p hf, (by first | exact (fun _ => rfl) | exact (fun h => Bool.noConfusion h)), ?_⟩
  conv => whnf
  refine ⟨_, l_toIntS_ok x hx, (by first | exact (fun _ => rfl) | exact (fun h => Bool.noConfusion h)), ?_⟩
  conv => whnf
  refine ⟨_, i_StepPerceptron_ok p x l hf hx, (by first | exact (fun _ => rfl) | exact (fun h => Bool.noConfusion h)), ?_⟩
  conv => whnf
  refine ⟨_, l_eqPlane_ok _ _ hr, (by first | exact (fun _ => rfl) | exact (fun h => Bool.noConfusion h)), ?_⟩
  conv => whnf
  refine cond_t (show ((!decide ((stepR p x l).1 = (stepR p x l).1)) == false) = true by simp) ?_
  conv => whnf
  refine cond_t (show ((!((stepR p x l).2.1 == (stepR p x l).2.1)) == false) = true by simp) ?_
  conv => whnf
  refine cond_f (show (!((stepR p x l).2.2.1 == (stepR p x l).2.2.1)) = false by simp) ?_
  conv => whnf
  refine ⟨_, hh, (by first | exact (fun _ => rfl) | exact (fun h => Bool.noConfusion h)), ?_⟩
  conv => whnf
  refine cond_f (by simp) ?_
  conv => whnf
  exact ⟨_, _, rfl, .inl rfl, rfl⟩

end Go.Proofs.Ytgebhckfdcajoaa.Ev
