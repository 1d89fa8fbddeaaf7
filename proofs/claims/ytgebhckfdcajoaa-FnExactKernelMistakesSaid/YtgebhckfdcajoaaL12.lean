/- The law FnExactKernelMistakes: for every sample, list of counts and degree it returns true. -/
import Derived.Test.YtgebhckfdcajoaaFnO
namespace Go.Proofs.Ytgebhckfdcajoaa.Ev
open Go
set_option linter.unusedVariables false
set_option linter.unusedSimpArgs false
set_option maxRecDepth 100000
set_option exponentiation.threshold 100000

theorem l_FnExactKernelMistakes_ok (s : Sample) (hw : WfD shSample s) (c : List Int) (hwc : WfD tIS c) (e : Int) (hwe : WfD tI e) : orc.pc n_l_FnExactKernelMistakes [.d shSample s, .d tIS c, .d tI e] truePk := by
  refine p_l_FnExactKernelMistakes true rfl rfl ?_
  conv => whnf
  refine cond_intro (fun h => ?_) (fun h => ?_)
  · conv => whnf
    exact ⟨_, _, rfl, .inl rfl, rfl⟩
  have hc : c.length ≤ 1048576 := by simp at h; omega
  conv => whnf
  refine ⟨_, l_szSample_ok s 1048576 (lim_sample hw) (by decide) (by decide), (by first | exact (fun _ => rfl) | exact (fun h => Bool.noConfusion h)), ?_⟩
  conv => whnf
  refine cond_intro (fun h => ?_) (fun h => ?_)
  · conv => whnf
    exact ⟨_, _, rfl, .inl rfl, rfl⟩
  have h : ¬ szSa s 1048576 < 0 := of_decide_eq_false h
  obtain ⟨hf, _⟩ := szSa_fit (by decide) (by decide) (Int.not_lt.1 h)
  have hm := tot_bd hf.p
  have hl := hf.l
  have hr : (kernR s c e).1.length ≤ 1048576 := kernR_short
  conv => whnf
  refine ⟨_, l_toSample_ok s hf, (by first | exact (fun _ => rfl) | exact (fun h => Bool.noConfusion h)), ?_⟩
  conv => whnf
  refine ⟨_, l_toIntS_ok c hc, (by first | exact (fun _ => rfl) | exact (fun h => Bool.noConfusion h)), ?_⟩
  conv => whnf
  refine ⟨_, s_KernelMistakes_ok s c e hf hc, (by first | exact (fun _ => rfl) | exact (fun h => Bool.noConfusion h)), ?_⟩
  conv => whnf
  refine ⟨_, l_toSample_ok s hf, (by first | exact (fun _ => rfl) | exact (fun h => Bool.noConfusion h)), ?_⟩
  conv => whnf
  refine ⟨_, l_toIntS_ok c hc, (by first | exact (fun _ => rfl) | exact (fun h => Bool.noConfusion h)), ?_⟩
  conv => whnf
  refine ⟨_, i_KernelMistakes_ok s c e hf hc, (by first | exact (fun _ => rfl) | exact (fun h => Bool.noConfusion h)), ?_⟩
  conv => whnf
  refine ⟨_, l_eqIntS_ok _ _ hr, (by first | exact (fun _ => rfl) | exact (fun h => Bool.noConfusion h)), ?_⟩
  conv => whnf
  refine cond_t (show ((!decide ((kernR s c e).1 = (kernR s c e).1)) == false) = true by simp) ?_
  conv => whnf
  refine cond_f (show (!((kernR s c e).2.1 == (kernR s c e).2.1)) = false by simp) ?_
  conv => whnf
  refine ⟨_, l_toSample_ok s hf, (by first | exact (fun _ => rfl) | exact (fun h => Bool.noConfusion h)), ?_⟩
  conv => whnf
  refine ⟨_, l_eqSample_ok s s hf, (by first | exact (fun _ => rfl) | exact (fun h => Bool.noConfusion h)), ?_⟩
  conv => whnf
  refine cond_f (show (!decide (s = s)) = false by simp) ?_
  conv => whnf
  refine ⟨_, l_toIntS_ok c hc, (by first | exact (fun _ => rfl) | exact (fun h => Bool.noConfusion h)), ?_⟩
  conv => whnf
  refine ⟨_, l_eqIntS_ok c c hc, (by first | exact (fun _ => rfl) | exact (fun h => Bool.noConfusion h)), ?_⟩
  conv => whnf
  refine cond_f (show (!decide (c = c)) = false by simp) ?_
  conv => whnf
  refine ⟨_, _, l_markSample_at s.1 s.2.1 s.2.2 rfl rfl rfl 1 hf.p hf.l (by omega) (by omega), ?_⟩
  conv => whnf
  refine ⟨_, _, l_markIntS_at c rfl rfl rfl _ hc (by omega) (by omega), ?_⟩
  conv => whnf
  refine ⟨_, l_eqIntS_ok _ _ hr, (by first | exact (fun _ => rfl) | exact (fun h => Bool.noConfusion h)), ?_⟩
  conv => whnf
  refine cond_t (show ((!decide ((kernR s c e).1 = (kernR s c e).1)) == false) = true by simp) ?_
  conv => whnf
  refine cond_f (show (!((kernR s c e).2.1 == (kernR s c e).2.1)) = false by simp) ?_
  conv => whnf
  refine ⟨_, _, l_markIntS_at (kernR s c e).1 rfl rfl rfl 1 hr (by omega) (by omega), ?_⟩
  conv => whnf
  have hh := l_heldIntS_ok (kernR s c e).1.length 1 hr (by omega) (by omega)
  refine ⟨_, hh, (by first | exact (fun _ => rfl) | exact (fun h => Bool.noConfusion h)), ?_⟩
  conv => whnf
  refine cond_f (by simp) ?_
  conv => whnf
  refine ⟨_, l_toSample_ok s hf, (by first | exact (fun _ => rfl) | exact (fun h => Bool.noConfusion h)), ?_⟩
  conv => whnf
  refine ⟨_, l_toIntS_ok c hc, (by first | exact (fun _ => rfl) | exact (fun h => Bool.noConfusion h)), ?_⟩
  conv => whnf
  refine ⟨_, i_KernelMistakes_ok s c e hf hc, (by first | exact (fun _ => rfl) | exact (fun h => Bool.noConfusion h)), ?_⟩
  conv => whnf
  refine ⟨_, l_eqIntS_ok _ _ hr, (by first | exact (fun _ => rfl) | exact (fun h => Bool.noConfusion h)), ?_⟩
  conv => whnf
  refine cond_t (show ((!decide ((kernR s c e).1 = (kernR s c e).1)) == false) = true by simp) ?_
  conv => whnf
  refine cond_f (show (!((kernR s c e).2.1 == (kernR s c e).2.1)) = false by simp) ?_
  conv => whnf
  refine ⟨_, hh, (by first | exact (fun _ => rfl) | exact (fun h => Bool.noConfusion h)), ?_⟩
  conv => whnf
  refine cond_f (by simp) ?_
  conv => whnf
  exact ⟨_, _, rfl, .inl rfl, rfl⟩

end Go.Proofs.Ytgebhckfdcajoaa.Ev
