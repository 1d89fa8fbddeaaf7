/- The law FnExactPerceptronTrace: for every sample and number it returns true. -/
import Derived.Test.YtcpepepdinkioaaFnV
namespace Go.Proofs.Ytcpepepdinkioaa.Ev
open Go
set_option linter.unusedVariables false
set_option linter.unusedSimpArgs false
set_option maxRecDepth 100000
set_option exponentiation.threshold 100000

theorem traceR_short {s : Sample} (r : Int) (hf : FitS s) : (traceR s r).1.length ≤ 1048576 := by
  cases q : runO s r with
  | none => rw [traceR_no q]; simp
  | some st => rw [traceR_yes q]; exact Nat.le_trans (runO_good q).1.t (by decide)

theorem l_FnExactPerceptronTrace_ok (s : Sample) (hw : WfD shSample s) (r : Int) (hwr : WfD tI r) : orc.pc n_l_FnExactPerceptronTrace [.d shSample s, .d tI r] truePk := by
  refine p_l_FnExactPerceptronTrace true rfl rfl ?_
  conv => whnf
  refine ⟨_, l_szSample_ok s 1048576 (lim_sample hw) (by decide) (by decide), (by first | exact (fun _ => rfl) | exact (fun h => Bool.noConfusion h)), ?_⟩
  conv => whnf
  refine cond_intro (fun h => ?_) (fun h => ?_)
  · conv => whnf
    exact ⟨_, _, rfl, .inl rfl, rfl⟩
  have h : ¬ szSa s 1048576 < 0 := of_decide_eq_false h
  obtain ⟨hf, _⟩ := szSa_fit (by decide) (by decide) (Int.not_lt.1 h)
  have hm := tot_bd hf.p
  have hl := hf.l
  have hr : (traceR s r).1.length ≤ 1048576 := traceR_short r hf
  have eqB : ∀ x : Bool, (!(x == x)) = false := by intro x; cases x <;> rfl
  conv => whnf
  refine ⟨_, l_toSample_ok s hf, (by first | exact (fun _ => rfl) | exact (fun h => Bool.noConfusion h)), ?_⟩
  conv => whnf
  refine ⟨_, s_PerceptronTrace_ok s r hf, (by first | exact (fun _ => rfl) | exact (fun h => Bool.noConfusion h)), ?_⟩
  conv => whnf
  refine ⟨_, l_toSample_ok s hf, (by first | exact (fun _ => rfl) | exact (fun h => Bool.noConfusion h)), ?_⟩
  conv => whnf
  refine ⟨_, i_PerceptronTrace_ok s r hf, (by first | exact (fun _ => rfl) | exact (fun h => Bool.noConfusion h)), ?_⟩
  conv => whnf
  refine ⟨_, l_eqIntS_ok _ _ hr, (by first | exact (fun _ => rfl) | exact (fun h => Bool.noConfusion h)), ?_⟩
  conv => whnf
  refine cond_t (show ((!decide ((traceR s r).1 = (traceR s r).1)) == false) = true by simp) ?_
  conv => whnf
  refine cond_f (eqB _) ?_
  conv => whnf
  refine ⟨_, l_toSample_ok s hf, (by first | exact (fun _ => rfl) | exact (fun h => Bool.noConfusion h)), ?_⟩
  conv => whnf
  refine ⟨_, l_eqSample_ok s s hf, (by first | exact (fun _ => rfl) | exact (fun h => Bool.noConfusion h)), ?_⟩
  conv => whnf
  refine cond_f (show (!decide (s = s)) = false by simp) ?_
  conv => whnf
  refine ⟨_, _, l_markSample_at s.1 s.2.1 s.2.2 rfl rfl rfl 1 hf.p hf.l (by omega) (by omega), ?_⟩
  conv => whnf
  refine ⟨_, l_eqIntS_ok _ _ hr, (by first | exact (fun _ => rfl) | exact (fun h => Bool.noConfusion h)), ?_⟩
  conv => whnf
  refine cond_t (show ((!decide ((traceR s r).1 = (traceR s r).1)) == false) = true by simp) ?_
  conv => whnf
  refine cond_f (eqB _) ?_
  conv => whnf
  refine ⟨_, _, l_markIntS_at (traceR s r).1 rfl rfl rfl 1 hr (by omega) (by omega), ?_⟩
  conv => whnf
  have hh := l_heldIntS_ok (traceR s r).1.length 1 hr (by omega) (by omega)
  refine ⟨_, hh, (by first | exact (fun _ => rfl) | exact (fun h => Bool.noConfusion h)), ?_⟩
  conv => whnf
  refine cond_f (by simp) ?_
  conv => whnf
  refine ⟨_, l_toSample_ok s hf, (by first | exact (fun _ => rfl) | exact (fun h => Bool.noConfusion h)), ?_⟩
  conv => whnf
  refine ⟨_, i_PerceptronTrace_ok s r hf, (by first | exact (fun _ => rfl) | exact (fun h => Bool.noConfusion h)), ?_⟩
  conv => whnf
  refine ⟨_, l_eqIntS_ok _ _ hr, (by first | exact (fun _ => rfl) | exact (fun h => Bool.noConfusion h)), ?_⟩
  conv => whnf
  refine cond_t (show ((!decide ((traceR s r).1 = (traceR s r).1)) == false) = true by simp) ?_
  conv => whnf
  refine cond_f (eqB _) ?_
  conv => whnf
  refine ⟨_, hh, (by first | exact (fun _ => rfl) | exact (fun h => Bool.noConfusion h)), ?_⟩
  conv => whnf
  refine cond_f (by simp) ?_
  conv => whnf
  exact ⟨_, _, rfl, .inl rfl, rfl⟩

end Go.Proofs.Ytcpepepdinkioaa.Ev
