/- The law FnExactLiftSample: for every sample it returns true. -/
import Derived.Test.YtgebhckfdcajoaaFnT
namespace Go.Proofs.Ytgebhckfdcajoaa.Ev
open Go
set_option linter.unusedVariables false
set_option linter.unusedSimpArgs false
set_option maxRecDepth 100000
set_option exponentiation.threshold 100000

theorem liftR_fit {s : Sample} (hs : FitS s) : FitS (liftR s).1 := by
  cases h : okLift s with
  | true =>
    rw [liftR_yes h]
    have q : isSample s = true := by unfold okLift at h; simp only [Bool.and_eq_true] at h; exact h.1
    obtain ⟨f1, f2⟩ := sample_pt q
    refine ⟨⟨by simpa using hs.p.1, ?_⟩, hs.l⟩
    intro x hx
    obtain ⟨y, hy, rfl⟩ := List.mem_map.1 hx
    obtain ⟨n, hn, rfl⟩ := List.mem_iff_getElem.1 hy
    have := f2 n hn
    rw [List.getD_eq_getElem?_getD, List.getElem?_eq_getElem hn] at this
    simp only [Option.getD_some] at this
    simp [up1]; omega
  | false => rw [liftR_no h]; exact ⟨⟨by simp [zeroSample], by simp [zeroSample]⟩, by simp [zeroSample]⟩

theorem l_FnExactLiftSample_ok (s : Sample) (hw : WfD shSample s) : orc.pc n_l_FnExactLiftSample [.d shSample s] truePk := by
  refine p_l_FnExactLiftSample true rfl rfl ?_
  conv => whnf
  refine ⟨_, l_szSample_ok s 1048576 (lim_sample hw) (by decide) (by decide), (by first | exact (fun _ => rfl) | exact (fun h => Bool.noConfusion h)), ?_⟩
  conv => whnf
  refine cond_intro (fun h => ?_) (fun h => ?_)
  · conv => whnf
    exact ⟨_, _, rfl, .inl rfl, rfl⟩
  have h : ¬ szSa s 1048576 < 0 := of_decide_eq_false h
  obtain ⟨hf, _⟩ := szSa_fit (by decide) (by decide) (Int.not_lt.1 h)
  have hr := liftR_fit hf
  have hm := tot_bd hf.p
  have hm' := tot_bd hr.p
  have eqB : ∀ x : Bool, (!(x == x)) = false := by intro x; cases x <;> rfl
  conv => whnf
  refine ⟨_, l_toSample_ok s hf, (by first | exact (fun _ => rfl) | exact (fun h => Bool.noConfusion h)), ?_⟩
  conv => whnf
  refine ⟨_, s_LiftSample_ok s hf, (by first | exact (fun _ => rfl) | exact (fun h => Bool.noConfusion h)), ?_⟩
  conv => whnf
  refine ⟨_, l_toSample_ok s hf, (by first | exact (fun _ => rfl) | exact (fun h => Bool.noConfusion h)), ?_⟩
  conv => whnf
  refine ⟨_, i_LiftSample_ok s hf, (by first | exact (fun _ => rfl) | exact (fun h => Bool.noConfusion h)), ?_⟩
  conv => whnf
  refine ⟨_, l_eqSample_ok _ _ hr, (by first | exact (fun _ => rfl) | exact (fun h => Bool.noConfusion h)), ?_⟩
  conv => whnf
  refine cond_t (show ((!decide ((liftR s).1 = (liftR s).1)) == false) = true by simp) ?_
  conv => whnf
  refine cond_f (eqB _) ?_
  conv => whnf
  refine ⟨_, l_toSample_ok s hf, (by first | exact (fun _ => rfl) | exact (fun h => Bool.noConfusion h)), ?_⟩
  conv => whnf
  refine ⟨_, l_eqSample_ok _ _ hf, (by first | exact (fun _ => rfl) | exact (fun h => Bool.noConfusion h)), ?_⟩
  conv => whnf
  refine cond_f (show (!decide (s = s)) = false by simp) ?_
  conv => whnf
  refine ⟨_, _, l_markSample_at s.1 s.2.1 s.2.2 rfl rfl rfl 1 hf.p hf.l (by omega) (by omega), ?_⟩
  conv => whnf
  refine ⟨_, l_eqSample_ok _ _ hr, (by first | exact (fun _ => rfl) | exact (fun h => Bool.noConfusion h)), ?_⟩
  conv => whnf
  refine cond_t (show ((!decide ((liftR s).1 = (liftR s).1)) == false) = true by simp) ?_
  conv => whnf
  refine cond_f (eqB _) ?_
  conv => whnf
  refine ⟨_, _, l_markSample_at (liftR s).1.1 (liftR s).1.2.1 (liftR s).1.2.2 rfl rfl rfl 1 hr.p hr.l (by omega) (by omega), ?_⟩
  conv => whnf
  have hh := l_heldSample_ok (liftR s).1.1 (liftR s).1.2.1.length (liftR s).1.2.2 1 hr.p hr.l (by omega) (by omega)
  refine ⟨_, hh, (by first | exact (fun _ => rfl) | exact (fun h => Bool.noConfusion h)), ?_⟩
  conv => whnf
  refine cond_f (by simp) ?_
  conv => whnf
  refine ⟨_, l_toSample_ok s hf, (by first | exact (fun _ => rfl) | exact (fun h => Bool.noConfusion h)), ?_⟩
  conv => whnf
  refine ⟨_, i_LiftSample_ok s hf, (by first | exact (fun _ => rfl) | exact (fun h => Bool.noConfusion h)), ?_⟩
  conv => whnf
  refine ⟨_, l_eqSample_ok _ _ hr, (by first | exact (fun _ => rfl) | exact (fun h => Bool.noConfusion h)), ?_⟩
  conv => whnf
  refine cond_t (show ((!decide ((liftR s).1 = (liftR s).1)) == false) = true by simp) ?_
  conv => whnf
  refine cond_f (eqB _) ?_
  conv => whnf
  refine ⟨_, hh, (by first | exact (fun _ => rfl) | exact (fun h => Bool.noConfusion h)), ?_⟩
  conv => whnf
  refine cond_f (by simp) ?_
  conv => whnf
  exact ⟨_, _, rfl, .inl rfl, rfl⟩

end Go.Proofs.Ytgebhckfdcajoaa.Ev
