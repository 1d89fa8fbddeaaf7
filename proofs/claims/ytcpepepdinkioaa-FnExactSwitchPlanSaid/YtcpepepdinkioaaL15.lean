/- The law FnExactSwitchPlan: for every panel and number it returns true. -/
import Derived.Test.YtcpepepdinkioaaFnZ
namespace Go.Proofs.Ytcpepepdinkioaa.Ev
open Go
set_option linter.unusedVariables false
set_option linter.unusedSimpArgs false
set_option maxRecDepth 100000
set_option exponentiation.threshold 100000

theorem switchR_short (p : Sample) (k : Int) : (switchR p k).1.length ≤ 1048576 := by
  cases q : isPanel p && inB k 0 16 with
  | false => rw [switchR_no q]; simp
  | true =>
    rw [switchR_yes q]
    have hv : isPanel p = true := by simp only [Bool.and_eq_true] at q; exact q.1
    obtain ⟨hD, _, _⟩ := panel_len hv
    show (planK _ _ _ _ _ _ _).length ≤ _
    rw [planK_length]; omega

theorem l_FnExactSwitchPlan_ok (s : Sample) (hw : WfD shSample s) (r : Int) (hwr : WfD tI r) : orc.pc n_l_FnExactSwitchPlan [.d shSample s, .d tI r] truePk := by
  refine p_l_FnExactSwitchPlan true rfl rfl ?_
  conv => whnf
  refine ⟨_, l_szPanel_ok s 1048576 (lim_sample hw) (by decide) (by decide), (by first | exact (fun _ => rfl) | exact (fun h => Bool.noConfusion h)), ?_⟩
  conv => whnf
  refine cond_intro (fun h => ?_) (fun h => ?_)
  · conv => whnf
    exact ⟨_, _, rfl, .inl rfl, rfl⟩
  have h : ¬ szSa s 1048576 < 0 := of_decide_eq_false h
  obtain ⟨hf, _⟩ := szSa_fit (by decide) (by decide) (Int.not_lt.1 h)
  have hm := tot_bd hf.p
  have hl := hf.l
  have hr : (switchR s r).1.length ≤ 1048576 := switchR_short s r
  have eqB : ∀ x : Bool, (!(x == x)) = false := by intro x; cases x <;> rfl
  conv => whnf
  refine ⟨_, l_toPanel_ok s hf, (by first | exact (fun _ => rfl) | exact (fun h => Bool.noConfusion h)), ?_⟩
  conv => whnf
  refine ⟨_, s_SwitchPlan_ok s hf r, (by first | exact (fun _ => rfl) | exact (fun h => Bool.noConfusion h)), ?_⟩
  conv => whnf
  refine ⟨_, l_toPanel_ok s hf, (by first | exact (fun _ => rfl) | exact (fun h => Bool.noConfusion h)), ?_⟩
  conv => whnf
  refine ⟨_, i_SwitchPlan_ok s hf r, (by first | exact (fun _ => rfl) | exact (fun h => Bool.noConfusion h)), ?_⟩
  conv => whnf
  refine ⟨_, l_eqIntS_ok _ _ hr, (by first | exact (fun _ => rfl) | exact (fun h => Bool.noConfusion h)), ?_⟩
  conv => whnf
  refine cond_t (show ((!decide ((switchR s r).1 = (switchR s r).1)) == false) = true by simp) ?_
  conv => whnf
  refine cond_f (eqB _) ?_
  conv => whnf
  refine ⟨_, l_toPanel_ok s hf, (by first | exact (fun _ => rfl) | exact (fun h => Bool.noConfusion h)), ?_⟩
  conv => whnf
  refine ⟨_, l_eqPanel_ok s s hf, (by first | exact (fun _ => rfl) | exact (fun h => Bool.noConfusion h)), ?_⟩
  conv => whnf
  refine cond_f (show (!decide (s = s)) = false by simp) ?_
  conv => whnf
  refine ⟨_, _, l_markPanel_at s.1 s.2.1 s.2.2 rfl rfl rfl 1 hf.p hf.l (by omega) (by omega), ?_⟩
  conv => whnf
  refine ⟨_, l_eqIntS_ok _ _ hr, (by first | exact (fun _ => rfl) | exact (fun h => Bool.noConfusion h)), ?_⟩
  conv => whnf
  refine cond_t (show ((!decide ((switchR s r).1 = (switchR s r).1)) == false) = true by simp) ?_
  conv => whnf
  refine cond_f (eqB _) ?_
  conv => whnf
  refine ⟨_, _, l_markIntS_at (switchR s r).1 rfl rfl rfl 1 hr (by omega) (by omega), ?_⟩
  conv => whnf
  have hh := l_heldIntS_ok (switchR s r).1.length 1 hr (by omega) (by omega)
  refine ⟨_, hh, (by first | exact (fun _ => rfl) | exact (fun h => Bool.noConfusion h)), ?_⟩
  conv => whnf
  refine cond_f (by simp) ?_
  conv => whnf
  refine ⟨_, l_toPanel_ok s hf, (by first | exact (fun _ => rfl) | exact (fun h => Bool.noConfusion h)), ?_⟩
  conv => whnf
  refine ⟨_, i_SwitchPlan_ok s hf r, (by first | exact (fun _ => rfl) | exact (fun h => Bool.noConfusion h)), ?_⟩
  conv => whnf
  refine ⟨_, l_eqIntS_ok _ _ hr, (by first | exact (fun _ => rfl) | exact (fun h => Bool.noConfusion h)), ?_⟩
  conv => whnf
  refine cond_t (show ((!decide ((switchR s r).1 = (switchR s r).1)) == false) = true by simp) ?_
  conv => whnf
  refine cond_f (eqB _) ?_
  conv => whnf
  refine ⟨_, hh, (by first | exact (fun _ => rfl) | exact (fun h => Bool.noConfusion h)), ?_⟩
  conv => whnf
  refine cond_f (by simp) ?_
  conv => whnf
  exact ⟨_, _, rfl, .inl rfl, rfl⟩

end Go.Proofs.Ytcpepepdinkioaa.Ev
