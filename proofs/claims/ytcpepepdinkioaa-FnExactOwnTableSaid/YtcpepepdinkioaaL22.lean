/- The law FnExactOwnTable: for every school it returns true. -/
import Derived.Test.YtcpepepdinkioaaFnK
namespace Go.Proofs.Ytcpepepdinkioaa.Ev
open Go
set_option linter.unusedVariables false
set_option linter.unusedSimpArgs false
set_option maxRecDepth 100000
set_option exponentiation.threshold 100000

theorem l_FnExactOwnTable_ok (s : School) (hw : WfD shSchool s) : orc.pc n_l_FnExactOwnTable [.d shSchool s] truePk := by
  refine p_l_FnExactOwnTable true rfl rfl ?_
  conv => whnf
  refine ⟨_, l_szSchool_ok s 1048576 (lim_sample hw.1) (lim_list hw.2.1.1) (by decide) (by decide), (by first | exact (fun _ => rfl) | exact (fun h => Bool.noConfusion h)), ?_⟩
  conv => whnf
  refine cond_intro (fun h => ?_) (fun h => ?_)
  · conv => whnf
    exact ⟨_, _, rfl, .inl rfl, rfl⟩
  have h : ¬ szSc s 1048576 < 0 := of_decide_eq_false h
  obtain ⟨hf, _⟩ := szSc_fit (by decide) (by decide) (Int.not_lt.1 h)
  have hm := tot_bd hf.sm.p
  have hl := hf.sm.l
  have hz := hf.pl
  have hr : (tableR s).1.length ≤ 1048576 := tableR_short
  conv => whnf
  refine ⟨_, l_toSchool_ok s hf, (by first | exact (fun _ => rfl) | exact (fun h => Bool.noConfusion h)), ?_⟩
  conv => whnf
  refine ⟨_, s_OwnTable_ok s hf, (by first | exact (fun _ => rfl) | exact (fun h => Bool.noConfusion h)), ?_⟩
  conv => whnf
  refine ⟨_, l_toSchool_ok s hf, (by first | exact (fun _ => rfl) | exact (fun h => Bool.noConfusion h)), ?_⟩
  conv => whnf
  refine ⟨_, i_OwnTable_ok s hf, (by first | exact (fun _ => rfl) | exact (fun h => Bool.noConfusion h)), ?_⟩
  conv => whnf
  refine ⟨_, l_eqIntS_ok _ _ hr, (by first | exact (fun _ => rfl) | exact (fun h => Bool.noConfusion h)), ?_⟩
  conv => whnf
  refine cond_t (show ((!decide ((tableR s).1 = (tableR s).1)) == false) = true by simp) ?_
  conv => whnf
  refine cond_f (show (!((tableR s).2.1 == (tableR s).2.1)) = false by simp) ?_
  conv => whnf
  refine ⟨_, l_toSchool_ok s hf, (by first | exact (fun _ => rfl) | exact (fun h => Bool.noConfusion h)), ?_⟩
  conv => whnf
  refine ⟨_, l_eqSchool_ok s s hf, (by first | exact (fun _ => rfl) | exact (fun h => Bool.noConfusion h)), ?_⟩
  conv => whnf
  refine cond_f (show (!decide (s = s)) = false by simp) ?_
  conv => whnf
  refine ⟨_, _, l_markSchool_at s.1.1 s.1.2.1 s.2.1.1 s.1.2.2 s.2.1.2 s.2.2 rfl rfl rfl 1 hf.sm.p hl hz (by omega) (by omega), ?_⟩
  conv => whnf
  refine ⟨_, l_eqIntS_ok _ _ hr, (by first | exact (fun _ => rfl) | exact (fun h => Bool.noConfusion h)), ?_⟩
  conv => whnf
  refine cond_t (show ((!decide ((tableR s).1 = (tableR s).1)) == false) = true by simp) ?_
  conv => whnf
  refine cond_f (show (!((tableR s).2.1 == (tableR s).2.1)) = false by simp) ?_
  conv => whnf
  refine ⟨_, _, l_markIntS_at (tableR s).1 rfl rfl rfl 1 hr (by omega) (by omega), ?_⟩
  conv => whnf
  have hh := l_heldIntS_ok (tableR s).1.length 1 hr (by omega) (by omega)
  refine ⟨_, hh, (by first | exact (fun _ => rfl) | exact (fun h => Bool.noConfusion h)), ?_⟩
  conv => whnf
  refine cond_f (by simp) ?_
  conv => whnf
  refine ⟨_, l_toSchool_ok s hf, (by first | exact (fun _ => rfl) | exact (fun h => Bool.noConfusion h)), ?_⟩
  conv => whnf
  refine ⟨_, i_OwnTable_ok s hf, (by first | exact (fun _ => rfl) | exact (fun h => Bool.noConfusion h)), ?_⟩
  conv => whnf
  refine ⟨_, l_eqIntS_ok _ _ hr, (by first | exact (fun _ => rfl) | exact (fun h => Bool.noConfusion h)), ?_⟩
  conv => whnf
  refine cond_t (show ((!decide ((tableR s).1 = (tableR s).1)) == false) = true by simp) ?_
  conv => whnf
  refine cond_f (show (!((tableR s).2.1 == (tableR s).2.1)) = false by simp) ?_
  conv => whnf
  refine ⟨_, hh, (by first | exact (fun _ => rfl) | exact (fun h => Bool.noConfusion h)), ?_⟩
  conv => whnf
  refine cond_f (by simp) ?_
  conv => whnf
  exact ⟨_, _, rfl, .inl rfl, rfl⟩

end Go.Proofs.Ytcpepepdinkioaa.Ev
