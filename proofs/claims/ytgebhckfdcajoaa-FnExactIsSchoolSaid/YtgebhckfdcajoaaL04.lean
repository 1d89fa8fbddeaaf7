/- The law FnExactIsSchool: for every school it returns true. -/
import Derived.Test.YtgebhckfdcajoaaFnE
namespace Go.Proofs.Ytgebhckfdcajoaa.Ev
open Go
set_option linter.unusedVariables false
set_option linter.unusedSimpArgs false
set_option maxRecDepth 100000
set_option exponentiation.threshold 100000

theorem l_FnExactIsSchool_ok (s : School) (hw : WfD shSchool s) : orc.pc n_l_FnExactIsSchool [.d shSchool s] truePk := by
  refine p_l_FnExactIsSchool true rfl rfl ?_
  conv => whnf
  refine ⟨_, l_szSchool_ok s 1048576 (lim_sample hw.1) (lim_list hw.2.1.1) (by decide) (by decide), (by first | exact (fun _ => rfl) | exact (fun h => Bool.noConfusion h)), ?_⟩
  conv => whnf
  refine cond_intro (fun h => ?_) (fun h => ?_)
  · conv => whnf
    exact ⟨_, _, rfl, .inl rfl, rfl⟩
  have h : ¬ szSc s 1048576 < 0 := of_decide_eq_false h
  obtain ⟨hf, _⟩ := szSc_fit (by decide) (by decide) (Int.not_lt.1 h)
  conv => whnf
  refine ⟨_, l_toSchool_ok s hf, (by first | exact (fun _ => rfl) | exact (fun h => Bool.noConfusion h)), ?_⟩
  conv => whnf
  refine ⟨_, s_IsSchool_ok s hf, (by first | exact (fun _ => rfl) | exact (fun h => Bool.noConfusion h)), ?_⟩
  conv => whnf
  refine ⟨_, l_toSchool_ok s hf, (by first | exact (fun _ => rfl) | exact (fun h => Bool.noConfusion h)), ?_⟩
  conv => whnf
  refine ⟨_, i_IsSchool_ok s hf, (by first | exact (fun _ => rfl) | exact (fun h => Bool.noConfusion h)), ?_⟩
  conv => whnf
  refine cond_f (show (!(isSchool s == isSchool s)) = false by simp) ?_
  conv => whnf
  refine ⟨_, l_toSchool_ok s hf, (by first | exact (fun _ => rfl) | exact (fun h => Bool.noConfusion h)), ?_⟩
  conv => whnf
  refine ⟨_, l_eqSchool_ok s s hf, (by first | exact (fun _ => rfl) | exact (fun h => Bool.noConfusion h)), ?_⟩
  conv => whnf
  refine cond_f (show (!decide (s = s)) = false by simp) ?_
  conv => whnf
  exact ⟨_, _, rfl, .inl rfl, rfl⟩

end Go.Proofs.Ytgebhckfdcajoaa.Ev
