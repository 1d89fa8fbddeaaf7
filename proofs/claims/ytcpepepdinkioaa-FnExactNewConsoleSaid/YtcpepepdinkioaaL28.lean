/- The law FnExactNewConsole: for every school it returns true. -/
import Derived.Test.YtcpepepdinkioaaFnL
namespace Go.Proofs.Ytcpepepdinkioaa.Ev
open Go
set_option linter.unusedVariables false
set_option linter.unusedSimpArgs false
set_option maxRecDepth 100000
set_option exponentiation.threshold 100000

theorem l_FnExactNewConsole_ok (s : School) (hw : WfD shSchool s) : orc.pc n_l_FnExactNewConsole [.d shSchool s] truePk := by
  refine p_l_FnExactNewConsole true rfl rfl ?_
  conv => whnf
  refine ⟨_, l_szSchool_ok s 1048576 (lim_sample hw.1) (lim_list hw.2.1.1) (by decide) (by decide), (by first | exact (fun _ => rfl) | exact (fun h => Bool.noConfusion h)), ?_⟩
  conv => whnf
  refine cond_intro (fun h => ?_) (fun h => ?_)
  · conv => whnf
    exact ⟨_, _, rfl, .inl rfl, rfl⟩
  have h : ¬ szSc s 1048576 < 0 := of_decide_eq_false h
  obtain ⟨hf, _⟩ := szSc_fit (by decide) (by decide) (Int.not_lt.1 h)
  have hm := tot_bd hf.sm.p
  have hl := hf.sm.l
  have hz := hf.pl
  have hr := consR_fit hf
  have hrm := tot_bd hr.sm.p
  have hrl := hr.sm.l
  have hrz := hr.pl
  conv => whnf
  refine ⟨_, l_toSchool_ok s hf, (by first | exact (fun _ => rfl) | exact (fun h => Bool.noConfusion h)), ?_⟩
  conv => whnf
  refine ⟨_, s_NewConsole_ok s hf, (by first | exact (fun _ => rfl) | exact (fun h => Bool.noConfusion h)), ?_⟩
  conv => whnf
  refine ⟨_, l_toSchool_ok s hf, (by first | exact (fun _ => rfl) | exact (fun h => Bool.noConfusion h)), ?_⟩
  conv => whnf
  refine ⟨_, i_NewConsole_ok s hf, (by first | exact (fun _ => rfl) | exact (fun h => Bool.noConfusion h)), ?_⟩
  conv => whnf
  refine ⟨_, l_eqConsole_self _ hr, (by first | exact (fun _ => rfl) | exact (fun h => Bool.noConfusion h)), ?_⟩
  conv => whnf
  refine cond_f (show (!((consR s).2.1 == (consR s).2.1)) = false by simp) ?_
  conv => whnf
  refine ⟨_, l_toSchool_ok s hf, (by first | exact (fun _ => rfl) | exact (fun h => Bool.noConfusion h)), ?_⟩
  conv => whnf
  refine ⟨_, l_eqSchool_ok s s hf, (by first | exact (fun _ => rfl) | exact (fun h => Bool.noConfusion h)), ?_⟩
  conv => whnf
  refine cond_f (show (!decide (s = s)) = false by simp) ?_
  conv => whnf
  refine ⟨_, _, l_markSchool_at s.1.1 s.1.2.1 s.2.1.1 s.1.2.2 s.2.1.2 s.2.2 rfl rfl rfl 1 hf.sm.p hl hz (by omega) (by omega), ?_⟩
  conv => whnf
  refine ⟨_, l_eqConsole_self _ hr, (by first | exact (fun _ => rfl) | exact (fun h => Bool.noConfusion h)), ?_⟩
  conv => whnf
  refine cond_f (show (!((consR s).2.1 == (consR s).2.1)) = false by simp) ?_
  conv => whnf
  refine ⟨_, _, l_markConsole_at (consR s).1.1.1.1 (consR s).1.1.1.2.1 (consR s).1.1.2.1.1 (consR s).1.1.1.2.2 (consR s).1.1.2.1.2 (consR s).1.1.2.2 (consR s).1.2 rfl rfl rfl 1 hr.sm.p hrl hrz (by omega) (by omega), ?_⟩
  conv => whnf
  have hh := l_heldConsole_ok (consR s).1.1.1.1 (consR s).1.1.1.2.1.length (consR s).1.1.2.1.1.length (consR s).1.1.1.2.2 (consR s).1.1.2.1.2 (consR s).1.1.2.2 (consR s).1.2 1 hr.sm.p hrl hrz (by omega) (by omega)
  refine ⟨_, hh, (by first | exact (fun _ => rfl) | exact (fun h => Bool.noConfusion h)), ?_⟩
  conv => whnf
  refine cond_f (by simp) ?_
  conv => whnf
  refine ⟨_, l_toSchool_ok s hf, (by first | exact (fun _ => rfl) | exact (fun h => Bool.noConfusion h)), ?_⟩
  conv => whnf
  refine ⟨_, i_NewConsole_ok s hf, (by first | exact (fun _ => rfl) | exact (fun h => Bool.noConfusion h)), ?_⟩
  conv => whnf
  refine ⟨_, l_eqConsole_self _ hr, (by first | exact (fun _ => rfl) | exact (fun h => Bool.noConfusion h)), ?_⟩
  conv => whnf
  refine cond_f (show (!((consR s).2.1 == (consR s).2.1)) = false by simp) ?_
  conv => whnf
  refine ⟨_, hh, (by first | exact (fun _ => rfl) | exact (fun h => Bool.noConfusion h)), ?_⟩
  conv => whnf
  refine cond_f (by simp) ?_
  conv => whnf
  exact ⟨_, _, rfl, .inl rfl, rfl⟩

end Go.Proofs.Ytcpepepdinkioaa.Ev
