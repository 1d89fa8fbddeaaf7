/- The law FnExactSyncLog: for every log it returns true. -/
import Derived.Test.YthgjpoeneihmnaaDoorL32
import Derived.Test.YthgjpoeneihmnaaDoorFnSK
namespace Go.Proofs.YthgjpoeneihmnaaDoor.Ev
open Go
set_option linter.unusedVariables false
set_option linter.unusedSimpArgs false
set_option maxRecDepth 100000
set_option exponentiation.threshold 100000

theorem syncR_log (l : LogD) : ∃ m : LogD, (syncR l).1 = logD m := by
  unfold syncR; split
  · exact ⟨_, rfl⟩
  · exact ⟨_, rfl⟩
theorem l_FnExactSyncLog_ok (x : shLog.den) (hx : WfD shLog x) : orc.pc n_l_FnExactSyncLog [.d shLog x] truePk := by
  obtain ⟨hx1, hx2, _⟩ := hx
  obtain ⟨e, rfl⟩ : ∃ e : LogD, x = logD e := ⟨(x.1.data.toList, x.2.1.data.toList, x.2.2.1), rfl⟩
  obtain ⟨l, hl⟩ := syncR_log e
  have c := l_eqLog_self l
  rw [← hl] at c
  refine p_l_FnExactSyncLog true rfl rfl ?_
  conv => whnf
  refine ⟨_, l_szLog_ok e 1048576 (lim_str hx1) (lim_str hx2) (by decide) (by decide), (by first | exact (fun _ => rfl) | exact (fun h => Bool.noConfusion h)), ?_⟩
  conv => whnf
  refine cond_intro (fun h => ?_) (fun h => ?_)
  · conv => whnf
    exact ⟨_, _, rfl, .inl rfl, rfl⟩
  have h : ¬ szAll [e.1.length, e.2.1.length] 1048576 < 0 := of_decide_eq_false h
  obtain ⟨h1, h2⟩ := sz2_of (Int.not_lt.1 h)
  conv => whnf
  refine ⟨_, l_toLog_ok e, (by first | exact (fun _ => rfl) | exact (fun h => Bool.noConfusion h)), ?_⟩
  conv => whnf
  refine ⟨_, s_SyncLog_ok e h1 h2, (by first | exact (fun _ => rfl) | exact (fun h => Bool.noConfusion h)), ?_⟩
  conv => whnf
  refine ⟨_, l_toLog_ok e, (by first | exact (fun _ => rfl) | exact (fun h => Bool.noConfusion h)), ?_⟩
  conv => whnf
  refine ⟨_, i_SyncLog_ok e h1 h2, (by first | exact (fun _ => rfl) | exact (fun h => Bool.noConfusion h)), ?_⟩
  conv => whnf
  refine ⟨_, c, (by first | exact (fun _ => rfl) | exact (fun h => Bool.noConfusion h)), ?_⟩
  conv => whnf
  refine cond_f (by simp) ?_
  conv => whnf
  exact ⟨_, _, rfl, .inl rfl, rfl⟩

end Go.Proofs.YthgjpoeneihmnaaDoor.Ev
