/- The law FnExactRecoverLog: for every text it returns true. -/
import Derived.Test.YthgjpoeneihmnaaDoorFnSJ
namespace Go.Proofs.YthgjpoeneihmnaaDoor.Ev
open Go
set_option linter.unusedVariables false
set_option linter.unusedSimpArgs false
set_option maxRecDepth 100000
set_option exponentiation.threshold 100000

theorem recoR_log (s : Txt) : ∃ l : LogD, (recoR s).1 = logD l := by
  unfold recoR; split
  · exact ⟨_, rfl⟩
  · exact ⟨_, rfl⟩
theorem l_FnExactRecoverLog_ok (x : ByteArray) (hx : WfD .str x) : orc.pc n_l_FnExactRecoverLog [.d .str x] truePk := by
  obtain ⟨s, rfl⟩ : ∃ s : Txt, x = mk s := ⟨x.data.toList, rfl⟩
  obtain ⟨l, hl⟩ := recoR_log s
  have c := l_eqLog_self l
  rw [← hl] at c
  refine p_l_FnExactRecoverLog true rfl rfl ?_
  conv => whnf
  refine cond_intro (fun h => ?_) (fun h => ?_)
  · conv => whnf
    exact ⟨_, _, rfl, .inl rfl, rfl⟩
  have h : s.length ≤ 1048576 := by
    have := of_decide_eq_false h
    have : ¬ (s.length : Int) > 1048576 := this
    omega
  conv => whnf
  refine ⟨_, s_RecoverLog_ok s h, (by first | exact (fun _ => rfl) | exact (fun h => Bool.noConfusion h)), ?_⟩
  conv => whnf
  refine ⟨_, i_RecoverLog_ok s h, (by first | exact (fun _ => rfl) | exact (fun h => Bool.noConfusion h)), ?_⟩
  conv => whnf
  refine ⟨_, c, (by first | exact (fun _ => rfl) | exact (fun h => Bool.noConfusion h)), ?_⟩
  conv => whnf
  refine cond_t (by simp) ?_
  conv => whnf
  refine cond_f (by simp) ?_
  conv => whnf
  exact ⟨_, _, rfl, .inl rfl, rfl⟩

end Go.Proofs.YthgjpoeneihmnaaDoor.Ev
