/- The law FnExactIsValidRecord: for every record it returns true. -/
import Derived.Test.YthgjpoeneihmnaaL32
namespace Go.Proofs.Ythgjpoeneihmnaa.Ev
open Go
set_option linter.unusedVariables false
set_option linter.unusedSimpArgs false
set_option maxRecDepth 100000
set_option exponentiation.threshold 100000

theorem s_IsValidRecord_ok (e : Rec) (h1 : e.1.length ≤ 4194304) (h2 : e.2.length ≤ 4194304) : orc.pc n_s_IsValidRecord [.d shRec (recD e)] ⟨.bool, .fz, okRec e⟩ := by
  refine p_s_IsValidRecord true rfl rfl ?_
  conv => whnf
  refine ⟨_, s_l12Record_ok e h1 h2, (by first | exact (fun _ => rfl) | exact (fun h => Bool.noConfusion h)), ?_⟩
  conv => whnf
  exact ⟨_, _, rfl, .inl rfl, rfl⟩

theorem l_FnExactIsValidRecord_ok (x : shRec.den) (hx : WfD shRec x) : orc.pc n_l_FnExactIsValidRecord [.d shRec x] truePk := by
  obtain ⟨hx1, hx2, _⟩ := hx
  obtain ⟨e, rfl⟩ : ∃ e : Rec, x = recD e := ⟨(x.1.data.toList, x.2.1.data.toList), rfl⟩
  have eqB : ∀ x : Bool, (!(x == x)) = false := by intro x; cases x <;> rfl
  refine p_l_FnExactIsValidRecord true rfl rfl ?_
  conv => whnf
  refine ⟨_, l_szLogRecord_ok e 1048576 (lim_str hx1) (lim_str hx2) (by decide) (by decide), (by first | exact (fun _ => rfl) | exact (fun h => Bool.noConfusion h)), ?_⟩
  conv => whnf
  refine cond_intro (fun h => ?_) (fun h => ?_)
  · conv => whnf
    exact ⟨_, _, rfl, .inl rfl, rfl⟩
  have h : ¬ szAll [e.1.length, e.2.length] 1048576 < 0 := of_decide_eq_false h
  obtain ⟨h1, h2⟩ := sz2_of (Int.not_lt.1 h)
  conv => whnf
  refine ⟨_, l_toLogRecord_ok e, (by first | exact (fun _ => rfl) | exact (fun h => Bool.noConfusion h)), ?_⟩
  conv => whnf
  refine ⟨_, s_IsValidRecord_ok e (by omega) (by omega), (by first | exact (fun _ => rfl) | exact (fun h => Bool.noConfusion h)), ?_⟩
  conv => whnf
  refine ⟨_, l_toLogRecord_ok e, (by first | exact (fun _ => rfl) | exact (fun h => Bool.noConfusion h)), ?_⟩
  conv => whnf
  refine ⟨_, i_IsValidRecord_ok e (by omega) (by omega), (by first | exact (fun _ => rfl) | exact (fun h => Bool.noConfusion h)), ?_⟩
  conv => whnf
  refine cond_f (eqB _) ?_
  conv => whnf
  exact ⟨_, _, rfl, .inl rfl, rfl⟩

end Go.Proofs.Ythgjpoeneihmnaa.Ev
