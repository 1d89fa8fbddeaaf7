/- The law FnExactAppendRecord: for every log and record it returns true. -/
import Derived.Test.YthgjpoeneihmnaaDoorL40
namespace Go.Proofs.YthgjpoeneihmnaaDoor.Ev
open Go
set_option linter.unusedVariables false
set_option linter.unusedSimpArgs false
set_option maxRecDepth 100000
set_option exponentiation.threshold 100000

theorem l_FnExactAppendRecord_ok (x : shLog.den) (hx : WfD shLog x) (y : shRec.den) (hy : WfD shRec y) : orc.pc n_l_FnExactAppendRecord [.d shLog x, .d shRec y] truePk := by
  obtain ⟨hx1, hx2, _⟩ := hx
  obtain ⟨hy1, hy2, _⟩ := hy
  obtain ⟨l, rfl⟩ : ∃ e : LogD, x = logD e := ⟨(x.1.data.toList, x.2.1.data.toList, x.2.2.1), rfl⟩
  obtain ⟨e, rfl⟩ : ∃ e : Rec, y = recD e := ⟨(y.1.data.toList, y.2.1.data.toList), rfl⟩
  refine p_l_FnExactAppendRecord true rfl rfl ?_
  conv => whnf
  refine ⟨_, l_szLog_ok l 1048576 (lim_str hx1) (lim_str hx2) (by decide) (by decide), (by first | exact (fun _ => rfl) | exact (fun h => Bool.noConfusion h)), ?_⟩
  conv => whnf
  refine cond_intro (fun h => ?_) (fun h => ?_)
  · conv => whnf
    exact ⟨_, _, rfl, .inl rfl, rfl⟩
  have h : ¬ szAll [l.1.length, l.2.1.length] 1048576 < 0 := of_decide_eq_false h
  obtain ⟨h1, h2⟩ := sz2_of (Int.not_lt.1 h)
  have hk : szAll [l.1.length, l.2.1.length] 1048576 ≤ 1048576 := (szAll_le (by decide) (Int.not_lt.1 h)).1
  have hk0 : 0 ≤ szAll [l.1.length, l.2.1.length] 1048576 := Int.not_lt.1 h
  conv => whnf
  refine ⟨_, l_szLogRecord_ok e (szAll [l.1.length, l.2.1.length] 1048576) (lim_str hy1) (lim_str hy2) hk0 hk, (by first | exact (fun _ => rfl) | exact (fun h => Bool.noConfusion h)), ?_⟩
  conv => whnf
  refine cond_intro (fun g => ?_) (fun g => ?_)
  · conv => whnf
    exact ⟨_, _, rfl, .inl rfl, rfl⟩
  have g : ¬ szAll [e.1.length, e.2.length] (szAll [l.1.length, l.2.1.length] 1048576) < 0 := of_decide_eq_false g
  have g12 : e.1.length ≤ 1048576 ∧ e.2.length ≤ 1048576 := by
    have h0 : 0 ≤ szAll [l.1.length, l.2.1.length] 1048576 := Int.not_lt.1 h
    obtain ⟨_, a⟩ := szAll_le h0 (Int.not_lt.1 g)
    have := a e.1.length (by simp)
    have := a e.2.length (by simp)
    omega
  obtain ⟨g1, g2⟩ := g12
  conv => whnf
  refine ⟨_, l_toLog_ok l, (by first | exact (fun _ => rfl) | exact (fun h => Bool.noConfusion h)), ?_⟩
  conv => whnf
  refine ⟨_, l_toLogRecord_ok e, (by first | exact (fun _ => rfl) | exact (fun h => Bool.noConfusion h)), ?_⟩
  conv => whnf
  refine ⟨_, s_AppendRecord_ok l e h1 h2 g1 g2, (by first | exact (fun _ => rfl) | exact (fun h => Bool.noConfusion h)), ?_⟩
  conv => whnf
  refine ⟨_, l_toLog_ok l, (by first | exact (fun _ => rfl) | exact (fun h => Bool.noConfusion h)), ?_⟩
  conv => whnf
  refine ⟨_, l_toLogRecord_ok e, (by first | exact (fun _ => rfl) | exact (fun h => Bool.noConfusion h)), ?_⟩
  conv => whnf
  refine ⟨_, i_AppendRecord_ok l e h1 h2 g1 g2, (by first | exact (fun _ => rfl) | exact (fun h => Bool.noConfusion h)), ?_⟩
  conv => whnf
  refine ⟨_, l_eqLog_self (appR l e).1, (by first | exact (fun _ => rfl) | exact (fun h => Bool.noConfusion h)), ?_⟩
  conv => whnf
  refine cond_f (by simp) ?_
  conv => whnf
  exact ⟨_, _, rfl, .inl rfl, rfl⟩

end Go.Proofs.YthgjpoeneihmnaaDoor.Ev
