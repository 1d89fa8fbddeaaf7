/- The law FnExactEncodeRecord: for every number and record it returns true. -/
import Derived.Test.YthgjpoeneihmnaaDoorFnSJ
namespace Go.Proofs.YthgjpoeneihmnaaDoor.Ev
open Go
set_option linter.unusedVariables false
set_option linter.unusedSimpArgs false
set_option maxRecDepth 100000
set_option exponentiation.threshold 100000

theorem sz2_of {a b : Nat} (h : 0 ≤ szAll [a, b] 1048576) : a ≤ 1048576 ∧ b ≤ 1048576 := by
  obtain ⟨_, h2⟩ := szAll_le (by decide) h
  have := h2 a (by simp)
  have := h2 b (by simp)
  omega
theorem lim_str {x : ByteArray} (h : WfD .str x) : x.data.toList.length ≤ maxL := by
  have h : x.size ≤ 140737488351232 := h
  show x.size ≤ _
  unfold maxL; omega

theorem l_FnExactEncodeRecord_ok (k : Int) (hk : WfD tI k) (x : shRec.den) (hx : WfD shRec x) : orc.pc n_l_FnExactEncodeRecord [.d tI k, .d shRec x] truePk := by
  obtain ⟨hx1, hx2, _⟩ := hx
  obtain ⟨e, rfl⟩ : ∃ e : Rec, x = recD e := ⟨(x.1.data.toList, x.2.1.data.toList), rfl⟩
  refine p_l_FnExactEncodeRecord true rfl rfl ?_
  conv => whnf
  refine ⟨_, l_szLogRecord_ok e 1048576 (lim_str hx1) (lim_str hx2) (by decide) (by decide), (by first | exact (fun _ => rfl) | exact (fun h => Bool.noConfusion h)), ?_⟩
  conv => whnf
  refine cond_intro (fun h => ?_) (fun h => ?_)
  · conv => whnf
    exact ⟨_, _, rfl, .inl rfl, rfl⟩
  have h : ¬ szAll [e.1.length, e.2.length] 1048576 < 0 := of_decide_eq_false h
  obtain ⟨h1, h2⟩ := sz2_of (Int.not_lt.1 h)
  conv => whnf
  refine ⟨_, l_toLogRecord_ok e, (by first | exact (fun _ => rfl) | exact (fun h => Bool.noConfusion h)), ?_⟩
  conv => whnf
  refine ⟨_, s_EncodeRecord_ok k e h1 h2, (by first | exact (fun _ => rfl) | exact (fun h => Bool.noConfusion h)), ?_⟩
  conv => whnf
  refine ⟨_, l_toLogRecord_ok e, (by first | exact (fun _ => rfl) | exact (fun h => Bool.noConfusion h)), ?_⟩
  conv => whnf
  refine ⟨_, i_EncodeRecord_ok k e h1 h2, (by first | exact (fun _ => rfl) | exact (fun h => Bool.noConfusion h)), ?_⟩
  conv => whnf
  refine cond_t (by simp) ?_
  conv => whnf
  refine cond_f (by simp) ?_
  conv => whnf
  exact ⟨_, _, rfl, .inl rfl, rfl⟩

end Go.Proofs.YthgjpoeneihmnaaDoor.Ev
