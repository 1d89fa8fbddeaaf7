/- The law FnExactLogRecords: for every log it returns true. -/
import Derived.Test.YthgjpoeneihmnaaDoorL40
import Derived.Test.YthgjpoeneihmnaaDoorFnSL
namespace Go.Proofs.YthgjpoeneihmnaaDoor.Ev
open Go
set_option linter.unusedVariables false
set_option linter.unusedSimpArgs false
set_option maxRecDepth 100000
set_option exponentiation.threshold 100000

theorem recsR_len {l : LogD} : (recsR l).1.length ≤ 60 := by
  unfold recsR
  split
  · have := scan_len 60 0 (l.1 ++ l.2.1)
    have : (openR (l.1 ++ l.2.1)).length ≤ 60 := this
    simpa [recsD] using this
  · simp

theorem l_markLogRecordS_at {st : St} {s : Nat} {sl : Slot} (x : List shRec.den) (hg : st.get 0 s = some sl) (hf : sl.fv = true) (hb : sl.v = .own shRec .fz x) (k : Int)
    (hx : x.length ≤ 1048576) (h0 : 0 ≤ k) (hk : k ≤ 1152921504606846976) :
    orc.ic n_l_markLogRecordS [.vw ⟨⟨0, s, false⟩, []⟩ shRec, .d tI k] st (.d tI (k + 2 * x.length)) (st.upd 0 s false (.own shRec .fz (marksR x.length k))) := by
  have h := l_markLogRecordS_ok (owns_var hg hf shRec .fz) x k hx h0 hk
  rw [← hb, updV_self hg] at h
  exact h

theorem l_FnExactLogRecords_ok (x : shLog.den) (hx : WfD shLog x) : orc.pc n_l_FnExactLogRecords [.d shLog x] truePk := by
  obtain ⟨hx1, hx2, _⟩ := hx
  obtain ⟨e, rfl⟩ : ∃ e : LogD, x = logD e := ⟨(x.1.data.toList, x.2.1.data.toList, x.2.2.1), rfl⟩
  have hr := @recsR_len e
  have eqB : ∀ x : Bool, (!(x == x)) = false := by intro x; cases x <;> rfl
  refine p_l_FnExactLogRecords true rfl rfl ?_
  conv => whnf
  refine ⟨_, l_szLog_ok e 1048576 (lim_str hx1) (lim_str hx2) (by decide) (by decide), (by first | exact (fun _ => rfl) | exact (fun h => Bool.noConfusion h)), ?_⟩
  conv => whnf
  refine cond_intro (fun h => ?_) (fun h => ?_)
  · conv => whnf
    exact ⟨_, _, rfl, .inl rfl, rfl⟩
  have h : ¬ szAll [e.1.length, e.2.1.length] 1048576 < 0 := of_decide_eq_false h
  obtain ⟨h1, h2⟩ := sz2_of (Int.not_lt.1 h)
  have hh := l_heldLogRecordS_ok (recsR e).1.length 1 (by omega) (by omega) (by omega)
  conv => whnf
  refine ⟨_, l_toLog_ok e, (by first | exact (fun _ => rfl) | exact (fun h => Bool.noConfusion h)), ?_⟩
  conv => whnf
  refine ⟨_, s_LogRecords_ok e h1 h2, (by first | exact (fun _ => rfl) | exact (fun h => Bool.noConfusion h)), ?_⟩
  conv => whnf
  refine ⟨_, l_toLog_ok e, (by first | exact (fun _ => rfl) | exact (fun h => Bool.noConfusion h)), ?_⟩
  conv => whnf
  refine ⟨_, i_LogRecords_ok e h1 h2, (by first | exact (fun _ => rfl) | exact (fun h => Bool.noConfusion h)), ?_⟩
  conv => whnf
  refine ⟨_, l_eqLogRecordS_self (recsR e).1 (by omega), (by first | exact (fun _ => rfl) | exact (fun h => Bool.noConfusion h)), ?_⟩
  conv => whnf
  refine cond_f (eqB _) ?_
  conv => whnf
  refine ⟨_, _, l_markLogRecordS_at (recsR e).1 rfl rfl rfl 1 (by omega) (by omega) (by omega), ?_⟩
  conv => whnf
  refine ⟨_, hh, (by first | exact (fun _ => rfl) | exact (fun h => Bool.noConfusion h)), ?_⟩
  conv => whnf
  refine cond_f (by simp) ?_
  conv => whnf
  refine ⟨_, l_toLog_ok e, (by first | exact (fun _ => rfl) | exact (fun h => Bool.noConfusion h)), ?_⟩
  conv => whnf
  refine ⟨_, i_LogRecords_ok e h1 h2, (by first | exact (fun _ => rfl) | exact (fun h => Bool.noConfusion h)), ?_⟩
  conv => whnf
  refine ⟨_, l_eqLogRecordS_self (recsR e).1 (by omega), (by first | exact (fun _ => rfl) | exact (fun h => Bool.noConfusion h)), ?_⟩
  conv => whnf
  refine cond_f (eqB _) ?_
  conv => whnf
  refine ⟨_, hh, (by first | exact (fun _ => rfl) | exact (fun h => Bool.noConfusion h)), ?_⟩
  conv => whnf
  refine cond_f (by simp) ?_
  conv => whnf
  exact ⟨_, _, rfl, .inl rfl, rfl⟩

end Go.Proofs.YthgjpoeneihmnaaDoor.Ev
