/- The law FnExactJoinNets: for all nets it returns true. -/
import Derived.Test.YtcpepepdinkioaaFnNI
namespace Go.Proofs.Ytcpepepdinkioaa.Ev
open Go
set_option linter.unusedVariables false
set_option linter.unusedSimpArgs false
set_option maxRecDepth 100000
set_option exponentiation.threshold 100000

theorem szPP_tot' {a : List (List Plane)} {k : Int} (h0 : 0 ≤ k) (h : 0 ≤ szPP a k) : (totPP a : Int) ≤ k := by
  have h3 : szPP a k = k - ((a.length :: a.flatMap sizesP).sum : Nat) := szAll_sum h0 h
  rw [List.sum_cons, ← totPP_sum] at h3
  omega
theorem fit_joinR {s t : Net} : FitPP (joinRN s t).1.2.1 := by
  unfold joinRN
  split
  · rename_i h
    unfold joinOkN at h
    simp only [Bool.and_eq_true, decide_eq_true_eq] at h
    exact fit_join h.1 h.2.1 h.2.2.2.1
  · exact ⟨by simp, by simp, by simp [totPP]⟩

theorem l_FnExactJoinNets_ok (s : Net) (hws : WfD shNet s) (t : Net) (hwt : WfD shNet t) : orc.pc n_l_FnExactJoinNets [.d shNet s, .d shNet t] truePk := by
  refine p_l_FnExactJoinNets true rfl rfl ?_
  conv => whnf
  refine ⟨_, l_szNet_ok s 1048576 (lim_layers hws.2.1) (by decide) (by decide), (by first | exact (fun _ => rfl) | exact (fun h => Bool.noConfusion h)), ?_⟩
  conv => whnf
  refine cond_intro (fun h => ?_) (fun h => ?_)
  · conv => whnf
    exact ⟨_, _, rfl, .inl rfl, rfl⟩
  have h : ¬ szPP s.2.1 1048576 < 0 := of_decide_eq_false h
  obtain ⟨hf, hb⟩ := szPP_fit (by decide) (by decide) (Int.not_lt.1 h)
  have hst := szPP_tot' (by decide) (Int.not_lt.1 h)
  conv => whnf
  refine ⟨_, l_szNet_ok t (szPP s.2.1 1048576) (lim_layers hwt.2.1) (Int.not_lt.1 h) hb, (by first | exact (fun _ => rfl) | exact (fun h => Bool.noConfusion h)), ?_⟩
  conv => whnf
  refine cond_intro (fun g => ?_) (fun g => ?_)
  · conv => whnf
    exact ⟨_, _, rfl, .inl rfl, rfl⟩
  have g : ¬ szPP t.2.1 (szPP s.2.1 1048576) < 0 := of_decide_eq_false g
  obtain ⟨hg, _⟩ := szPP_fit (Int.not_lt.1 h) hb (Int.not_lt.1 g)
  have htt := szPP_tot' (Int.not_lt.1 h) (Int.not_lt.1 g)
  have hr := @fit_joinR s t
  have hrt := hr.t
  have eqB : ∀ x : Bool, (!(x == x)) = false := by intro x; cases x <;> rfl
  conv => whnf
  refine ⟨_, l_toNet_ok s hf, (by first | exact (fun _ => rfl) | exact (fun h => Bool.noConfusion h)), ?_⟩
  conv => whnf
  refine ⟨_, l_toNet_ok t hg, (by first | exact (fun _ => rfl) | exact (fun h => Bool.noConfusion h)), ?_⟩
  conv => whnf
  refine ⟨_, s_JoinNets_ok s t hf hg, (by first | exact (fun _ => rfl) | exact (fun h => Bool.noConfusion h)), ?_⟩
  conv => whnf
  refine ⟨_, l_toNet_ok s hf, (by first | exact (fun _ => rfl) | exact (fun h => Bool.noConfusion h)), ?_⟩
  conv => whnf
  refine ⟨_, l_toNet_ok t hg, (by first | exact (fun _ => rfl) | exact (fun h => Bool.noConfusion h)), ?_⟩
  conv => whnf
  refine ⟨_, i_JoinNets_ok s t hf hg, (by first | exact (fun _ => rfl) | exact (fun h => Bool.noConfusion h)), ?_⟩
  conv => whnf
  refine ⟨_, l_eqNet_ok (joinRN s t).1 (joinRN s t).1 hr.n hr.w, (by first | exact (fun _ => rfl) | exact (fun h => Bool.noConfusion h)), ?_⟩
  conv => whnf
  refine cond_t (show ((!decide ((joinRN s t).1 = (joinRN s t).1)) == false) = true by simp) ?_
  conv => whnf
  refine cond_f (eqB _) ?_
  conv => whnf
  refine ⟨_, l_toNet_ok s hf, (by first | exact (fun _ => rfl) | exact (fun h => Bool.noConfusion h)), ?_⟩
  conv => whnf
  refine ⟨_, l_eqNet_ok s s hf.n hf.w, (by first | exact (fun _ => rfl) | exact (fun h => Bool.noConfusion h)), ?_⟩
  conv => whnf
  refine cond_f (show (!decide (s = s)) = false by simp) ?_
  conv => whnf
  refine ⟨_, l_toNet_ok t hg, (by first | exact (fun _ => rfl) | exact (fun h => Bool.noConfusion h)), ?_⟩
  conv => whnf
  refine ⟨_, l_eqNet_ok t t hg.n hg.w, (by first | exact (fun _ => rfl) | exact (fun h => Bool.noConfusion h)), ?_⟩
  conv => whnf
  refine cond_f (show (!decide (t = t)) = false by simp) ?_
  conv => whnf
  refine ⟨_, _, l_markNet_at s.1 s.2.1 s.2.2 rfl rfl rfl 1 hf (by omega) (by omega), ?_⟩
  conv => whnf
  refine ⟨_, _, l_markNet_at t.1 t.2.1 t.2.2 rfl rfl rfl (1 + totPP s.2.1) hg (by omega) (by omega), ?_⟩
  conv => whnf
  refine ⟨_, l_eqNet_ok (joinRN s t).1 (joinRN s t).1 hr.n hr.w, (by first | exact (fun _ => rfl) | exact (fun h => Bool.noConfusion h)), ?_⟩
  conv => whnf
  refine cond_t (show ((!decide ((joinRN s t).1 = (joinRN s t).1)) == false) = true by simp) ?_
  conv => whnf
  refine cond_f (eqB _) ?_
  conv => whnf
  refine ⟨_, _, l_markNet_at (joinRN s t).1.1 (joinRN s t).1.2.1 (joinRN s t).1.2.2 rfl rfl rfl 1 hr (by omega) (by omega), ?_⟩
  conv => whnf
  have hh := l_heldNet_ok (joinRN s t).1.1 (joinRN s t).1.2.1 (joinRN s t).1.2.2 1 hr (by omega) (by omega)
  refine ⟨_, hh, (by first | exact (fun _ => rfl) | exact (fun h => Bool.noConfusion h)), ?_⟩
  conv => whnf
  refine cond_f (by simp) ?_
  conv => whnf
  refine ⟨_, l_toNet_ok s hf, (by first | exact (fun _ => rfl) | exact (fun h => Bool.noConfusion h)), ?_⟩
  conv => whnf
  refine ⟨_, l_toNet_ok t hg, (by first | exact (fun _ => rfl) | exact (fun h => Bool.noConfusion h)), ?_⟩
  conv => whnf
  refine ⟨_, i_JoinNets_ok s t hf hg, (by first | exact (fun _ => rfl) | exact (fun h => Bool.noConfusion h)), ?_⟩
  conv => whnf
  refine ⟨_, l_eqNet_ok (joinRN s t).1 (joinRN s t).1 hr.n hr.w, (by first | exact (fun _ => rfl) | exact (fun h => Bool.noConfusion h)), ?_⟩
  conv => whnf
  refine cond_t (show ((!decide ((joinRN s t).1 = (joinRN s t).1)) == false) = true by simp) ?_
  conv => whnf
  refine cond_f (eqB _) ?_
  conv => whnf
  refine ⟨_, hh, (by first | exact (fun _ => rfl) | exact (fun h => Bool.noConfusion h)), ?_⟩
  conv => whnf
  refine cond_f (by simp) ?_
  conv => whnf
  exact ⟨_, _, rfl, .inl rfl, rfl⟩

end Go.Proofs.Ytcpepepdinkioaa.Ev
