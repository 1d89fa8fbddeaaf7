/- The law FnExactJoinSamples: for every two samples it returns true. -/
import Derived.Test.YtgebhckfdcajoaaFnI
namespace Go.Proofs.Ytgebhckfdcajoaa.Ev
open Go
set_option linter.unusedVariables false
set_option linter.unusedSimpArgs false
set_option maxRecDepth 100000
set_option exponentiation.threshold 100000

theorem tot_le (l : List (List Int)) (h : ∀ x ∈ l, x.length ≤ 1048576) : tot l ≤ l.length * 1048576 := by
  induction l with
  | nil => simp [tot]
  | cons x l ih =>
    have h1 := h x (by simp)
    have h2 := ih fun y hy => h y (by simp [hy])
    simp only [tot, List.length_cons, Nat.succ_mul]
    omega
theorem tot_bd {l : List (List Int)} (h : Fit2 l) : tot l ≤ 1099511627776 := by
  have := tot_le l h.2
  have : l.length * 1048576 ≤ 1048576 * 1048576 := Nat.mul_le_mul_right _ h.1
  omega

theorem szSS_len {a : List (List Int)} {k : Int} (h0 : 0 ≤ k) (h : 0 ≤ szSS a k) : (a.length : Int) ≤ k - szSS a k := by
  unfold szSS szAll at h ⊢
  split at h
  · omega
  · rename_i g
    rw [if_neg g]
    obtain ⟨h1, h2⟩ := szL_le (Int.not_lt.1 g)
    obtain ⟨h3, _⟩ := szAll_le (Int.not_lt.1 g) h
    omega

theorem szSa_len {s : Sample} {k : Int} (h0 : 0 ≤ k) (hk : k ≤ 1048576) (h : 0 ≤ szSa s k) : (s.1.length : Int) + s.2.1.length ≤ k - szSa s k := by
  unfold szSa sz2 at h ⊢
  split at h
  · omega
  · rename_i g
    split at h
    · omega
    · rename_i g'
      rw [if_neg g, if_neg g']
      have h1 := szSS_len h0 (Int.not_lt.1 g)
      obtain ⟨h3, h4⟩ := szL_le (Int.not_lt.1 g')
      omega

theorem joined_fit {a b : Sample} (ha : FitS a) (hb : FitS b) (h1 : a.1.length + b.1.length ≤ 1048576) (h2 : a.2.1.length + b.2.1.length ≤ 1048576) : FitS (joined a b) := by
  refine ⟨⟨by simpa [joined] using h1, fun x hx => ?_⟩, by simpa [joined] using h2⟩
  rcases List.mem_append.1 hx with h | h
  · exact ha.p.2 x h
  · exact hb.p.2 x h

theorem joinR_fit {a b : Sample} (hj : FitS (joined a b)) : FitS (joinR a b).1 := by
  unfold joinR; split
  · exact hj
  · exact ⟨⟨by simp [zeroSample], by simp [zeroSample]⟩, by simp [zeroSample]⟩

theorem l_FnExactJoinSamples_ok (s : Sample) (hw : WfD shSample s) (t : Sample) (ht : WfD shSample t) : orc.pc n_l_FnExactJoinSamples [.d shSample s, .d shSample t] truePk := by
  refine p_l_FnExactJoinSamples true rfl rfl ?_
  conv => whnf
  refine ⟨_, l_szSample_ok s 1048576 (lim_sample hw) (by decide) (by decide), (by first | exact (fun _ => rfl) | exact (fun h => Bool.noConfusion h)), ?_⟩
  conv => whnf
  refine cond_intro (fun h => ?_) (fun h => ?_)
  · conv => whnf
    exact ⟨_, _, rfl, .inl rfl, rfl⟩
  have h : ¬ szSa s 1048576 < 0 := of_decide_eq_false h
  obtain ⟨hf, hle⟩ := szSa_fit (by decide) (by decide) (Int.not_lt.1 h)
  conv => whnf
  refine ⟨_, l_szSample_ok t (szSa s 1048576) (lim_sample ht) (Int.not_lt.1 h) hle, (by first | exact (fun _ => rfl) | exact (fun h => Bool.noConfusion h)), ?_⟩
  conv => whnf
  refine cond_intro (fun g => ?_) (fun g => ?_)
  · conv => whnf
    exact ⟨_, _, rfl, .inl rfl, rfl⟩
  have g : ¬ szSa t (szSa s 1048576) < 0 := of_decide_eq_false g
  obtain ⟨hg, _⟩ := szSa_fit (Int.not_lt.1 h) hle (Int.not_lt.1 g)
  have e1 := szSa_len (by decide) (by decide) (Int.not_lt.1 h)
  have e2 := szSa_len (Int.not_lt.1 h) hle (Int.not_lt.1 g)
  have hj := joined_fit hf hg (by omega) (by omega)
  have hr := joinR_fit hj
  have hm := tot_bd hf.p
  have hn := tot_bd hg.p
  have hm' := tot_bd hr.p
  have hl := hf.l
  conv => whnf
  refine ⟨_, l_toSample_ok s hf, (by first | exact (fun _ => rfl) | exact (fun h => Bool.noConfusion h)), ?_⟩
  conv => whnf
  refine ⟨_, l_toSample_ok t hg, (by first | exact (fun _ => rfl) | exact (fun h => Bool.noConfusion h)), ?_⟩
  conv => whnf
  refine ⟨_, s_JoinSamples_ok s t hf hg hj, (by first | exact (fun _ => rfl) | exact (fun h => Bool.noConfusion h)), ?_⟩
  conv => whnf
  refine ⟨_, l_toSample_ok s hf, (by first | exact (fun _ => rfl) | exact (fun h => Bool.noConfusion h)), ?_⟩
  conv => whnf
  refine ⟨_, l_toSample_ok t hg, (by first | exact (fun _ => rfl) | exact (fun h => Bool.noConfusion h)), ?_⟩
  conv => whnf
  refine ⟨_, i_JoinSamples_ok s t hf hg hj, (by first | exact (fun _ => rfl) | exact (fun h => Bool.noConfusion h)), ?_⟩
  conv => whnf
  refine ⟨_, l_eqSample_ok _ _ hr, (by first | exact (fun _ => rfl) | exact (fun h => Bool.noConfusion h)), ?_⟩
  conv => whnf
  refine cond_t (show ((!decide ((joinR s t).1 = (joinR s t).1)) == false) = true by simp) ?_
  conv => whnf
  refine cond_f (show (!((joinR s t).2.1 == (joinR s t).2.1)) = false by simp) ?_
  conv => whnf
  refine ⟨_, l_toSample_ok s hf, (by first | exact (fun _ => rfl) | exact (fun h => Bool.noConfusion h)), ?_⟩
  conv => whnf
  refine ⟨_, l_eqSample_ok _ _ hf, (by first | exact (fun _ => rfl) | exact (fun h => Bool.noConfusion h)), ?_⟩
  conv => whnf
  refine cond_f (show (!decide (s = s)) = false by simp) ?_
  conv => whnf
  refine ⟨_, l_toSample_ok t hg, (by first | exact (fun _ => rfl) | exact (fun h => Bool.noConfusion h)), ?_⟩
  conv => whnf
  refine ⟨_, l_eqSample_ok _ _ hg, (by first | exact (fun _ => rfl) | exact (fun h => Bool.noConfusion h)), ?_⟩
  conv => whnf
  refine cond_f (show (!decide (t = t)) = false by simp) ?_
  conv => whnf
  refine ⟨_, _, l_markSample_at s.1 s.2.1 s.2.2 rfl rfl rfl 1 hf.p hf.l (by omega) (by omega), ?_⟩
  conv => whnf
  refine ⟨_, _, l_markSample_at t.1 t.2.1 t.2.2 rfl rfl rfl _ hg.p hg.l (by omega) (by omega), ?_⟩
  conv => whnf
  refine ⟨_, l_eqSample_ok _ _ hr, (by first | exact (fun _ => rfl) | exact (fun h => Bool.noConfusion h)), ?_⟩
  conv => whnf
  refine cond_t (show ((!decide ((joinR s t).1 = (joinR s t).1)) == false) = true by simp) ?_
  conv => whnf
  refine cond_f (show (!((joinR s t).2.1 == (joinR s t).2.1)) = false by simp) ?_
  conv => whnf
  refine ⟨_, _, l_markSample_at (joinR s t).1.1 (joinR s t).1.2.1 (joinR s t).1.2.2 rfl rfl rfl 1 hr.p hr.l (by omega) (by omega), ?_⟩
  conv => whnf
  have hh := l_heldSample_ok (joinR s t).1.1 (joinR s t).1.2.1.length (joinR s t).1.2.2 1 hr.p hr.l (by omega) (by omega)
  refine ⟨_, hh, (by first | exact (fun _ => rfl) | exact (fun h => Bool.noConfusion h)), ?_⟩
  conv => whnf
  refine cond_f (by simp) ?_
  conv => whnf
  refine ⟨_, l_toSample_ok s hf, (by first | exact (fun _ => rfl) | exact (fun h => Bool.noConfusion h)), ?_⟩
  conv => whnf
  refine ⟨_, l_toSample_ok t hg, (by first | exact (fun _ => rfl) | exact (fun h => Bool.noConfusion h)), ?_⟩
  conv => whnf
  refine ⟨_, i_JoinSamples_ok s t hf hg hj, (by first | exact (fun _ => rfl) | exact (fun h => Bool.noConfusion h)), ?_⟩
  conv => whnf
  refine ⟨_, l_eqSample_ok _ _ hr, (by first | exact (fun _ => rfl) | exact (fun h => Bool.noConfusion h)), ?_⟩
  conv => whnf
  refine cond_t (show ((!decide ((joinR s t).1 = (joinR s t).1)) == false) = true by simp) ?_
  conv => whnf
  refine cond_f (show (!((joinR s t).2.1 == (joinR s t).2.1)) = false by simp) ?_
  conv => whnf
  refine ⟨_, hh, (by first | exact (fun _ => rfl) | exact (fun h => Bool.noConfusion h)), ?_⟩
  conv => whnf
  refine cond_f (by simp) ?_
  conv => whnf
  exact ⟨_, _, rfl, .inl rfl, rfl⟩

end Go.Proofs.Ytgebhckfdcajoaa.Ev
