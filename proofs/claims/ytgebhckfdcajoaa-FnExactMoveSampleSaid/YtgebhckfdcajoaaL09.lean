/- The law FnExactMoveSample: for every sample and list it returns true. -/
import Derived.Test.YtgebhckfdcajoaaFnH
namespace Go.Proofs.Ytgebhckfdcajoaa.Ev
open Go
set_option linter.unusedVariables false
set_option linter.unusedSimpArgs false
set_option maxRecDepth 100000
set_option exponentiation.threshold 100000

theorem tot_le (l : List (List Int)) (h : ∀ x ∈ l, x.length ≤ 1048576) : tot l ≤ l.length * 1048576 := by
  induction l with
  | nil => simp [tot]
  | cons x l ih =>
    have h1 := h x (by simp)
    have h2 := ih fun y hy => h y (by simp [hy])
    simp only [tot, List.length_cons, Nat.succ_mul]
    omega
theorem tot_bd {l : List (List Int)} (h : Fit2 l) : tot l ≤ 1099511627776 := by
  have := tot_le l h.2
  have : l.length * 1048576 ≤ 1048576 * 1048576 := Nat.mul_le_mul_right _ h.1
  omega

theorem moveR_fit {s : Sample} {v : List Int} (hs : FitS s) : FitS (moveR s v).1 := by
  cases h : (okMove s v && isSample (moved s v)) with
  | true =>
    rw [moveR_yes h]
    have h1 : isSample s = true := by unfold okMove at h; simp at h; exact h.1.1
    have h2 : v.length = fstLen s := by unfold okMove at h; simp at h; exact h.1.2.2.1
    exact moved_fit hs fun x hx => by rw [sample_lens h1 x hx, h2]
  | false => rw [moveR_no h]; exact ⟨⟨by simp [zeroSample], by simp [zeroSample]⟩, by simp [zeroSample]⟩

theorem l_FnExactMoveSample_ok (s : Sample) (hw : WfD shSample s) (x : List Int) (hx : WfD tIS x) : orc.pc n_l_FnExactMoveSample [.d shSample s, .d tIS x] truePk := by
  refine p_l_FnExactMoveSample true rfl rfl ?_
  conv => whnf
  refine cond_intro (fun h => ?_) (fun h => ?_)
  · conv => whnf
    exact ⟨_, _, rfl, .inl rfl, rfl⟩
  have hx : x.length ≤ 1048576 := by simp at h; omega
  conv => whnf
  refine ⟨_, l_szSample_ok s 1048576 (lim_sample hw) (by decide) (by decide), (by first | exact (fun _ => rfl) | exact (fun h => Bool.noConfusion h)), ?_⟩
  conv => whnf
  refine cond_intro (fun h => ?_) (fun h => ?_)
  · conv => whnf
    exact ⟨_, _, rfl, .inl rfl, rfl⟩
  have h : ¬ szSa s 1048576 < 0 := of_decide_eq_false h
  obtain ⟨hf, _⟩ := szSa_fit (by decide) (by decide) (Int.not_lt.1 h)
  have hr := moveR_fit (v := x) hf
  have hm := tot_bd hf.p
  have hm' := tot_bd hr.p
  have hl := hf.l
  conv => whnf
  refine ⟨_, l_toSample_ok s hf, (by first | exact (fun _ => rfl) | exact (fun h => Bool.noConfusion h)), ?_⟩
  conv => whnf
  refine ⟨_, l_toIntS_ok x hx, (by first | exact (fun _ => rfl) | exact (fun h => Bool.noConfusion h)), ?_⟩
  conv => whnf
  refine ⟨_, s_MoveSample_ok s x hf hx, (by first | exact (fun _ => rfl) | exact (fun h => Bool.noConfusion h)), ?_⟩
  conv => whnf
  refine ⟨_, l_toSample_ok s hf, (by first | exact (fun _ => rfl) | exact (fun h => Bool.noConfusion h)), ?_⟩
  conv => whnf
  refine ⟨_, l_toIntS_ok x hx, (by first | exact (fun _ => rfl) | exact (fun h => Bool.noConfusion h)), ?_⟩
  conv => whnf
  refine ⟨_, i_MoveSample_ok s x hf hx, (by first | exact (fun _ => rfl) | exact (fun h => Bool.noConfusion h)), ?_⟩
  conv => whnf
  refine ⟨_, l_eqSample_ok _ _ hr, (by first | exact (fun _ => rfl) | exact (fun h => Bool.noConfusion h)), ?_⟩
  conv => whnf
  refine cond_t (show ((!decide ((moveR s x).1 = (moveR s x).1)) == false) = true by simp) ?_
  conv => whnf
  refine cond_f (show (!((moveR s x).2.1 == (moveR s x).2.1)) = false by simp) ?_
  conv => whnf
  refine ⟨_, l_toSample_ok s hf, (by first | exact (fun _ => rfl) | exact (fun h => Bool.noConfusion h)), ?_⟩
  conv => whnf
  refine ⟨_, l_eqSample_ok _ _ hf, (by first | exact (fun _ => rfl) | exact (fun h => Bool.noConfusion h)), ?_⟩
  conv => whnf
  refine cond_f (show (!decide (s = s)) = false by simp) ?_
  conv => whnf
  refine ⟨_, l_toIntS_ok x hx, (by first | exact (fun _ => rfl) | exact (fun h => Bool.noConfusion h)), ?_⟩
  conv => whnf
  refine ⟨_, l_eqIntS_ok _ _ hx, (by first | exact (fun _ => rfl) | exact (fun h => Bool.noConfusion h)), ?_⟩
  conv => whnf
  refine cond_f (show (!decide (x = x)) = false by simp) ?_
  conv => whnf
  refine ⟨_, _, l_markSample_at s.1 s.2.1 s.2.2 rfl rfl rfl 1 hf.p hf.l (by omega) (by omega), ?_⟩
  conv => whnf
  refine ⟨_, _, l_markIntS_at x rfl rfl rfl _ hx (by omega) (by omega), ?_⟩
  conv => whnf
  refine ⟨_, l_eqSample_ok _ _ hr, (by first | exact (fun _ => rfl) | exact (fun h => Bool.noConfusion h)), ?_⟩
  conv => whnf
  refine cond_t (show ((!decide ((moveR s x).1 = (moveR s x).1)) == false) = true by simp) ?_
  conv => whnf
  refine cond_f (show (!((moveR s x).2.1 == (moveR s x).2.1)) = false by simp) ?_
  conv => whnf
  refine ⟨_, _, l_markSample_at (moveR s x).1.1 (moveR s x).1.2.1 (moveR s x).1.2.2 rfl rfl rfl 1 hr.p hr.l (by omega) (by omega), ?_⟩
  conv => whnf
  have hh := l_heldSample_ok (moveR s x).1.1 (moveR s x).1.2.1.length (moveR s x).1.2.2 1 hr.p hr.l (by omega) (by omega)
  refine ⟨_, hh, (by first | exact (fun _ => rfl) | exact (fun h => Bool.noConfusion h)), ?_⟩
  conv => whnf
  refine cond_f (by simp) ?_
  conv => whnf
  refine ⟨_, l_toSample_ok s hf, (by first | exact (fun _ => rfl) | exact (fun h => Bool.noConfusion h)), ?_⟩
  conv => whnf
  refine ⟨_, l_toIntS_ok x hx, (by first | exact (fun _ => rfl) | exact (fun h => Bool.noConfusion h)), ?_⟩
  conv => whnf
  refine ⟨_, i_MoveSample_ok s x hf hx, (by first | exact (fun _ => rfl) | exact (fun h => Bool.noConfusion h)), ?_⟩
  conv => whnf
  refine ⟨_, l_eqSample_ok _ _ hr, (by first | exact (fun _ => rfl) | exact (fun h => Bool.noConfusion h)), ?_⟩
  conv => whnf
  refine cond_t (show ((!decide ((moveR s x).1 = (moveR s x).1)) == false) = true by simp) ?_
  conv => whnf
  refine cond_f (show (!((moveR s x).2.1 == (moveR s x).2.1)) = false by simp) ?_
  conv => whnf
  refine ⟨_, hh, (by first | exact (fun _ => rfl) | exact (fun h => Bool.noConfusion h)), ?_⟩
  conv => whnf
  refine cond_f (by simp) ?_
  conv => whnf
  exact ⟨_, _, rfl, .inl rfl, rfl⟩

end Go.Proofs.Ytgebhckfdcajoaa.Ev
