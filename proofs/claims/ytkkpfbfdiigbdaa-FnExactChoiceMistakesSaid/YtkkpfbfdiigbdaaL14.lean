/- The law FnExactChoiceMistakes: for every sample and three planes it returns true. -/
import Derived.Test.YtkkpfbfdiigbdaaFnQ
namespace Go.Proofs.Ytkkpfbfdiigbdaa.Ev
open Go
set_option linter.unusedVariables false
set_option linter.unusedSimpArgs false
set_option maxRecDepth 100000
set_option exponentiation.threshold 100000

theorem lim_plane {p : Plane} (h : WfD shPlane p) : p.1.length ≤ maxL := lim_list h.1

theorem l_FnExactChoiceMistakes_ok (s : Sample) (hw : WfD shSample s) (a : Plane) (hwa : WfD shPlane a) (b : Plane) (hwb : WfD shPlane b) (c : Plane) (hwc : WfD shPlane c) : orc.pc n_l_FnExactChoiceMistakes [.d shSample s, .d shPlane a, .d shPlane b, .d shPlane c] truePk := by
  refine p_l_FnExactChoiceMistakes true rfl rfl ?_
  conv => whnf
  refine ⟨_, l_szSample_ok s 1048576 (lim_sample hw) (by decide) (by decide), (by first | exact (fun _ => rfl) | exact (fun h => Bool.noConfusion h)), ?_⟩
  conv => whnf
  refine cond_intro (fun h => ?_) (fun h => ?_)
  · conv => whnf
    exact ⟨_, _, rfl, .inl rfl, rfl⟩
  have h : ¬ szSa s 1048576 < 0 := of_decide_eq_false h
  obtain ⟨hf, k0⟩ := szSa_fit (by decide) (by decide) (Int.not_lt.1 h)
  have h := Int.not_lt.1 h
  conv => whnf
  refine ⟨_, l_szPlane_ok a _ (lim_plane hwa) h k0, (by first | exact (fun _ => rfl) | exact (fun h => Bool.noConfusion h)), ?_⟩
  conv => whnf
  refine cond_intro (fun g => ?_) (fun g => ?_)
  · conv => whnf
    exact ⟨_, _, rfl, .inl rfl, rfl⟩
  have g : ¬ szL a.1.length (szSa s 1048576) < 0 := of_decide_eq_false g
  obtain ⟨a1, a2⟩ := szL_le (Int.not_lt.1 g)
  have g := Int.not_lt.1 g
  conv => whnf
  refine ⟨_, l_szPlane_ok b (szL a.1.length (szSa s 1048576)) (lim_plane hwb) g (by omega), (by first | exact (fun _ => rfl) | exact (fun h => Bool.noConfusion h)), ?_⟩
  conv => whnf
  refine cond_intro (fun p => ?_) (fun p => ?_)
  · conv => whnf
    exact ⟨_, _, rfl, .inl rfl, rfl⟩
  have p : ¬ szL b.1.length (szL a.1.length (szSa s 1048576)) < 0 := of_decide_eq_false p
  obtain ⟨b1, b2⟩ := szL_le (Int.not_lt.1 p)
  have p := Int.not_lt.1 p
  conv => whnf
  refine ⟨_, l_szPlane_ok c (szL b.1.length (szL a.1.length (szSa s 1048576))) (lim_plane hwc) p (by omega), (by first | exact (fun _ => rfl) | exact (fun h => Bool.noConfusion h)), ?_⟩
  conv => whnf
  refine cond_intro (fun q => ?_) (fun q => ?_)
  · conv => whnf
    exact ⟨_, _, rfl, .inl rfl, rfl⟩
  have q : ¬ szL c.1.length (szL b.1.length (szL a.1.length (szSa s 1048576))) < 0 := of_decide_eq_false q
  obtain ⟨c1, c2⟩ := szL_le (Int.not_lt.1 q)
  have ha : a.1.length ≤ 1048576 := by omega
  have hb : b.1.length ≤ 1048576 := by omega
  have hc : c.1.length ≤ 1048576 := by omega
  have hm := tot_bd hf.p
  have hl := hf.l
  have hr : (choR s a b c).1.length ≤ 1048576 := choR_short
  clear a1 a2 b1 b2 c1 c2 g p q h k0
  conv => whnf
  refine ⟨_, l_toSample_ok s hf, (by first | exact (fun _ => rfl) | exact (fun h => Bool.noConfusion h)), ?_⟩
  conv => whnf
  refine ⟨_, l_toPlane_ok a ha, (by first | exact (fun _ => rfl) | exact (fun h => Bool.noConfusion h)), ?_⟩
  conv => whnf
  refine ⟨_, l_toPlane_ok b hb, (by first | exact (fun _ => rfl) | exact (fun h => Bool.noConfusion h)), ?_⟩
  conv => whnf
  refine ⟨_, l_toPlane_ok c hc, (by first | exact (fun _ => rfl) | exact (fun h => Bool.noConfusion h)), ?_⟩
  conv => whnf
  refine ⟨_, s_ChoiceMistakes_ok s a b c hf ha hb hc, (by first | exact (fun _ => rfl) | exact (fun h => Bool.noConfusion h)), ?_⟩
  conv => whnf
  refine ⟨_, l_toSample_ok s hf, (by first | exact (fun _ => rfl) | exact (fun h => Bool.noConfusion h)), ?_⟩
  conv => whnf
  refine ⟨_, l_toPlane_ok a ha, (by first | exact (fun _ => rfl) | exact (fun h => Bool.noConfusion h)), ?_⟩
  conv => whnf
  refine ⟨_, l_toPlane_ok b hb, (by first | exact (fun _ => rfl) | exact (fun h => Bool.noConfusion h)), ?_⟩
  conv => whnf
  refine ⟨_, l_toPlane_ok c hc, (by first | exact (fun _ => rfl) | exact (fun h => Bool.noConfusion h)), ?_⟩
  conv => whnf
  refine ⟨_, i_ChoiceMistakes_ok s a b c hf ha hb hc, (by first | exact (fun _ => rfl) | exact (fun h => Bool.noConfusion h)), ?_⟩
  conv => whnf
  refine ⟨_, l_eqIntS_ok _ _ hr, (by first | exact (fun _ => rfl) | exact (fun h => Bool.noConfusion h)), ?_⟩
  conv => whnf
  refine cond_t (show ((!decide ((choR s a b c).1 = (choR s a b c).1)) == false) = true by simp) ?_
  conv => whnf
  refine cond_f (show (!((choR s a b c).2.1 == (choR s a b c).2.1)) = false by simp) ?_
  conv => whnf
  refine ⟨_, l_toSample_ok s hf, (by first | exact (fun _ => rfl) | exact (fun h => Bool.noConfusion h)), ?_⟩
  conv => whnf
  refine ⟨_, l_eqSample_ok s s hf, (by first | exact (fun _ => rfl) | exact (fun h => Bool.noConfusion h)), ?_⟩
  conv => whnf
  refine cond_f (show (!decide (s = s)) = false by simp) ?_
  conv => whnf
  refine ⟨_, l_toPlane_ok a ha, (by first | exact (fun _ => rfl) | exact (fun h => Bool.noConfusion h)), ?_⟩
  conv => whnf
  refine ⟨_, l_eqPlane_ok a a ha, (by first | exact (fun _ => rfl) | exact (fun h => Bool.noConfusion h)), ?_⟩
  conv => whnf
  refine cond_f (show (!decide (a = a)) = false by simp) ?_
  conv => whnf
  refine ⟨_, l_toPlane_ok b hb, (by first | exact (fun _ => rfl) | exact (fun h => Bool.noConfusion h)), ?_⟩
  conv => whnf
  refine ⟨_, l_eqPlane_ok b b hb, (by first | exact (fun _ => rfl) | exact (fun h => Bool.noConfusion h)), ?_⟩
  conv => whnf
  refine cond_f (show (!decide (b = b)) = false by simp) ?_
  conv => whnf
  refine ⟨_, l_toPlane_ok c hc, (by first | exact (fun _ => rfl) | exact (fun h => Bool.noConfusion h)), ?_⟩
  conv => whnf
  refine ⟨_, l_eqPlane_ok c c hc, (by first | exact (fun _ => rfl) | exact (fun h => Bool.noConfusion h)), ?_⟩
  conv => whnf
  refine cond_f (show (!decide (c = c)) = false by simp) ?_
  conv => whnf
  refine ⟨_, _, l_markSample_at s.1 s.2.1 s.2.2 rfl rfl rfl 1 hf.p hf.l (by omega) (by omega), ?_⟩
  conv => whnf
  refine ⟨_, _, l_markPlane_at a.1 a.2 rfl rfl rfl _ ha (by omega) (by omega), ?_⟩
  conv => whnf
  refine ⟨_, _, l_markPlane_at b.1 b.2 rfl rfl rfl _ hb (by omega) (by omega), ?_⟩
  conv => whnf
  refine ⟨_, _, l_markPlane_at c.1 c.2 rfl rfl rfl _ hc (by omega) (by omega), ?_⟩
  conv => whnf
  refine ⟨_, l_eqIntS_ok _ _ hr, (by first | exact (fun _ => rfl) | exact (fun h => Bool.noConfusion h)), ?_⟩
  conv => whnf
  refine cond_t (show ((!decide ((choR s a b c).1 = (choR s a b c).1)) == false) = true by simp) ?_
  conv => whnf
  refine cond_f (show (!((choR s a b c).2.1 == (choR s a b c).2.1)) = false by simp) ?_
  conv => whnf
  refine ⟨_, _, l_markIntS_at (choR s a b c).1 rfl rfl rfl 1 hr (by omega) (by omega), ?_⟩
  conv => whnf
  have hh := l_heldIntS_ok (choR s a b c).1.length 1 hr (by omega) (by omega)
  refine ⟨_, hh, (by first | exact (fun _ => rfl) | exact (fun h => Bool.noConfusion h)), ?_⟩
  conv => whnf
  refine cond_f (by simp) ?_
  conv => whnf
  refine ⟨_, l_toSample_ok s hf, (by first | exact (fun _ => rfl) | exact (fun h => Bool.noConfusion h)), ?_⟩
  conv => whnf
  refine ⟨_, l_toPlane_ok a ha, (by first | exact (fun _ => rfl) | exact (fun h => Bool.noConfusion h)), ?_⟩
  conv => whnf
  refine ⟨_, l_toPlane_ok b hb, (by first | exact (fun _ => rfl) | exact (fun h => Bool.noConfusion h)), ?_⟩
  conv => whnf
  refine ⟨_, l_toPlane_ok c hc, (by first | exact (fun _ => rfl) | exact (fun h => Bool.noConfusion h)), ?_⟩
  conv => whnf
  refine ⟨_, i_ChoiceMistakes_ok s a b c hf ha hb hc, (by first | exact (fun _ => rfl) | exact (fun h => Bool.noConfusion h)), ?_⟩
  conv => whnf
  refine ⟨_, l_eqIntS_ok _ _ hr, (by first | exact (fun _ => rfl) | exact (fun h => Bool.noConfusion h)), ?_⟩
  conv => whnf
  refine cond_t (show ((!decide ((choR s a b c).1 = (choR s a b c).1)) == false) = true by simp) ?_
  conv => whnf
  refine cond_f (show (!((choR s a b c).2.1 == (choR s a b c).2.1)) = false by simp) ?_
  conv => whnf
  refine ⟨_, hh, (by first | exact (fun _ => rfl) | exact (fun h => Bool.noConfusion h)), ?_⟩
  conv => whnf
  refine cond_f (by simp) ?_
  conv => whnf
  exact ⟨_, _, rfl, .inl rfl, rfl⟩

end Go.Proofs.Ytkkpfbfdiigbdaa.Ev
