/- The law FnExactJuryMistakes: for every sample and jury it returns true. -/
import Derived.Test.YtkkpfbfdiigbdaaFnR
namespace Go.Proofs.Ytkkpfbfdiigbdaa.Ev
open Go
set_option linter.unusedVariables false
set_option linter.unusedSimpArgs false
set_option maxRecDepth 100000
set_option exponentiation.threshold 100000

theorem l_markPlaneS_at {st : St} {s : Nat} {sl : Slot} (x : List Plane) (hg : st.get 0 s = some sl) (hf : sl.fv = true) (hb : sl.v = .own shPlane (.pr (.ow .fz) .fz) x) (k : Int)
    (hx : FitP x) (h0 : 0 ≤ k) (hk : k + totP x ≤ 1152921504606846976) :
    orc.ic n_l_markPlaneS [.vw ⟨⟨0, s, false⟩, []⟩ shPlane, .d tI k] st (.d tI (k + totP x)) (st.upd 0 s false (.own shPlane (.pr (.ow .fz) .fz) (marksP x k))) := by
  have h := l_markPlaneS_ok (owns_var hg hf shPlane (.pr (.ow .fz) .fz)) x k hx h0 hk
  rw [← hb, updV_self hg] at h
  exact h

theorem l_FnExactJuryMistakes_ok (s : Sample) (hw : WfD shSample s) (l : List Plane) (hwl : WfD shPlS l) : orc.pc n_l_FnExactJuryMistakes [.d shSample s, .d shPlS l] truePk := by
  refine p_l_FnExactJuryMistakes true rfl rfl ?_
  conv => whnf
  refine ⟨_, l_szSample_ok s 1048576 (lim_sample hw) (by decide) (by decide), (by first | exact (fun _ => rfl) | exact (fun h => Bool.noConfusion h)), ?_⟩
  conv => whnf
  refine cond_intro (fun h => ?_) (fun h => ?_)
  · conv => whnf
    exact ⟨_, _, rfl, .inl rfl, rfl⟩
  have h : ¬ szSa s 1048576 < 0 := of_decide_eq_false h
  obtain ⟨hf, k0⟩ := szSa_fit (by decide) (by decide) (Int.not_lt.1 h)
  have h := Int.not_lt.1 h
  obtain ⟨lp1, lp2⟩ := lim_planes hwl
  conv => whnf
  refine ⟨_, l_szPlaneS_ok l _ lp1 lp2 h k0, (by first | exact (fun _ => rfl) | exact (fun h => Bool.noConfusion h)), ?_⟩
  conv => whnf
  refine cond_intro (fun g => ?_) (fun g => ?_)
  · conv => whnf
    exact ⟨_, _, rfl, .inl rfl, rfl⟩
  have g : ¬ szPS l (szSa s 1048576) < 0 := of_decide_eq_false g
  obtain ⟨hp, _⟩ := szPS_fit h k0 (Int.not_lt.1 g)
  have hm := tot_bd hf.p
  have hl := hf.l
  have hpm := totP_bd hp
  have hr : (jurR s l).1.length ≤ 1048576 := jurR_short
  conv => whnf
  refine ⟨_, l_toSample_ok s hf, (by first | exact (fun _ => rfl) | exact (fun h => Bool.noConfusion h)), ?_⟩
  conv => whnf
  refine ⟨_, l_toPlaneS_ok l hp, (by first | exact (fun _ => rfl) | exact (fun h => Bool.noConfusion h)), ?_⟩
  conv => whnf
  refine ⟨_, s_JuryMistakes_ok s l hf hp, (by first | exact (fun _ => rfl) | exact (fun h => Bool.noConfusion h)), ?_⟩
  conv => whnf
  refine ⟨_, l_toSample_ok s hf, (by first | exact (fun _ => rfl) | exact (fun h => Bool.noConfusion h)), ?_⟩
  conv => whnf
  refine ⟨_, l_toPlaneS_ok l hp, (by first | exact (fun _ => rfl) | exact (fun h => Bool.noConfusion h)), ?_⟩
  conv => whnf
  refine ⟨_, i_JuryMistakes_ok s l hf hp, (by first | exact (fun _ => rfl) | exact (fun h => Bool.noConfusion h)), ?_⟩
  conv => whnf
  refine ⟨_, l_eqIntS_ok _ _ hr, (by first | exact (fun _ => rfl) | exact (fun h => Bool.noConfusion h)), ?_⟩
  conv => whnf
  refine cond_t (show ((!decide ((jurR s l).1 = (jurR s l).1)) == false) = true by simp) ?_
  conv => whnf
  refine cond_f (show (!((jurR s l).2.1 == (jurR s l).2.1)) = false by simp) ?_
  conv => whnf
  refine ⟨_, l_toSample_ok s hf, (by first | exact (fun _ => rfl) | exact (fun h => Bool.noConfusion h)), ?_⟩
  conv => whnf
  refine ⟨_, l_eqSample_ok s s hf, (by first | exact (fun _ => rfl) | exact (fun h => Bool.noConfusion h)), ?_⟩
  conv => whnf
  refine cond_f (show (!decide (s = s)) = false by simp) ?_
  conv => whnf
  refine ⟨_, l_toPlaneS_ok l hp, (by first | exact (fun _ => rfl) | exact (fun h => Bool.noConfusion h)), ?_⟩
  conv => whnf
  refine ⟨_, l_eqPlaneS_ok l l hp, (by first | exact (fun _ => rfl) | exact (fun h => Bool.noConfusion h)), ?_⟩
  conv => whnf
  refine cond_f (show (!decide (l = l)) = false by simp) ?_
  conv => whnf
  refine ⟨_, _, l_markSample_at s.1 s.2.1 s.2.2 rfl rfl rfl 1 hf.p hf.l (by omega) (by omega), ?_⟩
  conv => whnf
  refine ⟨_, _, l_markPlaneS_at l rfl rfl rfl _ hp (by omega) (by omega), ?_⟩
  conv => whnf
  refine ⟨_, l_eqIntS_ok _ _ hr, (by first | exact (fun _ => rfl) | exact (fun h => Bool.noConfusion h)), ?_⟩
  conv => whnf
  refine cond_t (show ((!decide ((jurR s l).1 = (jurR s l).1)) == false) = true by simp) ?_
  conv => whnf
  refine cond_f (show (!((jurR s l).2.1 == (jurR s l).2.1)) = false by simp) ?_
  conv => whnf
  refine ⟨_, _, l_markIntS_at (jurR s l).1 rfl rfl rfl 1 hr (by omega) (by omega), ?_⟩
  conv => whnf
  have hh := l_heldIntS_ok (jurR s l).1.length 1 hr (by omega) (by omega)
  refine ⟨_, hh, (by first | exact (fun _ => rfl) | exact (fun h => Bool.noConfusion h)), ?_⟩
  conv => whnf
  refine cond_f (by simp) ?_
  conv => whnf
  refine ⟨_, l_toSample_ok s hf, (by first | exact (fun _ => rfl) | exact (fun h => Bool.noConfusion h)), ?_⟩
  conv => whnf
  refine ⟨_, l_toPlaneS_ok l hp, (by first | exact (fun _ => rfl) | exact (fun h => Bool.noConfusion h)), ?_⟩
  conv => whnf
  refine ⟨_, i_JuryMistakes_ok s l hf hp, (by first | exact (fun _ => rfl) | exact (fun h => Bool.noConfusion h)), ?_⟩
  conv => whnf
  refine ⟨_, l_eqIntS_ok _ _ hr, (by first | exact (fun _ => rfl) | exact (fun h => Bool.noConfusion h)), ?_⟩
  conv => whnf
  refine cond_t (show ((!decide ((jurR s l).1 = (jurR s l).1)) == false) = true by simp) ?_
  conv => whnf
  refine cond_f (show (!((jurR s l).2.1 == (jurR s l).2.1)) = false by simp) ?_
  conv => whnf
  refine ⟨_, hh, (by first | exact (fun _ => rfl) | exact (fun h => Bool.noConfusion h)), ?_⟩
  conv => whnf
  refine cond_f (by simp) ?_
  conv => whnf
  exact ⟨_, _, rfl, .inl rfl, rfl⟩

end Go.Proofs.Ytkkpfbfdiigbdaa.Ev
