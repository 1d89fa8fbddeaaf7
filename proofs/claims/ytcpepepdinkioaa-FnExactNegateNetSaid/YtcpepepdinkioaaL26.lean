/- The law FnExactNegateNet: for every net it returns true. -/
import Derived.Test.YtcpepepdinkioaaFnNE
namespace Go.Proofs.Ytcpepepdinkioaa.Ev
open Go
set_option linter.unusedVariables false
set_option linter.unusedSimpArgs false
set_option maxRecDepth 100000
set_option exponentiation.threshold 100000

theorem totP_turned (x : List Plane) : totP (x.map turnedP) = totP x := by
  induction x with
  | nil => rfl
  | cons p x ih => simp only [List.map_cons, totP, ih, turnedP, List.length_map]
theorem totPP_set : ∀ (l : List (List Plane)) (n : Nat) (y d : List Plane), n < l.length → totP y = totP (l.getD n d) → totPP (l.set n y) = totPP l := by
  intro l
  induction l with
  | nil => intro n y d h _; simp at h
  | cons x l ih =>
    intro n y d h e
    cases n with
    | zero => simp only [List.set_cons_zero, totPP]; rw [e]; rfl
    | succ n =>
      simp only [List.set_cons_succ, totPP]
      rw [ih n y d (by simpa using h) (by simpa using e)]
theorem FitP.turned {x : List Plane} (h : FitP x) : FitP (x.map turnedP) := by
  refine ⟨by simpa using h.n, fun p hp => ?_⟩
  obtain ⟨q, hq, rfl⟩ := List.mem_map.1 hp
  simpa [turnedP] using h.w q hq
theorem fit_neg {t : Net} (h : FitPP t.2.1) : FitPP (negN t).2.1 := by
  by_cases hl : t.2.1.length = 0
  · have : t.2.1 = [] := List.length_eq_zero_iff.1 hl
    have e : (negN t).2.1 = [] := by unfold negN; rw [this]; rfl
    rw [e]; exact ⟨by simp, by simp, by simp [totPP]⟩
  · have hll : t.2.1.length - 1 < t.2.1.length := by omega
    refine ⟨by simpa [negN] using h.n, fun x hx => ?_, ?_⟩
    · rcases List.mem_or_eq_of_mem_set hx with hx | rfl
      · exact h.w x hx
      · exact (h.at hll _).turned
    · show totPP (t.2.1.set (t.2.1.length - 1) ((lastL t).map turnedP)) ≤ _
      rw [totPP_set t.2.1 _ ((lastL t).map turnedP) (Sh.dflt shPlS) hll (totP_turned (lastL t))]
      exact h.t
theorem fit_negR {t : Net} (h : FitPP t.2.1) : FitPP (negR t).1.2.1 := by
  unfold negR
  split
  · exact fit_neg h
  · exact ⟨by simp, by simp, by simp [totPP]⟩

theorem l_FnExactNegateNet_ok (t : Net) (hw : WfD shNet t) : orc.pc n_l_FnExactNegateNet [.d shNet t] truePk := by
  refine p_l_FnExactNegateNet true rfl rfl ?_
  conv => whnf
  refine ⟨_, l_szNet_ok t 1048576 (lim_layers hw.2.1) (by decide) (by decide), (by first | exact (fun _ => rfl) | exact (fun h => Bool.noConfusion h)), ?_⟩
  conv => whnf
  refine cond_intro (fun h => ?_) (fun h => ?_)
  · conv => whnf
    exact ⟨_, _, rfl, .inl rfl, rfl⟩
  have h : ¬ szPP t.2.1 1048576 < 0 := of_decide_eq_false h
  obtain ⟨hf, _⟩ := szPP_fit (by decide) (by decide) (Int.not_lt.1 h)
  have hft := hf.t
  have hr := fit_negR (t := t) hf
  have hrt := hr.t
  have eqB : ∀ x : Bool, (!(x == x)) = false := by intro x; cases x <;> rfl
  conv => whnf
  refine ⟨_, l_toNet_ok t hf, (by first | exact (fun _ => rfl) | exact (fun h => Bool.noConfusion h)), ?_⟩
  conv => whnf
  refine ⟨_, s_NegateNet_ok t hf, (by first | exact (fun _ => rfl) | exact (fun h => Bool.noConfusion h)), ?_⟩
  conv => whnf
  refine ⟨_, l_toNet_ok t hf, (by first | exact (fun _ => rfl) | exact (fun h => Bool.noConfusion h)), ?_⟩
  conv => whnf
  refine ⟨_, i_NegateNet_ok t hf, (by first | exact (fun _ => rfl) | exact (fun h => Bool.noConfusion h)), ?_⟩
  conv => whnf
  refine ⟨_, l_eqNet_ok (negR t).1 (negR t).1 hr.n hr.w, (by first | exact (fun _ => rfl) | exact (fun h => Bool.noConfusion h)), ?_⟩
  conv => whnf
  refine cond_t (show ((!decide ((negR t).1 = (negR t).1)) == false) = true by simp) ?_
  conv => whnf
  refine cond_f (eqB _) ?_
  conv => whnf
  refine ⟨_, l_toNet_ok t hf, (by first | exact (fun _ => rfl) | exact (fun h => Bool.noConfusion h)), ?_⟩
  conv => whnf
  refine ⟨_, l_eqNet_ok t t hf.n hf.w, (by first | exact (fun _ => rfl) | exact (fun h => Bool.noConfusion h)), ?_⟩
  conv => whnf
  refine cond_f (show (!decide (t = t)) = false by simp) ?_
  conv => whnf
  refine ⟨_, _, l_markNet_at t.1 t.2.1 t.2.2 rfl rfl rfl 1 hf (by omega) (by omega), ?_⟩
  conv => whnf
  have c0 : ¬ ((1 + totPP t.2.1 : Int) < 0) := by omega
  refine ⟨_, l_eqNet_ok (negR t).1 (negR t).1 hr.n hr.w, (by first | exact (fun _ => rfl) | exact (fun h => Bool.noConfusion h)), ?_⟩
  conv => whnf
  refine cond_t (show ((!decide ((negR t).1 = (negR t).1)) == false) = true by simp) ?_
  conv => whnf
  refine cond_f (eqB _) ?_
  conv => whnf
  refine ⟨_, _, l_markNet_at (negR t).1.1 (negR t).1.2.1 (negR t).1.2.2 rfl rfl rfl 1 hr (by omega) (by omega), ?_⟩
  conv => whnf
  have hh := l_heldNet_ok (negR t).1.1 (negR t).1.2.1 (negR t).1.2.2 1 hr (by omega) (by omega)
  refine ⟨_, hh, (by first | exact (fun _ => rfl) | exact (fun h => Bool.noConfusion h)), ?_⟩
  conv => whnf
  refine cond_f (by simp) ?_
  conv => whnf
  refine ⟨_, l_toNet_ok t hf, (by first | exact (fun _ => rfl) | exact (fun h => Bool.noConfusion h)), ?_⟩
  conv => whnf
  refine ⟨_, i_NegateNet_ok t hf, (by first | exact (fun _ => rfl) | exact (fun h => Bool.noConfusion h)), ?_⟩
  conv => whnf
  refine ⟨_, l_eqNet_ok (negR t).1 (negR t).1 hr.n hr.w, (by first | exact (fun _ => rfl) | exact (fun h => Bool.noConfusion h)), ?_⟩
  conv => whnf
  refine cond_t (show ((!decide ((negR t).1 = (negR t).1)) == false) = true by simp) ?_
  conv => whnf
  refine cond_f (eqB _) ?_
  conv => whnf
  refine ⟨_, hh, (by first | exact (fun _ => rfl) | exact (fun h => Bool.noConfusion h)), ?_⟩
  conv => whnf
  refine cond_f (by simp) ?_
  conv => whnf
  exact ⟨_, _, rfl, .inl rfl, rfl⟩

end Go.Proofs.Ytcpepepdinkioaa.Ev
