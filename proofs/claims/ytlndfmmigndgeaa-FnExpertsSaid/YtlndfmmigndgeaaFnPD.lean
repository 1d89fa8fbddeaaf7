/- Draws of panels. -/
import Derived.Test.YtlndfmmigndgeaaFnPW
namespace Go.Proofs.Ytlndfmmigndgeaa.Ev
open Go
set_option linter.unusedVariables false
set_option linter.unusedSimpArgs false
set_option maxRecDepth 100000
set_option exponentiation.threshold 100000
set_option maxHeartbeats 2000000

theorem s_DrawIsPanel_ok {code : List Int} (hc : IsCode code) : ∃ p, FitS p ∧ orc.pc n_s_DrawIsPanel [.d tB code] ⟨shSample, shSample.full, p⟩ := by
  obtain ⟨r, ⟨p, hp, rfl⟩, h⟩ : ∃ r, (∃ p, FitS p ∧ r = (⟨shSample, shSample.full, p⟩ : Pk)) ∧ orc.pc n_s_DrawIsPanel [.d tB code] r := by
    refine ex_fun (fun r h => p_s_DrawIsPanel true rfl rfl h) ?_
    conv => whnf
    refine ic_at (k := 0) (t := 6) ⟨_, rfl, rfl, rfl⟩ (fun P C => panel_0_6 hc (n := 0) (by omega) (.mk 0 0 (Nat.le_refl _)) C) ?_
    rintro _ _ ⟨p, rfl, hp, ⟨a, s, _⟩⟩
    conv => whnf
    exact ⟨_, _, rfl, .inl rfl, p, hp, rfl⟩
  exact ⟨p, hp, h⟩

theorem s_DrawHalvingSays_ok {code : List Int} (hc : IsCode code) : ∃ p, FitS p ∧ orc.pc n_s_DrawHalvingSays [.d tB code] ⟨shSample, shSample.full, p⟩ := by
  obtain ⟨p, hp, h⟩ := s_DrawIsPanel_ok hc
  refine ⟨p, hp, ?_⟩
  refine p_s_DrawHalvingSays true rfl rfl ?_
  conv => whnf
  refine ⟨_, h, (by first | exact (fun _ => rfl) | exact (fun h => Bool.noConfusion h)), ?_⟩
  conv => whnf
  exact ⟨_, _, rfl, .inl rfl, rfl⟩

end Go.Proofs.Ytlndfmmigndgeaa.Ev
