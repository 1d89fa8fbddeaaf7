/- The law FnExactNewSchool: for every number it returns true. -/
import Derived.Test.YtgebhckfdcajoaaFnB
namespace Go.Proofs.Ytgebhckfdcajoaa.Ev
open Go
set_option linter.unusedVariables false
set_option linter.unusedSimpArgs false
set_option maxRecDepth 100000

theorem newS_fit (d : Int) : FitSc (newS d) := by
  cases h : inB d 1 4 with
  | true =>
    have := replicate_len h
    rw [newS_yes h]
    exact ⟨⟨⟨by simp [zeroSchool], by simp [zeroSchool]⟩, by simp [zeroSchool]⟩, by simp [zeroSchool]; omega⟩
  | false =>
    rw [newS_no h]
    exact ⟨⟨⟨by simp [zeroSchool], by simp [zeroSchool]⟩, by simp [zeroSchool]⟩, by simp [zeroSchool]⟩
theorem newS_tot (d : Int) : tot (newS d).1.1 = 0 := by
  cases h : inB d 1 4 with
  | true => rw [newS_yes h]; rfl
  | false => rw [newS_no h]; rfl

theorem l_FnExactNewSchool_ok (d : Int) (_ : WfD tI d) : orc.pc n_l_FnExactNewSchool [.d tI d] truePk := by
  have hf := newS_fit d
  have ht := newS_tot d
  have hy := hf.sm.l
  have hz := hf.pl
  refine p_l_FnExactNewSchool true rfl rfl ?_
  conv => whnf
  refine ⟨_, s_NewSchool_ok d, (by first | exact (fun _ => rfl) | exact (fun h => Bool.noConfusion h)), ?_⟩
  conv => whnf
  refine ⟨_, i_NewSchool_ok d, (by first | exact (fun _ => rfl) | exact (fun h => Bool.noConfusion h)), ?_⟩
  conv => whnf
  refine ⟨_, l_eqSchool_ok _ _ hf, (by first | exact (fun _ => rfl) | exact (fun h => Bool.noConfusion h)), ?_⟩
  conv => whnf
  refine cond_t (show ((!decide (newS d = newS d)) == false) = true by simp) ?_
  conv => whnf
  refine cond_f (show (!(inB d 1 4 == inB d 1 4)) = false by simp) ?_
  conv => whnf
  refine ⟨_, _, l_markSchool_at (newS d).1.1 (newS d).1.2.1 (newS d).2.1.1 (newS d).1.2.2 (newS d).2.1.2 (newS d).2.2 rfl rfl rfl 1 hf.sm.p hy hz (by omega) (by omega), ?_⟩
  conv => whnf
  have hh := l_heldSchool_ok (newS d).1.1 (newS d).1.2.1.length (newS d).2.1.1.length (newS d).1.2.2 (newS d).2.1.2 (newS d).2.2 1 hf.sm.p hy hz (by omega) (by omega)
  refine ⟨_, hh, (by first | exact (fun _ => rfl) | exact (fun h => Bool.noConfusion h)), ?_⟩
  conv => whnf
  refine cond_f (by simp) ?_
  conv => whnf
  refine ⟨_, i_NewSchool_ok d, (by first | exact (fun _ => rfl) | exact (fun h => Bool.noConfusion h)), ?_⟩
  conv => whnf
  refine ⟨_, l_eqSchool_ok _ _ hf, (by first | exact (fun _ => rfl) | exact (fun h => Bool.noConfusion h)), ?_⟩
  conv => whnf
  refine cond_t (show ((!decide (newS d = newS d)) == false) = true by simp) ?_
  conv => whnf
  refine cond_f (show (!(inB d 1 4 == inB d 1 4)) = false by simp) ?_
  conv => whnf
  refine ⟨_, hh, (by first | exact (fun _ => rfl) | exact (fun h => Bool.noConfusion h)), ?_⟩
  conv => whnf
  refine cond_f (by simp) ?_
  conv => whnf
  exact ⟨_, _, rfl, .inl rfl, rfl⟩

end Go.Proofs.Ytgebhckfdcajoaa.Ev
