/- The least and the greatest of two numbers. -/
import Derived.Test.YtlndfmmigndgeaaFnA
namespace Go.Proofs.Ytlndfmmigndgeaa.Ev
open Go
set_option linter.unusedVariables false
set_option linter.unusedSimpArgs false
set_option maxRecDepth 100000
set_option exponentiation.threshold 100000

def least (a b : Int) : Int := if a < b then a else b
theorem s_l1Least_ok (a b : Int) : orc.pc n_s_l1Least [.d tI a, .d tI b] ⟨tI, .fz, least a b⟩ := by
  refine p_s_l1Least true rfl rfl ?_
  conv => whnf
  refine cond_intro (fun h => ?_) (fun h => ?_)
  · have h : a < b := of_decide_eq_true h
    rw [show least a b = a from if_pos h]
    conv => whnf
    exact ⟨_, _, rfl, .inl rfl, rfl⟩
  · have h : ¬ a < b := of_decide_eq_false h
    rw [show least a b = b from if_neg h]
    conv => whnf
    exact ⟨_, _, rfl, .inl rfl, rfl⟩

def most (a b : Int) : Int := if a > b then a else b
theorem s_l1Most_ok (a b : Int) : orc.pc n_s_l1Most [.d tI a, .d tI b] ⟨tI, .fz, most a b⟩ := by
  refine p_s_l1Most true rfl rfl ?_
  conv => whnf
  refine cond_intro (fun h => ?_) (fun h => ?_)
  · have h : a > b := of_decide_eq_true h
    rw [show most a b = a from if_pos h]
    conv => whnf
    exact ⟨_, _, rfl, .inl rfl, rfl⟩
  · have h : ¬ a > b := of_decide_eq_false h
    rw [show most a b = b from if_neg h]
    conv => whnf
    exact ⟨_, _, rfl, .inl rfl, rfl⟩

end Go.Proofs.Ytlndfmmigndgeaa.Ev
