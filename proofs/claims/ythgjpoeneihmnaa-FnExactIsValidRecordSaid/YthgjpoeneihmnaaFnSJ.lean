/- Records and logs of the laws: sizes, copies; functions on records and logs. -/
import Derived.Test.YthgjpoeneihmnaaFnSI
namespace Go.Proofs.Ythgjpoeneihmnaa.Ev
open Go
set_option linter.unusedVariables false
set_option linter.unusedSimpArgs false
set_option maxRecDepth 100000
set_option exponentiation.threshold 100000

theorem szL_neg {n : Nat} {k : Int} (h : k - n < 0) : szL n k = -1 := if_pos h
theorem szL_pos {n : Nat} {k : Int} (h : ¬ k - n < 0) : szL n k = k - n := if_neg h
theorem szAll_neg1 {n : Nat} {l : List Nat} {k : Int} (h : k - n < 0) : szAll (n :: l) k = -1 := by
  have e : szL n k < 0 := by rw [szL_neg h]; decide
  exact if_pos e
theorem szAll_pos1 {n : Nat} {l : List Nat} {k : Int} (h : ¬ k - n < 0) : szAll (n :: l) k = szAll l (k - n) := by
  have e : ¬ szL n k < 0 := by rw [szL_pos h]; exact h
  have : szAll (n :: l) k = szAll l (szL n k) := if_neg e
  rw [this, szL_pos h]

theorem l_szLogRecord_ok (e : Rec) (k : Int) (h1 : e.1.length ≤ maxL) (h2 : e.2.length ≤ maxL) (h0 : 0 ≤ k) (hk : k ≤ 1048576) : orc.pc n_l_szLogRecord [.d shRec (recD e), .d tI k] ⟨tI, .fz, szAll [e.1.length, e.2.length] k⟩ := by
  refine p_l_szLogRecord true rfl rfl ?_
  conv => whnf
  rw [show IntKind.i64.wrap (k - ((recD e).1.size : Int)) = k - e.1.length from wrap_sub (n := e.1.length) h1 h0 hk]
  refine cond_intro (fun h => ?_) (fun h => ?_)
  · have h : k - e.1.length < 0 := of_decide_eq_true h
    conv => whnf
    exact ⟨_, _, rfl, .inl rfl, fin1 (by rw [szAll_neg1 h])⟩
  have h : ¬ k - e.1.length < 0 := of_decide_eq_false h
  conv => whnf
  rw [show IntKind.i64.wrap ((k - e.1.length) - ((recD e).2.1.size : Int)) = (k - e.1.length) - e.2.length from wrap_sub (n := e.2.length) h2 (by omega) (by omega)]
  refine cond_intro (fun g => ?_) (fun g => ?_)
  · have g : k - e.1.length - e.2.length < 0 := of_decide_eq_true g
    conv => whnf
    exact ⟨_, _, rfl, .inl rfl, fin1 (by rw [szAll_pos1 h, szAll_neg1 g])⟩
  have g : ¬ k - e.1.length - e.2.length < 0 := of_decide_eq_false g
  conv => whnf
  exact ⟨_, _, rfl, .inl rfl, fin1 (by rw [szAll_pos1 h, szAll_pos1 g]; rfl)⟩

theorem l_toLogRecord_ok (e : Rec) : orc.pc n_l_toLogRecord [.d shRec (recD e)] ⟨shRec, .fz, recD e⟩ := by
  refine p_l_toLogRecord true rfl rfl ?_
  conv => whnf
  exact ⟨_, _, rfl, .inl rfl, rfl⟩

/-! ### Recovering -/

abbrev shLogIB : Sh := .pair shLog (.pair tI (.pair .bool .unit))
def recoR (s : Txt) : shLogIB.den := if s.length ≤ 30000 then (logD (s.take (tot1 (openR s)), [], (openR s).length), ((tot1 (openR s) : Nat) : Int), true, ()) else (logD ([], [], 0), 0, false, ())
end Go.Proofs.Ythgjpoeneihmnaa.Ev
