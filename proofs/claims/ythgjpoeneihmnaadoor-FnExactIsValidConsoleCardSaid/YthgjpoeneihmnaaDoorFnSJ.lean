/- Records and logs of the laws: sizes, copies; functions on records and logs. -/
import Derived.Test.YthgjpoeneihmnaaDoorFnSI
namespace Go.Proofs.YthgjpoeneihmnaaDoor.Ev
open Go
set_option linter.unusedVariables false
set_option linter.unusedSimpArgs false
set_option maxRecDepth 100000
set_option exponentiation.threshold 100000

theorem szL_neg {n : Nat} {k : Int} (h : k - n < 0) : szL n k = -1 := if_pos h
theorem szL_pos {n : Nat} {k : Int} (h : ¬ k - n < 0) : szL n k = k - n := if_neg h
theorem szAll_neg1 {n : Nat} {l : List Nat} {k : Int} (h : k - n < 0) : szAll (n :: l) k = -1 := by
  have e : szL n k < 0 := by rw [szL_neg h]; decide
  exact if_pos e
theorem szAll_pos1 {n : Nat} {l : List Nat} {k : Int} (h : ¬ k - n < 0) : szAll (n :: l) k = szAll l (k - n) := by
  have e : ¬ szL n k < 0 := by rw [szL_pos h]; exact h
  have : szAll (n :: l) k = szAll l (szL n k) := if_neg e
  rw [this, szL_pos h]

theorem l_szLogRecord_ok (e : Rec) (k : Int) (h1 : e.1.length ≤ maxL) (h2 : e.2.length ≤ maxL) (h0 : 0 ≤ k) (hk : k ≤ 1048576) : orc.pc n_l_szLogRecord [.d shRec (recD e), .d tI k] ⟨tI, .fz, szAll [e.1.length, e.2.length] k⟩ := by
  refine p_l_szLogRecord true rfl rfl ?_
  conv => whnf
  rw [show IntKind.i64.wrap (k - ((recD e).1.size : Int)) = k - e.1.length from wrap_sub (n := e.1.length) h1 h0 hk]
  refine cond_intro (fun h => ?_) (fun h => ?_)
  · have h : k - e.1.length < 0 := of_decide_eq_true h
    conv => whnf
    exact ⟨_, _, rfl, .inl rfl, fin1 (by rw [szAll_neg1 h])⟩
  have h : ¬ k - e.1.length < 0 := of_decide_eq_false h
  conv => whnf
  rw [show IntKind.i64.wrap ((k - e.1.length) - ((recD e).2.1.size : Int)) = (k - e.1.length) - e.2.length from wrap_sub (n := e.2.length) h2 (by omega) (by omega)]
  refine cond_intro (fun g => ?_) (fun g => ?_)
  · have g : k - e.1.length - e.2.length < 0 := of_decide_eq_true g
    conv => whnf
    exact ⟨_, _, rfl, .inl rfl, fin1 (by rw [szAll_pos1 h, szAll_neg1 g])⟩
  have g : ¬ k - e.1.length - e.2.length < 0 := of_decide_eq_false g
  conv => whnf
  exact ⟨_, _, rfl, .inl rfl, fin1 (by rw [szAll_pos1 h, szAll_pos1 g]; rfl)⟩

theorem l_toLogRecord_ok (e : Rec) : orc.pc n_l_toLogRecord [.d shRec (recD e)] ⟨shRec, .fz, recD e⟩ := by
  refine p_l_toLogRecord true rfl rfl ?_
  conv => whnf
  exact ⟨_, _, rfl, .inl rfl, rfl⟩

theorem s_EncodeRecord_ok (k : Int) (e : Rec) (h1 : e.1.length ≤ 1048576) (h2 : e.2.length ≤ 1048576) : orc.pc n_s_EncodeRecord [.d tI k, .d shRec (recD e)] ⟨shStrB, .fz, encR k e⟩ := by
  refine p_s_EncodeRecord true rfl rfl ?_
  conv => whnf
  refine ⟨_, s_l1In_ok k 0 59, (by first | exact (fun _ => rfl) | exact (fun h => Bool.noConfusion h)), ?_⟩
  conv => whnf
  refine cond_intro (fun g0 => ?_) (fun g0 => ?_)
  · have g : inB k 0 59 = true := by have := hT g0; simpa using this
    conv => whnf
    repeat ((first | refine cond_t g0 ?_ | refine cond_f (hT g0) ?_ | refine cond_t (gT g0) ?_); conv => whnf)
    refine ⟨_, s_l12Record_ok e (by omega) (by omega), (by first | exact (fun _ => rfl) | exact (fun h => Bool.noConfusion h)), ?_⟩
    conv => whnf
    repeat ((first | refine cond_t g0 ?_ | refine cond_f (hT g0) ?_ | refine cond_t (gT g0) ?_); conv => whnf)
    cases r : okRec e with
    | false =>
      rw [encR_no (by unfold okEnc; rw [r]; simp)]
      conv => whnf
      exact ⟨_, _, rfl, .inl rfl, rfl⟩
    | true =>
      obtain ⟨K, rfl⟩ : ∃ K : Nat, k = (K : Int) := by
        unfold inB at g; simp at g
        exact ⟨k.toNat, by omega⟩
      have hK : K < 60 := by unfold inB at g; simp at g; omega
      rw [encR_yes (by unfold okEnc; rw [g, r]; rfl)]
      conv => whnf
      refine ⟨_, s_l12Line_ok K e (by omega) h1 h2, (by first | exact (fun _ => rfl) | exact (fun h => Bool.noConfusion h)), ?_⟩
      conv => whnf
      exact ⟨_, _, rfl, .inl rfl, rfl⟩
  · have g : inB k 0 59 = false := by have := hF g0; simpa using this
    rw [encR_no (by unfold okEnc; rw [g]; rfl)]
    conv => whnf
    repeat ((first | refine cond_f g0 ?_ | refine cond_t (hF g0) ?_ | refine cond_f (gF g0) ?_); conv => whnf)
    exact ⟨_, _, rfl, .inl rfl, rfl⟩

theorem l_szLog_ok (e : LogD) (k : Int) (h1 : e.1.length ≤ maxL) (h2 : e.2.1.length ≤ maxL) (h0 : 0 ≤ k) (hk : k ≤ 1048576) : orc.pc n_l_szLog [.d shLog (logD e), .d tI k] ⟨tI, .fz, szAll [e.1.length, e.2.1.length] k⟩ := by
  refine p_l_szLog true rfl rfl ?_
  conv => whnf
  rw [show IntKind.i64.wrap (k - ((logD e).1.size : Int)) = k - e.1.length from wrap_sub (n := e.1.length) h1 h0 hk]
  refine cond_intro (fun h => ?_) (fun h => ?_)
  · have h : k - e.1.length < 0 := of_decide_eq_true h
    conv => whnf
    exact ⟨_, _, rfl, .inl rfl, fin1 (by rw [szAll_neg1 h])⟩
  have h : ¬ k - e.1.length < 0 := of_decide_eq_false h
  conv => whnf
  rw [show IntKind.i64.wrap ((k - e.1.length) - ((logD e).2.1.size : Int)) = (k - e.1.length) - e.2.1.length from wrap_sub (n := e.2.1.length) h2 (by omega) (by omega)]
  refine cond_intro (fun g => ?_) (fun g => ?_)
  · have g : k - e.1.length - e.2.1.length < 0 := of_decide_eq_true g
    conv => whnf
    exact ⟨_, _, rfl, .inl rfl, fin1 (by rw [szAll_pos1 h, szAll_neg1 g])⟩
  have g : ¬ k - e.1.length - e.2.1.length < 0 := of_decide_eq_false g
  conv => whnf
  exact ⟨_, _, rfl, .inl rfl, fin1 (by rw [szAll_pos1 h, szAll_pos1 g]; rfl)⟩

theorem l_toLog_ok (e : LogD) : orc.pc n_l_toLog [.d shLog (logD e)] ⟨shLog, .fz, logD e⟩ := by
  refine p_l_toLog true rfl rfl ?_
  conv => whnf
  exact ⟨_, _, rfl, .inl rfl, rfl⟩

theorem l_eqLog_self (e : LogD) : orc.pc n_l_eqLog [.d shLog (logD e), .d shLog (logD e)] ⟨.bool, .fz, true⟩ := by
  refine p_l_eqLog true rfl rfl ?_
  conv => whnf
  refine cond_f (by simp) ?_
  conv => whnf
  refine cond_f (by simp) ?_
  conv => whnf
  refine cond_f (by simp) ?_
  conv => whnf
  exact ⟨_, _, rfl, .inl rfl, rfl⟩

theorem s_IsValidLog_ok (l : LogD) (h1 : l.1.length ≤ 1048576) (h2 : l.2.1.length ≤ 1048576) : orc.pc n_s_IsValidLog [.d shLog (logD l)] ⟨.bool, .fz, validL l⟩ := by
  refine p_s_IsValidLog true rfl rfl ?_
  conv => whnf
  refine ⟨_, s_l12Valid_ok l h1 h2, (by first | exact (fun _ => rfl) | exact (fun h => Bool.noConfusion h)), ?_⟩
  conv => whnf
  exact ⟨_, _, rfl, .inl rfl, rfl⟩

/-! ### Recovering -/

abbrev shLogIB : Sh := .pair shLog (.pair tI (.pair .bool .unit))
def recoR (s : Txt) : shLogIB.den := if s.length ≤ 30000 then (logD (s.take (tot1 (openR s)), [], (openR s).length), ((tot1 (openR s) : Nat) : Int), true, ()) else (logD ([], [], 0), 0, false, ())
theorem i_RecoverLog_ok (s : Txt) (hs : s.length ≤ 1048576) : orc.pc n_i_RecoverLog [.d .str (mk s)] ⟨shLogIB, .fz, recoR s⟩ := by
  refine p_i_RecoverLog false rfl rfl ?_
  conv => whnf
  refine cond_intro (fun g0 => ?_) (fun g0 => ?_)
  · have g : ¬ s.length ≤ 30000 := by
      have := of_decide_eq_true g0
      have : (s.length : Int) > 30000 := this
      omega
    rw [show recoR s = (logD ([], [], 0), 0, false, ()) by unfold recoR; rw [if_neg g]]
    conv => whnf
    exact ⟨_, _, rfl, .inl rfl, rfl⟩
  · have g : s.length ≤ 30000 := by
      have := of_decide_eq_false g0
      have : ¬ (s.length : Int) > 30000 := this
      omega
    have hrl : (recsD (openR s)).length = (openR s).length := by simp [recsD]
    have hel := endsOf_len (openR s) 0
    have hlast := endsOf_last (openR s) 0
    have htot : tot1 (openR s) ≤ s.length := scan_tot 60 0 s
    have hx : (mk s).extract 0 ((tot1 (openR s) : Nat) : Int).toNat = mk (s.take (tot1 (openR s))) := by rw [mk_ext]; simp
    rw [Nat.zero_add] at hlast
    rw [show recoR s = (logD (s.take (tot1 (openR s)), [], (openR s).length), ((tot1 (openR s) : Nat) : Int), true, ()) by unfold recoR; rw [if_pos g]]
    conv => whnf
    refine ⟨_, i_readRecords_ok s (by omega), (by first | exact (fun _ => rfl) | exact (fun h => Bool.noConfusion h)), ?_⟩
    conv => whnf
    rw [hrl]
    refine ⟨⟨Int.natCast_nonneg _, (by show _ < (((endsOf (openR s) 0).length : Nat) : Int); rw [hel]; omega)⟩, ?_⟩
    conv => whnf
    refine ⟨(by show (openR s).length < (endsOf (openR s) 0).length; omega), ?_⟩
    conv => whnf
    rw [show (List.getD (endsOf (openR s) 0) (((openR s).length : Nat) : Int).toNat tI.dflt) = ((tot1 (openR s) : Nat) : Int) from hlast]
    refine ⟨⟨Int.natCast_nonneg _, Int.ofNat_le.2 htot⟩, ?_⟩
    conv => whnf
    rw [hx, hrl]
    exact ⟨_, _, rfl, .inl rfl, rfl⟩

theorem s_RecoverLog_ok (s : Txt) (hs : s.length ≤ 1048576) : orc.pc n_s_RecoverLog [.d .str (mk s)] ⟨shLogIB, .fz, recoR s⟩ := by
  refine p_s_RecoverLog false rfl rfl ?_
  conv => whnf
  refine cond_intro (fun g0 => ?_) (fun g0 => ?_)
  · have g : ¬ s.length ≤ 30000 := by
      have := of_decide_eq_true g0
      have : (s.length : Int) > 30000 := this
      omega
    rw [show recoR s = (logD ([], [], 0), 0, false, ()) by unfold recoR; rw [if_neg g]]
    conv => whnf
    exact ⟨_, _, rfl, .inl rfl, rfl⟩
  · have g : s.length ≤ 30000 := by
      have := of_decide_eq_false g0
      have : ¬ (s.length : Int) > 30000 := this
      omega
    have hrl : (recsD (openR s)).length = (openR s).length := by simp [recsD]
    have htot : tot1 (openR s) ≤ s.length := scan_tot 60 0 s
    have hx : (mk s).extract 0 ((tot1 (openR s) : Nat) : Int).toNat = mk (s.take (tot1 (openR s))) := by rw [mk_ext]; simp
    rw [show recoR s = (logD (s.take (tot1 (openR s)), [], (openR s).length), ((tot1 (openR s) : Nat) : Int), true, ()) by unfold recoR; rw [if_pos g]]
    conv => whnf
    refine ⟨_, s_l12Open_ok s (by omega), (by first | exact (fun _ => rfl) | exact (fun h => Bool.noConfusion h)), ?_⟩
    conv => whnf
    refine ⟨⟨Int.natCast_nonneg _, Int.ofNat_le.2 htot⟩, ?_⟩
    conv => whnf
    rw [hx, hrl]
    exact ⟨_, _, rfl, .inl rfl, rfl⟩

end Go.Proofs.YthgjpoeneihmnaaDoor.Ev
