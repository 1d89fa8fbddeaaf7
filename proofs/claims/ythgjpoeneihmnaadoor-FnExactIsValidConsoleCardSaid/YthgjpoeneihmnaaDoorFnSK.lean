/- Logs: written out; with one more record. -/
import Derived.Test.YthgjpoeneihmnaaDoorFnSJ
namespace Go.Proofs.YthgjpoeneihmnaaDoor.Ev
open Go
set_option linter.unusedVariables false
set_option linter.unusedSimpArgs false
set_option maxRecDepth 100000
set_option exponentiation.threshold 100000

structure OkL (l : LogD) : Prop where
  len : l.1.length + l.2.1.length ≤ 30000
  tot : tot1 (openR (l.1 ++ l.2.1)) = l.1.length + l.2.1.length
  cnt : l.2.2 = (openR (l.1 ++ l.2.1)).length
  dur : tot1 (openR l.1) = l.1.length
theorem OkL.of {l : LogD} (h : validL l = true) : OkL l := by
  unfold validL at h
  simp only [Bool.and_eq_true, decide_eq_true_eq] at h
  exact ⟨h.1, h.2.1, h.2.2.1, h.2.2.2⟩
theorem OkL.c60 {l : LogD} (h : OkL l) : 0 ≤ l.2.2 ∧ l.2.2 ≤ 60 := by
  have := scan_len 60 0 (l.1 ++ l.2.1)
  have : (openR (l.1 ++ l.2.1)).length ≤ 60 := this
  have := h.cnt
  omega

/-! ### Written out -/

abbrev shLogB : Sh := .pair shLog (.pair .bool .unit)
def syncR (l : LogD) : shLogB.den := if validL l = true then (logD (l.1 ++ l.2.1, [], l.2.2), true, ()) else (logD ([], [], 0), false, ())
theorem s_SyncLog_ok (l : LogD) (h1 : l.1.length ≤ 1048576) (h2 : l.2.1.length ≤ 1048576) : orc.pc n_s_SyncLog [.d shLog (logD l)] ⟨shLogB, .fz, syncR l⟩ := by
  refine p_s_SyncLog true rfl rfl ?_
  conv => whnf
  refine ⟨_, s_l12Valid_ok l h1 h2, (by first | exact (fun _ => rfl) | exact (fun h => Bool.noConfusion h)), ?_⟩
  conv => whnf
  cases v : validL l with
  | false =>
    rw [show syncR l = (logD ([], [], 0), false, ()) by unfold syncR; rw [v]; rfl]
    conv => whnf
    exact ⟨_, _, rfl, .inl rfl, rfl⟩
  | true =>
    have O := OkL.of v
    have := O.len
    rw [show syncR l = (logD (l.1 ++ l.2.1, [], l.2.2), true, ()) by unfold syncR; rw [v]; rfl]
    conv => whnf
    refine ⟨(sz_le (a := l.1) (b := l.2.1) (by omega)), ?_⟩
    conv => whnf
    rw [show (logD l).1 ++ (logD l).2.1 = mk (l.1 ++ l.2.1) from mk_app _ _]
    exact ⟨_, _, rfl, .inl rfl, rfl⟩
theorem i_SyncLog_ok (l : LogD) (h1 : l.1.length ≤ 1048576) (h2 : l.2.1.length ≤ 1048576) : orc.pc n_i_SyncLog [.d shLog (logD l)] ⟨shLogB, .fz, syncR l⟩ := by
  refine p_i_SyncLog true rfl rfl ?_
  conv => whnf
  refine ⟨_, i_IsValidLog_ok l h1 h2, (by first | exact (fun _ => rfl) | exact (fun h => Bool.noConfusion h)), ?_⟩
  conv => whnf
  cases v : validL l with
  | false =>
    rw [show syncR l = (logD ([], [], 0), false, ()) by unfold syncR; rw [v]; rfl]
    conv => whnf
    exact ⟨_, _, rfl, .inl rfl, rfl⟩
  | true =>
    have O := OkL.of v
    have := O.len
    rw [show syncR l = (logD (l.1 ++ l.2.1, [], l.2.2), true, ()) by unfold syncR; rw [v]; rfl]
    conv => whnf
    refine ⟨(sz_le (a := l.1) (b := l.2.1) (by omega)), ?_⟩
    conv => whnf
    rw [show (logD l).1 ++ (logD l).2.1 = mk (l.1 ++ l.2.1) from mk_app _ _]
    exact ⟨_, _, rfl, .inl rfl, rfl⟩

/-! ### One more record -/

theorem line_len {k : Nat} {e : Rec} (h : okRec e = true) (hk : k < 100) : (lineOf k e).length ≤ 428 := by
  have h1 := body_length (okRec_of h) hk
  have h2 := seal_length (body k e)
  unfold lineOf
  rw [List.length_append, List.length_singleton]; omega
abbrev shLogI : Sh := .pair shLog (.pair tI .unit)
def oneMore (l : LogD) (e : Rec) : LogD := (l.1, l.2.1 ++ lineOf l.2.2.toNat e, l.2.2 + 1)
def appR (l : LogD) (e : Rec) : LogD × Int := if (validL l && okRec e) = true then (if l.2.2 = 60 then (l, 2) else (oneMore l e, 0)) else (l, 1)
def appD (l : LogD) (e : Rec) : shLogI.den := (logD (appR l e).1, (appR l e).2, ())
theorem s_AppendRecord_ok (l : LogD) (e : Rec) (h1 : l.1.length ≤ 1048576) (h2 : l.2.1.length ≤ 1048576) (g1 : e.1.length ≤ 1048576) (g2 : e.2.length ≤ 1048576) : orc.pc n_s_AppendRecord [.d shLog (logD l), .d shRec (recD e)] ⟨shLogI, .fz, appD l e⟩ := by
  refine p_s_AppendRecord true rfl rfl ?_
  conv => whnf
  refine ⟨_, s_l12Valid_ok l h1 h2, (by first | exact (fun _ => rfl) | exact (fun h => Bool.noConfusion h)), ?_⟩
  conv => whnf
  cases v : validL l with
  | false =>
    rw [show appD l e = (logD l, 1, ()) by unfold appD appR; rw [v]; rfl]
    conv => whnf
    exact ⟨_, _, rfl, .inl rfl, rfl⟩
  | true =>
    have O := OkL.of v
    have c60 := O.c60
    have := O.len
    conv => whnf
    refine ⟨_, s_l12Record_ok e (by omega) (by omega), (by first | exact (fun _ => rfl) | exact (fun h => Bool.noConfusion h)), ?_⟩
    conv => whnf
    cases r : okRec e with
    | false =>
      rw [show appD l e = (logD l, 1, ()) by unfold appD appR; rw [v, r]; rfl]
      conv => whnf
      exact ⟨_, _, rfl, .inl rfl, rfl⟩
    | true =>
      conv => whnf
      refine cond_intro (fun q0 => ?_) (fun q0 => ?_)
      · have q : l.2.2 = 60 := eq_of_beq q0
        rw [show appD l e = (logD l, 2, ()) by unfold appD appR; rw [v, r, if_pos q]; rfl]
        conv => whnf
        exact ⟨_, _, rfl, .inl rfl, rfl⟩
      · have q : ¬ l.2.2 = 60 := ne_of_beq_false q0
        rw [show appD l e = (logD (oneMore l e), 0, ()) by unfold appD appR; rw [v, r, if_neg q]; rfl]
        obtain ⟨K, hK⟩ : ∃ K : Nat, l.2.2 = (K : Int) := ⟨l.2.2.toNat, by omega⟩
        have hl := line_len (k := K) r (by omega)
        have hc := s_l12Line_ok K e (by omega) g1 g2
        rw [← hK] at hc
        have hK2 : l.2.2.toNat = K := by omega
        conv => whnf
        refine ⟨_, hc, (by first | exact (fun _ => rfl) | exact (fun h => Bool.noConfusion h)), ?_⟩
        conv => whnf
        refine ⟨(sz_le (a := l.2.1) (b := lineOf K e) (by omega)), ?_⟩
        conv => whnf
        rw [show (logD l).2.1 ++ mk (lineOf K e) = mk (l.2.1 ++ lineOf l.2.2.toNat e) by rw [hK2]; exact mk_app _ _]
        rw [show IntKind.i64.wrap ((logD l).2.2.1 + 1) = l.2.2 + 1 from wrap_in (n := l.2.2 + 1) (by omega) (by omega)]
        exact ⟨_, _, rfl, .inl rfl, rfl⟩
theorem i_AppendRecord_ok (l : LogD) (e : Rec) (h1 : l.1.length ≤ 1048576) (h2 : l.2.1.length ≤ 1048576) (g1 : e.1.length ≤ 1048576) (g2 : e.2.length ≤ 1048576) : orc.pc n_i_AppendRecord [.d shLog (logD l), .d shRec (recD e)] ⟨shLogI, .fz, appD l e⟩ := by
  refine p_i_AppendRecord true rfl rfl ?_
  conv => whnf
  refine ⟨_, i_IsValidLog_ok l h1 h2, (by first | exact (fun _ => rfl) | exact (fun h => Bool.noConfusion h)), ?_⟩
  conv => whnf
  cases v : validL l with
  | false =>
    rw [show appD l e = (logD l, 1, ()) by unfold appD appR; rw [v]; rfl]
    conv => whnf
    exact ⟨_, _, rfl, .inl rfl, rfl⟩
  | true =>
    have O := OkL.of v
    have c60 := O.c60
    have := O.len
    conv => whnf
    refine ⟨_, i_IsValidRecord_ok e (by omega) (by omega), (by first | exact (fun _ => rfl) | exact (fun h => Bool.noConfusion h)), ?_⟩
    conv => whnf
    cases r : okRec e with
    | false =>
      rw [show appD l e = (logD l, 1, ()) by unfold appD appR; rw [v, r]; rfl]
      conv => whnf
      exact ⟨_, _, rfl, .inl rfl, rfl⟩
    | true =>
      have hc := i_EncodeRecord_ok l.2.2 e g1 g2
      conv => whnf
      by_cases q : l.2.2 = 60
      · rw [encR_no (by unfold okEnc; rw [q]; rfl)] at hc
        rw [show appD l e = (logD l, 2, ()) by unfold appD appR; rw [v, r, if_pos q]; rfl]
        refine ⟨_, hc, (by first | exact (fun _ => rfl) | exact (fun h => Bool.noConfusion h)), ?_⟩
        conv => whnf
        exact ⟨_, _, rfl, .inl rfl, rfl⟩
      · rw [encR_yes (by unfold okEnc inB; rw [r, decide_eq_true c60.1, decide_eq_true (by omega)]; rfl)] at hc
        rw [show appD l e = (logD (oneMore l e), 0, ()) by unfold appD appR; rw [v, r, if_neg q]; rfl]
        have hl := line_len (k := l.2.2.toNat) r (by omega)
        refine ⟨_, hc, (by first | exact (fun _ => rfl) | exact (fun h => Bool.noConfusion h)), ?_⟩
        conv => whnf
        refine ⟨(sz_le (a := l.2.1) (b := lineOf l.2.2.toNat e) (by omega)), ?_⟩
        conv => whnf
        rw [show (logD l).2.1 ++ mk (lineOf l.2.2.toNat e) = mk (l.2.1 ++ lineOf l.2.2.toNat e) from mk_app _ _]
        rw [show IntKind.i64.wrap ((logD l).2.2.1 + 1) = l.2.2 + 1 from wrap_in (n := l.2.2 + 1) (by omega) (by omega)]
        exact ⟨_, _, rfl, .inl rfl, rfl⟩

end Go.Proofs.YthgjpoeneihmnaaDoor.Ev
