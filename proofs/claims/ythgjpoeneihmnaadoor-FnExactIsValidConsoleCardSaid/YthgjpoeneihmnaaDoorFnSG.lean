/- Functions of the log's records: the program's. -/
import Derived.Test.YthgjpoeneihmnaaDoorFnSF
namespace Go.Proofs.YthgjpoeneihmnaaDoor.Ev
open Go
set_option linter.unusedVariables false
set_option linter.unusedSimpArgs false
set_option maxRecDepth 100000
set_option exponentiation.threshold 100000

abbrev shStrB : Sh := .pair .str (.pair .bool .unit)
def okSeal (l : Txt) : Bool := decide (l.length ≤ 4000) && (!(decide ((35 : UInt8) ∈ l)) && decide ((seal1 l).length ≤ 4000))
def sealR (l : Txt) : ByteArray × Bool × Unit := if okSeal l = true then (mk (seal1 l), true, ()) else (mk [], false, ())
theorem sealR_yes {l : Txt} (h : okSeal l = true) : sealR l = (mk (seal1 l), true, ()) := by unfold sealR; rw [if_pos h]
theorem sealR_no {l : Txt} (h : okSeal l = false) : sealR l = (mk [], false, ()) := by unfold sealR; rw [h]; rfl

theorem i_AppendChecksum_ok (l : Txt) (hl : l.length ≤ 4194304) : orc.pc n_i_AppendChecksum [.d .str (mk l)] ⟨shStrB, .fz, sealR l⟩ := by
  have h6 := dec_length (k := 5) (u := csum l) (Nat.lt_of_lt_of_le (csum_lt l) (by decide))
  refine p_i_AppendChecksum true rfl rfl ?_
  conv => whnf
  refine cond_intro (fun g0 => ?_) (fun g0 => ?_)
  · have g : l.length ≤ 4000 := by
      have := of_decide_eq_false (hT g0)
      have : ¬ (l.length : Int) > 4000 := this
      omega
    conv => whnf
    repeat ((first | refine cond_t g0 ?_ | refine cond_f (hT g0) ?_ | refine cond_t (gT g0) ?_); conv => whnf)
    refine ⟨_, strings_Contains_ok l 35, (by first | exact (fun _ => rfl) | exact (fun h => Bool.noConfusion h)), ?_⟩
    conv => whnf
    repeat ((first | refine cond_t g0 ?_ | refine cond_f (hT g0) ?_ | refine cond_t (gT g0) ?_); conv => whnf)
    cases r : decide ((35 : UInt8) ∈ l) with
    | true =>
      rw [sealR_no (by unfold okSeal; rw [r]; simp)]
      conv => whnf
      exact ⟨_, _, rfl, .inl rfl, rfl⟩
    | false =>
      have hs : okSeal l = decide ((seal1 l).length ≤ 4000) := by unfold okSeal; rw [r, decide_eq_true g]; rfl
      conv => whnf
      refine ⟨(sz_le (a := l) (b := [35]) (by simp; omega)), ?_⟩
      conv => whnf
      rw [show mk l ++ ByteArray.mk #[35] = mk (l ++ [35]) from mk_app _ _]
      refine ⟨_, i_checksum_ok l hl, (by first | exact (fun _ => rfl) | exact (fun h => Bool.noConfusion h)), ?_⟩
      conv => whnf
      refine ⟨_, strconv_Itoa_ok (csum l) (Nat.lt_trans (csum_lt l) (by decide)), (by first | exact (fun _ => rfl) | exact (fun h => Bool.noConfusion h)), ?_⟩
      conv => whnf
      refine ⟨(sz_le (a := l ++ [35]) (b := Lib.decDigits (csum l)) (by simp; omega)), ?_⟩
      conv => whnf
      rw [show mk (l ++ [35]) ++ mk (Lib.decDigits (csum l)) = mk (seal1 l) from by rw [mk_app]; unfold seal1; simp]
      refine cond_intro (fun t0 => ?_) (fun t0 => ?_)
      · have t : ¬ (seal1 l).length ≤ 4000 := by
          have := of_decide_eq_true t0
          have : ((seal1 l).length : Int) > 4000 := this
          omega
        rw [sealR_no (by rw [hs, decide_eq_false t])]
        conv => whnf
        exact ⟨_, _, rfl, .inl rfl, rfl⟩
      · have t : (seal1 l).length ≤ 4000 := by
          have := of_decide_eq_false t0
          have : ¬ ((seal1 l).length : Int) > 4000 := this
          omega
        rw [sealR_yes (by rw [hs, decide_eq_true t])]
        conv => whnf
        exact ⟨_, _, rfl, .inl rfl, rfl⟩
  · have g : ¬ l.length ≤ 4000 := by
      have := of_decide_eq_true (hF g0)
      have : (l.length : Int) > 4000 := this
      omega
    rw [sealR_no (by unfold okSeal; rw [decide_eq_false g]; rfl)]
    conv => whnf
    repeat ((first | refine cond_f g0 ?_ | refine cond_t (hF g0) ?_ | refine cond_f (gF g0) ?_); conv => whnf)
    exact ⟨_, _, rfl, .inl rfl, rfl⟩

def okVer (l : Txt) : Bool := okSeal (bef 35 l) && decide (seal1 (bef 35 l) = l)
def verT (l : Txt) : Txt := if okVer l = true then bef 35 l else []
theorem i_VerifyChecksum_ok (l : Txt) (hl : l.length ≤ 4194304) : orc.pc n_i_VerifyChecksum [.d .str (mk l)] ⟨shStrB, .fz, (mk (verT l), okVer l, ())⟩ := by
  have hb := bef_length_le 35 l
  refine p_i_VerifyChecksum true rfl rfl ?_
  conv => whnf
  refine ⟨_, strings_Cut_ok l 35 (by omega), (by first | exact (fun _ => rfl) | exact (fun h => Bool.noConfusion h)), ?_⟩
  conv => whnf
  refine ⟨_, i_AppendChecksum_ok (bef 35 l) (by omega), (by first | exact (fun _ => rfl) | exact (fun h => Bool.noConfusion h)), ?_⟩
  conv => whnf
  cases q : okSeal (bef 35 l) with
  | false =>
    have e : okVer l = false := by unfold okVer; rw [q]; rfl
    rw [sealR_no q, e, show verT l = [] by unfold verT; rw [e]; rfl]
    conv => whnf
    exact ⟨_, _, rfl, .inl rfl, rfl⟩
  | true =>
    rw [sealR_yes q]
    conv => whnf
    refine cond_intro (fun t0 => ?_) (fun t0 => ?_)
    · have t : seal1 (bef 35 l) ≠ l := sne t0
      have e : okVer l = false := by unfold okVer; rw [decide_eq_false t, Bool.and_false]
      rw [e, show verT l = [] by unfold verT; rw [e]; rfl]
      conv => whnf
      exact ⟨_, _, rfl, .inl rfl, rfl⟩
    · have t : seal1 (bef 35 l) = l := seq t0
      have e : okVer l = true := by unfold okVer; rw [q, decide_eq_true t]; rfl
      rw [e, show verT l = bef 35 l by unfold verT; rw [if_pos e]]
      conv => whnf
      exact ⟨_, _, rfl, .inl rfl, rfl⟩

theorem okSeal_body {k : Nat} {e : Rec} (h : okRec e = true) (hk : k < 100) : okSeal (body k e) = true := by
  have O := okRec_of h
  have h1 := body_length O hk
  have h2 := seal_length (body k e)
  unfold okSeal
  rw [decide_eq_true (by omega : (body k e).length ≤ 4000), decide_eq_false (body_no O), decide_eq_true (by omega : (seal1 (body k e)).length ≤ 4000)]; rfl

def okEnc (k : Int) (e : Rec) : Bool := inB k 0 59 && okRec e
def encR (k : Int) (e : Rec) : ByteArray × Bool × Unit := if okEnc k e = true then (mk (lineOf k.toNat e), true, ()) else (mk [], false, ())
theorem encR_yes {k : Int} {e : Rec} (h : okEnc k e = true) : encR k e = (mk (lineOf k.toNat e), true, ()) := by unfold encR; rw [if_pos h]
theorem encR_no {k : Int} {e : Rec} (h : okEnc k e = false) : encR k e = (mk [], false, ()) := by unfold encR; rw [h]; rfl
theorem i_EncodeRecord_ok (k : Int) (e : Rec) (h1 : e.1.length ≤ 1048576) (h2 : e.2.length ≤ 1048576) : orc.pc n_i_EncodeRecord [.d tI k, .d shRec (recD e)] ⟨shStrB, .fz, encR k e⟩ := by
  refine p_i_EncodeRecord true rfl rfl ?_
  conv => whnf
  refine ⟨_, i_within_ok k 0 59, (by first | exact (fun _ => rfl) | exact (fun h => Bool.noConfusion h)), ?_⟩
  conv => whnf
  refine cond_intro (fun g0 => ?_) (fun g0 => ?_)
  · have g : inB k 0 59 = true := by have := hT g0; simpa using this
    conv => whnf
    repeat ((first | refine cond_t g0 ?_ | refine cond_f (hT g0) ?_ | refine cond_t (gT g0) ?_); conv => whnf)
    refine ⟨_, i_IsValidRecord_ok e (by omega) (by omega), (by first | exact (fun _ => rfl) | exact (fun h => Bool.noConfusion h)), ?_⟩
    conv => whnf
    repeat ((first | refine cond_t g0 ?_ | refine cond_f (hT g0) ?_ | refine cond_t (gT g0) ?_); conv => whnf)
    cases r : okRec e with
    | false =>
      rw [encR_no (by unfold okEnc; rw [r]; simp)]
      conv => whnf
      exact ⟨_, _, rfl, .inl rfl, rfl⟩
    | true =>
      obtain ⟨K, rfl⟩ : ∃ K : Nat, k = (K : Int) := by
        unfold inB at g; simp at g
        exact ⟨k.toNat, by omega⟩
      have hK : K < 60 := by unfold inB at g; simp at g; omega
      have hd : (Lib.decDigits K).length ≤ 2 := dec_length (k := 1) (by omega)
      have O := okRec_of r
      have o1 := O.l1
      have o2 := O.l2
      have hb : body K e = Lib.decDigits K ++ [32] ++ e.1 ++ [64] ++ e.2 := by unfold body ahead; simp
      rw [encR_yes (by unfold okEnc; rw [g, r]; rfl)]
      conv => whnf
      refine ⟨_, strconv_Itoa_ok K (by omega), (by first | exact (fun _ => rfl) | exact (fun h => Bool.noConfusion h)), ?_⟩
      conv => whnf
      refine ⟨(sz_le (a := Lib.decDigits K) (b := [32]) (by simp; omega)), ?_⟩
      conv => whnf
      rw [show mk (Lib.decDigits K) ++ ByteArray.mk #[32] = mk (Lib.decDigits K ++ [32]) from mk_app _ _]
      refine ⟨(sz_le (a := Lib.decDigits K ++ [32]) (b := e.1) (by simp; omega)), ?_⟩
      conv => whnf
      rw [show mk (Lib.decDigits K ++ [32]) ++ (recD e).1 = mk (Lib.decDigits K ++ [32] ++ e.1) from mk_app _ _]
      refine ⟨(sz_le (a := Lib.decDigits K ++ [32] ++ e.1) (b := [64]) (by simp; omega)), ?_⟩
      conv => whnf
      rw [show mk (Lib.decDigits K ++ [32] ++ e.1) ++ ByteArray.mk #[64] = mk (Lib.decDigits K ++ [32] ++ e.1 ++ [64]) from mk_app _ _]
      refine ⟨(sz_le (a := Lib.decDigits K ++ [32] ++ e.1 ++ [64]) (b := e.2) (by simp; omega)), ?_⟩
      conv => whnf
      rw [show mk (Lib.decDigits K ++ [32] ++ e.1 ++ [64]) ++ (recD e).2.1 = mk (body K e) from by rw [hb]; exact mk_app _ _]
      have c := i_AppendChecksum_ok (body K e) (by have := body_length O (show K < 100 by omega); omega)
      rw [sealR_yes (okSeal_body r (by omega))] at c
      refine ⟨_, c, (by first | exact (fun _ => rfl) | exact (fun h => Bool.noConfusion h)), ?_⟩
      conv => whnf
      refine ⟨(sz_le (a := seal1 (body K e)) (b := [10]) (by have := seal_length (body K e); have := body_length O (show K < 100 by omega); simp; omega)), ?_⟩
      conv => whnf
      exact ⟨_, _, rfl, .inl rfl, fin1 (by show (mk (seal1 (body K e)) ++ mk [10], true, ()) = _; rw [mk_app]; rfl)⟩
  · have g : inB k 0 59 = false := by have := hF g0; simpa using this
    rw [encR_no (by unfold okEnc; rw [g]; rfl)]
    conv => whnf
    repeat ((first | refine cond_f g0 ?_ | refine cond_t (hF g0) ?_ | refine cond_f (gF g0) ?_); conv => whnf)
    exact ⟨_, _, rfl, .inl rfl, rfl⟩

end Go.Proofs.YthgjpoeneihmnaaDoor.Ev
