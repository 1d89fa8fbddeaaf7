/- Experts: what forecasters say, wrong days and the best expert. -/
import Derived.Test.YtlndfmmigndgeaaFnPB
namespace Go.Proofs.Ytlndfmmigndgeaa.Ev
open Go
set_option linter.unusedVariables false
set_option linter.unusedSimpArgs false
set_option maxRecDepth 100000
set_option exponentiation.threshold 100000
set_option maxHeartbeats 2000000

theorem l_rBig_ok (l : List Int) : orc.pc n_l_rBig [.d (.sl (.int .u8)) l] ⟨.bool, .fz, decide ((l.length : Int) > 65536)⟩ := by
  refine p_l_rBig true rfl rfl ?_
  conv => whnf
  exact ⟨_, _, rfl, .inl rfl, rfl⟩
theorem l_vBig_ok (l : List Int) : orc.pc n_l_vBig [.d (.sl (.int .u8)) l] ⟨.bool, .fz, decide ((l.length : Int) > 65536)⟩ := by
  refine p_l_vBig true rfl rfl ?_
  conv => whnf
  exact ⟨_, _, rfl, .inl rfl, rfl⟩
theorem l_rInts_ok (a b : List Int) (ha : a.length ≤ 1048576) : orc.pc n_l_rInts [.d tIS a, .d tIS b] ⟨.bool, .fz, decide (a = b)⟩ := by
  refine p_l_rInts true rfl rfl ?_
  conv => whnf
  refine cond_intro (fun h => ?_) (fun h => ?_)
  · have h : a.length ≠ b.length := by simp at h; omega
    conv => whnf
    exact ⟨_, _, rfl, .inl rfl, fin1 (by symm; simp; intro e; exact h (by rw [e]))⟩
  have h : a.length = b.length := by simp at h; omega
  conv => whnf
  refine loop_ups (X := Int) (fun i => [⟨0, 5, false, .d tI i⟩]) (fun i => a.length - i.toNat) (fun i => ∃ n : Nat, i = n ∧ n ≤ a.length ∧ (a = b ↔ a.drop n = b.drop n)) 0 rfl ⟨0, rfl, by omega, by simp⟩ ?_
  rintro _ ⟨n, rfl, hn, hi⟩
  conv => whnf
  refine cond_intro (fun g => ?_) (fun g => ?_)
  · have h1 : n < a.length := by simpa using g
    have h2 : n < b.length := by omega
    conv => whnf
    refine ⟨⟨by omega, by omega⟩, ?_⟩
    conv => whnf
    refine ⟨⟨by omega, by omega⟩, ?_⟩
    conv => whnf
    rw [drop_getD a h1 tI.dflt, drop_getD b h2 tI.dflt] at hi
    refine cond_intro (fun h => ?_) (fun h => ?_)
    · have h : a.getD n tI.dflt ≠ b.getD n tI.dflt := by simpa using h
      conv => whnf
      exact ⟨_, _, rfl, .inl rfl, fin1 (by symm; simp only [decide_eq_false_iff_not]; rw [hi]; intro e; exact h (List.cons.inj e).1)⟩
    · have h : a.getD n tI.dflt = b.getD n tI.dflt := by simpa using h
      conv => whnf
      refine ⟨_, rfl, ⟨n + 1, wrap_succ h1 (by unfold Short; omega), by omega, by rw [hi, h]; simp⟩, ?_⟩
      rw [wrap_succ h1 (by unfold Short; omega)]; simp; omega
  · have h1 : ¬ n < a.length := by simpa using g
    conv => whnf
    exact ⟨_, _, rfl, .inl rfl, fin1 (by symm; simp only [decide_eq_true_eq]; rw [hi, drop_len h1, drop_len (by omega)])⟩
theorem l_vInts_ok (a b : List Int) (ha : a.length ≤ 1048576) : orc.pc n_l_vInts [.d tIS a, .d tIS b] ⟨.bool, .fz, decide (a = b)⟩ := by
  refine p_l_vInts true rfl rfl ?_
  conv => whnf
  refine cond_intro (fun h => ?_) (fun h => ?_)
  · have h : a.length ≠ b.length := by simp at h; omega
    conv => whnf
    exact ⟨_, _, rfl, .inl rfl, fin1 (by symm; simp; intro e; exact h (by rw [e]))⟩
  have h : a.length = b.length := by simp at h; omega
  conv => whnf
  refine loop_ups (X := Int) (fun i => [⟨0, 5, false, .d tI i⟩]) (fun i => a.length - i.toNat) (fun i => ∃ n : Nat, i = n ∧ n ≤ a.length ∧ (a = b ↔ a.drop n = b.drop n)) 0 rfl ⟨0, rfl, by omega, by simp⟩ ?_
  rintro _ ⟨n, rfl, hn, hi⟩
  conv => whnf
  refine cond_intro (fun g => ?_) (fun g => ?_)
  · have h1 : n < a.length := by simpa using g
    have h2 : n < b.length := by omega
    conv => whnf
    refine ⟨⟨by omega, by omega⟩, ?_⟩
    conv => whnf
    refine ⟨⟨by omega, by omega⟩, ?_⟩
    conv => whnf
    rw [drop_getD a h1 tI.dflt, drop_getD b h2 tI.dflt] at hi
    refine cond_intro (fun h => ?_) (fun h => ?_)
    · have h : a.getD n tI.dflt ≠ b.getD n tI.dflt := by simpa using h
      conv => whnf
      exact ⟨_, _, rfl, .inl rfl, fin1 (by symm; simp only [decide_eq_false_iff_not]; rw [hi]; intro e; exact h (List.cons.inj e).1)⟩
    · have h : a.getD n tI.dflt = b.getD n tI.dflt := by simpa using h
      conv => whnf
      refine ⟨_, rfl, ⟨n + 1, wrap_succ h1 (by unfold Short; omega), by omega, by rw [hi, h]; simp⟩, ?_⟩
      rw [wrap_succ h1 (by unfold Short; omega)]; simp; omega
  · have h1 : ¬ n < a.length := by simpa using g
    conv => whnf
    exact ⟨_, _, rfl, .inl rfl, fin1 (by symm; simp only [decide_eq_true_eq]; rw [hi, drop_len h1, drop_len (by omega)])⟩

/-! ### Halving -/
def halTo (p : Sample) (d n : Nat) : Int := sm (fun r => r.getD d tI.dflt * wgt p.2.1 d r) (p.1.take n)
def majTo (p : Sample) (d n : Nat) : Int := sm (fun r => r.getD d tI.dflt) (p.1.take n)
theorem halTo_all (p : Sample) (d : Nat) : halTo p d p.1.length = halSum p d := by unfold halTo halSum; rw [List.take_length]
theorem majTo_all (p : Sample) (d : Nat) : majTo p d p.1.length = majSum p d := by unfold majTo majSum; rw [List.take_length]
theorem halTo_succ {p : Sample} {d n : Nat} (h : n < p.1.length) : halTo p d (n + 1) = halTo p d n + (p.1.getD n tIS.dflt).getD d tI.dflt * wgt p.2.1 d (p.1.getD n tIS.dflt) := by
  unfold halTo; rw [take_getD p.1 h tIS.dflt, sm_snoc]
theorem majTo_succ {p : Sample} {d n : Nat} (h : n < p.1.length) : majTo p d (n + 1) = majTo p d n + (p.1.getD n tIS.dflt).getD d tI.dflt := by
  unfold majTo; rw [take_getD p.1 h tIS.dflt, sm_snoc]
theorem wgt_le (tr : List Int) (d : Nat) (r : List Int) : wgt tr d r ≤ 65536 := by
  unfold wgt
  have h : (2 : Int) ^ 16 = 2 ^ (16 - cnt r tr d) * 2 ^ (16 - (16 - cnt r tr d)) := by rw [← Int.pow_add]; congr 1; omega
  have h1 := two_pow_pos (16 - cnt r tr d)
  have h2 := two_pow_pos (16 - (16 - cnt r tr d))
  have h3 := Int.mul_le_mul_of_nonneg_left (show (1 : Int) ≤ 2 ^ (16 - (16 - cnt r tr d)) by omega) (Int.le_of_lt h1)
  have h4 : (2 : Int) ^ 16 = 65536 := by decide
  omega
theorem hal_term {p : Sample} (hv : isPanel p = true) {i d : Nat} (hi : i < p.1.length) (hd : d < p.2.1.length) :
    -65536 ≤ (p.1.getD i tIS.dflt).getD d tI.dflt * wgt p.2.1 d (p.1.getD i tIS.dflt) ∧ (p.1.getD i tIS.dflt).getD d tI.dflt * wgt p.2.1 d (p.1.getD i tIS.dflt) ≤ 65536 := by
  have h1 := wgt_le p.2.1 d (p.1.getD i tIS.dflt)
  have h2 := wgt_pos p.2.1 d (p.1.getD i tIS.dflt)
  rcases (say_in hv hi hd).2.1 with h | h | h <;> rw [h] <;> omega
theorem halTo_bd {p : Sample} (hv : isPanel p = true) {d : Nat} (hd : d < p.2.1.length) : ∀ n, n ≤ p.1.length → -(65536 * n) ≤ halTo p d n ∧ halTo p d n ≤ 65536 * n := by
  intro n
  induction n with
  | zero => intro _; simp [halTo, sm]
  | succ n ih =>
    intro h
    have h1 := ih (by omega)
    have h2 := hal_term hv (show n < p.1.length by omega) hd
    rw [halTo_succ (by omega)]
    omega
theorem majTo_bd {p : Sample} (hv : isPanel p = true) {d : Nat} (hd : d < p.2.1.length) : ∀ n, n ≤ p.1.length → -(n : Int) ≤ majTo p d n ∧ majTo p d n ≤ n := by
  intro n
  induction n with
  | zero => intro _; simp [majTo, sm]
  | succ n ih =>
    intro h
    have h1 := ih (by omega)
    rw [majTo_succ (by omega)]
    rcases (say_in hv (show n < p.1.length by omega) hd).2.1 with h | h | h <;> rw [h] <;> omega
theorem days_get {p : Sample} {d i : Nat} (hi : i < p.1.length) : (daysOf p d).getD i tI.dflt = (cnt (p.1.getD i tIS.dflt) p.2.1 d : Int) := by
  unfold daysOf
  rw [List.getD_eq_getElem?_getD, List.getElem?_map, List.getElem?_eq_getElem hi, List.getD_eq_getElem?_getD, List.getElem?_eq_getElem hi]; rfl
theorem shl_term {p : Sample} (hv : isPanel p = true) {i d : Nat} (hi : i < p.1.length) (hd : d < p.2.1.length) :
    0 ≤ IntKind.i64.wrap (16 - (daysOf p d).getD i tI.dflt) ∧
    IntKind.i64.wrap ((p.1.getD i tIS.dflt).getD d tI.dflt * 2 ^ (min (IntKind.i64.wrap (16 - (daysOf p d).getD i tI.dflt)).toNat IntKind.i64.bits)) = (p.1.getD i tIS.dflt).getD d tI.dflt * wgt p.2.1 d (p.1.getD i tIS.dflt) := by
  have hc := cnt_le (p.1.getD i tIS.dflt) p.2.1 d
  obtain ⟨l1, _, _⟩ := panel_len hv
  have ew : IntKind.i64.wrap (16 - (daysOf p d).getD i tI.dflt) = ((16 - cnt (p.1.getD i tIS.dflt) p.2.1 d : Nat) : Int) := by
    rw [days_get hi, wrap_in (by omega) (by omega)]; omega
  rw [ew]
  refine ⟨by omega, ?_⟩
  have em : min ((16 - cnt (p.1.getD i tIS.dflt) p.2.1 d : Nat) : Int).toNat IntKind.i64.bits = 16 - cnt (p.1.getD i tIS.dflt) p.2.1 d := by
    show min (16 - cnt (p.1.getD i tIS.dflt) p.2.1 d) 64 = _
    omega
  rw [em]
  have := hal_term hv hi hd
  unfold wgt at this ⊢
  rw [wrap_in (by omega) (by omega)]

theorem i_HalvingSays_1_ok (p : Sample) (hv : isPanel p = true) (hp : FitS p) (d : Nat) (hd : d < p.2.1.length) :
    orc.pc n_i_HalvingSays_1 [.d tI (d : Int), .d tIS (daysOf p d), .d (.ptr shSample) (some p)] ⟨tI, .fz, halAt p d⟩ := by
  obtain ⟨l1, l2, l3⟩ := panel_len hv
  have hlen : (daysOf p d).length = p.1.length := by simp [daysOf]
  refine p_i_HalvingSays_1 true rfl rfl ?_
  conv => whnf
  refine loop_ups (X := Int × Int) (fun (i, x) => [⟨0, 11, false, .d tI i⟩, ⟨0, 6, false, .d tI x⟩]) (fun (i, _) => p.1.length - i.toNat) (fun (i, x) => ∃ m : Nat, i = m ∧ x = halTo p d m ∧ m ≤ p.1.length) (0, 0) ?_ ⟨0, rfl, rfl, by omega⟩ ?_
  · refine st_eq ?_
    conv => whnf
    exact ⟨rfl⟩
  rintro ⟨_, _⟩ ⟨m, rfl, rfl, hm⟩
  conv => whnf
  refine cond_intro (fun h => ?_) (fun h => ?_)
  · have h : m < p.1.length := by have := of_decide_eq_true h; rw [hlen] at this; omega
    obtain ⟨hl, _⟩ := say_in hv h hd
    obtain ⟨t1, t2⟩ := shl_term hv h hd
    have hb := halTo_bd hv hd (m + 1) h
    conv => whnf
    refine ⟨⟨by omega, by rw [hlen]; omega⟩, ?_⟩
    conv => whnf
    refine ⟨⟨by omega, by omega⟩, ?_⟩
    conv => whnf
    refine ⟨⟨by omega, Int.ofNat_lt.2 hl⟩, ?_⟩
    conv => whnf
    refine ⟨t1, ?_⟩
    conv => whnf
    refine ⟨(_, _), rfl, ⟨m + 1, wrap_succ h (by unfold Short; omega), ?_, by omega⟩, ?_⟩
    · have e : IntKind.i64.wrap (halTo p d m + IntKind.i64.wrap ((p.1.getD m tIS.dflt).getD d tI.dflt * 2 ^ (min (IntKind.i64.wrap (16 - (daysOf p d).getD m tI.dflt)).toNat IntKind.i64.bits))) = halTo p d (m + 1) := by rw [t2, ← halTo_succ h]; exact wrap_in (by omega) (by omega)
      exact e
    · rw [wrap_succ h (by unfold Short; omega)]; simp; omega
  · have h : ¬ m < p.1.length := by have := of_decide_eq_false h; rw [hlen] at this; omega
    obtain rfl : m = p.1.length := by omega
    rw [halTo_all]
    conv => whnf
    refine ⟨_, i_sign_ok _, (by first | exact (fun _ => rfl) | exact (fun h => Bool.noConfusion h)), ?_⟩
    conv => whnf
    exact ⟨_, _, rfl, .inl rfl, fin1 (rfl)⟩

theorem i_MajoritySays_1_ok (p : Sample) (hv : isPanel p = true) (hp : FitS p) (d : Nat) (hd : d < p.2.1.length) :
    orc.pc n_i_MajoritySays_1 [.d tI (d : Int), .d tIS (daysOf p d), .d (.ptr shSample) (some p)] ⟨tI, .fz, majAt p d⟩ := by
  obtain ⟨l1, l2, l3⟩ := panel_len hv
  refine p_i_MajoritySays_1 true rfl rfl ?_
  conv => whnf
  refine loop_ups (X := Int × Int) (fun (i, x) => [⟨0, 12, false, .d tI i⟩, ⟨0, 6, false, .d tI x⟩]) (fun (i, _) => p.1.length - i.toNat) (fun (i, x) => ∃ m : Nat, i = m ∧ x = majTo p d m ∧ m ≤ p.1.length) (0, 0) ?_ ⟨0, rfl, rfl, by omega⟩ ?_
  · refine st_eq ?_
    conv => whnf
    exact ⟨rfl⟩
  rintro ⟨_, _⟩ ⟨m, rfl, rfl, hm⟩
  conv => whnf
  refine cond_intro (fun h => ?_) (fun h => ?_)
  · have h : m < p.1.length := by simpa using h
    obtain ⟨hl, _⟩ := say_in hv h hd
    have hb := majTo_bd hv hd (m + 1) h
    conv => whnf
    refine ⟨⟨by omega, by omega⟩, ?_⟩
    conv => whnf
    refine ⟨⟨by omega, Int.ofNat_lt.2 hl⟩, ?_⟩
    conv => whnf
    refine ⟨(_, _), rfl, ⟨m + 1, wrap_succ h (by unfold Short; omega), ?_, by omega⟩, ?_⟩
    · have e : IntKind.i64.wrap (majTo p d m + (p.1.getD m tIS.dflt).getD d tI.dflt) = majTo p d (m + 1) := by rw [← majTo_succ h]; exact wrap_in (by omega) (by omega)
      exact e
    · rw [wrap_succ h (by unfold Short; omega)]; simp; omega
  · have h : ¬ m < p.1.length := by simpa using h
    obtain rfl : m = p.1.length := by omega
    rw [majTo_all]
    conv => whnf
    refine ⟨_, i_sign_ok _, (by first | exact (fun _ => rfl) | exact (fun h => Bool.noConfusion h)), ?_⟩
    conv => whnf
    exact ⟨_, _, rfl, .inl rfl, fin1 (rfl)⟩

def halR (p : Sample) : List Int × Bool × Unit := if isPanel p then ((List.range p.2.1.length).map (halAt p), true, ()) else ([], false, ())
theorem halR_no {p : Sample} (h : isPanel p = false) : halR p = ([], false, ()) := by simp [halR, h]
theorem halR_yes {p : Sample} (h : isPanel p = true) : halR p = ((List.range p.2.1.length).map (halAt p), true, ()) := by simp [halR, h]
theorem i_Panel_forecast_hal (p : Sample) (hv : isPanel p = true) (hp : FitS p) :
    orc.pc n_i_Panel_forecast [.d shSample p, .d (.fn n_i_HalvingSays_1 (.pair (.ptr shSample) .unit)) (some p, ())] ⟨tIS, .ow .fz, (List.range p.2.1.length).map (halAt p)⟩ := by
  obtain ⟨l1, l2, l3⟩ := panel_len hv
  refine p_i_Panel_forecast true rfl rfl ?_
  conv => whnf
  refine loop_ups (X := Int × List Int) (fun (i, x) => [⟨0, 11, false, .d tI i⟩, ⟨0, 5, false, .own tI .fz x⟩]) (fun (i, _) => p.2.1.length - i.toNat) (fun (i, x) => ∃ m : Nat, i = m ∧ x = (List.range m).map (halAt p) ∧ m ≤ p.2.1.length) (0, []) ?_ ⟨0, rfl, rfl, by omega⟩ ?_
  · refine st_eq ?_
    conv => whnf
    exact ⟨rfl⟩
  rintro ⟨_, _⟩ ⟨m, rfl, rfl, hm⟩
  conv => whnf
  refine cond_intro (fun h => ?_) (fun h => ?_)
  · have h : m < p.2.1.length := by simpa using h
    conv => whnf
    refine ⟨_, i_Panel_wrongBefore_ok p hv hp m (by omega), (by first | exact (fun _ => rfl) | exact (fun h => Bool.noConfusion h)), ?_⟩
    conv => whnf
    refine ⟨_, i_HalvingSays_1_ok p hv hp m h, (by first | exact (fun _ => rfl) | exact (fun h => Bool.noConfusion h)), ?_⟩
    conv => whnf
    refine ⟨⟨room_snoc (by simp; omega) (by decide), len_snoc (by simp; omega)⟩, ?_⟩
    conv => whnf
    refine ⟨(_, _), rfl, ⟨m + 1, wrap_succ h (by unfold Short; omega), ?_, by omega⟩, ?_⟩
    · rw [map_range_snoc]; rfl
    · rw [wrap_succ h (by unfold Short; omega)]; simp; omega
  · have h : ¬ m < p.2.1.length := by simpa using h
    obtain rfl : m = p.2.1.length := by omega
    conv => whnf
    exact ⟨_, _, rfl, .inl rfl, fin1 (rfl)⟩

theorem i_HalvingSays_ok (p : Sample) (hp : FitS p) : orc.pc n_i_HalvingSays [.d shSample p] ⟨shLB, oLB, halR p⟩ := by
  refine p_i_HalvingSays true rfl rfl ?_
  conv => whnf
  refine ⟨_, i_IsPanel_ok _ hp, (by first | exact (fun _ => rfl) | exact (fun h => Bool.noConfusion h)), ?_⟩
  conv => whnf
  refine cond_intro (fun h => ?_) (fun h => ?_)
  · have h : isPanel p = false := by simpa using h
    rw [halR_no h]
    conv => whnf
    exact ⟨_, _, rfl, .inl rfl, rfl⟩
  · have h : isPanel p = true := by simpa using h
    rw [halR_yes h]
    conv => whnf
    refine ⟨_, i_Panel_forecast_hal p h hp, (by first | exact (fun _ => rfl) | exact (fun h => Bool.noConfusion h)), ?_⟩
    conv => whnf
    exact ⟨_, _, rfl, .inl rfl, rfl⟩
def majR (p : Sample) : List Int × Bool × Unit := if isPanel p then ((List.range p.2.1.length).map (majAt p), true, ()) else ([], false, ())
theorem majR_no {p : Sample} (h : isPanel p = false) : majR p = ([], false, ()) := by simp [majR, h]
theorem majR_yes {p : Sample} (h : isPanel p = true) : majR p = ((List.range p.2.1.length).map (majAt p), true, ()) := by simp [majR, h]
theorem i_Panel_forecast_maj (p : Sample) (hv : isPanel p = true) (hp : FitS p) :
    orc.pc n_i_Panel_forecast [.d shSample p, .d (.fn n_i_MajoritySays_1 (.pair (.ptr shSample) .unit)) (some p, ())] ⟨tIS, .ow .fz, (List.range p.2.1.length).map (majAt p)⟩ := by
  obtain ⟨l1, l2, l3⟩ := panel_len hv
  refine p_i_Panel_forecast true rfl rfl ?_
  conv => whnf
  refine loop_ups (X := Int × List Int) (fun (i, x) => [⟨0, 11, false, .d tI i⟩, ⟨0, 5, false, .own tI .fz x⟩]) (fun (i, _) => p.2.1.length - i.toNat) (fun (i, x) => ∃ m : Nat, i = m ∧ x = (List.range m).map (majAt p) ∧ m ≤ p.2.1.length) (0, []) ?_ ⟨0, rfl, rfl, by omega⟩ ?_
  · refine st_eq ?_
    conv => whnf
    exact ⟨rfl⟩
  rintro ⟨_, _⟩ ⟨m, rfl, rfl, hm⟩
  conv => whnf
  refine cond_intro (fun h => ?_) (fun h => ?_)
  · have h : m < p.2.1.length := by simpa using h
    conv => whnf
    refine ⟨_, i_Panel_wrongBefore_ok p hv hp m (by omega), (by first | exact (fun _ => rfl) | exact (fun h => Bool.noConfusion h)), ?_⟩
    conv => whnf
    refine ⟨_, i_MajoritySays_1_ok p hv hp m h, (by first | exact (fun _ => rfl) | exact (fun h => Bool.noConfusion h)), ?_⟩
    conv => whnf
    refine ⟨⟨room_snoc (by simp; omega) (by decide), len_snoc (by simp; omega)⟩, ?_⟩
    conv => whnf
    refine ⟨(_, _), rfl, ⟨m + 1, wrap_succ h (by unfold Short; omega), ?_, by omega⟩, ?_⟩
    · rw [map_range_snoc]; rfl
    · rw [wrap_succ h (by unfold Short; omega)]; simp; omega
  · have h : ¬ m < p.2.1.length := by simpa using h
    obtain rfl : m = p.2.1.length := by omega
    conv => whnf
    exact ⟨_, _, rfl, .inl rfl, fin1 (rfl)⟩

theorem i_MajoritySays_ok (p : Sample) (hp : FitS p) : orc.pc n_i_MajoritySays [.d shSample p] ⟨shLB, oLB, majR p⟩ := by
  refine p_i_MajoritySays true rfl rfl ?_
  conv => whnf
  refine ⟨_, i_IsPanel_ok _ hp, (by first | exact (fun _ => rfl) | exact (fun h => Bool.noConfusion h)), ?_⟩
  conv => whnf
  refine cond_intro (fun h => ?_) (fun h => ?_)
  · have h : isPanel p = false := by simpa using h
    rw [majR_no h]
    conv => whnf
    exact ⟨_, _, rfl, .inl rfl, rfl⟩
  · have h : isPanel p = true := by simpa using h
    rw [majR_yes h]
    conv => whnf
    refine ⟨_, i_Panel_forecast_maj p h hp, (by first | exact (fun _ => rfl) | exact (fun h => Bool.noConfusion h)), ?_⟩
    conv => whnf
    exact ⟨_, _, rfl, .inl rfl, rfl⟩

theorem s_MajoritySays_ok (p : Sample) (hp : FitS p) : orc.pc n_s_MajoritySays [.d shSample p] ⟨shLB, oLB, majR p⟩ := by
  refine p_s_MajoritySays true rfl rfl ?_
  conv => whnf
  refine ⟨_, s_l11Panel_ok _ hp, (by first | exact (fun _ => rfl) | exact (fun h => Bool.noConfusion h)), ?_⟩
  conv => whnf
  refine cond_intro (fun h => ?_) (fun h => ?_)
  · have h : isPanel p = false := by simpa using h
    rw [majR_no h]
    conv => whnf
    exact ⟨_, _, rfl, .inl rfl, rfl⟩
  have hv : isPanel p = true := by simpa using h
  obtain ⟨l1, l2, l3⟩ := panel_len hv
  rw [majR_yes hv]
  conv => whnf
  refine loop_ups (X := Int × List Int) (fun (i, x) => [⟨0, 5, false, .d tI i⟩, ⟨0, 4, false, .own tI .fz x⟩]) (fun (i, _) => p.2.1.length - i.toNat) (fun (i, x) => ∃ m : Nat, i = m ∧ x = (List.range m).map (majAt p) ∧ m ≤ p.2.1.length) (0, []) ?_ ⟨0, rfl, rfl, by omega⟩ ?_
  · refine st_eq ?_
    conv => whnf
    exact ⟨rfl⟩
  rintro ⟨_, _⟩ ⟨m, rfl, rfl, hm⟩
  conv => whnf
  refine cond_intro (fun h => ?_) (fun h => ?_)
  · have h : m < p.2.1.length := by simpa using h
    conv => whnf
    refine loop_ups (X := Int × Int) (fun (i, x) => [⟨0, 7, false, .d tI i⟩, ⟨0, 6, false, .d tI x⟩]) (fun (i, _) => p.1.length - i.toNat) (fun (i, x) => ∃ n : Nat, i = n ∧ x = majTo p m n ∧ n ≤ p.1.length) (0, 0) ?_ ⟨0, rfl, rfl, by omega⟩ ?_
    · refine st_eq ?_
      conv => whnf
      exact ⟨rfl⟩
    rintro ⟨_, _⟩ ⟨n, rfl, rfl, hn⟩
    conv => whnf
    refine cond_intro (fun g => ?_) (fun g => ?_)
    · have g : n < p.1.length := by simpa using g
      obtain ⟨hl, _⟩ := say_in hv g h
      have hb := majTo_bd hv h (n + 1) g
      conv => whnf
      refine ⟨⟨by omega, by omega⟩, ?_⟩
      conv => whnf
      refine ⟨⟨by omega, Int.ofNat_lt.2 hl⟩, ?_⟩
      conv => whnf
      refine ⟨(_, _), rfl, ⟨n + 1, wrap_succ g (by unfold Short; omega), ?_, by omega⟩, ?_⟩
      · have e : IntKind.i64.wrap (majTo p m n + (p.1.getD n tIS.dflt).getD m tI.dflt) = majTo p m (n + 1) := by rw [← majTo_succ g]; exact wrap_in (by omega) (by omega)
        exact e
      · rw [wrap_succ g (by unfold Short; omega)]; simp; omega
    · have g : ¬ n < p.1.length := by simpa using g
      obtain rfl : n = p.1.length := by omega
      rw [majTo_all]
      conv => whnf
      refine ⟨_, s_l11Sign_ok _, (by first | exact (fun _ => rfl) | exact (fun h => Bool.noConfusion h)), ?_⟩
      conv => whnf
      refine ⟨⟨room_snoc (by simp; omega) (by decide), len_snoc (by simp; omega)⟩, ?_⟩
      conv => whnf
      refine ⟨(_, _), rfl, ⟨m + 1, wrap_succ h (by unfold Short; omega), ?_, by omega⟩, ?_⟩
      · rw [map_range_snoc]; rfl
      · rw [wrap_succ h (by unfold Short; omega)]; simp; omega
  · have h : ¬ m < p.2.1.length := by simpa using h
    obtain rfl : m = p.2.1.length := by omega
    conv => whnf
    exact ⟨_, _, rfl, .inl rfl, rfl⟩

theorem s_l11Halving_ok (p : Sample) (hv : isPanel p = true) (hp : FitS p) : orc.pc n_s_l11Halving [.d shSample p] ⟨tIS, .ow .fz, (List.range p.2.1.length).map (halAt p)⟩ := by
  obtain ⟨l1, l2, l3⟩ := panel_len hv
  refine p_s_l11Halving true rfl rfl ?_
  conv => whnf
  refine loop_ups (X := Int × List Int) (fun (i, x) => [⟨0, 4, false, .d tI i⟩, ⟨0, 3, false, .own tI .fz x⟩]) (fun (i, _) => p.2.1.length - i.toNat) (fun (i, x) => ∃ m : Nat, i = m ∧ x = (List.range m).map (halAt p) ∧ m ≤ p.2.1.length) (0, []) ?_ ⟨0, rfl, rfl, by omega⟩ ?_
  · refine st_eq ?_
    conv => whnf
    exact ⟨rfl⟩
  rintro ⟨_, _⟩ ⟨m, rfl, rfl, hm⟩
  conv => whnf
  refine cond_intro (fun h => ?_) (fun h => ?_)
  · have h : m < p.2.1.length := by simpa using h
    have hlen : (daysOf p m).length = p.1.length := by simp [daysOf]
    conv => whnf
    refine ⟨_, s_l11Days_ok p hv hp m (by omega), (by first | exact (fun _ => rfl) | exact (fun h => Bool.noConfusion h)), ?_⟩
    conv => whnf
    refine loop_ups (X := Int × Int) (fun (i, x) => [⟨0, 7, false, .d tI i⟩, ⟨0, 6, false, .d tI x⟩]) (fun (i, _) => p.1.length - i.toNat) (fun (i, x) => ∃ n : Nat, i = n ∧ x = halTo p m n ∧ n ≤ p.1.length) (0, 0) ?_ ⟨0, rfl, rfl, by omega⟩ ?_
    · refine st_eq ?_
      conv => whnf
      exact ⟨rfl⟩
    rintro ⟨_, _⟩ ⟨n, rfl, rfl, hn⟩
    conv => whnf
    refine cond_intro (fun g => ?_) (fun g => ?_)
    · have g : n < p.1.length := by simpa using g
      obtain ⟨hl, _⟩ := say_in hv g h
      obtain ⟨t1, t2⟩ := shl_term hv g h
      have hb := halTo_bd hv h (n + 1) g
      conv => whnf
      refine ⟨⟨by omega, by omega⟩, ?_⟩
      conv => whnf
      refine ⟨⟨by omega, Int.ofNat_lt.2 hl⟩, ?_⟩
      conv => whnf
      refine ⟨⟨by omega, by rw [hlen]; omega⟩, ?_⟩
      conv => whnf
      refine ⟨(by rw [hlen]; omega), ?_⟩
      conv => whnf
      refine ⟨t1, ?_⟩
      conv => whnf
      refine ⟨(_, _), rfl, ⟨n + 1, wrap_succ g (by unfold Short; omega), ?_, by omega⟩, ?_⟩
      · have e : IntKind.i64.wrap (halTo p m n + IntKind.i64.wrap ((p.1.getD n tIS.dflt).getD m tI.dflt * 2 ^ (min (IntKind.i64.wrap (16 - (daysOf p m).getD n tI.dflt)).toNat IntKind.i64.bits))) = halTo p m (n + 1) := by rw [t2, ← halTo_succ g]; exact wrap_in (by omega) (by omega)
        exact e
      · rw [wrap_succ g (by unfold Short; omega)]; simp; omega
    · have g : ¬ n < p.1.length := by simpa using g
      obtain rfl : n = p.1.length := by omega
      rw [halTo_all]
      conv => whnf
      refine ⟨_, s_l11Sign_ok _, (by first | exact (fun _ => rfl) | exact (fun h => Bool.noConfusion h)), ?_⟩
      conv => whnf
      refine ⟨⟨room_snoc (by simp; omega) (by decide), len_snoc (by simp; omega)⟩, ?_⟩
      conv => whnf
      refine ⟨(_, _), rfl, ⟨m + 1, wrap_succ h (by unfold Short; omega), ?_, by omega⟩, ?_⟩
      · rw [map_range_snoc]; rfl
      · rw [wrap_succ h (by unfold Short; omega)]; simp; omega
  · have h : ¬ m < p.2.1.length := by simpa using h
    obtain rfl : m = p.2.1.length := by omega
    conv => whnf
    exact ⟨_, _, rfl, .inl rfl, rfl⟩

theorem s_HalvingSays_ok (p : Sample) (hp : FitS p) : orc.pc n_s_HalvingSays [.d shSample p] ⟨shLB, oLB, halR p⟩ := by
  refine p_s_HalvingSays true rfl rfl ?_
  conv => whnf
  refine ⟨_, s_l11Panel_ok _ hp, (by first | exact (fun _ => rfl) | exact (fun h => Bool.noConfusion h)), ?_⟩
  conv => whnf
  refine cond_intro (fun h => ?_) (fun h => ?_)
  · have h : isPanel p = false := by simpa using h
    rw [halR_no h]
    conv => whnf
    exact ⟨_, _, rfl, .inl rfl, rfl⟩
  have hv : isPanel p = true := by simpa using h
  rw [halR_yes hv]
  conv => whnf
  refine ⟨_, s_l11Halving_ok p hv hp, (by first | exact (fun _ => rfl) | exact (fun h => Bool.noConfusion h)), ?_⟩
  conv => whnf
  exact ⟨_, _, rfl, .inl rfl, rfl⟩

/-! ### Wrong days -/
abbrev shIB : Sh := .pair tI (.pair .bool .unit)
def daysR (p : Sample) : List Int × Bool × Unit := if isPanel p then (daysOf p p.2.1.length, true, ()) else ([], false, ())
theorem daysR_no {p : Sample} (h : isPanel p = false) : daysR p = ([], false, ()) := by simp [daysR, h]
theorem daysR_yes {p : Sample} (h : isPanel p = true) : daysR p = (daysOf p p.2.1.length, true, ()) := by simp [daysR, h]
def bestR (p : Sample) : Int × Bool × Unit := if isPanel p then ((fmin (daysOf p p.2.1.length) : Int), true, ()) else (0, false, ())
theorem bestR_no {p : Sample} (h : isPanel p = false) : bestR p = (0, false, ()) := by simp [bestR, h]
theorem bestR_yes {p : Sample} (h : isPanel p = true) : bestR p = ((fmin (daysOf p p.2.1.length) : Int), true, ()) := by simp [bestR, h]
def halW (p : Sample) : Int × Bool × Unit := if isPanel p then ((wc (halAt p) p.2.1 p.2.1.length : Int), true, ()) else (0, false, ())
theorem halW_no {p : Sample} (h : isPanel p = false) : halW p = (0, false, ()) := by simp [halW, h]
theorem halW_yes {p : Sample} (h : isPanel p = true) : halW p = ((wc (halAt p) p.2.1 p.2.1.length : Int), true, ()) := by simp [halW, h]

theorem i_WrongDays_ok (p : Sample) (hp : FitS p) : orc.pc n_i_WrongDays [.d shSample p] ⟨shLB, oLB, daysR p⟩ := by
  refine p_i_WrongDays true rfl rfl ?_
  conv => whnf
  refine ⟨_, i_IsPanel_ok _ hp, (by first | exact (fun _ => rfl) | exact (fun h => Bool.noConfusion h)), ?_⟩
  conv => whnf
  refine cond_intro (fun h => ?_) (fun h => ?_)
  · have h : isPanel p = false := by simpa using h
    rw [daysR_no h]
    conv => whnf
    exact ⟨_, _, rfl, .inl rfl, rfl⟩
  · have h : isPanel p = true := by simpa using h
    rw [daysR_yes h]
    conv => whnf
    refine ⟨_, i_Panel_wrongBefore_ok p h hp p.2.1.length (Nat.le_refl _), (by first | exact (fun _ => rfl) | exact (fun h => Bool.noConfusion h)), ?_⟩
    conv => whnf
    exact ⟨_, _, rfl, .inl rfl, rfl⟩
theorem s_WrongDays_ok (p : Sample) (hp : FitS p) : orc.pc n_s_WrongDays [.d shSample p] ⟨shLB, oLB, daysR p⟩ := by
  refine p_s_WrongDays true rfl rfl ?_
  conv => whnf
  refine ⟨_, s_l11Panel_ok _ hp, (by first | exact (fun _ => rfl) | exact (fun h => Bool.noConfusion h)), ?_⟩
  conv => whnf
  refine cond_intro (fun h => ?_) (fun h => ?_)
  · have h : isPanel p = false := by simpa using h
    rw [daysR_no h]
    conv => whnf
    exact ⟨_, _, rfl, .inl rfl, rfl⟩
  · have h : isPanel p = true := by simpa using h
    rw [daysR_yes h]
    conv => whnf
    refine ⟨_, s_l11Days_ok p h hp p.2.1.length (Nat.le_refl _), (by first | exact (fun _ => rfl) | exact (fun h => Bool.noConfusion h)), ?_⟩
    conv => whnf
    exact ⟨_, _, rfl, .inl rfl, rfl⟩
theorem i_BestExpert_ok (p : Sample) (hp : FitS p) : orc.pc n_i_BestExpert [.d shSample p] ⟨shIB, .fz, bestR p⟩ := by
  refine p_i_BestExpert true rfl rfl ?_
  conv => whnf
  refine ⟨_, i_WrongDays_ok _ hp, (by first | exact (fun _ => rfl) | exact (fun h => Bool.noConfusion h)), ?_⟩
  conv => whnf
  cases h : isPanel p with
  | false =>
    rw [daysR_no h, bestR_no h]
    conv => whnf
    exact ⟨_, _, rfl, .inl rfl, rfl⟩
  | true =>
    obtain ⟨s1, s2, s3⟩ := days_short h p.2.1.length
    rw [daysR_yes h, bestR_yes h]
    conv => whnf
    refine ⟨_, i_firstLeast_ok _ s1 s2, (by first | exact (fun _ => rfl) | exact (fun h => Bool.noConfusion h)), ?_⟩
    conv => whnf
    exact ⟨_, _, rfl, .inl rfl, rfl⟩
theorem s_BestExpert_ok (p : Sample) (hp : FitS p) : orc.pc n_s_BestExpert [.d shSample p] ⟨shIB, .fz, bestR p⟩ := by
  refine p_s_BestExpert true rfl rfl ?_
  conv => whnf
  refine ⟨_, s_l11Panel_ok _ hp, (by first | exact (fun _ => rfl) | exact (fun h => Bool.noConfusion h)), ?_⟩
  conv => whnf
  refine cond_intro (fun h => ?_) (fun h => ?_)
  · have h : isPanel p = false := by simpa using h
    rw [bestR_no h]
    conv => whnf
    exact ⟨_, _, rfl, .inl rfl, rfl⟩
  · have h : isPanel p = true := by simpa using h
    obtain ⟨s1, s2, s3⟩ := days_short h p.2.1.length
    rw [bestR_yes h]
    conv => whnf
    refine ⟨_, s_l11Days_ok p h hp p.2.1.length (Nat.le_refl _), (by first | exact (fun _ => rfl) | exact (fun h => Bool.noConfusion h)), ?_⟩
    conv => whnf
    refine ⟨_, s_l11First_ok _ s1 s2, (by first | exact (fun _ => rfl) | exact (fun h => Bool.noConfusion h)), ?_⟩
    conv => whnf
    exact ⟨_, _, rfl, .inl rfl, rfl⟩

theorem getD_map_range {f : Nat → Int} {n d : Nat} (h : d < n) : ((List.range n).map f).getD d tI.dflt = f d := by
  rw [List.getD_eq_getElem?_getD, List.getElem?_map, List.getElem?_range h]; rfl

theorem i_HalvingWrong_ok (p : Sample) (hp : FitS p) : orc.pc n_i_HalvingWrong [.d shSample p] ⟨shIB, .fz, halW p⟩ := by
  refine p_i_HalvingWrong true rfl rfl ?_
  conv => whnf
  refine ⟨_, i_HalvingSays_ok _ hp, (by first | exact (fun _ => rfl) | exact (fun h => Bool.noConfusion h)), ?_⟩
  conv => whnf
  cases hv : isPanel p with
  | false =>
    rw [halR_no hv, halW_no hv]
    conv => whnf
    exact ⟨_, _, rfl, .inl rfl, rfl⟩
  | true =>
    obtain ⟨l1, l2, l3⟩ := panel_len hv
    rw [halR_yes hv, halW_yes hv]
    conv => whnf
    refine loop_ups (X := Int × Int) (fun (i, x) => [⟨0, 18, false, .d tI i⟩, ⟨0, 6, false, .d tI x⟩]) (fun (i, _) => p.2.1.length - i.toNat) (fun (i, x) => ∃ m : Nat, i = m ∧ x = wc (halAt p) p.2.1 m ∧ m ≤ p.2.1.length) (0, 0) ?_ ⟨0, rfl, rfl, by omega⟩ ?_
    · refine st_eq ?_
      conv => whnf
      exact ⟨rfl⟩
    rintro ⟨_, _⟩ ⟨m, rfl, rfl, hm⟩
    have hwc := wc_le (halAt p) p.2.1 m
    have hlen : ((List.range p.2.1.length).map (halAt p)).length = p.2.1.length := by simp
    conv => whnf
    refine cond_intro (fun h => ?_) (fun h => ?_)
    · have h : m < p.2.1.length := by have := of_decide_eq_true h; rw [hlen] at this; omega
      conv => whnf
      refine ⟨⟨by omega, by rw [hlen]; omega⟩, ?_⟩
      conv => whnf
      refine ⟨(by rw [hlen]; omega), ?_⟩
      conv => whnf
      refine ⟨⟨by omega, by omega⟩, ?_⟩
      conv => whnf
      have h9 := getD_map_range (f := halAt p) h
      refine cond_intro (fun g0 => ?_) (fun g0 => ?_)
      · have g : (halAt p m != p.2.1.getD m tI.dflt) = true := by rw [← h9]; exact g0
        conv => whnf
        refine ⟨(_, _), rfl, ⟨m + 1, wrap_succ h (by unfold Short; omega), ?_, by omega⟩, ?_⟩
        · show IntKind.i64.wrap (_ + 1) = _
          rw [wc_yes g, wrap_in (by omega) (by omega)]; omega
        · rw [wrap_succ h (by unfold Short; omega)]; simp; omega
      · have g : (halAt p m != p.2.1.getD m tI.dflt) = false := by rw [← h9]; exact g0
        conv => whnf
        refine ⟨(_, _), rfl, ⟨m + 1, wrap_succ h (by unfold Short; omega), ?_, by omega⟩, ?_⟩
        · rw [wc_no g]
        · rw [wrap_succ h (by unfold Short; omega)]; simp; omega
    · have h : ¬ m < p.2.1.length := by have := of_decide_eq_false h; rw [hlen] at this; omega
      obtain rfl : m = p.2.1.length := by omega
      conv => whnf
      exact ⟨_, _, rfl, .inl rfl, rfl⟩

theorem s_HalvingWrong_ok (p : Sample) (hp : FitS p) : orc.pc n_s_HalvingWrong [.d shSample p] ⟨shIB, .fz, halW p⟩ := by
  refine p_s_HalvingWrong true rfl rfl ?_
  conv => whnf
  refine ⟨_, s_l11Panel_ok _ hp, (by first | exact (fun _ => rfl) | exact (fun h => Bool.noConfusion h)), ?_⟩
  conv => whnf
  refine cond_intro (fun h => ?_) (fun h => ?_)
  · have h : isPanel p = false := by simpa using h
    rw [halW_no h]
    conv => whnf
    exact ⟨_, _, rfl, .inl rfl, rfl⟩
  have hv : isPanel p = true := by simpa using h
  obtain ⟨l1, l2, l3⟩ := panel_len hv
  rw [halW_yes hv]
  conv => whnf
  refine ⟨_, s_l11Halving_ok p hv hp, (by first | exact (fun _ => rfl) | exact (fun h => Bool.noConfusion h)), ?_⟩
  conv => whnf
  refine loop_ups (X := Int × Int) (fun (i, x) => [⟨0, 6, false, .d tI i⟩, ⟨0, 5, false, .d tI x⟩]) (fun (i, _) => p.2.1.length - i.toNat) (fun (i, x) => ∃ m : Nat, i = m ∧ x = wc (halAt p) p.2.1 m ∧ m ≤ p.2.1.length) (0, 0) ?_ ⟨0, rfl, rfl, by omega⟩ ?_
  · refine st_eq ?_
    conv => whnf
    exact ⟨rfl⟩
  rintro ⟨_, _⟩ ⟨m, rfl, rfl, hm⟩
  have hwc := wc_le (halAt p) p.2.1 m
  have hlen : ((List.range p.2.1.length).map (halAt p)).length = p.2.1.length := by simp
  conv => whnf
  refine cond_intro (fun h => ?_) (fun h => ?_)
  · have h : m < p.2.1.length := by have := of_decide_eq_true h; rw [hlen] at this; omega
    conv => whnf
    refine ⟨⟨by omega, by rw [hlen]; omega⟩, ?_⟩
    conv => whnf
    refine ⟨(by rw [hlen]; omega), ?_⟩
    conv => whnf
    refine ⟨⟨by omega, by omega⟩, ?_⟩
    conv => whnf
    have h9 := getD_map_range (f := halAt p) h
    refine cond_intro (fun g0 => ?_) (fun g0 => ?_)
    · have g : (halAt p m != p.2.1.getD m tI.dflt) = true := by rw [← h9]; exact g0
      conv => whnf
      refine ⟨(_, _), rfl, ⟨m + 1, wrap_succ h (by unfold Short; omega), ?_, by omega⟩, ?_⟩
      · show IntKind.i64.wrap (_ + 1) = _
        rw [wc_yes g, wrap_in (by omega) (by omega)]; omega
      · rw [wrap_succ h (by unfold Short; omega)]; simp; omega
    · have g : (halAt p m != p.2.1.getD m tI.dflt) = false := by rw [← h9]; exact g0
      conv => whnf
      refine ⟨(_, _), rfl, ⟨m + 1, wrap_succ h (by unfold Short; omega), ?_, by omega⟩, ?_⟩
      · rw [wc_no g]
      · rw [wrap_succ h (by unfold Short; omega)]; simp; omega
  · have h : ¬ m < p.2.1.length := by have := of_decide_eq_false h; rw [hlen] at this; omega
    obtain rfl : m = p.2.1.length := by omega
    conv => whnf
    exact ⟨_, _, rfl, .inl rfl, rfl⟩

end Go.Proofs.Ytlndfmmigndgeaa.Ev
