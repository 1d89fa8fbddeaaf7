/- The law FnExperts: for every code it returns true. -/
import Derived.Test.YtlndfmmigndgeaaFnPC
import Derived.Test.YtlndfmmigndgeaaFnPD
namespace Go.Proofs.Ytlndfmmigndgeaa.Ev
open Go
set_option linter.unusedVariables false
set_option linter.unusedSimpArgs false
set_option maxRecDepth 100000
set_option exponentiation.threshold 100000
set_option maxHeartbeats 4000000

theorem isCode_of {code : List Int} (hw : WfD tB code) (h : ¬ (code.length : Int) > 65536) : IsCode code := by
  refine ⟨by omega, fun n hn => ?_⟩
  have h1 : (Lit.int .u8 (code.getD n 0)).wf = true := hw.2.2 _ (getD_mem hn 0)
  have e1 : IntKind.u8.min = 0 := by decide
  have e2 : IntKind.u8.max = 255 := by decide
  simp only [Lit.wf, e1, e2, Bool.and_eq_true, decide_eq_true_eq] at h1
  omega

theorem right_start {p : Sample} (hv : isPanel p = true) : IntKind.i64.wrap ((p.1.length : Int) * 2 ^ (min ((daysOf p p.2.1.length).getD (fmin (daysOf p p.2.1.length)) tI.dflt).toNat IntKind.i64.bits)) = ((p.1.length * 2 ^ cnt (p.1.getD (fmin (daysOf p p.2.1.length)) tIS.dflt) p.2.1 p.2.1.length : Nat) : Int) := by
  obtain ⟨l1, l2, l3⟩ := panel_len hv
  obtain ⟨s1, s2, s3⟩ := days_short hv p.2.1.length
  have hb16 := cnt_le (p.1.getD (fmin (daysOf p p.2.1.length)) tIS.dflt) p.2.1 p.2.1.length
  rw [days_get s3]
  generalize cnt (p.1.getD (fmin (daysOf p p.2.1.length)) tIS.dflt) p.2.1 p.2.1.length = b at hb16
  have e : min ((b : Nat) : Int).toNat IntKind.i64.bits = b := by show min b 64 = b; omega
  rw [e]
  have h1 : p.1.length * 2 ^ b ≤ 8 * 2 ^ 16 := Nat.mul_le_mul l3 (Nat.pow_le_pow_right (by decide) (by omega))
  have h2 : ((p.1.length : Int) * 2 ^ b) = ((p.1.length * 2 ^ b : Nat) : Int) := by simp
  rw [h2, wrap_in (by omega) (by omega)]
theorem right_small {N b : Nat} (h : N ≤ 8) (g : b ≤ 16) : N * 2 ^ b ≤ 524288 := Nat.mul_le_mul h (Nat.pow_le_pow_right (by decide) g)
theorem pow_step1 (x y c : Nat) (h1 : x ≤ 4294967296) (h2 : y * c ≤ 22568879259648) : IntKind.i64.wrap (4 * (x : Int)) = ((x * 4 : Nat) : Int) ∧ IntKind.i64.wrap (3 * ((y * c : Nat) : Int)) = ((y * 3 * c : Nat) : Int) := by
  have e : y * 3 * c = 3 * (y * c) := by rw [Nat.mul_comm y 3, Nat.mul_assoc]
  rw [e]
  generalize y * c = z at h2 ⊢
  rw [wrap_in (by omega) (by omega), wrap_in (by omega) (by omega)]
  omega
theorem pow_steps {n c : Nat} (hn : n < 16) (hc : c ≤ 524288) : IntKind.i64.wrap (4 * ((4 ^ n : Nat) : Int)) = ((4 ^ (n + 1) : Nat) : Int) ∧ IntKind.i64.wrap (3 * ((3 ^ n * c : Nat) : Int)) = ((3 ^ (n + 1) * c : Nat) : Int) := by
  have h1 : 4 ^ n ≤ 4 ^ 16 := Nat.pow_le_pow_right (by decide) (by omega)
  have h2 : 3 ^ n ≤ 3 ^ 16 := Nat.pow_le_pow_right (by decide) (by omega)
  exact pow_step1 (4 ^ n) (3 ^ n) c h1 (Nat.mul_le_mul h2 hc)
theorem fol_end {p : Sample} (hv : isPanel p = true) (h : (wc (folAt p) p.2.1 p.2.1.length : Int) ≤ p.1.length * ((cnt (p.1.getD (fmin (daysOf p p.2.1.length)) tIS.dflt) p.2.1 p.2.1.length : Nat) + 1) - 1) :
    (wc (folAt p) p.2.1 p.2.1.length : Int) ≤ IntKind.i64.wrap (IntKind.i64.wrap ((p.1.length : Int) * IntKind.i64.wrap ((daysOf p p.2.1.length).getD (fmin (daysOf p p.2.1.length)) tI.dflt + 1)) - 1) := by
  obtain ⟨l1, l2, l3⟩ := panel_len hv
  obtain ⟨s1, s2, s3⟩ := days_short hv p.2.1.length
  have hb16 := cnt_le (p.1.getD (fmin (daysOf p p.2.1.length)) tIS.dflt) p.2.1 p.2.1.length
  rw [days_get s3]
  generalize cnt (p.1.getD (fmin (daysOf p p.2.1.length)) tIS.dflt) p.2.1 p.2.1.length = b at hb16 h
  have h1 : p.1.length * (b + 1) ≤ 8 * 17 := Nat.mul_le_mul l3 (by omega)
  have h2 : ((p.1.length : Int) * ((b : Int) + 1)) = ((p.1.length * (b + 1) : Nat) : Int) := by simp
  rw [wrap_in (n := (b : Int) + 1) (by omega) (by omega)]
  rw [h2] at h ⊢
  rw [wrap_in (n := ((p.1.length * (b + 1) : Nat) : Int)) (by omega) (by omega), wrap_in (by omega) (by omega)]
  exact h

theorem l_FnExperts_ok (code : List Int) (hw : WfD tB code) : orc.pc n_l_FnExperts [.d tB code] truePk := by
  refine p_l_FnExperts true rfl rfl ?_
  conv => whnf
  refine ⟨_, l_rBig_ok code, (by first | exact (fun _ => rfl) | exact (fun h => Bool.noConfusion h)), ?_⟩
  conv => whnf
  refine cond_intro (fun h => ?_) (fun h => ?_)
  · conv => whnf
    exact ⟨_, _, rfl, .inl rfl, rfl⟩
  have hc : IsCode code := isCode_of hw (of_decide_eq_false h)
  obtain ⟨p, hp, hd⟩ := s_DrawHalvingSays_ok hc
  conv => whnf
  refine ⟨_, hd, (by first | exact (fun _ => rfl) | exact (fun h => Bool.noConfusion h)), ?_⟩
  conv => whnf
  cases hv : isPanel p with
  | false =>
    have c0 := i_HalvingSays_ok p hp
    rw [halR_no hv] at c0
    have c1 := s_HalvingSays_ok p hp
    rw [halR_no hv] at c1
    have c2 := i_HalvingWrong_ok p hp
    rw [halW_no hv] at c2
    have c3 := s_HalvingWrong_ok p hp
    rw [halW_no hv] at c3
    have c4 := i_WrongDays_ok p hp
    rw [daysR_no hv] at c4
    have c5 := s_WrongDays_ok p hp
    rw [daysR_no hv] at c5
    have c6 := i_BestExpert_ok p hp
    rw [bestR_no hv] at c6
    have c7 := s_BestExpert_ok p hp
    rw [bestR_no hv] at c7
    have c8 := i_FollowingSays_ok p hp
    rw [folR_no hv] at c8
    have c9 := s_FollowingSays_ok p hp
    rw [folR_no hv] at c9
    have c10 := i_MajoritySays_ok p hp
    rw [majR_no hv] at c10
    have c11 := s_MajoritySays_ok p hp
    rw [majR_no hv] at c11
    have c12 := i_IsPanel_ok p hp
    rw [hv] at c12
    conv => whnf
    refine ⟨_, c0, (by first | exact (fun _ => rfl) | exact (fun h => Bool.noConfusion h)), ?_⟩
    conv => whnf
    refine ⟨_, c1, (by first | exact (fun _ => rfl) | exact (fun h => Bool.noConfusion h)), ?_⟩
    conv => whnf
    repeat ((first | refine cond_f (sc1 _) ?_ | refine cond_t (sc2 _) ?_ | refine cond_f (sc3 _) ?_ | refine cond_t (sc4 _) ?_ | refine cond_f (sc5 _) ?_ | refine cond_t (sc6 _) ?_); conv => whnf)
    refine ⟨_, c12, (by first | exact (fun _ => rfl) | exact (fun h => Bool.noConfusion h)), ?_⟩
    conv => whnf
    repeat ((first | refine cond_f (sc1 _) ?_ | refine cond_t (sc2 _) ?_ | refine cond_f (sc3 _) ?_ | refine cond_t (sc4 _) ?_ | refine cond_f (sc5 _) ?_ | refine cond_t (sc6 _) ?_); conv => whnf)
    refine ⟨_, l_rInts_ok _ _ (by show (0 : Nat) ≤ 1048576; decide), (by first | exact (fun _ => rfl) | exact (fun h => Bool.noConfusion h)), ?_⟩
    conv => whnf
    repeat ((first | refine cond_f (sc1 _) ?_ | refine cond_t (sc2 _) ?_ | refine cond_f (sc3 _) ?_ | refine cond_t (sc4 _) ?_ | refine cond_f (sc5 _) ?_ | refine cond_t (sc6 _) ?_); conv => whnf)
    refine ⟨_, c2, (by first | exact (fun _ => rfl) | exact (fun h => Bool.noConfusion h)), ?_⟩
    conv => whnf
    refine ⟨_, c3, (by first | exact (fun _ => rfl) | exact (fun h => Bool.noConfusion h)), ?_⟩
    conv => whnf
    repeat ((first | refine cond_f (sc1 _) ?_ | refine cond_t (sc2 _) ?_ | refine cond_f (sc3 _) ?_ | refine cond_t (sc4 _) ?_ | refine cond_f (sc5 _) ?_ | refine cond_t (sc6 _) ?_); conv => whnf)
    refine ⟨_, c4, (by first | exact (fun _ => rfl) | exact (fun h => Bool.noConfusion h)), ?_⟩
    conv => whnf
    refine ⟨_, c5, (by first | exact (fun _ => rfl) | exact (fun h => Bool.noConfusion h)), ?_⟩
    conv => whnf
    repeat ((first | refine cond_f (sc1 _) ?_ | refine cond_t (sc2 _) ?_ | refine cond_f (sc3 _) ?_ | refine cond_t (sc4 _) ?_ | refine cond_f (sc5 _) ?_ | refine cond_t (sc6 _) ?_); conv => whnf)
    refine ⟨_, l_rInts_ok _ _ (by show (0 : Nat) ≤ 1048576; decide), (by first | exact (fun _ => rfl) | exact (fun h => Bool.noConfusion h)), ?_⟩
    conv => whnf
    repeat ((first | refine cond_f (sc1 _) ?_ | refine cond_t (sc2 _) ?_ | refine cond_f (sc3 _) ?_ | refine cond_t (sc4 _) ?_ | refine cond_f (sc5 _) ?_ | refine cond_t (sc6 _) ?_); conv => whnf)
    refine ⟨_, c6, (by first | exact (fun _ => rfl) | exact (fun h => Bool.noConfusion h)), ?_⟩
    conv => whnf
    refine ⟨_, c7, (by first | exact (fun _ => rfl) | exact (fun h => Bool.noConfusion h)), ?_⟩
    conv => whnf
    repeat ((first | refine cond_f (sc1 _) ?_ | refine cond_t (sc2 _) ?_ | refine cond_f (sc3 _) ?_ | refine cond_t (sc4 _) ?_ | refine cond_f (sc5 _) ?_ | refine cond_t (sc6 _) ?_); conv => whnf)
    refine ⟨_, c8, (by first | exact (fun _ => rfl) | exact (fun h => Bool.noConfusion h)), ?_⟩
    conv => whnf
    refine ⟨_, c9, (by first | exact (fun _ => rfl) | exact (fun h => Bool.noConfusion h)), ?_⟩
    conv => whnf
    repeat ((first | refine cond_f (sc1 _) ?_ | refine cond_t (sc2 _) ?_ | refine cond_f (sc3 _) ?_ | refine cond_t (sc4 _) ?_ | refine cond_f (sc5 _) ?_ | refine cond_t (sc6 _) ?_); conv => whnf)
    refine ⟨_, l_rInts_ok _ _ (by show (0 : Nat) ≤ 1048576; decide), (by first | exact (fun _ => rfl) | exact (fun h => Bool.noConfusion h)), ?_⟩
    conv => whnf
    repeat ((first | refine cond_f (sc1 _) ?_ | refine cond_t (sc2 _) ?_ | refine cond_f (sc3 _) ?_ | refine cond_t (sc4 _) ?_ | refine cond_f (sc5 _) ?_ | refine cond_t (sc6 _) ?_); conv => whnf)
    refine ⟨_, c10, (by first | exact (fun _ => rfl) | exact (fun h => Bool.noConfusion h)), ?_⟩
    conv => whnf
    refine ⟨_, c11, (by first | exact (fun _ => rfl) | exact (fun h => Bool.noConfusion h)), ?_⟩
    conv => whnf
    repeat ((first | refine cond_f (sc1 _) ?_ | refine cond_t (sc2 _) ?_ | refine cond_f (sc3 _) ?_ | refine cond_t (sc4 _) ?_ | refine cond_f (sc5 _) ?_ | refine cond_t (sc6 _) ?_); conv => whnf)
    refine ⟨_, l_rInts_ok _ _ (by show (0 : Nat) ≤ 1048576; decide), (by first | exact (fun _ => rfl) | exact (fun h => Bool.noConfusion h)), ?_⟩
    conv => whnf
    repeat ((first | refine cond_f (sc1 _) ?_ | refine cond_t (sc2 _) ?_ | refine cond_f (sc3 _) ?_ | refine cond_t (sc4 _) ?_ | refine cond_f (sc5 _) ?_ | refine cond_t (sc6 _) ?_); conv => whnf)
    exact ⟨_, _, rfl, .inl rfl, rfl⟩
  | true =>
    obtain ⟨l1, l2, l3⟩ := panel_len hv
    obtain ⟨s1, s2, s3⟩ := days_short hv p.2.1.length
    have h_says : ((List.range p.2.1.length).map (halAt p)).length ≤ 1048576 := by simp; omega
    have h_fol : ((List.range p.2.1.length).map (folAt p)).length ≤ 1048576 := by simp; omega
    have h_maj : ((List.range p.2.1.length).map (majAt p)).length ≤ 1048576 := by simp; omega
    have h_days : (daysOf p p.2.1.length).length ≤ 1048576 := s1
    have c0 := i_HalvingSays_ok p hp
    rw [halR_yes hv] at c0
    have c1 := s_HalvingSays_ok p hp
    rw [halR_yes hv] at c1
    have c2 := i_HalvingWrong_ok p hp
    rw [halW_yes hv] at c2
    have c3 := s_HalvingWrong_ok p hp
    rw [halW_yes hv] at c3
    have c4 := i_WrongDays_ok p hp
    rw [daysR_yes hv] at c4
    have c5 := s_WrongDays_ok p hp
    rw [daysR_yes hv] at c5
    have c6 := i_BestExpert_ok p hp
    rw [bestR_yes hv] at c6
    have c7 := s_BestExpert_ok p hp
    rw [bestR_yes hv] at c7
    have c8 := i_FollowingSays_ok p hp
    rw [folR_yes hv] at c8
    have c9 := s_FollowingSays_ok p hp
    rw [folR_yes hv] at c9
    have c10 := i_MajoritySays_ok p hp
    rw [majR_yes hv] at c10
    have c11 := s_MajoritySays_ok p hp
    rw [majR_yes hv] at c11
    have c12 := i_IsPanel_ok p hp
    rw [hv] at c12
    conv => whnf
    refine ⟨_, c0, (by first | exact (fun _ => rfl) | exact (fun h => Bool.noConfusion h)), ?_⟩
    conv => whnf
    refine ⟨_, c1, (by first | exact (fun _ => rfl) | exact (fun h => Bool.noConfusion h)), ?_⟩
    conv => whnf
    repeat ((first | refine cond_f (sc1 _) ?_ | refine cond_t (sc2 _) ?_ | refine cond_f (sc3 _) ?_ | refine cond_t (sc4 _) ?_ | refine cond_f (sc5 _) ?_ | refine cond_t (sc6 _) ?_); conv => whnf)
    refine ⟨_, c12, (by first | exact (fun _ => rfl) | exact (fun h => Bool.noConfusion h)), ?_⟩
    conv => whnf
    repeat ((first | refine cond_f (sc1 _) ?_ | refine cond_t (sc2 _) ?_ | refine cond_f (sc3 _) ?_ | refine cond_t (sc4 _) ?_ | refine cond_f (sc5 _) ?_ | refine cond_t (sc6 _) ?_); conv => whnf)
    refine ⟨_, l_rInts_ok _ _ h_says, (by first | exact (fun _ => rfl) | exact (fun h => Bool.noConfusion h)), ?_⟩
    conv => whnf
    repeat ((first | refine cond_f (sc1 _) ?_ | refine cond_t (sc2 _) ?_ | refine cond_f (sc3 _) ?_ | refine cond_t (sc4 _) ?_ | refine cond_f (sc5 _) ?_ | refine cond_t (sc6 _) ?_); conv => whnf)
    refine ⟨_, c2, (by first | exact (fun _ => rfl) | exact (fun h => Bool.noConfusion h)), ?_⟩
    conv => whnf
    refine ⟨_, c3, (by first | exact (fun _ => rfl) | exact (fun h => Bool.noConfusion h)), ?_⟩
    conv => whnf
    repeat ((first | refine cond_f (sc1 _) ?_ | refine cond_t (sc2 _) ?_ | refine cond_f (sc3 _) ?_ | refine cond_t (sc4 _) ?_ | refine cond_f (sc5 _) ?_ | refine cond_t (sc6 _) ?_); conv => whnf)
    refine ⟨_, c4, (by first | exact (fun _ => rfl) | exact (fun h => Bool.noConfusion h)), ?_⟩
    conv => whnf
    refine ⟨_, c5, (by first | exact (fun _ => rfl) | exact (fun h => Bool.noConfusion h)), ?_⟩
    conv => whnf
    repeat ((first | refine cond_f (sc1 _) ?_ | refine cond_t (sc2 _) ?_ | refine cond_f (sc3 _) ?_ | refine cond_t (sc4 _) ?_ | refine cond_f (sc5 _) ?_ | refine cond_t (sc6 _) ?_); conv => whnf)
    refine ⟨_, l_rInts_ok _ _ h_days, (by first | exact (fun _ => rfl) | exact (fun h => Bool.noConfusion h)), ?_⟩
    conv => whnf
    repeat ((first | refine cond_f (sc1 _) ?_ | refine cond_t (sc2 _) ?_ | refine cond_f (sc3 _) ?_ | refine cond_t (sc4 _) ?_ | refine cond_f (sc5 _) ?_ | refine cond_t (sc6 _) ?_); conv => whnf)
    refine ⟨_, c6, (by first | exact (fun _ => rfl) | exact (fun h => Bool.noConfusion h)), ?_⟩
    conv => whnf
    refine ⟨_, c7, (by first | exact (fun _ => rfl) | exact (fun h => Bool.noConfusion h)), ?_⟩
    conv => whnf
    repeat ((first | refine cond_f (sc1 _) ?_ | refine cond_t (sc2 _) ?_ | refine cond_f (sc3 _) ?_ | refine cond_t (sc4 _) ?_ | refine cond_f (sc5 _) ?_ | refine cond_t (sc6 _) ?_); conv => whnf)
    refine ⟨_, c8, (by first | exact (fun _ => rfl) | exact (fun h => Bool.noConfusion h)), ?_⟩
    conv => whnf
    refine ⟨_, c9, (by first | exact (fun _ => rfl) | exact (fun h => Bool.noConfusion h)), ?_⟩
    conv => whnf
    repeat ((first | refine cond_f (sc1 _) ?_ | refine cond_t (sc2 _) ?_ | refine cond_f (sc3 _) ?_ | refine cond_t (sc4 _) ?_ | refine cond_f (sc5 _) ?_ | refine cond_t (sc6 _) ?_); conv => whnf)
    refine ⟨_, l_rInts_ok _ _ h_fol, (by first | exact (fun _ => rfl) | exact (fun h => Bool.noConfusion h)), ?_⟩
    conv => whnf
    repeat ((first | refine cond_f (sc1 _) ?_ | refine cond_t (sc2 _) ?_ | refine cond_f (sc3 _) ?_ | refine cond_t (sc4 _) ?_ | refine cond_f (sc5 _) ?_ | refine cond_t (sc6 _) ?_); conv => whnf)
    refine ⟨_, c10, (by first | exact (fun _ => rfl) | exact (fun h => Bool.noConfusion h)), ?_⟩
    conv => whnf
    refine ⟨_, c11, (by first | exact (fun _ => rfl) | exact (fun h => Bool.noConfusion h)), ?_⟩
    conv => whnf
    repeat ((first | refine cond_f (sc1 _) ?_ | refine cond_t (sc2 _) ?_ | refine cond_f (sc3 _) ?_ | refine cond_t (sc4 _) ?_ | refine cond_f (sc5 _) ?_ | refine cond_t (sc6 _) ?_); conv => whnf)
    refine ⟨_, l_rInts_ok _ _ h_maj, (by first | exact (fun _ => rfl) | exact (fun h => Bool.noConfusion h)), ?_⟩
    conv => whnf
    repeat ((first | refine cond_f (sc1 _) ?_ | refine cond_t (sc2 _) ?_ | refine cond_f (sc3 _) ?_ | refine cond_t (sc4 _) ?_ | refine cond_f (sc5 _) ?_ | refine cond_t (sc6 _) ?_); conv => whnf)
    refine loop_ups (X := Int × Int × Bool × Int) (fun (d, c, s, o) => [⟨0, 31, false, .d tI d⟩, ⟨0, 28, false, .d tI c⟩, ⟨0, 29, false, .d .bool s⟩, ⟨0, 30, false, .d tI o⟩]) (fun (d, _, _, _) => p.2.1.length - d.toNat)
      (fun (d, c, s, o) => ∃ m : Nat, d = m ∧ m ≤ p.2.1.length ∧ c = wc (halAt p) p.2.1 m ∧ o = wc (folAt p) p.2.1 m ∧ (s = false → ∀ e, e < m → ∀ i, i < p.1.length → (p.1.getD i tIS.dflt).getD e tI.dflt ≠ 0)) (0, 0, false, 0) ?_ ⟨0, rfl, by omega, rfl, rfl, fun _ e he => by omega⟩ ?_
    · refine st_eq ?_
      conv => whnf
      exact ⟨rfl⟩
    rintro ⟨_, _, s, _⟩ ⟨m, rfl, hm, rfl, rfl, hs⟩
    have w1 := wc_le (halAt p) p.2.1 m
    have w2 := wc_le (folAt p) p.2.1 m
    conv => whnf
    refine cond_intro (fun h => ?_) (fun h => ?_)
    · have h : m < p.2.1.length := by simpa using h
      have h8 := getD_map_range (f := halAt p) h
      have h9 := getD_map_range (f := folAt p) h
      have e1 : IntKind.i64.wrap ((wc (halAt p) p.2.1 m : Int) + 1) = (wc (halAt p) p.2.1 m + 1 : Nat) := by rw [wrap_in (by omega) (by omega)]; omega
      have e2 : IntKind.i64.wrap ((wc (folAt p) p.2.1 m : Int) + 1) = (wc (folAt p) p.2.1 m + 1 : Nat) := by rw [wrap_in (by omega) (by omega)]; omega
      conv => whnf
      refine ⟨⟨Int.natCast_nonneg _, Int.ofNat_lt.2 (show m < ((List.range p.2.1.length).map (halAt p)).length by simp; omega)⟩, ?_⟩
      conv => whnf
      refine ⟨(show m < ((List.range p.2.1.length).map (halAt p)).length by simp; omega), ?_⟩
      conv => whnf
      refine ⟨⟨Int.natCast_nonneg _, Int.ofNat_lt.2 h⟩, ?_⟩
      conv => whnf
      refine ⟨h, ?_⟩
      conv => whnf
      refine cond_intro (fun g0 => ?_) (fun g0 => ?_)
      · have g : (halAt p m != p.2.1.getD m tI.dflt) = true := by rw [← h8]; exact g0
        conv => whnf
        refine ⟨⟨Int.natCast_nonneg _, Int.ofNat_lt.2 (show m < ((List.range p.2.1.length).map (folAt p)).length by simp; omega)⟩, ?_⟩
        conv => whnf
        refine ⟨(show m < ((List.range p.2.1.length).map (folAt p)).length by simp; omega), ?_⟩
        conv => whnf
        refine ⟨⟨Int.natCast_nonneg _, Int.ofNat_lt.2 h⟩, ?_⟩
        conv => whnf
        refine ⟨h, ?_⟩
        conv => whnf
        refine cond_intro (fun g0 => ?_) (fun g0 => ?_)
        · have k : (folAt p m != p.2.1.getD m tI.dflt) = true := by rw [← h9]; exact g0
          conv => whnf
          refine loop_ups (X := Int × Bool) (fun (i, s) => [⟨0, 32, false, .d tI i⟩, ⟨0, 29, false, .d .bool s⟩]) (fun (i, _) => p.1.length - i.toNat) (fun (i, s') => ∃ n : Nat, i = n ∧ n ≤ p.1.length ∧ (s' = false → s = false ∧ ∀ j, j < n → (p.1.getD j tIS.dflt).getD m tI.dflt ≠ 0)) (0, s) ?_ ⟨0, rfl, by omega, fun h => ⟨h, fun j hj => by omega⟩⟩ ?_
          · refine st_eq ?_
            conv => whnf
            exact ⟨rfl⟩
          rintro ⟨_, s'⟩ ⟨n, rfl, hn, hs'⟩
          conv => whnf
          refine cond_intro (fun q => ?_) (fun q => ?_)
          · have q : n < p.1.length := by have := of_decide_eq_true q; exact Int.ofNat_lt.1 this
            obtain ⟨hl, _⟩ := say_in hv q h
            cases s' with
            | true =>
              conv => whnf
              refine ⟨(_, _), rfl, ⟨n + 1, wrap_succ q (by unfold Short; omega), by omega, fun h => by cases h⟩, ?_⟩
              rw [wrap_succ q (by unfold Short; omega)]; simp; omega
            | false =>
              obtain ⟨hs1, hs2⟩ := hs' rfl
              conv => whnf
              refine ⟨⟨Int.natCast_nonneg _, Int.ofNat_lt.2 q⟩, ?_⟩
              conv => whnf
              refine ⟨q, ?_⟩
              conv => whnf
              refine ⟨q, ?_⟩
              conv => whnf
              refine ⟨⟨Int.natCast_nonneg _, Int.ofNat_lt.2 hl⟩, ?_⟩
              conv => whnf
              refine ⟨q, ?_⟩
              conv => whnf
              refine ⟨hl, ?_⟩
              conv => whnf
              refine ⟨(_, _), rfl, ⟨n + 1, wrap_succ q (by unfold Short; omega), by omega, fun e0 => ⟨hs1, fun j hj => ?_⟩⟩, ?_⟩
              · by_cases hjn : j < n
                · exact hs2 j hjn
                · have e : j = n := by omega
                  subst e
                  exact ne_of_beq_false e0
              · rw [wrap_succ q (by unfold Short; omega)]; simp; omega
          · have q : n = p.1.length := by have := of_decide_eq_false q; have : ¬ (n < p.1.length) := fun e => this (Int.ofNat_lt.2 e); omega
            conv => whnf
            refine ⟨(_, _, _, _), rfl, ⟨m + 1, wrap_succ h (by unfold Short; omega), by omega, (e1.trans (by rw [wc_yes g])), (e2.trans (by rw [wc_yes k])), fun e0 e he i hi => ?_⟩, ?_⟩
            · obtain ⟨q1, q2⟩ := hs' e0
              by_cases hem : e < m
              · exact hs q1 e hem i hi
              · have e' : e = m := by omega
                subst e'
                exact q2 i (by omega)
            · rw [wrap_succ h (by unfold Short; omega)]; simp; omega
        · have k : (folAt p m != p.2.1.getD m tI.dflt) = false := by rw [← h9]; exact g0
          conv => whnf
          refine loop_ups (X := Int × Bool) (fun (i, s) => [⟨0, 32, false, .d tI i⟩, ⟨0, 29, false, .d .bool s⟩]) (fun (i, _) => p.1.length - i.toNat) (fun (i, s') => ∃ n : Nat, i = n ∧ n ≤ p.1.length ∧ (s' = false → s = false ∧ ∀ j, j < n → (p.1.getD j tIS.dflt).getD m tI.dflt ≠ 0)) (0, s) ?_ ⟨0, rfl, by omega, fun h => ⟨h, fun j hj => by omega⟩⟩ ?_
          · refine st_eq ?_
            conv => whnf
            exact ⟨rfl⟩
          rintro ⟨_, s'⟩ ⟨n, rfl, hn, hs'⟩
          conv => whnf
          refine cond_intro (fun q => ?_) (fun q => ?_)
          · have q : n < p.1.length := by have := of_decide_eq_true q; exact Int.ofNat_lt.1 this
            obtain ⟨hl, _⟩ := say_in hv q h
            cases s' with
            | true =>
              conv => whnf
              refine ⟨(_, _), rfl, ⟨n + 1, wrap_succ q (by unfold Short; omega), by omega, fun h => by cases h⟩, ?_⟩
              rw [wrap_succ q (by unfold Short; omega)]; simp; omega
            | false =>
              obtain ⟨hs1, hs2⟩ := hs' rfl
              conv => whnf
              refine ⟨⟨Int.natCast_nonneg _, Int.ofNat_lt.2 q⟩, ?_⟩
              conv => whnf
              refine ⟨q, ?_⟩
              conv => whnf
              refine ⟨q, ?_⟩
              conv => whnf
              refine ⟨⟨Int.natCast_nonneg _, Int.ofNat_lt.2 hl⟩, ?_⟩
              conv => whnf
              refine ⟨q, ?_⟩
              conv => whnf
              refine ⟨hl, ?_⟩
              conv => whnf
              refine ⟨(_, _), rfl, ⟨n + 1, wrap_succ q (by unfold Short; omega), by omega, fun e0 => ⟨hs1, fun j hj => ?_⟩⟩, ?_⟩
              · by_cases hjn : j < n
                · exact hs2 j hjn
                · have e : j = n := by omega
                  subst e
                  exact ne_of_beq_false e0
              · rw [wrap_succ q (by unfold Short; omega)]; simp; omega
          · have q : n = p.1.length := by have := of_decide_eq_false q; have : ¬ (n < p.1.length) := fun e => this (Int.ofNat_lt.2 e); omega
            conv => whnf
            refine ⟨(_, _, _, _), rfl, ⟨m + 1, wrap_succ h (by unfold Short; omega), by omega, (e1.trans (by rw [wc_yes g])), (by rw [wc_no k]), fun e0 e he i hi => ?_⟩, ?_⟩
            · obtain ⟨q1, q2⟩ := hs' e0
              by_cases hem : e < m
              · exact hs q1 e hem i hi
              · have e' : e = m := by omega
                subst e'
                exact q2 i (by omega)
            · rw [wrap_succ h (by unfold Short; omega)]; simp; omega
      · have g : (halAt p m != p.2.1.getD m tI.dflt) = false := by rw [← h8]; exact g0
        conv => whnf
        refine ⟨⟨Int.natCast_nonneg _, Int.ofNat_lt.2 (show m < ((List.range p.2.1.length).map (folAt p)).length by simp; omega)⟩, ?_⟩
        conv => whnf
        refine ⟨(show m < ((List.range p.2.1.length).map (folAt p)).length by simp; omega), ?_⟩
        conv => whnf
        refine ⟨⟨Int.natCast_nonneg _, Int.ofNat_lt.2 h⟩, ?_⟩
        conv => whnf
        refine ⟨h, ?_⟩
        conv => whnf
        refine cond_intro (fun g0 => ?_) (fun g0 => ?_)
        · have k : (folAt p m != p.2.1.getD m tI.dflt) = true := by rw [← h9]; exact g0
          conv => whnf
          refine loop_ups (X := Int × Bool) (fun (i, s) => [⟨0, 32, false, .d tI i⟩, ⟨0, 29, false, .d .bool s⟩]) (fun (i, _) => p.1.length - i.toNat) (fun (i, s') => ∃ n : Nat, i = n ∧ n ≤ p.1.length ∧ (s' = false → s = false ∧ ∀ j, j < n → (p.1.getD j tIS.dflt).getD m tI.dflt ≠ 0)) (0, s) ?_ ⟨0, rfl, by omega, fun h => ⟨h, fun j hj => by omega⟩⟩ ?_
          · refine st_eq ?_
            conv => whnf
            exact ⟨rfl⟩
          rintro ⟨_, s'⟩ ⟨n, rfl, hn, hs'⟩
          conv => whnf
          refine cond_intro (fun q => ?_) (fun q => ?_)
          · have q : n < p.1.length := by have := of_decide_eq_true q; exact Int.ofNat_lt.1 this
            obtain ⟨hl, _⟩ := say_in hv q h
            cases s' with
            | true =>
              conv => whnf
              refine ⟨(_, _), rfl, ⟨n + 1, wrap_succ q (by unfold Short; omega), by omega, fun h => by cases h⟩, ?_⟩
              rw [wrap_succ q (by unfold Short; omega)]; simp; omega
            | false =>
              obtain ⟨hs1, hs2⟩ := hs' rfl
              conv => whnf
              refine ⟨⟨Int.natCast_nonneg _, Int.ofNat_lt.2 q⟩, ?_⟩
              conv => whnf
              refine ⟨q, ?_⟩
              conv => whnf
              refine ⟨q, ?_⟩
              conv => whnf
              refine ⟨⟨Int.natCast_nonneg _, Int.ofNat_lt.2 hl⟩, ?_⟩
              conv => whnf
              refine ⟨q, ?_⟩
              conv => whnf
              refine ⟨hl, ?_⟩
              conv => whnf
              refine ⟨(_, _), rfl, ⟨n + 1, wrap_succ q (by unfold Short; omega), by omega, fun e0 => ⟨hs1, fun j hj => ?_⟩⟩, ?_⟩
              · by_cases hjn : j < n
                · exact hs2 j hjn
                · have e : j = n := by omega
                  subst e
                  exact ne_of_beq_false e0
              · rw [wrap_succ q (by unfold Short; omega)]; simp; omega
          · have q : n = p.1.length := by have := of_decide_eq_false q; have : ¬ (n < p.1.length) := fun e => this (Int.ofNat_lt.2 e); omega
            conv => whnf
            refine ⟨(_, _, _, _), rfl, ⟨m + 1, wrap_succ h (by unfold Short; omega), by omega, (by rw [wc_no g]), (e2.trans (by rw [wc_yes k])), fun e0 e he i hi => ?_⟩, ?_⟩
            · obtain ⟨q1, q2⟩ := hs' e0
              by_cases hem : e < m
              · exact hs q1 e hem i hi
              · have e' : e = m := by omega
                subst e'
                exact q2 i (by omega)
            · rw [wrap_succ h (by unfold Short; omega)]; simp; omega
        · have k : (folAt p m != p.2.1.getD m tI.dflt) = false := by rw [← h9]; exact g0
          conv => whnf
          refine loop_ups (X := Int × Bool) (fun (i, s) => [⟨0, 32, false, .d tI i⟩, ⟨0, 29, false, .d .bool s⟩]) (fun (i, _) => p.1.length - i.toNat) (fun (i, s') => ∃ n : Nat, i = n ∧ n ≤ p.1.length ∧ (s' = false → s = false ∧ ∀ j, j < n → (p.1.getD j tIS.dflt).getD m tI.dflt ≠ 0)) (0, s) ?_ ⟨0, rfl, by omega, fun h => ⟨h, fun j hj => by omega⟩⟩ ?_
          · refine st_eq ?_
            conv => whnf
            exact ⟨rfl⟩
          rintro ⟨_, s'⟩ ⟨n, rfl, hn, hs'⟩
          conv => whnf
          refine cond_intro (fun q => ?_) (fun q => ?_)
          · have q : n < p.1.length := by have := of_decide_eq_true q; exact Int.ofNat_lt.1 this
            obtain ⟨hl, _⟩ := say_in hv q h
            cases s' with
            | true =>
              conv => whnf
              refine ⟨(_, _), rfl, ⟨n + 1, wrap_succ q (by unfold Short; omega), by omega, fun h => by cases h⟩, ?_⟩
              rw [wrap_succ q (by unfold Short; omega)]; simp; omega
            | false =>
              obtain ⟨hs1, hs2⟩ := hs' rfl
              conv => whnf
              refine ⟨⟨Int.natCast_nonneg _, Int.ofNat_lt.2 q⟩, ?_⟩
              conv => whnf
              refine ⟨q, ?_⟩
              conv => whnf
              refine ⟨q, ?_⟩
              conv => whnf
              refine ⟨⟨Int.natCast_nonneg _, Int.ofNat_lt.2 hl⟩, ?_⟩
              conv => whnf
              refine ⟨q, ?_⟩
              conv => whnf
              refine ⟨hl, ?_⟩
              conv => whnf
              refine ⟨(_, _), rfl, ⟨n + 1, wrap_succ q (by unfold Short; omega), by omega, fun e0 => ⟨hs1, fun j hj => ?_⟩⟩, ?_⟩
              · by_cases hjn : j < n
                · exact hs2 j hjn
                · have e : j = n := by omega
                  subst e
                  exact ne_of_beq_false e0
              · rw [wrap_succ q (by unfold Short; omega)]; simp; omega
          · have q : n = p.1.length := by have := of_decide_eq_false q; have : ¬ (n < p.1.length) := fun e => this (Int.ofNat_lt.2 e); omega
            conv => whnf
            refine ⟨(_, _, _, _), rfl, ⟨m + 1, wrap_succ h (by unfold Short; omega), by omega, (by rw [wc_no g]), (by rw [wc_no k]), fun e0 e he i hi => ?_⟩, ?_⟩
            · obtain ⟨q1, q2⟩ := hs' e0
              by_cases hem : e < m
              · exact hs q1 e hem i hi
              · have e' : e = m := by omega
                subst e'
                exact q2 i (by omega)
            · rw [wrap_succ h (by unfold Short; omega)]; simp; omega
    · have h : m = p.2.1.length := by have := of_decide_eq_false h; have : ¬ (m < p.2.1.length) := fun e => this (Int.ofNat_lt.2 e); omega
      subst h
      have hr0 : p.1.getD (fmin (daysOf p p.2.1.length)) tIS.dflt ∈ p.1 := getD_mem s3 _
      have hdl : (daysOf p p.2.1.length).length = p.1.length := by simp [daysOf]
      have hfl : fmin (daysOf p p.2.1.length) < (daysOf p p.2.1.length).length := by rw [hdl]; exact s3
      have hbest := days_get (d := p.2.1.length) s3
      have hb16 := cnt_le (p.1.getD (fmin (daysOf p p.2.1.length)) tIS.dflt) p.2.1 p.2.1.length
      have FMs := fmin_spec s2
      conv => whnf
      repeat ((first | refine cond_f (sc1 _) ?_ | refine cond_t (sc2 _) ?_); conv => whnf)
      refine cond_intro (fun q0 => ?_) (fun q0 => ?_)
      · have hD : 0 < p.2.1.length := by
          have t : (0 : Int) < ((List.range p.2.1.length).map (halAt p)).length := of_decide_eq_true (eq_of_beq q0)
          have e : ((List.range p.2.1.length).map (halAt p)).length = p.2.1.length := by simp
          rw [e] at t; omega
        have e0 : (((List.range p.2.1.length).map (halAt p)).getD 0 tI.dflt != ((List.range p.2.1.length).map (majAt p)).getD 0 tI.dflt) = false := by rw [getD_map_range hD, getD_map_range hD, hal_first hv hD]; simp
        conv => whnf
        repeat ((first | refine cond_f (sc1 _) ?_ | refine cond_t (sc2 _) ?_ | refine cond_t q0 ?_ | refine cond_f (hT q0) ?_ | refine cond_t (gT q0) ?_); conv => whnf)
        refine ⟨⟨Int.le_refl _, by show (0 : Int) < ((List.range p.2.1.length).map (halAt p)).length; simp; omega⟩, ?_⟩
        conv => whnf
        repeat ((first | refine cond_f (sc1 _) ?_ | refine cond_t (sc2 _) ?_ | refine cond_t q0 ?_ | refine cond_f (hT q0) ?_ | refine cond_t (gT q0) ?_); conv => whnf)
        refine ⟨(show (0 : Int).toNat < ((List.range p.2.1.length).map (halAt p)).length by simp; omega), ?_⟩
        conv => whnf
        repeat ((first | refine cond_f (sc1 _) ?_ | refine cond_t (sc2 _) ?_ | refine cond_t q0 ?_ | refine cond_f (hT q0) ?_ | refine cond_t (gT q0) ?_); conv => whnf)
        refine ⟨⟨Int.le_refl _, by show (0 : Int) < ((List.range p.2.1.length).map (majAt p)).length; simp; omega⟩, ?_⟩
        conv => whnf
        repeat ((first | refine cond_f (sc1 _) ?_ | refine cond_t (sc2 _) ?_ | refine cond_t q0 ?_ | refine cond_f (hT q0) ?_ | refine cond_t (gT q0) ?_); conv => whnf)
        refine ⟨(show (0 : Int).toNat < ((List.range p.2.1.length).map (majAt p)).length by simp; omega), ?_⟩
        conv => whnf
        repeat ((first | refine cond_f (sc1 _) ?_ | refine cond_t (sc2 _) ?_ | refine cond_t q0 ?_ | refine cond_f (hT q0) ?_ | refine cond_t (gT q0) ?_); conv => whnf)
        refine cond_f e0 ?_
        conv => whnf
        refine loop_ups (X := Int) (fun i => [⟨0, 33, false, .d tI i⟩]) (fun i => p.1.length - i.toNat) (fun i => ∃ n : Nat, i = n ∧ n ≤ p.1.length) 0 ?_ ⟨0, rfl, by omega⟩ ?_
        · refine st_eq ?_
          conv => whnf
          exact ⟨rfl⟩
        rintro _ ⟨n, rfl, hn⟩
        conv => whnf
        refine cond_intro (fun q => ?_) (fun q => ?_)
        · have q : n < (daysOf p p.2.1.length).length := by have := of_decide_eq_true q; exact Int.ofNat_lt.1 this
          conv => whnf
          refine ⟨⟨Int.natCast_nonneg _, Int.ofNat_lt.2 q⟩, ?_⟩
          conv => whnf
          refine ⟨q, ?_⟩
          conv => whnf
          refine ⟨⟨Int.natCast_nonneg _, Int.ofNat_lt.2 hfl⟩, ?_⟩
          conv => whnf
          refine ⟨hfl, ?_⟩
          conv => whnf
          refine cond_f (decide_eq_false (Int.not_lt.2 (FMs.le n q))) ?_
          conv => whnf
          refine ⟨_, rfl, ⟨n + 1, wrap_succ q (by unfold Short; omega), by omega⟩, ?_⟩
          rw [wrap_succ q (by unfold Short; omega)]; simp; omega
        cases s with
        | true =>
          conv => whnf
          exact ⟨_, _, rfl, .inl rfl, rfl⟩
        | false =>
          have loud : Loud p := hs rfl
          have H1 := hal_bound hv loud hr0
          have H2 := fol_bound hv loud hr0 rfl
          conv => whnf
          refine ⟨⟨Int.natCast_nonneg _, Int.ofNat_lt.2 hfl⟩, ?_⟩
          conv => whnf
          refine ⟨hfl, ?_⟩
          conv => whnf
          have hsh : 0 ≤ (daysOf p p.2.1.length).getD (fmin (daysOf p p.2.1.length)) tI.dflt := by rw [hbest]; exact Int.natCast_nonneg _
          refine ⟨hsh, ?_⟩
          conv => whnf
          have eB := right_start hv (p := p)
          refine loop_ups (X := Int × Int × Int) (fun (k, l, r) => [⟨0, 36, false, .d tI k⟩, ⟨0, 34, false, .d tI l⟩, ⟨0, 35, false, .d tI r⟩]) (fun (k, _, _) => wc (halAt p) p.2.1 p.2.1.length - k.toNat)
            (fun (k, l, r) => ∃ n : Nat, k = n ∧ n ≤ wc (halAt p) p.2.1 p.2.1.length ∧ l = ((4 ^ n : Nat) : Int) ∧ r = ((3 ^ n * (p.1.length * 2 ^ cnt (p.1.getD (fmin (daysOf p p.2.1.length)) tIS.dflt) p.2.1 p.2.1.length) : Nat) : Int))
            (0, 1, IntKind.i64.wrap ((p.1.length : Int) * 2 ^ (min ((daysOf p p.2.1.length).getD (fmin (daysOf p p.2.1.length)) tI.dflt).toNat IntKind.i64.bits))) ?_ ⟨0, rfl, by omega, rfl, by rw [eB]; simp⟩ ?_
          · refine st_eq ?_
            conv => whnf
            exact ⟨rfl⟩
          rintro ⟨_, _, _⟩ ⟨n, rfl, hn, rfl, rfl⟩
          conv => whnf
          refine cond_intro (fun q => ?_) (fun q => ?_)
          · have q : n < wc (halAt p) p.2.1 p.2.1.length := by have := of_decide_eq_true q; exact Int.ofNat_lt.1 this
            obtain ⟨g1, g2⟩ := pow_steps (n := n) (c := p.1.length * 2 ^ cnt (p.1.getD (fmin (daysOf p p.2.1.length)) tIS.dflt) p.2.1 p.2.1.length) (by omega) (right_small l3 (by omega))
            conv => whnf
            refine ⟨(_, _, _), rfl, ⟨n + 1, wrap_succ q (by unfold Short; omega), by omega, g1, g2⟩, ?_⟩
            rw [wrap_succ q (by unfold Short; omega)]; simp; omega
          · have q : n = wc (halAt p) p.2.1 p.2.1.length := by have := of_decide_eq_false q; have : ¬ (n < wc (halAt p) p.2.1 p.2.1.length) := fun e => this (Int.ofNat_lt.2 e); omega
            subst q
            have z0 : decide (((4 ^ wc (halAt p) p.2.1 p.2.1.length : Nat) : Int) ≤ ((3 ^ wc (halAt p) p.2.1 p.2.1.length * (p.1.length * 2 ^ cnt (p.1.getD (fmin (daysOf p p.2.1.length)) tIS.dflt) p.2.1 p.2.1.length) : Nat) : Int)) = true := decide_eq_true (by exact_mod_cast H1)
            have z1 : (decide (((4 ^ wc (halAt p) p.2.1 p.2.1.length : Nat) : Int) ≤ ((3 ^ wc (halAt p) p.2.1 p.2.1.length * (p.1.length * 2 ^ cnt (p.1.getD (fmin (daysOf p p.2.1.length)) tIS.dflt) p.2.1 p.2.1.length) : Nat) : Int)) == true) = true := by rw [z0]; rfl
            conv => whnf
            repeat ((first | refine cond_f (sc1 _) ?_ | refine cond_t (sc2 _) ?_ | refine cond_t z1 ?_ | refine cond_f (hT z1) ?_ | refine cond_t (gT z1) ?_); conv => whnf)
            refine ⟨⟨Int.natCast_nonneg _, Int.ofNat_lt.2 hfl⟩, ?_⟩
            conv => whnf
            repeat ((first | refine cond_f (sc1 _) ?_ | refine cond_t (sc2 _) ?_ | refine cond_t z1 ?_ | refine cond_f (hT z1) ?_ | refine cond_t (gT z1) ?_); conv => whnf)
            refine ⟨hfl, ?_⟩
            conv => whnf
            repeat ((first | refine cond_f (sc1 _) ?_ | refine cond_t (sc2 _) ?_ | refine cond_t z1 ?_ | refine cond_f (hT z1) ?_ | refine cond_t (gT z1) ?_); conv => whnf)
            exact ⟨_, _, rfl, .inl rfl, fin1 ((decide_eq_true (fol_end hv H2)))⟩
      · conv => whnf
        repeat ((first | refine cond_f (sc1 _) ?_ | refine cond_t (sc2 _) ?_ | refine cond_f q0 ?_ | refine cond_t (hF q0) ?_ | refine cond_f (gF q0) ?_); conv => whnf)
        conv => whnf
        refine loop_ups (X := Int) (fun i => [⟨0, 33, false, .d tI i⟩]) (fun i => p.1.length - i.toNat) (fun i => ∃ n : Nat, i = n ∧ n ≤ p.1.length) 0 ?_ ⟨0, rfl, by omega⟩ ?_
        · refine st_eq ?_
          conv => whnf
          exact ⟨rfl⟩
        rintro _ ⟨n, rfl, hn⟩
        conv => whnf
        refine cond_intro (fun q => ?_) (fun q => ?_)
        · have q : n < (daysOf p p.2.1.length).length := by have := of_decide_eq_true q; exact Int.ofNat_lt.1 this
          conv => whnf
          refine ⟨⟨Int.natCast_nonneg _, Int.ofNat_lt.2 q⟩, ?_⟩
          conv => whnf
          refine ⟨q, ?_⟩
          conv => whnf
          refine ⟨⟨Int.natCast_nonneg _, Int.ofNat_lt.2 hfl⟩, ?_⟩
          conv => whnf
          refine ⟨hfl, ?_⟩
          conv => whnf
          refine cond_f (decide_eq_false (Int.not_lt.2 (FMs.le n q))) ?_
          conv => whnf
          refine ⟨_, rfl, ⟨n + 1, wrap_succ q (by unfold Short; omega), by omega⟩, ?_⟩
          rw [wrap_succ q (by unfold Short; omega)]; simp; omega
        cases s with
        | true =>
          conv => whnf
          exact ⟨_, _, rfl, .inl rfl, rfl⟩
        | false =>
          have loud : Loud p := hs rfl
          have H1 := hal_bound hv loud hr0
          have H2 := fol_bound hv loud hr0 rfl
          conv => whnf
          refine ⟨⟨Int.natCast_nonneg _, Int.ofNat_lt.2 hfl⟩, ?_⟩
          conv => whnf
          refine ⟨hfl, ?_⟩
          conv => whnf
          have hsh : 0 ≤ (daysOf p p.2.1.length).getD (fmin (daysOf p p.2.1.length)) tI.dflt := by rw [hbest]; exact Int.natCast_nonneg _
          refine ⟨hsh, ?_⟩
          conv => whnf
          have eB := right_start hv (p := p)
          refine loop_ups (X := Int × Int × Int) (fun (k, l, r) => [⟨0, 36, false, .d tI k⟩, ⟨0, 34, false, .d tI l⟩, ⟨0, 35, false, .d tI r⟩]) (fun (k, _, _) => wc (halAt p) p.2.1 p.2.1.length - k.toNat)
            (fun (k, l, r) => ∃ n : Nat, k = n ∧ n ≤ wc (halAt p) p.2.1 p.2.1.length ∧ l = ((4 ^ n : Nat) : Int) ∧ r = ((3 ^ n * (p.1.length * 2 ^ cnt (p.1.getD (fmin (daysOf p p.2.1.length)) tIS.dflt) p.2.1 p.2.1.length) : Nat) : Int))
            (0, 1, IntKind.i64.wrap ((p.1.length : Int) * 2 ^ (min ((daysOf p p.2.1.length).getD (fmin (daysOf p p.2.1.length)) tI.dflt).toNat IntKind.i64.bits))) ?_ ⟨0, rfl, by omega, rfl, by rw [eB]; simp⟩ ?_
          · refine st_eq ?_
            conv => whnf
            exact ⟨rfl⟩
          rintro ⟨_, _, _⟩ ⟨n, rfl, hn, rfl, rfl⟩
          conv => whnf
          refine cond_intro (fun q => ?_) (fun q => ?_)
          · have q : n < wc (halAt p) p.2.1 p.2.1.length := by have := of_decide_eq_true q; exact Int.ofNat_lt.1 this
            obtain ⟨g1, g2⟩ := pow_steps (n := n) (c := p.1.length * 2 ^ cnt (p.1.getD (fmin (daysOf p p.2.1.length)) tIS.dflt) p.2.1 p.2.1.length) (by omega) (right_small l3 (by omega))
            conv => whnf
            refine ⟨(_, _, _), rfl, ⟨n + 1, wrap_succ q (by unfold Short; omega), by omega, g1, g2⟩, ?_⟩
            rw [wrap_succ q (by unfold Short; omega)]; simp; omega
          · have q : n = wc (halAt p) p.2.1 p.2.1.length := by have := of_decide_eq_false q; have : ¬ (n < wc (halAt p) p.2.1 p.2.1.length) := fun e => this (Int.ofNat_lt.2 e); omega
            subst q
            have z0 : decide (((4 ^ wc (halAt p) p.2.1 p.2.1.length : Nat) : Int) ≤ ((3 ^ wc (halAt p) p.2.1 p.2.1.length * (p.1.length * 2 ^ cnt (p.1.getD (fmin (daysOf p p.2.1.length)) tIS.dflt) p.2.1 p.2.1.length) : Nat) : Int)) = true := decide_eq_true (by exact_mod_cast H1)
            have z1 : (decide (((4 ^ wc (halAt p) p.2.1 p.2.1.length : Nat) : Int) ≤ ((3 ^ wc (halAt p) p.2.1 p.2.1.length * (p.1.length * 2 ^ cnt (p.1.getD (fmin (daysOf p p.2.1.length)) tIS.dflt) p.2.1 p.2.1.length) : Nat) : Int)) == true) = true := by rw [z0]; rfl
            conv => whnf
            repeat ((first | refine cond_f (sc1 _) ?_ | refine cond_t (sc2 _) ?_ | refine cond_t z1 ?_ | refine cond_f (hT z1) ?_ | refine cond_t (gT z1) ?_); conv => whnf)
            refine ⟨⟨Int.natCast_nonneg _, Int.ofNat_lt.2 hfl⟩, ?_⟩
            conv => whnf
            repeat ((first | refine cond_f (sc1 _) ?_ | refine cond_t (sc2 _) ?_ | refine cond_t z1 ?_ | refine cond_f (hT z1) ?_ | refine cond_t (gT z1) ?_); conv => whnf)
            refine ⟨hfl, ?_⟩
            conv => whnf
            repeat ((first | refine cond_f (sc1 _) ?_ | refine cond_t (sc2 _) ?_ | refine cond_t z1 ?_ | refine cond_f (hT z1) ?_ | refine cond_t (gT z1) ?_); conv => whnf)
            exact ⟨_, _, rfl, .inl rfl, fin1 ((decide_eq_true (fol_end hv H2)))⟩

end Go.Proofs.Ytlndfmmigndgeaa.Ev
