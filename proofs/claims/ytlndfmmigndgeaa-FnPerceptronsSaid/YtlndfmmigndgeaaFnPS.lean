/- Draws for runs: samples with rounds, samples with counts. -/
import Derived.Test.YtlndfmmigndgeaaFnPR
import Derived.Test.YtlndfmmigndgeaaFnPX2
import Derived.Test.YtlndfmmigndgeaaFnV
namespace Go.Proofs.Ytlndfmmigndgeaa.Ev
open Go
set_option linter.unusedVariables false
set_option linter.unusedSimpArgs false
set_option maxRecDepth 100000
set_option exponentiation.threshold 100000
set_option maxHeartbeats 2000000

abbrev shSI : Sh := .pair shSample (.pair tI .unit)
abbrev shSL : Sh := .pair shSample (.pair tIS .unit)

theorem s_DrawRunPerceptron_ok {code : List Int} (hc : IsCode code) : ∃ s r, FitS s ∧ orc.pc n_s_DrawRunPerceptron [.d tB code] ⟨shSI, .pr shSample.full .fz, (s, r, ())⟩ := by
  obtain ⟨d, u1, c1, hd, t1⟩ := space_0_7 hc (n := 0) (by omega) (.mk 0 0 (Nat.le_refl _))
  obtain ⟨a1, s1, h1⟩ := t1
  obtain ⟨D, rfl, hD⟩ : ∃ D : Nat, d = D ∧ D ≤ 8 := ⟨d.toNat, by omega, by omega⟩
  obtain ⟨r, ⟨s, rr, hs, rfl⟩, h⟩ : ∃ r, (∃ s rr, FitS s ∧ r = (⟨shSI, .pr shSample.full .fz, (s, rr, ())⟩ : Pk)) ∧ orc.pc n_s_DrawRunPerceptron [.d tB code] r := by
    refine ex_fun (fun r h => p_s_DrawRunPerceptron true rfl rfl h) ?_
    conv => whnf
    refine ⟨_, _, c1.at ⟨_, rfl, rfl, rfl⟩, ?_⟩
    conv => whnf
    refine ic_at (k := 0) (t := 7) ⟨_, rfl, rfl, rfl⟩ (fun P C => someSample_0_7 hc (n := 2) (by omega) (.mk a1 s1 h1) D hD 8 C) ?_
    rintro _ _ ⟨p, rfl, ⟨hp, _, _, _⟩, ⟨a2, s2, h2⟩⟩
    obtain ⟨rr, u3, c3, t3⟩ := rounds3_0_7 hc (n := 2 + 1000) (by omega) (.mk a2 s2 h2)
    obtain ⟨a3, s3, h3⟩ := t3
    conv => whnf
    refine ⟨_, _, c3.at ⟨_, rfl, rfl, rfl⟩, ?_⟩
    conv => whnf
    exact ⟨_, _, rfl, .inl rfl, p, rr, hp, rfl⟩
  exact ⟨s, rr, hs, h⟩

theorem s_DrawPlaneOfCounts_ok {code : List Int} (hc : IsCode code) : ∃ s l, (FitS s ∧ l.length ≤ 1048576) ∧ orc.pc n_s_DrawPlaneOfCounts [.d tB code] ⟨shSL, .pr shSample.full (.pr (.ow .fz) .fz), (s, l, ())⟩ := by
  obtain ⟨d, u1, c1, hd, t1⟩ := space_0_12 hc (n := 0) (by omega) (.mk 0 0 (Nat.le_refl _))
  obtain ⟨a1, s1, h1⟩ := t1
  obtain ⟨D, rfl, hD⟩ : ∃ D : Nat, d = D ∧ D ≤ 8 := ⟨d.toNat, by omega, by omega⟩
  obtain ⟨r, ⟨s, rr, hs, rfl⟩, h⟩ : ∃ r, (∃ s l, (FitS s ∧ l.length ≤ 1048576) ∧ r = (⟨shSL, .pr shSample.full (.pr (.ow .fz) .fz), (s, l, ())⟩ : Pk)) ∧ orc.pc n_s_DrawPlaneOfCounts [.d tB code] r := by
    refine ex_fun (fun r h => p_s_DrawPlaneOfCounts true rfl rfl h) ?_
    conv => whnf
    refine ⟨_, _, c1.at ⟨_, rfl, rfl, rfl⟩, ?_⟩
    conv => whnf
    refine ic_at (k := 0) (t := 12) ⟨_, rfl, rfl, rfl⟩ (fun P C => someSample_0_12 hc (n := 2) (by omega) (.mk a1 s1 h1) D hD 8 C) ?_
    rintro _ _ ⟨p, rfl, ⟨hp, hp1, hp2, hp3⟩, ⟨a2, s2, h2⟩⟩
    have hdl : (dualR p 3).1.length ≤ 1048576 := by
      unfold dualR
      split
      · rw [cnt_length]; omega
      · simp
    conv => whnf
    refine ⟨_, s_DualCounts_ok p 3 hp, (by first | exact (fun _ => rfl) | exact (fun h => Bool.noConfusion h)), ?_⟩
    conv => whnf
    cases hb : (dualR p 3).2.1 with
    | true =>
      obtain ⟨r3, u3, c3, t3⟩ := one_0_12 hc (n := 2 + 1000) (by omega) (.mk a2 s2 h2) 2
      obtain ⟨a3, s3, h3⟩ := t3
      have q0 : ((dualR p 3).2.1 == true) = true := by rw [hb]; rfl
      repeat ((first | refine cond_f (sc1 _) ?_ | refine cond_t (sc2 _) ?_ | refine cond_t q0 ?_ | refine cond_f (hT q0) ?_ | refine cond_t (gT q0) ?_); conv => whnf)
      refine ⟨_, _, c3.at ⟨_, rfl, rfl, rfl⟩, ?_⟩
      conv => whnf
      repeat ((first | refine cond_f (sc1 _) ?_ | refine cond_t (sc2 _) ?_ | refine cond_t q0 ?_ | refine cond_f (hT q0) ?_ | refine cond_t (gT q0) ?_); conv => whnf)
      cases r3 with
      | true =>
        conv => whnf
        exact ⟨_, _, rfl, .inl rfl, p, _, ⟨hp, hdl⟩, rfl⟩
      | false =>
        conv => whnf
        refine loop_ups (X := Int × List Int × Nat × Int) (fun (i, l, a, sd) => [⟨0, 9, false, .d tI i⟩, ⟨0, 8, false, .own tI .fz l⟩, ⟨0, 12, true, .pair .unit (.pair (.d tB code) (.pair (.d tI (a : Int)) (.pair (.d t64 sd) .unit)))⟩]) (fun (i, _, _, _) => p.1.length - i.toNat)
          (fun (i, l, a, sd) => ∃ m : Nat, i = m ∧ m ≤ p.1.length ∧ l.length = m ∧ a ≤ (2 + 1000 + 2) + 2 * m) (0, [], a3, s3) ?_ ⟨0, rfl, by omega, rfl, by omega⟩ ?_
        · refine st_eq ?_
          conv => whnf
          exact ⟨rfl⟩
        rintro ⟨_, l, a, sd⟩ ⟨m, rfl, hm, hl, ha⟩
        conv => whnf
        refine cond_intro (fun h => ?_) (fun h => ?_)
        · have h : m < p.1.length := by have := of_decide_eq_true h; exact Int.ofNat_lt.1 this
          obtain ⟨r5, u5, c5, b5, t5⟩ := pick_0_12 hc (n := (2 + 1000 + 2) + 2 * m) (by omega) (.mk a sd ha) 3
          obtain ⟨a5, s5, h5⟩ := t5
          conv => whnf
          refine ⟨_, _, c5.at ⟨_, rfl, rfl, rfl⟩, ?_⟩
          conv => whnf
          refine ⟨⟨room_snoc (by omega) (by decide), len_snoc (by omega)⟩, ?_⟩
          conv => whnf
          refine ⟨(_, _, _, _), rfl, ⟨m + 1, wrap_succ h (by unfold Short; omega), by omega, (List.length_append ..).trans (by rw [hl]; rfl), by omega⟩, ?_⟩
          rw [wrap_succ h (by unfold Short; omega)]; simp; omega
        have h : ¬ m < p.1.length := fun e => of_decide_eq_false h (Int.ofNat_lt.2 e)
        conv => whnf
        cases hz : decide ((l.length : Int) > 0) with
        | true =>
          have q1 : (decide ((l.length : Int) > 0) == true) = true := by rw [hz]; rfl
          have hl0 : 0 < l.length := by have := of_decide_eq_true hz; omega
          obtain ⟨r6, u6, c6, t6⟩ := one_0_12 hc (n := (2 + 1000 + 2) + 2 * m) (by omega) (.mk a sd ha) 16
          obtain ⟨a6, s6, h6⟩ := t6
          repeat ((first | refine cond_f (sc1 _) ?_ | refine cond_t (sc2 _) ?_ | refine cond_t q1 ?_ | refine cond_f (hT q1) ?_ | refine cond_t (gT q1) ?_); conv => whnf)
          refine ⟨_, _, c6.at ⟨_, rfl, rfl, rfl⟩, ?_⟩
          conv => whnf
          repeat ((first | refine cond_f (sc1 _) ?_ | refine cond_t (sc2 _) ?_ | refine cond_t q1 ?_ | refine cond_f (hT q1) ?_ | refine cond_t (gT q1) ?_); conv => whnf)
          cases r6 with
          | true =>
            obtain ⟨r7, u7, c7, m7, t7⟩ := among_0_12 hc (n := (2 + 1000 + 2) + 2 * m + 2) (by omega) (.mk a6 s6 h6) ⟨⟨0, 51, false⟩, []⟩ [-1, 999, 1000] (by simp)
            obtain ⟨a7, s7, h7⟩ := t7
            conv => whnf
            refine ⟨_, _, c7.at ⟨_, rfl, rfl, rfl⟩ (by intro _; exact rfl), ?_⟩
            conv => whnf
            refine ⟨⟨Int.le_refl _, Int.ofNat_lt.2 hl0⟩, ?_⟩
            conv => whnf
            refine ⟨hl0, ?_⟩
            conv => whnf
            exact ⟨_, _, rfl, .inl rfl, p, _, ⟨hp, by show (l.set _ _).length ≤ _; rw [List.length_set]; show l.length ≤ 1048576; omega⟩, rfl⟩
          | false =>
            conv => whnf
            exact ⟨_, _, rfl, .inl rfl, p, _, ⟨hp, show l.length ≤ 1048576 by omega⟩, rfl⟩
        | false =>
          have q1 : (decide ((l.length : Int) > 0) == true) = false := by rw [hz]; rfl
          repeat ((first | refine cond_f (sc1 _) ?_ | refine cond_t (sc2 _) ?_ | refine cond_f q1 ?_ | refine cond_t (hF q1) ?_ | refine cond_f (gF q1) ?_); conv => whnf)
          exact ⟨_, _, rfl, .inl rfl, p, _, ⟨hp, show l.length ≤ 1048576 by omega⟩, rfl⟩
    | false =>
      have q0 : ((dualR p 3).2.1 == true) = false := by rw [hb]; rfl
      repeat ((first | refine cond_f (sc1 _) ?_ | refine cond_t (sc2 _) ?_ | refine cond_f q0 ?_ | refine cond_t (hF q0) ?_ | refine cond_f (gF q0) ?_); conv => whnf)
      conv => whnf
      refine loop_ups (X := Int × List Int × Nat × Int) (fun (i, l, a, sd) => [⟨0, 9, false, .d tI i⟩, ⟨0, 8, false, .own tI .fz l⟩, ⟨0, 12, true, .pair .unit (.pair (.d tB code) (.pair (.d tI (a : Int)) (.pair (.d t64 sd) .unit)))⟩]) (fun (i, _, _, _) => p.1.length - i.toNat)
        (fun (i, l, a, sd) => ∃ m : Nat, i = m ∧ m ≤ p.1.length ∧ l.length = m ∧ a ≤ (2 + 1000) + 2 * m) (0, [], a2, s2) ?_ ⟨0, rfl, by omega, rfl, by omega⟩ ?_
      · refine st_eq ?_
        conv => whnf
        exact ⟨rfl⟩
      rintro ⟨_, l, a, sd⟩ ⟨m, rfl, hm, hl, ha⟩
      conv => whnf
      refine cond_intro (fun h => ?_) (fun h => ?_)
      · have h : m < p.1.length := by have := of_decide_eq_true h; exact Int.ofNat_lt.1 this
        obtain ⟨r5, u5, c5, b5, t5⟩ := pick_0_12 hc (n := (2 + 1000) + 2 * m) (by omega) (.mk a sd ha) 3
        obtain ⟨a5, s5, h5⟩ := t5
        conv => whnf
        refine ⟨_, _, c5.at ⟨_, rfl, rfl, rfl⟩, ?_⟩
        conv => whnf
        refine ⟨⟨room_snoc (by omega) (by decide), len_snoc (by omega)⟩, ?_⟩
        conv => whnf
        refine ⟨(_, _, _, _), rfl, ⟨m + 1, wrap_succ h (by unfold Short; omega), by omega, (List.length_append ..).trans (by rw [hl]; rfl), by omega⟩, ?_⟩
        rw [wrap_succ h (by unfold Short; omega)]; simp; omega
      have h : ¬ m < p.1.length := fun e => of_decide_eq_false h (Int.ofNat_lt.2 e)
      conv => whnf
      cases hz : decide ((l.length : Int) > 0) with
      | true =>
        have q1 : (decide ((l.length : Int) > 0) == true) = true := by rw [hz]; rfl
        have hl0 : 0 < l.length := by have := of_decide_eq_true hz; omega
        obtain ⟨r6, u6, c6, t6⟩ := one_0_12 hc (n := (2 + 1000) + 2 * m) (by omega) (.mk a sd ha) 16
        obtain ⟨a6, s6, h6⟩ := t6
        repeat ((first | refine cond_f (sc1 _) ?_ | refine cond_t (sc2 _) ?_ | refine cond_t q1 ?_ | refine cond_f (hT q1) ?_ | refine cond_t (gT q1) ?_); conv => whnf)
        refine ⟨_, _, c6.at ⟨_, rfl, rfl, rfl⟩, ?_⟩
        conv => whnf
        repeat ((first | refine cond_f (sc1 _) ?_ | refine cond_t (sc2 _) ?_ | refine cond_t q1 ?_ | refine cond_f (hT q1) ?_ | refine cond_t (gT q1) ?_); conv => whnf)
        cases r6 with
        | true =>
          obtain ⟨r7, u7, c7, m7, t7⟩ := among_0_12 hc (n := (2 + 1000) + 2 * m + 2) (by omega) (.mk a6 s6 h6) ⟨⟨0, 51, false⟩, []⟩ [-1, 999, 1000] (by simp)
          obtain ⟨a7, s7, h7⟩ := t7
          conv => whnf
          refine ⟨_, _, c7.at ⟨_, rfl, rfl, rfl⟩ (by intro _; exact rfl), ?_⟩
          conv => whnf
          refine ⟨⟨Int.le_refl _, Int.ofNat_lt.2 hl0⟩, ?_⟩
          conv => whnf
          refine ⟨hl0, ?_⟩
          conv => whnf
          exact ⟨_, _, rfl, .inl rfl, p, _, ⟨hp, by show (l.set _ _).length ≤ _; rw [List.length_set]; show l.length ≤ 1048576; omega⟩, rfl⟩
        | false =>
          conv => whnf
          exact ⟨_, _, rfl, .inl rfl, p, _, ⟨hp, show l.length ≤ 1048576 by omega⟩, rfl⟩
      | false =>
        have q1 : (decide ((l.length : Int) > 0) == true) = false := by rw [hz]; rfl
        repeat ((first | refine cond_f (sc1 _) ?_ | refine cond_t (sc2 _) ?_ | refine cond_f q1 ?_ | refine cond_t (hF q1) ?_ | refine cond_f (gF q1) ?_); conv => whnf)
        exact ⟨_, _, rfl, .inl rfl, p, _, ⟨hp, show l.length ≤ 1048576 by omega⟩, rfl⟩
  exact ⟨s, rr, hs, h⟩

end Go.Proofs.Ytlndfmmigndgeaa.Ev
