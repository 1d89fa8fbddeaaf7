/- Nets: layers of their own, valid nets in the specification, the net that gives the other numbers. -/
import Derived.Test.YtcpepepdinkioaaFnNB
namespace Go.Proofs.Ytcpepepdinkioaa.Ev
open Go
set_option linter.unusedVariables false
set_option linter.unusedSimpArgs false
set_option maxRecDepth 100000
set_option exponentiation.threshold 100000

theorem i_own_ok (l : List Plane) (hl : FitP l) : orc.pc n_i_own [.d shPlS l] ⟨shPlS, shPlS.full, l⟩ := by
  have hn := hl.n
  refine p_i_own true rfl rfl ?_
  conv => whnf
  refine loop_ups (X := Int × List Plane) (fun (i, o) => [⟨0, 9, false, .d tI i⟩, ⟨0, 3, false, .own shPlane oPl o⟩]) (fun (i, _) => l.length - i.toNat) (fun (i, o) => ∃ n : Nat, i = n ∧ n ≤ l.length ∧ o = l.take n) (0, []) ?_ ⟨0, rfl, by omega, by simp⟩ ?_
  · refine st_eq ?_
    conv => whnf
    exact ⟨rfl⟩
  rintro ⟨_, _⟩ ⟨n, rfl, hm, rfl⟩
  have hlt : (l.take n).length = n := by simp; omega
  conv => whnf
  refine cond_intro (fun h => ?_) (fun h => ?_)
  · have h : n < l.length := by simpa using h
    conv => whnf
    refine ⟨⟨Int.natCast_nonneg _, Int.ofNat_lt.2 h⟩, ?_⟩
    conv => whnf
    refine ⟨_, i_copied_ok _ (hl.at h _), (by first | exact (fun _ => rfl) | exact (fun h => Bool.noConfusion h)), ?_⟩
    conv => whnf
    refine ⟨⟨room_snoc (by omega) (by decide), len_snoc (by omega)⟩, ?_⟩
    conv => whnf
    refine ⟨(_, _), rfl, ⟨n + 1, wrap_succ h (by unfold Short; omega), by omega, ?_⟩, ?_⟩
    · exact (take_getD l h shPlane.dflt).symm
    · rw [wrap_succ h (by unfold Short; omega)]; simp; omega
  · have h : ¬ n < l.length := by simpa using h
    conv => whnf
    exact ⟨_, _, rfl, .inl rfl, fin1 (by rw [List.take_of_length_le (by omega)])⟩

theorem s_l9Own_ok (t : Net) (ht : FitPP t.2.1) : orc.pc n_s_l9Own [.d shNet t] ⟨shNet, shNet.full, t⟩ := by
  have hn := ht.n
  refine p_s_l9Own true rfl rfl ?_
  conv => whnf
  refine loop_ups (X := Int × List (List Plane)) (fun (i, o) => [⟨0, 4, false, .d tI i⟩, ⟨0, 3, true, .pair .unit (.pair (.d tI t.1) (.pair (.own shPlS (.ow oPl) o) .unit))⟩]) (fun (i, _) => t.2.1.length - i.toNat) (fun (i, o) => ∃ n : Nat, i = n ∧ n ≤ t.2.1.length ∧ o = t.2.1.take n) (0, []) ?_ ⟨0, rfl, by omega, by simp⟩ ?_
  · refine st_eq ?_
    conv => whnf
    exact ⟨rfl⟩
  rintro ⟨_, _⟩ ⟨n, rfl, hm, rfl⟩
  have hlt : (t.2.1.take n).length = n := by simp; omega
  conv => whnf
  refine cond_intro (fun h => ?_) (fun h => ?_)
  · have h : n < t.2.1.length := by simpa using h
    have hx := ht.at h (Sh.dflt shPlS)
    have hxn := hx.n
    conv => whnf
    refine loop_ups (X := Int × List Plane) (fun (i, o) => [⟨0, 6, false, .d tI i⟩, ⟨0, 5, false, .own shPlane oPl o⟩]) (fun (i, _) => (t.2.1.getD n (Sh.dflt shPlS)).length - i.toNat) (fun (i, o) => ∃ m : Nat, i = m ∧ m ≤ (t.2.1.getD n (Sh.dflt shPlS)).length ∧ o = (t.2.1.getD n (Sh.dflt shPlS)).take m) (0, []) ?_ ⟨0, rfl, by omega, by simp⟩ ?_
    · refine st_eq ?_
      conv => whnf
      exact ⟨rfl⟩
    rintro ⟨_, _⟩ ⟨m, rfl, hmm, rfl⟩
    have hlm : ((t.2.1.getD n (Sh.dflt shPlS)).take m).length = m := by simp only [List.length_take]; omega
    conv => whnf
    refine ⟨⟨Int.natCast_nonneg _, Int.ofNat_lt.2 h⟩, ?_⟩
    conv => whnf
    refine cond_intro (fun k0 => ?_) (fun k0 => ?_)
    · have k : m < (t.2.1.getD n (Sh.dflt shPlS)).length := by have := of_decide_eq_true k0; exact Int.ofNat_lt.1 this
      conv => whnf
      refine ⟨⟨Int.natCast_nonneg _, Int.ofNat_lt.2 h⟩, ?_⟩
      conv => whnf
      refine ⟨⟨Int.natCast_nonneg _, Int.ofNat_lt.2 k⟩, ?_⟩
      conv => whnf
      refine ⟨_, s_l1Own_ok _ (hx.at k _), (by first | exact (fun _ => rfl) | exact (fun h => Bool.noConfusion h)), ?_⟩
      conv => whnf
      refine ⟨⟨Int.natCast_nonneg _, Int.ofNat_lt.2 h⟩, ?_⟩
      conv => whnf
      refine ⟨⟨Int.natCast_nonneg _, Int.ofNat_lt.2 k⟩, ?_⟩
      conv => whnf
      refine ⟨⟨room_snoc (by omega) (by decide), len_snoc (by omega)⟩, ?_⟩
      conv => whnf
      refine ⟨(_, _), rfl, ⟨m + 1, wrap_succ k (by unfold Short; omega), by omega, ?_⟩, ?_⟩
      · exact (take_getD (t.2.1.getD n (Sh.dflt shPlS)) k shPlane.dflt).symm
      · rw [wrap_succ k (by unfold Short; omega)]; simp only [Int.toNat_natCast]; omega
    · have k : m = (t.2.1.getD n (Sh.dflt shPlS)).length := by
        have := of_decide_eq_false k0
        have this : ¬ ((m : Int) < ((t.2.1.getD n (Sh.dflt shPlS)).length : Int)) := this
        omega
      have et : (t.2.1.getD n (Sh.dflt shPlS)).take m = t.2.1.getD n (Sh.dflt shPlS) := List.take_of_length_le (by omega)
      rw [et]
      conv => whnf
      refine ⟨⟨room_snoc (by omega) (by decide), len_snoc (by omega)⟩, ?_⟩
      conv => whnf
      refine ⟨(_, _), rfl, ⟨n + 1, wrap_succ h (by unfold Short; omega), by omega, ?_⟩, ?_⟩
      · exact (take_getD t.2.1 h (Sh.dflt shPlS)).symm
      · rw [wrap_succ h (by unfold Short; omega)]; simp; omega
  · have h : ¬ n < t.2.1.length := by simpa using h
    conv => whnf
    exact ⟨_, _, rfl, .inl rfl, fin1 (by rw [List.take_of_length_le (by omega)])⟩

theorem s_l9Good_ok (t : Net) (ht : FitPP t.2.1) : orc.pc n_s_l9Good [.d shNet t] ⟨.bool, .fz, isNet t⟩ := by
  have htn := ht.n
  refine p_s_l9Good true rfl rfl ?_
  conv => whnf
  refine ⟨_, s_l1In_ok _ _ _, (by first | exact (fun _ => rfl) | exact (fun h => Bool.noConfusion h)), ?_⟩
  conv => whnf
  refine cond_intro (fun q0 => ?_) (fun q0 => ?_)
  · have q : inB t.1 1 4 = true := by simpa using q0
    conv => whnf
    repeat ((first | refine cond_t q0 ?_ | refine cond_f (hT q0) ?_ | refine cond_t (gT q0) ?_); conv => whnf)
    refine ⟨_, s_l1In_ok _ _ _, (by first | exact (fun _ => rfl) | exact (fun h => Bool.noConfusion h)), ?_⟩
    conv => whnf
    repeat ((first | refine cond_t q0 ?_ | refine cond_f (hT q0) ?_ | refine cond_t (gT q0) ?_); conv => whnf)
    refine cond_intro (fun r0 => ?_) (fun r0 => ?_)
    · have r : inB t.2.1.length 1 6 = false := not_true r0
      rw [show isNet t = false by unfold isNet; rw [q, r]; rfl]
      conv => whnf
      exact ⟨_, _, rfl, .inl rfl, rfl⟩
    have r : inB t.2.1.length 1 6 = true := not_false r0
    have base : isNet t = okLayers t.1 t.2.1 := by unfold isNet; rw [q, r]; rfl
    conv => whnf
    refine loop_ups (X := Int × Int) (fun (i, w) => [⟨0, 4, false, .d tI i⟩, ⟨0, 3, false, .d tI w⟩]) (fun (i, _) => t.2.1.length - i.toNat) (fun (i, w) => ∃ n : Nat, i = n ∧ n ≤ t.2.1.length ∧ isNet t = okLayers w (t.2.1.drop n)) (0, t.1) ?_ ⟨0, rfl, by omega, base⟩ ?_
    · refine st_eq ?_
      conv => whnf
      exact ⟨rfl⟩
    rintro ⟨_, w⟩ ⟨n, rfl, hn, hi⟩
    conv => whnf
    refine cond_intro (fun g0 => ?_) (fun g0 => ?_)
    · have g : n < t.2.1.length := by have := of_decide_eq_true g0; exact Int.ofNat_lt.1 this
      rw [drop_getD t.2.1 g (Sh.dflt shPlS)] at hi
      have hx := ht.at g (Sh.dflt shPlS)
      have hxn := hx.n
      conv => whnf
      refine loop_ups (X := Int) (fun i => [⟨0, 5, false, .d tI i⟩]) (fun i => (t.2.1.getD n (Sh.dflt shPlS)).length - i.toNat) (fun i => ∃ m : Nat, i = m ∧ m ≤ (t.2.1.getD n (Sh.dflt shPlS)).length ∧ (t.2.1.getD n (Sh.dflt shPlS)).all (okGate w) = ((t.2.1.getD n (Sh.dflt shPlS)).drop m).all (okGate w)) 0 ?_ ⟨0, rfl, by omega, rfl⟩ ?_
      · refine st_eq ?_
        conv => whnf
        exact ⟨rfl⟩
      rintro _ ⟨m, rfl, hm, hj⟩
      conv => whnf
      refine ⟨⟨Int.natCast_nonneg _, Int.ofNat_lt.2 g⟩, ?_⟩
      conv => whnf
      refine cond_intro (fun k0 => ?_) (fun k0 => ?_)
      · have k : m < (t.2.1.getD n (Sh.dflt shPlS)).length := by have := of_decide_eq_true k0; exact Int.ofNat_lt.1 this
        conv => whnf
        refine ⟨⟨Int.natCast_nonneg _, Int.ofNat_lt.2 g⟩, ?_⟩
        conv => whnf
        refine ⟨⟨Int.natCast_nonneg _, Int.ofNat_lt.2 k⟩, ?_⟩
        conv => whnf
        refine ⟨_, s_l2Plane_ok _ (hx.at k _), (by first | exact (fun _ => rfl) | exact (fun h => Bool.noConfusion h)), ?_⟩
        conv => whnf
        refine cond_intro (fun y0 => ?_) (fun y0 => ?_)
        · have y : isPlane ((t.2.1.getD n (Sh.dflt shPlS)).getD m shPlane.dflt) = true := by
            have : (!isPlane ((t.2.1.getD n (Sh.dflt shPlS)).getD m shPlane.dflt)) = false := by simpa using y0
            exact not_false this
          conv => whnf
          repeat ((first | refine cond_t y0 ?_ | refine cond_f (hT y0) ?_ | refine cond_t (gT y0) ?_); conv => whnf)
          refine ⟨⟨Int.natCast_nonneg _, Int.ofNat_lt.2 g⟩, ?_⟩
          conv => whnf
          repeat ((first | refine cond_t y0 ?_ | refine cond_f (hT y0) ?_ | refine cond_t (gT y0) ?_); conv => whnf)
          refine ⟨⟨Int.natCast_nonneg _, Int.ofNat_lt.2 k⟩, ?_⟩
          conv => whnf
          repeat ((first | refine cond_t y0 ?_ | refine cond_f (hT y0) ?_ | refine cond_t (gT y0) ?_); conv => whnf)
          refine cond_intro (fun z0 => ?_) (fun z0 => ?_)
          · have e : isNet t = false := by rw [hi]; simp only [okLayers, okLayer]; rw [hj, all_drop_no k (okGate_no2 z0)]; simp
            rw [e]
            conv => whnf
            exact ⟨_, _, rfl, .inl rfl, rfl⟩
          · rw [all_drop_yes k (okGate_yes y z0)] at hj
            conv => whnf
            refine ⟨_, rfl, ⟨m + 1, wrap_succ k (by unfold Short; omega), by omega, hj⟩, ?_⟩
            rw [wrap_succ k (by unfold Short; omega)]; simp only [Int.toNat_natCast]; omega
        · have y : isPlane ((t.2.1.getD n (Sh.dflt shPlS)).getD m shPlane.dflt) = false := by
            have : (!isPlane ((t.2.1.getD n (Sh.dflt shPlS)).getD m shPlane.dflt)) = true := by simpa using y0
            exact not_true this
          have e : isNet t = false := by rw [hi]; simp only [okLayers, okLayer]; rw [hj, all_drop_no k (okGate_no1 y)]; simp
          rw [e]
          conv => whnf
          repeat ((first | refine cond_f y0 ?_ | refine cond_t (hF y0) ?_ | refine cond_f (gF y0) ?_); conv => whnf)
          exact ⟨_, _, rfl, .inl rfl, rfl⟩
      · have k : m = (t.2.1.getD n (Sh.dflt shPlS)).length := by
          have := of_decide_eq_false k0
          have this : ¬ ((m : Int) < ((t.2.1.getD n (Sh.dflt shPlS)).length : Int)) := this
          omega
        rw [k, List.drop_length] at hj
        have hj : (t.2.1.getD n (Sh.dflt shPlS)).all (okGate w) = true := hj
        conv => whnf
        refine ⟨⟨Int.natCast_nonneg _, Int.ofNat_lt.2 g⟩, ?_⟩
        conv => whnf
        refine ⟨_, s_l1In_ok _ _ _, (by first | exact (fun _ => rfl) | exact (fun h => Bool.noConfusion h)), ?_⟩
        conv => whnf
        refine cond_intro (fun v0 => ?_) (fun v0 => ?_)
        · have v : inB (t.2.1.getD n (Sh.dflt shPlS)).length 1 4 = false := not_true v0
          rw [show isNet t = false by rw [hi]; simp only [okLayers, okLayer, v, Bool.false_and]]
          conv => whnf
          exact ⟨_, _, rfl, .inl rfl, rfl⟩
        have v : inB (t.2.1.getD n (Sh.dflt shPlS)).length 1 4 = true := not_false v0
        conv => whnf
        refine ⟨(_, _), rfl, ⟨n + 1, wrap_succ g (by unfold Short; omega), by omega, ?_⟩, ?_⟩
        · show isNet t = okLayers ((t.2.1.getD n (Sh.dflt shPlS)).length : Int) _
          rw [hi]; simp only [okLayers, okLayer, v, hj, Bool.true_and]
        · rw [wrap_succ g (by unfold Short; omega)]; simp; omega
    · have g : ¬ n < t.2.1.length := by
        have := of_decide_eq_false g0
        have this : ¬ ((n : Int) < (t.2.1.length : Int)) := this
        omega
      have e : isNet t = true := by rw [hi, drop_len g]; rfl
      rw [e]
      conv => whnf
      exact ⟨_, _, rfl, .inl rfl, rfl⟩
  · have q : inB t.1 1 4 = false := by simpa using q0
    rw [show isNet t = false by unfold isNet; rw [q]; rfl]
    conv => whnf
    repeat ((first | refine cond_f q0 ?_ | refine cond_t (hF q0) ?_ | refine cond_f (gF q0) ?_); conv => whnf)
    exact ⟨_, _, rfl, .inl rfl, rfl⟩

end Go.Proofs.Ytcpepepdinkioaa.Ev
