/- A net behind another one. -/
import Derived.Test.YtcpepepdinkioaaFnNH
namespace Go.Proofs.Ytcpepepdinkioaa.Ev
open Go
set_option linter.unusedVariables false
set_option linter.unusedSimpArgs false
set_option maxRecDepth 100000
set_option exponentiation.threshold 100000

def aftN (s t : Net) : Net := (s.1, s.2.1 ++ t.2.1, ())
def aftOk (s t : Net) : Bool := isNet s && (isNet t && (decide (t.1 = (lastL s).length) && decide (s.2.1.length + t.2.1.length ≤ 6)))
def aftR (s t : Net) : shNetB.den := if aftOk s t = true then (aftN s t, true, ()) else (zNet, false, ())
theorem aftR_no {s t : Net} (h : aftOk s t = false) : aftR s t = (zNet, false, ()) := by unfold aftR; rw [h]; rfl
theorem aftR_yes {s t : Net} (h : aftOk s t = true) : aftR s t = (aftN s t, true, ()) := by unfold aftR; rw [h]; rfl

theorem okLayers_app {b : List (List Plane)} : ∀ (a : List (List Plane)) (w : Int), a ≠ [] → okLayers w (a ++ b) = (okLayers w a && okLayers ((a.getD (a.length - 1) (Sh.dflt shPlS)).length : Nat) b) := by
  intro a
  induction a with
  | nil => intro w h; exact absurd rfl h
  | cons x r ih =>
    intro w _
    cases r with
    | nil => simp [okLayers]
    | cons y r =>
      have := ih (x.length : Nat) (by simp)
      show (okLayer w x && okLayers (x.length : Nat) ((y :: r) ++ b)) = ((okLayer w x && okLayers (x.length : Nat) (y :: r)) && _)
      rw [this, Bool.and_assoc]
      rfl
theorem isNet_after {s t : Net} (q : isNet s = true) (q2 : isNet t = true) (v : t.1 = (lastL s).length) : isNet (aftN s t) = decide (s.2.1.length + t.2.1.length ≤ 6) := by
  have n := net_len q
  have m := net_len q2
  unfold isNet at q q2 ⊢
  simp only [Bool.and_eq_true] at q q2
  obtain ⟨a1, a2, a3⟩ := q
  obtain ⟨b1, b2, b3⟩ := q2
  show (inB s.1 1 4 && (inB ((s.2.1 ++ t.2.1).length : Nat) 1 6 && okLayers s.1 (s.2.1 ++ t.2.1))) = _
  rw [okLayers_app s.2.1 s.1 (by intro e; rw [e] at n; simp at n), a1, a3]
  rw [v] at b3
  rw [show okLayers ((s.2.1.getD (s.2.1.length - 1) (Sh.dflt shPlS)).length : Nat) t.2.1 = true from b3, Bool.true_and, Bool.true_and, Bool.and_true, List.length_append]
  unfold inB
  rw [decide_eq_true (by omega), Bool.true_and, decide_eq_decide]
  omega

theorem fit_after {s t : Net} (hs : FitPP s.2.1) (ht : FitPP t.2.1) (q : isNet s = true) (q2 : isNet t = true) (hk : totPP s.2.1 + totPP t.2.1 ≤ 1099511627776) : FitPP (s.2.1 ++ t.2.1) := by
  have n := net_len q
  have m := net_len q2
  refine ⟨by rw [List.length_append]; omega, fun x hx => ?_, ?_⟩
  · rcases List.mem_append.1 hx with hx | hx
    · exact hs.w x hx
    · exact ht.w x hx
  · have : ∀ a b : List (List Plane), totPP (a ++ b) = totPP a + totPP b := by
      intro a b
      induction a with
      | nil => simp [totPP]
      | cons x a ih => simp only [List.cons_append, totPP, ih]; omega
    rw [this]; exact hk

theorem i_last_ok (t : Net) (ht : FitPP t.2.1) (n1 : 1 ≤ t.2.1.length) : orc.pc n_i_Net_last [.d shNet t] ⟨shPlS, .fz, lastL t⟩ := by
  have hn := ht.n
  have hll : t.2.1.length - 1 < t.2.1.length := by omega
  have hw : IntKind.i64.wrap ((t.2.1.length : Int) - 1) = ((t.2.1.length - 1 : Nat) : Int) := by rw [wrap_in (by omega) (by omega)]; omega
  refine p_i_Net_last true rfl rfl ?_
  conv => whnf
  rw [hw]
  refine ⟨⟨Int.natCast_nonneg _, Int.ofNat_lt.2 hll⟩, ?_⟩
  conv => whnf
  exact ⟨_, _, rfl, .inl rfl, rfl⟩

theorem s_AfterNet_ok (s t : Net) (hs : FitPP s.2.1) (ht : FitPP t.2.1) : orc.pc n_s_AfterNet [.d shNet s, .d shNet t] ⟨shNetB, oNetB, aftR s t⟩ := by
  refine p_s_AfterNet true rfl rfl ?_
  conv => whnf
  refine ⟨_, s_l9Good_ok s hs, (by first | exact (fun _ => rfl) | exact (fun h => Bool.noConfusion h)), ?_⟩
  conv => whnf
  cases q : isNet s with
  | false =>
    rw [aftR_no (by unfold aftOk; rw [q]; rfl)]
    conv => whnf
    exact ⟨_, _, rfl, .inl rfl, rfl⟩
  | true =>
  obtain ⟨n1, n6⟩ := net_len q
  have hll : s.2.1.length - 1 < s.2.1.length := by omega
  have hw : IntKind.i64.wrap ((s.2.1.length : Int) - 1) = ((s.2.1.length - 1 : Nat) : Int) := by rw [wrap_in (by omega) (by omega)]; omega
  conv => whnf
  refine ⟨_, s_l9Good_ok t ht, (by first | exact (fun _ => rfl) | exact (fun h => Bool.noConfusion h)), ?_⟩
  conv => whnf
  cases q2 : isNet t with
  | false =>
    rw [aftR_no (by unfold aftOk; rw [q, q2]; rfl)]
    conv => whnf
    exact ⟨_, _, rfl, .inl rfl, rfl⟩
  | true =>
  obtain ⟨m1, m6⟩ := net_len q2
  have hsum : IntKind.i64.wrap ((s.2.1.length : Int) + (t.2.1.length : Int)) = ((s.2.1.length + t.2.1.length : Nat) : Int) := by rw [wrap_in (by omega) (by omega)]; simp
  conv => whnf
  rw [hw]
  refine ⟨⟨Int.natCast_nonneg _, Int.ofNat_lt.2 hll⟩, ?_⟩
  conv => whnf
  refine cond_intro (fun v0 => ?_) (fun v0 => ?_)
  rotate_left
  · have v : ¬ t.1 = ((lastL s).length : Nat) := by
      have : ((t.1 != (((lastL s).length : Nat) : Int)) == false) = false := v0
      simpa using this
    rw [aftR_no (by unfold aftOk; rw [q, q2, decide_eq_false v]; rfl)]
    conv => whnf
    repeat ((first | refine cond_f v0 ?_ | refine cond_t (hF v0) ?_ | refine cond_f (gF v0) ?_); conv => whnf)
    exact ⟨_, _, rfl, .inl rfl, rfl⟩
  have v : t.1 = ((lastL s).length : Nat) := by
    have : ((t.1 != (((lastL s).length : Nat) : Int)) == false) = true := v0
    simpa using this
  conv => whnf
  repeat ((first | refine cond_t v0 ?_ | refine cond_f (hT v0) ?_ | refine cond_t (gT v0) ?_); conv => whnf)
  refine cond_intro (fun c0 => ?_) (fun c0 => ?_)
  · have c : ¬ s.2.1.length + t.2.1.length ≤ 6 := by
      have : IntKind.i64.wrap ((s.2.1.length : Int) + (t.2.1.length : Int)) > 6 := of_decide_eq_true c0
      rw [hsum] at this
      omega
    rw [aftR_no (by unfold aftOk; rw [q, q2, decide_eq_true v, decide_eq_false c]; rfl)]
    conv => whnf
    repeat ((first | refine cond_t v0 ?_ | refine cond_f (hT v0) ?_ | refine cond_t (gT v0) ?_ | refine cond_t c0 ?_ | refine cond_f (hT c0) ?_ | refine cond_t (gT c0) ?_); conv => whnf)
    exact ⟨_, _, rfl, .inl rfl, rfl⟩
  have c : s.2.1.length + t.2.1.length ≤ 6 := by
    have : ¬ IntKind.i64.wrap ((s.2.1.length : Int) + (t.2.1.length : Int)) > 6 := of_decide_eq_false c0
    rw [hsum] at this
    omega
  rw [aftR_yes (by unfold aftOk; rw [q, q2, decide_eq_true v, decide_eq_true c]; rfl)]
  conv => whnf
  repeat ((first | refine cond_t v0 ?_ | refine cond_f (hT v0) ?_ | refine cond_t (gT v0) ?_ | refine cond_f c0 ?_ | refine cond_t (hF c0) ?_ | refine cond_f (gF c0) ?_); conv => whnf)
  refine ⟨_, s_l9Own_ok s hs, (by first | exact (fun _ => rfl) | exact (fun h => Bool.noConfusion h)), ?_⟩
  conv => whnf
  refine ⟨_, s_l9Own_ok t ht, (by first | exact (fun _ => rfl) | exact (fun h => Bool.noConfusion h)), ?_⟩
  conv => whnf
  refine ⟨⟨by show (s.2.1.length + t.2.1.length) * 24 ≤ _; omega, by show s.2.1.length + t.2.1.length ≤ _; unfold maxLen; omega⟩, ?_⟩
  conv => whnf
  exact ⟨_, _, rfl, .inl rfl, rfl⟩

/-- What the layers are ahead of the round 'n'. -/
def aftL (s t : Net) : Nat → List (List Plane)
  | 0 => []
  | 1 => s.2.1
  | _ => s.2.1 ++ t.2.1
theorem i_AfterNet_ok (s t : Net) (hs : FitPP s.2.1) (ht : FitPP t.2.1) (hk : totPP s.2.1 + totPP t.2.1 ≤ 1099511627776) : orc.pc n_i_AfterNet [.d shNet s, .d shNet t] ⟨shNetB, oNetB, aftR s t⟩ := by
  refine p_i_AfterNet true rfl rfl ?_
  conv => whnf
  refine ⟨_, i_IsNet_ok s hs, (by first | exact (fun _ => rfl) | exact (fun h => Bool.noConfusion h)), ?_⟩
  conv => whnf
  cases q : isNet s with
  | false =>
    rw [aftR_no (by unfold aftOk; rw [q]; rfl)]
    conv => whnf
    exact ⟨_, _, rfl, .inl rfl, rfl⟩
  | true =>
  obtain ⟨n1, n6⟩ := net_len q
  conv => whnf
  refine ⟨_, i_IsNet_ok t ht, (by first | exact (fun _ => rfl) | exact (fun h => Bool.noConfusion h)), ?_⟩
  conv => whnf
  cases q2 : isNet t with
  | false =>
    rw [aftR_no (by unfold aftOk; rw [q, q2]; rfl)]
    conv => whnf
    exact ⟨_, _, rfl, .inl rfl, rfl⟩
  | true =>
  obtain ⟨m1, m6⟩ := net_len q2
  conv => whnf
  refine ⟨_, i_last_ok s hs n1, (by first | exact (fun _ => rfl) | exact (fun h => Bool.noConfusion h)), ?_⟩
  conv => whnf
  refine cond_intro (fun v0 => ?_) (fun v0 => ?_)
  · have v : ¬ t.1 = ((lastL s).length : Nat) := by
      have : ((t.1 != (((lastL s).length : Nat) : Int))) = true := v0
      simpa using this
    rw [aftR_no (by unfold aftOk; rw [q, q2, decide_eq_false v]; rfl)]
    conv => whnf
    repeat ((first | refine cond_t v0 ?_ | refine cond_f (hT v0) ?_ | refine cond_t (gT v0) ?_); conv => whnf)
    exact ⟨_, _, rfl, .inl rfl, rfl⟩
  have v : t.1 = ((lastL s).length : Nat) := by
    have : ((t.1 != (((lastL s).length : Nat) : Int))) = false := v0
    simpa using this
  have hj := isNet_after q q2 v
  have base : aftOk s t = decide (s.2.1.length + t.2.1.length ≤ 6) := by unfold aftOk; rw [q, q2, decide_eq_true v]; rfl
  conv => whnf
  repeat ((first | refine cond_f v0 ?_ | refine cond_t (hF v0) ?_ | refine cond_f (gF v0) ?_); conv => whnf)
  refine loop_ups (X := Int × List (List Plane)) (fun (i, o) => [⟨0, 36, false, .d tI i⟩, ⟨0, 6, true, .pair .unit (.pair (.d tI s.1) (.pair (.own shPlS (.ow oPl) o) .unit))⟩]) (fun (i, _) => 2 - i.toNat) (fun (i, o) => ∃ n : Nat, i = n ∧ n ≤ 2 ∧ o = aftL s t n) (0, []) ?_ ⟨0, rfl, by omega, rfl⟩ ?_
  · refine st_eq ?_
    conv => whnf
    exact ⟨rfl⟩
  rintro ⟨_, _⟩ ⟨n, rfl, hm, rfl⟩
  obtain rfl | rfl | rfl : n = 0 ∨ n = 1 ∨ n = 2 := by omega
  · conv => whnf
    refine ⟨⟨by decide, by decide⟩, ?_⟩
    conv => whnf
    refine loop_ups (X := Int × List (List Plane)) (fun (j, o) => [⟨0, 41, false, .d tI j⟩, ⟨0, 6, true, .pair .unit (.pair (.d tI s.1) (.pair (.own shPlS (.ow oPl) o) .unit))⟩]) (fun (j, _) => s.2.1.length - j.toNat) (fun (j, o) => ∃ m : Nat, j = m ∧ m ≤ s.2.1.length ∧ o = ([] : List (List Plane)) ++ s.2.1.take m) (0, ([] : List (List Plane))) ?_ ⟨0, rfl, by omega, by simp⟩ ?_
    · refine st_eq ?_
      conv => whnf
      exact ⟨rfl⟩
    rintro ⟨_, _⟩ ⟨m, rfl, hmm, rfl⟩
    have hlt : (([] : List (List Plane)) ++ s.2.1.take m).length ≤ 12 := by rw [List.length_append, List.length_take]; first | omega | (rw [List.length_nil]; omega)
    conv => whnf
    refine cond_intro (fun y0 => ?_) (fun y0 => ?_)
    · have y : m < s.2.1.length := by have := of_decide_eq_true y0; exact Int.ofNat_lt.1 this
      have hx := hs.at y (Sh.dflt shPlS)
      conv => whnf
      refine ⟨⟨Int.natCast_nonneg _, Int.ofNat_lt.2 y⟩, ?_⟩
      conv => whnf
      refine ⟨_, i_own_ok (s.2.1.getD m (Sh.dflt shPlS)) hx, (by first | exact (fun _ => rfl) | exact (fun h => Bool.noConfusion h)), ?_⟩
      conv => whnf
      refine ⟨⟨room_snoc (by omega) (by decide), len_snoc (by omega)⟩, ?_⟩
      conv => whnf
      refine ⟨(_, _), rfl, ⟨m + 1, wrap_succ y (by unfold Short; omega), by omega, ?_⟩, ?_⟩
      · rw [take_getD s.2.1 y (Sh.dflt shPlS), ← List.append_assoc]; rfl
      · rw [wrap_succ y (by unfold Short; omega)]; simp; omega
    · have y : m = s.2.1.length := by
        have := of_decide_eq_false y0
        have this : ¬ ((m : Int) < ((s.2.1.length : Nat) : Int)) := this
        omega
      conv => whnf
      refine ⟨(_, _), rfl, ⟨1, by decide, by omega, ?_⟩, (show 2 - (IntKind.i64.wrap (((0 : Nat) : Int) + 1)).toNat < 2 - ((0 : Nat) : Int).toNat by decide)⟩
      rw [y, List.take_length]; rfl
  · conv => whnf
    refine ⟨⟨by decide, by decide⟩, ?_⟩
    conv => whnf
    refine loop_ups (X := Int × List (List Plane)) (fun (j, o) => [⟨0, 41, false, .d tI j⟩, ⟨0, 6, true, .pair .unit (.pair (.d tI s.1) (.pair (.own shPlS (.ow oPl) o) .unit))⟩]) (fun (j, _) => t.2.1.length - j.toNat) (fun (j, o) => ∃ m : Nat, j = m ∧ m ≤ t.2.1.length ∧ o = s.2.1 ++ t.2.1.take m) (0, s.2.1) ?_ ⟨0, rfl, by omega, by simp⟩ ?_
    · refine st_eq ?_
      conv => whnf
      exact ⟨rfl⟩
    rintro ⟨_, _⟩ ⟨m, rfl, hmm, rfl⟩
    have hlt : (s.2.1 ++ t.2.1.take m).length ≤ 12 := by rw [List.length_append, List.length_take]; first | omega | (rw [List.length_nil]; omega)
    conv => whnf
    refine cond_intro (fun y0 => ?_) (fun y0 => ?_)
    · have y : m < t.2.1.length := by have := of_decide_eq_true y0; exact Int.ofNat_lt.1 this
      have hx := ht.at y (Sh.dflt shPlS)
      conv => whnf
      refine ⟨⟨Int.natCast_nonneg _, Int.ofNat_lt.2 y⟩, ?_⟩
      conv => whnf
      refine ⟨_, i_own_ok (t.2.1.getD m (Sh.dflt shPlS)) hx, (by first | exact (fun _ => rfl) | exact (fun h => Bool.noConfusion h)), ?_⟩
      conv => whnf
      refine ⟨⟨room_snoc (by omega) (by decide), len_snoc (by omega)⟩, ?_⟩
      conv => whnf
      refine ⟨(_, _), rfl, ⟨m + 1, wrap_succ y (by unfold Short; omega), by omega, ?_⟩, ?_⟩
      · rw [take_getD t.2.1 y (Sh.dflt shPlS), ← List.append_assoc]; rfl
      · rw [wrap_succ y (by unfold Short; omega)]; simp; omega
    · have y : m = t.2.1.length := by
        have := of_decide_eq_false y0
        have this : ¬ ((m : Int) < ((t.2.1.length : Nat) : Int)) := this
        omega
      conv => whnf
      refine ⟨(_, _), rfl, ⟨2, by decide, by omega, ?_⟩, (show 2 - (IntKind.i64.wrap (((1 : Nat) : Int) + 1)).toNat < 2 - ((1 : Nat) : Int).toNat by decide)⟩
      rw [y, List.take_length]; rfl
  · conv => whnf
    refine ⟨_, i_IsNet_ok (aftN s t) (fit_after hs ht q q2 hk), (by first | exact (fun _ => rfl) | exact (fun h => Bool.noConfusion h)), ?_⟩
    conv => whnf
    rw [hj, ← base]
    cases r : aftOk s t with
    | false =>
      rw [aftR_no r]
      conv => whnf
      exact ⟨_, _, rfl, .inl rfl, rfl⟩
    | true =>
      rw [aftR_yes r]
      conv => whnf
      exact ⟨_, _, rfl, .inl rfl, rfl⟩

end Go.Proofs.Ytcpepepdinkioaa.Ev
