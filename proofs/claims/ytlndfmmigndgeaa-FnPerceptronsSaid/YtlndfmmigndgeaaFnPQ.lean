/- Planes of counts. -/
import Derived.Test.YtlndfmmigndgeaaFnPF
namespace Go.Proofs.Ytlndfmmigndgeaa.Ev
open Go
set_option linter.unusedVariables false
set_option linter.unusedSimpArgs false
set_option maxRecDepth 100000
set_option exponentiation.threshold 100000
set_option maxHeartbeats 2000000

def pcOk (s : Sample) (c : List Int) : Bool := isSample s && (!(s.1.length == 0) && (c.length == s.1.length && c.all (inB · 0 999)))
def zeroP : Plane := ([], 0, ())
def pcR (s : Sample) (c : List Int) : Plane × Bool × Unit := if pcOk s c && isPlane (pcTo s c s.1.length) then (pcTo s c s.1.length, true, ()) else (zeroP, false, ())
theorem pcR_no {s : Sample} {c : List Int} (h : pcOk s c = false) : pcR s c = (zeroP, false, ()) := by unfold pcR; rw [h]; rfl
theorem pcR_bad {s : Sample} {c : List Int} (h : isPlane (pcTo s c s.1.length) = false) : pcR s c = (zeroP, false, ()) := by unfold pcR; rw [h]; simp
theorem pcR_yes {s : Sample} {c : List Int} (h : pcOk s c = true) (g : isPlane (pcTo s c s.1.length) = true) : pcR s c = (pcTo s c s.1.length, true, ()) := by unfold pcR; rw [h, g]; rfl
theorem pcOk_yes {s : Sample} {c : List Int} (h1 : isSample s = true) (h2 : s.1.length ≠ 0) (h3 : c.length = s.1.length) (h4 : c.all (inB · 0 999) = true) : pcOk s c = true := by unfold pcOk; rw [h1, h3, h4]; simp [h2]
theorem pcOk_1 {s : Sample} {c : List Int} (h1 : isSample s = false) : pcOk s c = false := by unfold pcOk; rw [h1]; rfl
theorem pcOk_2 {s : Sample} {c : List Int} (h1 : s.1.length = 0) : pcOk s c = false := by unfold pcOk; rw [h1]; simp
theorem pcOk_3 {s : Sample} {c : List Int} (h1 : c.length ≠ s.1.length) : pcOk s c = false := by unfold pcOk; simp [h1]
theorem pcOk_4 {s : Sample} {c : List Int} (h1 : c.all (inB · 0 999) = false) : pcOk s c = false := by unfold pcOk; rw [h1]; simp
abbrev shPB2 : Sh := .pair shPlane (.pair .bool .unit)

theorem i_PlaneOfCounts_ok (s : Sample) (c : List Int) (hs : FitS s) (hc : c.length ≤ 1048576) : orc.pc n_i_PlaneOfCounts [.d shSample s, .d tIS c] ⟨shPB2, .pr shPlane.full .fz, pcR s c⟩ := by
  refine p_i_PlaneOfCounts true rfl rfl ?_
  conv => whnf
  refine ⟨_, i_IsSample_ok _ hs, (by first | exact (fun _ => rfl) | exact (fun h => Bool.noConfusion h)), ?_⟩
  conv => whnf
  refine cond_intro (fun q0 => ?_) (fun q0 => ?_)
  · have q : isSample s = true := by simpa using q0
    conv => whnf
    repeat ((first | refine cond_t q0 ?_ | refine cond_f (hT q0) ?_ | refine cond_t (gT q0) ?_); conv => whnf)
    refine cond_intro (fun r0 => ?_) (fun r0 => ?_)
    · have hr : s.1.length ≠ 0 := by simp at r0; intro e; exact r0 (by simpa using e)
      have S := smp_of q hr
      conv => whnf
      repeat ((first | refine cond_t q0 ?_ | refine cond_f (hT q0) ?_ | refine cond_t (gT q0) ?_ | refine cond_t r0 ?_ | refine cond_f (hT r0) ?_ | refine cond_t (gT r0) ?_); conv => whnf)
      refine cond_intro (fun z0 => ?_) (fun z0 => ?_)
      · have hz : c.length = s.1.length := by simp at z0; omega
        conv => whnf
        repeat ((first | refine cond_t q0 ?_ | refine cond_f (hT q0) ?_ | refine cond_t (gT q0) ?_ | refine cond_t r0 ?_ | refine cond_f (hT r0) ?_ | refine cond_t (gT r0) ?_ | refine cond_t z0 ?_ | refine cond_f (hT z0) ?_ | refine cond_t (gT z0) ?_); conv => whnf)
        refine ⟨_, i_allWithin_ok c 0 999 hc, (by first | exact (fun _ => rfl) | exact (fun h => Bool.noConfusion h)), ?_⟩
        conv => whnf
        repeat ((first | refine cond_t q0 ?_ | refine cond_f (hT q0) ?_ | refine cond_t (gT q0) ?_ | refine cond_t r0 ?_ | refine cond_f (hT r0) ?_ | refine cond_t (gT r0) ?_ | refine cond_t z0 ?_ | refine cond_f (hT z0) ?_ | refine cond_t (gT z0) ?_); conv => whnf)
        refine cond_intro (fun t0 => ?_) (fun t0 => ?_)
        · rw [pcR_no (pcOk_4 (not_true t0))]
          conv => whnf
          exact ⟨_, _, rfl, .inl rfl, rfl⟩
        have hok := pcOk_yes q hr hz (not_false t0)
        have few := S.run.few
        conv => whnf
        refine ⟨⟨by omega, by omega⟩, ?_⟩
        conv => whnf
        refine ⟨room_make (Int.natCast_nonneg _) (Int.ofNat_le.2 (Nat.le_trans S.run.small (by decide : (4 : Nat) ≤ 1048577))) (by decide), ?_⟩
        conv => whnf
        refine loop_ups (X := Int × List Int × Int) (fun (i, w, b) => [⟨0, 45, false, .d tI i⟩, ⟨0, 6, true, .pair .unit (.pair (.own tI .fz w) (.pair (.d tI b) .unit))⟩]) (fun (i, _, _) => s.1.length - i.toNat)
          (fun (i, w, b) => ∃ m : Nat, i = m ∧ m ≤ s.1.length ∧ pcTo s c m = (w, b, ())) (0, List.replicate (s.1.getD 0 tIS.dflt).length 0, 0) ?_ ⟨0, rfl, by omega, rfl⟩ ?_
        · refine st_eq ?_
          conv => whnf
          exact ⟨rfl⟩
        rintro ⟨_, w, b⟩ ⟨m, rfl, hm, hp⟩
        have hwl : w.length = (s.1.getD 0 tIS.dflt).length := by have := pcTo_len s c m; rw [hp] at this; exact this
        conv => whnf
        refine cond_intro (fun h => ?_) (fun h => ?_)
        · have h : m < s.1.length := by have := of_decide_eq_true h; exact Int.ofNat_lt.1 this
          have hx : (s.1.getD m tIS.dflt).length = w.length := by rw [S.run.w m h, hwl]
          have hsm : w.length ≤ 4 := by rw [hwl]; exact S.run.small
          have hnext : pcTo s c (m + 1) = (addW w (s.1.getD m tIS.dflt) (IntKind.i64.wrap (s.2.1.getD m tI.dflt * c.getD m tI.dflt)), IntKind.i64.wrap (b - IntKind.i64.wrap (s.2.1.getD m tI.dflt * c.getD m tI.dflt)), ()) := by
            show stepTo (pcTo s c m) _ _ = _
            rw [hp]; rfl
          conv => whnf
          refine ⟨⟨Int.natCast_nonneg _, Int.ofNat_lt.2 h⟩, ?_⟩
          conv => whnf
          refine ⟨⟨Int.natCast_nonneg _, Int.ofNat_lt.2 (by rw [S.run.lab]; exact h)⟩, ?_⟩
          conv => whnf
          refine ⟨⟨Int.natCast_nonneg _, Int.ofNat_lt.2 (by rw [hz]; exact h)⟩, ?_⟩
          conv => whnf
          refine loop_ups (X := Int × List Int) (fun (k, y) => [⟨0, 62, false, .d tI k⟩, ⟨0, 6, true, .pair .unit (.pair (.own tI .fz y) (.pair (.d tI b) .unit))⟩]) (fun (k, _) => (s.1.getD m tIS.dflt).length - k.toNat)
            (fun (k, y) => ∃ n : Nat, k = n ∧ y = addW (w.take n) ((s.1.getD m tIS.dflt).take n) (IntKind.i64.wrap (s.2.1.getD m tI.dflt * c.getD m tI.dflt)) ++ w.drop n ∧ n ≤ (s.1.getD m tIS.dflt).length) (0, w) ?_ ⟨0, rfl, rfl, by omega⟩ ?_
          · refine st_eq ?_
            conv => whnf
            exact ⟨rfl⟩
          rintro ⟨_, _⟩ ⟨n, rfl, rfl, hn⟩
          have hlen : (addW (w.take n) ((s.1.getD m tIS.dflt).take n) (IntKind.i64.wrap (s.2.1.getD m tI.dflt * c.getD m tI.dflt)) ++ w.drop n).length = w.length := by simp [addW_length]; omega
          conv => whnf
          refine cond_intro (fun g => ?_) (fun g => ?_)
          · have g : n < (s.1.getD m tIS.dflt).length := by have := of_decide_eq_true g; exact Int.ofNat_lt.1 this
            conv => whnf
            refine ⟨⟨Int.natCast_nonneg _, Int.ofNat_lt.2 g⟩, ?_⟩
            conv => whnf
            refine ⟨⟨Int.natCast_nonneg _, by rw [hlen]; omega⟩, ?_⟩
            conv => whnf
            refine ⟨(by rw [hlen]; show n < _; omega), ?_⟩
            conv => whnf
            refine ⟨⟨Int.natCast_nonneg _, by rw [hlen]; omega⟩, ?_⟩
            conv => whnf
            refine ⟨(by rw [hlen]; show n < _; omega), ?_⟩
            conv => whnf
            refine ⟨(_, _), rfl, ⟨n + 1, wrap_succ g (by unfold Short; omega), ?_, by omega⟩, ?_⟩
            · exact addW_step g hx _ _
            · rw [wrap_succ g (by unfold Short; omega)]; show (s.1.getD m tIS.dflt).length - (n + 1) < (s.1.getD m tIS.dflt).length - n; omega
          · have g : ¬ n < (s.1.getD m tIS.dflt).length := fun e => of_decide_eq_false g (Int.ofNat_lt.2 e)
            obtain rfl : n = (s.1.getD m tIS.dflt).length := by omega
            rw [List.take_length, hx, List.take_length, List.drop_length, List.append_nil]
            conv => whnf
            refine ⟨(_, _, _), rfl, ⟨m + 1, wrap_succ h (by unfold Short; omega), by omega, hnext⟩, ?_⟩
            rw [wrap_succ h (by unfold Short; omega)]; simp; omega
        · have h : ¬ m < s.1.length := fun e => of_decide_eq_false h (Int.ofNat_lt.2 e)
          obtain rfl : m = s.1.length := by omega
          have hpl : ((w, b, ()) : Plane).1.length ≤ 1048576 := by show w.length ≤ 1048576; rw [hwl]; exact Nat.le_trans S.run.small (by decide)
          conv => whnf
          refine ⟨_, i_IsPlane_ok (w, b, ()) hpl, (by first | exact (fun _ => rfl) | exact (fun h => Bool.noConfusion h)), ?_⟩
          conv => whnf
          refine cond_intro (fun g => ?_) (fun g => ?_)
          · rw [pcR_bad (by rw [hp]; exact not_true g)]
            conv => whnf
            exact ⟨_, _, rfl, .inl rfl, rfl⟩
          · rw [pcR_yes hok (by rw [hp]; exact not_false g), hp]
            conv => whnf
            exact ⟨_, _, rfl, .inl rfl, rfl⟩
      · have hz : c.length ≠ s.1.length := by simp at z0; omega
        rw [pcR_no (pcOk_3 hz)]
        conv => whnf
        repeat ((first | refine cond_t q0 ?_ | refine cond_f (hT q0) ?_ | refine cond_t (gT q0) ?_ | refine cond_t r0 ?_ | refine cond_f (hT r0) ?_ | refine cond_t (gT r0) ?_ | refine cond_f z0 ?_ | refine cond_t (hF z0) ?_ | refine cond_f (gF z0) ?_); conv => whnf)
        exact ⟨_, _, rfl, .inl rfl, rfl⟩
    · have hr : s.1.length = 0 := by simp at r0; simp [r0]
      rw [pcR_no (pcOk_2 hr)]
      conv => whnf
      repeat ((first | refine cond_t q0 ?_ | refine cond_f (hT q0) ?_ | refine cond_t (gT q0) ?_ | refine cond_f r0 ?_ | refine cond_t (hF r0) ?_ | refine cond_f (gF r0) ?_); conv => whnf)
      exact ⟨_, _, rfl, .inl rfl, rfl⟩
  · have q : isSample s = false := by simpa using q0
    rw [pcR_no (pcOk_1 q)]
    conv => whnf
    repeat ((first | refine cond_f q0 ?_ | refine cond_t (hF q0) ?_ | refine cond_f (gF q0) ?_); conv => whnf)
    exact ⟨_, _, rfl, .inl rfl, rfl⟩

theorem s_PlaneOfCounts_ok (s : Sample) (c : List Int) (hs : FitS s) (hc : c.length ≤ 1048576) : orc.pc n_s_PlaneOfCounts [.d shSample s, .d tIS c] ⟨shPB2, .pr shPlane.full .fz, pcR s c⟩ := by
  refine p_s_PlaneOfCounts true rfl rfl ?_
  conv => whnf
  refine ⟨_, s_l2Sample_ok _ hs, (by first | exact (fun _ => rfl) | exact (fun h => Bool.noConfusion h)), ?_⟩
  conv => whnf
  refine cond_intro (fun q0 => ?_) (fun q0 => ?_)
  · have q : isSample s = true := by simpa using q0
    conv => whnf
    repeat ((first | refine cond_t q0 ?_ | refine cond_f (hT q0) ?_ | refine cond_t (gT q0) ?_); conv => whnf)
    refine cond_intro (fun r0 => ?_) (fun r0 => ?_)
    · have hr : s.1.length ≠ 0 := by simp at r0; intro e; exact r0 (by simpa using e)
      have S := smp_of q hr
      conv => whnf
      repeat ((first | refine cond_t q0 ?_ | refine cond_f (hT q0) ?_ | refine cond_t (gT q0) ?_ | refine cond_t r0 ?_ | refine cond_f (hT r0) ?_ | refine cond_t (gT r0) ?_); conv => whnf)
      refine cond_intro (fun z0 => ?_) (fun z0 => ?_)
      · have hz : c.length ≠ s.1.length := by simp at z0; omega
        rw [pcR_no (pcOk_3 hz)]
        conv => whnf
        exact ⟨_, _, rfl, .inl rfl, rfl⟩
      have hz : c.length = s.1.length := by simp at z0; omega
      have few := S.run.few
      conv => whnf
      refine ⟨⟨by omega, by omega⟩, ?_⟩
      conv => whnf
      refine ⟨room_make (Int.natCast_nonneg _) (Int.ofNat_le.2 (Nat.le_trans S.run.small (by decide : (4 : Nat) ≤ 1048577))) (by decide), ?_⟩
      conv => whnf
      refine loop_ups (X := Int × List Int × Int) (fun (i, w, b) => [⟨0, 7, false, .d tI i⟩, ⟨0, 6, true, .pair .unit (.pair (.own tI .fz w) (.pair (.d tI b) .unit))⟩]) (fun (i, _, _) => c.length - i.toNat)
        (fun (i, w, b) => ∃ m : Nat, i = m ∧ m ≤ c.length ∧ pcTo s c m = (w, b, ()) ∧ ∀ k, k < m → inB (c.getD k 0) 0 999 = true) (0, List.replicate (s.1.getD 0 tIS.dflt).length 0, 0) ?_ ⟨0, rfl, by omega, rfl, fun k hk => by omega⟩ ?_
      · refine st_eq ?_
        conv => whnf
        exact ⟨rfl⟩
      rintro ⟨_, w, b⟩ ⟨m, rfl, hm, hp, hin⟩
      have hwl : w.length = (s.1.getD 0 tIS.dflt).length := by have := pcTo_len s c m; rw [hp] at this; exact this
      conv => whnf
      refine cond_intro (fun h => ?_) (fun h => ?_)
      · have h0 : m < c.length := by have := of_decide_eq_true h; exact Int.ofNat_lt.1 this
        have h : m < s.1.length := by omega
        have hx : (s.1.getD m tIS.dflt).length = w.length := by rw [S.run.w m h, hwl]
        have hsm : w.length ≤ 4 := by rw [hwl]; exact S.run.small
        have hnext : pcTo s c (m + 1) = (addW w (s.1.getD m tIS.dflt) (IntKind.i64.wrap (c.getD m tI.dflt * s.2.1.getD m tI.dflt)), IntKind.i64.wrap (b - IntKind.i64.wrap (c.getD m tI.dflt * s.2.1.getD m tI.dflt)), ()) := by
          show stepTo (pcTo s c m) _ (IntKind.i64.wrap (s.2.1.getD m 0 * c.getD m 0)) = _
          rw [hp, Int.mul_comm]; rfl
        conv => whnf
        refine ⟨⟨Int.natCast_nonneg _, Int.ofNat_lt.2 h0⟩, ?_⟩
        conv => whnf
        refine ⟨_, s_l1In_ok _ _ _, (by first | exact (fun _ => rfl) | exact (fun h => Bool.noConfusion h)), ?_⟩
        conv => whnf
        refine cond_intro (fun t0 => ?_) (fun t0 => ?_)
        · have t : inB (c.getD m 0) 0 999 = false := not_true t0
          rw [pcR_no (pcOk_4 (Bool.eq_false_iff.2 fun e => by
            have := List.all_eq_true.1 e _ (getD_mem h0 0)
            rw [t] at this; cases this))]
          conv => whnf
          exact ⟨_, _, rfl, .inl rfl, rfl⟩
        have t : inB (c.getD m 0) 0 999 = true := not_false t0
        conv => whnf
        refine loop_ups (X := Int × List Int) (fun (k, y) => [⟨0, 8, false, .d tI k⟩, ⟨0, 6, true, .pair .unit (.pair (.own tI .fz y) (.pair (.d tI b) .unit))⟩]) (fun (k, _) => (s.1.getD m tIS.dflt).length - k.toNat)
          (fun (k, y) => ∃ n : Nat, k = n ∧ y = addW (w.take n) ((s.1.getD m tIS.dflt).take n) (IntKind.i64.wrap (c.getD m tI.dflt * s.2.1.getD m tI.dflt)) ++ w.drop n ∧ n ≤ (s.1.getD m tIS.dflt).length) (0, w) ?_ ⟨0, rfl, rfl, by omega⟩ ?_
        · refine st_eq ?_
          conv => whnf
          exact ⟨rfl⟩
        rintro ⟨_, _⟩ ⟨n, rfl, rfl, hn⟩
        have hlen : (addW (w.take n) ((s.1.getD m tIS.dflt).take n) (IntKind.i64.wrap (c.getD m tI.dflt * s.2.1.getD m tI.dflt)) ++ w.drop n).length = w.length := by simp [addW_length]; omega
        conv => whnf
        refine cond_intro (fun g => ?_) (fun g => ?_)
        · have g : n < (s.1.getD m tIS.dflt).length := by have := of_decide_eq_true g; rw [hlen] at this; have := Int.ofNat_lt.1 this; omega
          have gl : n < (addW (w.take n) ((s.1.getD m tIS.dflt).take n) (IntKind.i64.wrap (c.getD m tI.dflt * s.2.1.getD m tI.dflt)) ++ w.drop n).length := by rw [hlen]; omega
          conv => whnf
          refine ⟨⟨Int.natCast_nonneg _, Int.ofNat_lt.2 gl⟩, ?_⟩
          conv => whnf
          refine ⟨gl, ?_⟩
          conv => whnf
          refine ⟨⟨Int.natCast_nonneg _, Int.ofNat_lt.2 h0⟩, ?_⟩
          conv => whnf
          refine ⟨⟨Int.natCast_nonneg _, Int.ofNat_lt.2 (by rw [S.run.lab]; exact h)⟩, ?_⟩
          conv => whnf
          refine ⟨⟨Int.natCast_nonneg _, Int.ofNat_lt.2 h⟩, ?_⟩
          conv => whnf
          refine ⟨⟨Int.natCast_nonneg _, Int.ofNat_lt.2 g⟩, ?_⟩
          conv => whnf
          refine ⟨⟨Int.natCast_nonneg _, Int.ofNat_lt.2 gl⟩, ?_⟩
          conv => whnf
          refine ⟨gl, ?_⟩
          conv => whnf
          refine ⟨(_, _), rfl, ⟨n + 1, wrap_succ g (by unfold Short; omega), ?_, by omega⟩, ?_⟩
          · exact addW_step g hx _ _
          · rw [wrap_succ g (by unfold Short; omega)]; show (s.1.getD m tIS.dflt).length - (n + 1) < (s.1.getD m tIS.dflt).length - n; omega
        · have g : ¬ n < (s.1.getD m tIS.dflt).length := fun e => of_decide_eq_false g (Int.ofNat_lt.2 (by rw [hlen]; omega))
          obtain rfl : n = (s.1.getD m tIS.dflt).length := by omega
          rw [List.take_length, hx, List.take_length, List.drop_length, List.append_nil]
          conv => whnf
          refine ⟨⟨Int.natCast_nonneg _, Int.ofNat_lt.2 h0⟩, ?_⟩
          conv => whnf
          refine ⟨⟨Int.natCast_nonneg _, Int.ofNat_lt.2 (by rw [S.run.lab]; exact h)⟩, ?_⟩
          conv => whnf
          refine ⟨(_, _, _), rfl, ⟨m + 1, wrap_succ h0 (by unfold Short; omega), by omega, hnext, fun k hk => ?_⟩, ?_⟩
          · by_cases hkm : k = m
            · subst hkm; exact t
            · exact hin k (by omega)
          · rw [wrap_succ h0 (by unfold Short; omega)]; simp; omega
      · have h : ¬ m < c.length := fun e => of_decide_eq_false h (Int.ofNat_lt.2 e)
        obtain rfl : m = c.length := by omega
        have hok : pcOk s c = true := pcOk_yes q hr hz (List.all_eq_true.2 fun x hx => by
          obtain ⟨k, hk, e⟩ := List.getElem_of_mem hx
          have := hin k hk
          rw [List.getD_eq_getElem?_getD, List.getElem?_eq_getElem hk, e] at this
          exact this)
        rw [hz] at hp
        have hpl : ((w, b, ()) : Plane).1.length ≤ 1048576 := by show w.length ≤ 1048576; rw [hwl]; exact Nat.le_trans S.run.small (by decide)
        conv => whnf
        refine ⟨_, s_l2Plane_ok (w, b, ()) hpl, (by first | exact (fun _ => rfl) | exact (fun h => Bool.noConfusion h)), ?_⟩
        conv => whnf
        refine cond_intro (fun g => ?_) (fun g => ?_)
        · rw [pcR_bad (by rw [hp]; exact not_true g)]
          conv => whnf
          exact ⟨_, _, rfl, .inl rfl, rfl⟩
        · rw [pcR_yes hok (by rw [hp]; exact not_false g), hp]
          conv => whnf
          exact ⟨_, _, rfl, .inl rfl, rfl⟩
    · have hr : s.1.length = 0 := by simp at r0; simp [r0]
      rw [pcR_no (pcOk_2 hr)]
      conv => whnf
      repeat ((first | refine cond_t q0 ?_ | refine cond_f (hT q0) ?_ | refine cond_t (gT q0) ?_ | refine cond_f r0 ?_ | refine cond_t (hF r0) ?_ | refine cond_f (gF r0) ?_); conv => whnf)
      exact ⟨_, _, rfl, .inl rfl, rfl⟩
  · have q : isSample s = false := by simpa using q0
    rw [pcR_no (pcOk_1 q)]
    conv => whnf
    repeat ((first | refine cond_f q0 ?_ | refine cond_t (hF q0) ?_ | refine cond_f (gF q0) ?_); conv => whnf)
    exact ⟨_, _, rfl, .inl rfl, rfl⟩

end Go.Proofs.Ytlndfmmigndgeaa.Ev
