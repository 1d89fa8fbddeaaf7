/- Traces and counts of runs. -/
import Derived.Test.YtlndfmmigndgeaaFnU
namespace Go.Proofs.Ytlndfmmigndgeaa.Ev
open Go
set_option linter.unusedVariables false
set_option linter.unusedSimpArgs false
set_option maxRecDepth 100000
set_option exponentiation.threshold 100000

theorem oneS_good {s : Sample} {n b : Nat} {st st' : RS} (hn : n < s.1.length) (g : Good s b st.1 st.2.1) (h : oneS s n st = some st') : Good s (b + 1) st'.1 st'.2.1 ∧ st'.2.2 ≤ st.2.2 + 1 := by
  unfold oneS at h
  split at h
  · rw [Option.some.injEq] at h
    split at h
    · subst h; exact ⟨g.le (by omega), by omega⟩
    · subst h; exact ⟨g.step hn _ _, Nat.le_refl _⟩
  · cases h
theorem ptsR_good {s : Sample} : ∀ {k n b : Nat} {st st' : RS}, n + k ≤ s.1.length → Good s b st.1 st.2.1 → ptsR s k n st = some st' → Good s (b + k) st'.1 st'.2.1 ∧ st'.2.2 ≤ st.2.2 + k := by
  intro k
  induction k with
  | zero => intro n b st st' hn g h; simp only [ptsR, Option.some.injEq] at h; subst h; exact ⟨g, by omega⟩
  | succ k ih =>
    intro n b st st' hn g h
    simp only [ptsR] at h
    split at h
    · rename_i st1 h1
      obtain ⟨g1, e1⟩ := oneS_good (by omega) g h1
      obtain ⟨g2, e2⟩ := ih (by omega) g1 h
      exact ⟨g2.le (by omega), by omega⟩
    · cases h
theorem rdsR_good {s : Sample} (hl : s.1.length ≤ 16) : ∀ {k b : Nat} {st st' : RT}, Good s b st.1 st.2.1 → rdsR s k st = some st' → Good s (b + 16 * k) st'.1 st'.2.1 ∧ st'.2.2.length ≤ st.2.2.length + k := by
  intro k
  induction k with
  | zero => intro b st st' g h; simp only [rdsR, Option.some.injEq] at h; subst h; exact ⟨g, by omega⟩
  | succ k ih =>
    intro b st st' g h
    simp only [rdsR] at h
    split at h
    · cases h
    · rename_i st1 h1
      obtain ⟨g1, e1⟩ := ptsR_good (by omega) g h1
      split at h
      · rw [Option.some.injEq] at h; subst h; exact ⟨g1.le (by omega), by simp⟩
      · obtain ⟨g2, e2⟩ := ih g1 h
        refine ⟨g2.le (by omega), ?_⟩
        simp at e2; omega
theorem runO_good {s : Sample} {r : Int} {st : RT} (h : runO s r = some st) : Good s 192 st.1 st.2.1 ∧ st.2.2.length ≤ 12 := by
  unfold runO at h
  split at h
  · rename_i q
    unfold okRun at q
    simp only [Bool.and_eq_true, Bool.not_eq_true', inB, decide_eq_true_eq] at q
    obtain ⟨q1, q2, q3, q4⟩ := q
    have S := runS_of q1 (ne_of_beq_false q2)
    obtain ⟨g, e⟩ := rdsR_good S.few (good0 s) h
    exact ⟨g.le (by omega), by simp at e; omega⟩
  · cases h

/-! ### Traces -/

def traceR (s : Sample) (r : Int) : List Int × Bool × Unit := match runO s r with
  | some st => (st.2.1, true, ())
  | none => ([], false, ())
theorem traceR_no {s : Sample} {r : Int} (h : runO s r = none) : traceR s r = ([], false, ()) := by unfold traceR; rw [h]
theorem traceR_yes {s : Sample} {r : Int} {st : RT} (h : runO s r = some st) : traceR s r = (st.2.1, true, ()) := by unfold traceR; rw [h]

theorem i_PerceptronTrace_ok (s : Sample) (r : Int) (hs : FitS s) : orc.pc n_i_PerceptronTrace [.d shSample s, .d tI r] ⟨shLB, oLB, traceR s r⟩ := by
  refine p_i_PerceptronTrace false rfl rfl ?_
  have c := i_runOf_ok s r hs
  conv => whnf
  cases q : runO s r with
  | none =>
    rw [runR_no q] at c
    rw [traceR_no q]
    refine ⟨_, c, (by first | exact (fun _ => rfl) | exact (fun h => Bool.noConfusion h)), ?_⟩
    conv => whnf
    exact ⟨_, _, rfl, .inl rfl, rfl⟩
  | some st =>
    have g := (runO_good q).1.t
    rw [runR_yes q] at c
    rw [traceR_yes q]
    refine ⟨_, c, (by first | exact (fun _ => rfl) | exact (fun h => Bool.noConfusion h)), ?_⟩
    conv => whnf
    refine ⟨_, i_copied_ok _ (show st.2.1.length ≤ 1048576 by omega), (by first | exact (fun _ => rfl) | exact (fun h => Bool.noConfusion h)), ?_⟩
    conv => whnf
    exact ⟨_, _, rfl, .inl rfl, rfl⟩

theorem s_PerceptronTrace_ok (s : Sample) (r : Int) (hs : FitS s) : orc.pc n_s_PerceptronTrace [.d shSample s, .d tI r] ⟨shLB, oLB, traceR s r⟩ := by
  refine p_s_PerceptronTrace false rfl rfl ?_
  have c := s_l3Made_ok s r hs
  conv => whnf
  cases q : runO s r with
  | none =>
    rw [runR_no q] at c
    rw [traceR_no q]
    refine ⟨_, c, (by first | exact (fun _ => rfl) | exact (fun h => Bool.noConfusion h)), ?_⟩
    conv => whnf
    exact ⟨_, _, rfl, .inl rfl, rfl⟩
  | some st =>
    rw [runR_yes q] at c
    rw [traceR_yes q]
    refine ⟨_, c, (by first | exact (fun _ => rfl) | exact (fun h => Bool.noConfusion h)), ?_⟩
    conv => whnf
    exact ⟨_, _, rfl, .inl rfl, rfl⟩

/-! ### Counts -/

def addAt (c : List Int) (i : Int) : List Int := c.set i.toNat (IntKind.i64.wrap (c.getD i.toNat 0 + 1))
def cnt (m : Nat) (tr : List Int) (n : Nat) : List Int := (tr.take n).foldl addAt (List.replicate m 0)
theorem foldl_addAt_length (tr : List Int) : ∀ c : List Int, (tr.foldl addAt c).length = c.length := by
  induction tr with
  | nil => intro c; rfl
  | cons x tr ih => intro c; simp only [List.foldl_cons, ih]; simp [addAt]
theorem cnt_length (m : Nat) (tr : List Int) (n : Nat) : (cnt m tr n).length = m := by unfold cnt; rw [foldl_addAt_length]; simp
theorem cnt_succ {m : Nat} {tr : List Int} {n : Nat} (h : n < tr.length) : addAt (cnt m tr n) (tr.getD n 0) = cnt m tr (n + 1) := by
  unfold cnt
  rw [take_getD tr h 0, List.foldl_append]; rfl
def dualR (s : Sample) (r : Int) : List Int × Bool × Unit := match runO s r with
  | some st => (cnt s.1.length st.2.1 st.2.1.length, true, ())
  | none => ([], false, ())
theorem dualR_no {s : Sample} {r : Int} (h : runO s r = none) : dualR s r = ([], false, ()) := by unfold dualR; rw [h]
theorem dualR_yes {s : Sample} {r : Int} {st : RT} (h : runO s r = some st) : dualR s r = (cnt s.1.length st.2.1 st.2.1.length, true, ()) := by unfold dualR; rw [h]

theorem i_DualCounts_ok (s : Sample) (r : Int) (hs : FitS s) : orc.pc n_i_DualCounts [.d shSample s, .d tI r] ⟨shLB, oLB, dualR s r⟩ := by
  refine p_i_DualCounts false rfl rfl ?_
  have c := i_runOf_ok s r hs
  have hl := hs.p.1
  conv => whnf
  cases q : runO s r with
  | none =>
    rw [runR_no q] at c
    rw [dualR_no q]
    refine ⟨_, c, (by first | exact (fun _ => rfl) | exact (fun h => Bool.noConfusion h)), ?_⟩
    conv => whnf
    exact ⟨_, _, rfl, .inl rfl, rfl⟩
  | some st =>
    have g := (runO_good q).1.t
    have gi := (runO_good q).1.i
    rw [runR_yes q] at c
    rw [dualR_yes q]
    refine ⟨_, c, (by first | exact (fun _ => rfl) | exact (fun h => Bool.noConfusion h)), ?_⟩
    conv => whnf
    refine ⟨room_make (by omega) (by omega) (by decide), ?_⟩
    conv => whnf
    refine loop_ups (X := Int × List Int) (fun (i, x) => [⟨0, 26, false, .d tI i⟩, ⟨0, 8, false, .own tI .fz x⟩]) (fun (i, _) => st.2.1.length - i.toNat) (fun (i, x) => ∃ n : Nat, i = n ∧ x = cnt s.1.length st.2.1 n ∧ n ≤ st.2.1.length) (0, List.replicate s.1.length 0) ?_ ⟨0, rfl, rfl, by omega⟩ ?_
    · refine st_eq ?_
      conv => whnf
      exact ⟨rfl⟩
    rintro ⟨_, _⟩ ⟨n, rfl, rfl, hn⟩
    conv => whnf
    refine cond_intro (fun h => ?_) (fun h => ?_)
    · have h : n < st.2.1.length := by simpa using h
      have hlen := cnt_length s.1.length st.2.1 n
      obtain ⟨g1, g2⟩ := gi _ (getD_mem h 0)
      have g3 : (st.2.1.getD n 0).toNat < s.1.length := by omega
      conv => whnf
      refine ⟨⟨Int.natCast_nonneg _, Int.ofNat_lt.2 h⟩, ?_⟩
      conv => whnf
      refine ⟨h, ?_⟩
      conv => whnf
      refine ⟨⟨g1, by rw [hlen]; exact g2⟩, ?_⟩
      conv => whnf
      refine ⟨(by rw [hlen]; exact g3), ?_⟩
      conv => whnf
      refine ⟨⟨g1, by rw [hlen]; exact g2⟩, ?_⟩
      conv => whnf
      refine ⟨(by rw [hlen]; exact g3), ?_⟩
      conv => whnf
      refine ⟨(_, _), rfl, ⟨n + 1, wrap_succ h (by unfold Short; omega), cnt_succ h, by omega⟩, ?_⟩
      rw [wrap_succ h (by unfold Short; omega)]; simp; omega
    · have h : ¬ n < st.2.1.length := by simpa using h
      obtain rfl : n = st.2.1.length := by omega
      conv => whnf
      exact ⟨_, _, rfl, .inl rfl, rfl⟩

theorem s_DualCounts_ok (s : Sample) (r : Int) (hs : FitS s) : orc.pc n_s_DualCounts [.d shSample s, .d tI r] ⟨shLB, oLB, dualR s r⟩ := by
  refine p_s_DualCounts false rfl rfl ?_
  have c := s_l3Made_ok s r hs
  have hl := hs.p.1
  conv => whnf
  cases q : runO s r with
  | none =>
    rw [runR_no q] at c
    rw [dualR_no q]
    refine ⟨_, c, (by first | exact (fun _ => rfl) | exact (fun h => Bool.noConfusion h)), ?_⟩
    conv => whnf
    exact ⟨_, _, rfl, .inl rfl, rfl⟩
  | some st =>
    have g := (runO_good q).1.t
    have gi := (runO_good q).1.i
    rw [runR_yes q] at c
    rw [dualR_yes q]
    refine ⟨_, c, (by first | exact (fun _ => rfl) | exact (fun h => Bool.noConfusion h)), ?_⟩
    conv => whnf
    refine ⟨room_make (by omega) (by omega) (by decide), ?_⟩
    conv => whnf
    refine loop_ups (X := Int × List Int) (fun (i, x) => [⟨0, 9, false, .d tI i⟩, ⟨0, 8, false, .own tI .fz x⟩]) (fun (i, _) => st.2.1.length - i.toNat) (fun (i, x) => ∃ n : Nat, i = n ∧ x = cnt s.1.length st.2.1 n ∧ n ≤ st.2.1.length) (0, List.replicate s.1.length 0) ?_ ⟨0, rfl, rfl, by omega⟩ ?_
    · refine st_eq ?_
      conv => whnf
      exact ⟨rfl⟩
    rintro ⟨_, _⟩ ⟨n, rfl, rfl, hn⟩
    conv => whnf
    refine cond_intro (fun h => ?_) (fun h => ?_)
    · have h : n < st.2.1.length := by simpa using h
      have hlen := cnt_length s.1.length st.2.1 n
      obtain ⟨g1, g2⟩ := gi _ (getD_mem h 0)
      have g3 : (st.2.1.getD n 0).toNat < s.1.length := by omega
      conv => whnf
      refine ⟨⟨Int.natCast_nonneg _, Int.ofNat_lt.2 h⟩, ?_⟩
      conv => whnf
      refine ⟨h, ?_⟩
      conv => whnf
      refine ⟨⟨g1, by rw [hlen]; exact g2⟩, ?_⟩
      conv => whnf
      refine ⟨(by rw [hlen]; exact g3), ?_⟩
      conv => whnf
      refine ⟨⟨g1, by rw [hlen]; exact g2⟩, ?_⟩
      conv => whnf
      refine ⟨(by rw [hlen]; exact g3), ?_⟩
      conv => whnf
      refine ⟨(_, _), rfl, ⟨n + 1, wrap_succ h (by unfold Short; omega), cnt_succ h, by omega⟩, ?_⟩
      rw [wrap_succ h (by unfold Short; omega)]; simp; omega
    · have h : ¬ n < st.2.1.length := by simpa using h
      obtain rfl : n = st.2.1.length := by omega
      conv => whnf
      exact ⟨_, _, rfl, .inl rfl, rfl⟩

end Go.Proofs.Ytlndfmmigndgeaa.Ev
