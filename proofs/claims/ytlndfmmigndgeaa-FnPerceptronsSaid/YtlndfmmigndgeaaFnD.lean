/- Products, sides, steps; what suits what. -/
import Derived.Test.YtlndfmmigndgeaaFnC
namespace Go.Proofs.Ytlndfmmigndgeaa.Ev
open Go
set_option linter.unusedVariables false
set_option linter.unusedSimpArgs false
set_option maxRecDepth 100000
set_option exponentiation.threshold 100000

theorem natBeq (a b : Nat) : (((a : Int) == (b : Int)) = (a == b)) := by rw [Bool.eq_iff_iff]; simp; omega

def suits (s : Sample) (p : Plane) : Bool := isSample s && (isPlane p && (s.1.length == 0 || fstLen s == p.1.length))

theorem i_suits_ok (s : Sample) (p : Plane) (hs : FitS s) (hp : p.1.length ≤ 1048576) : orc.pc n_i_suits [.d shSample s, .d shPlane p] ⟨.bool, .fz, suits s p⟩ := by
  have hl := hs.p.1
  refine p_i_suits true rfl rfl ?_
  conv => whnf
  refine ⟨_, i_IsSample_ok _ hs, (by first | exact (fun _ => rfl) | exact (fun h => Bool.noConfusion h)), ?_⟩
  conv => whnf
  refine cond_intro (fun q0 => ?_) (fun q0 => ?_)
  · have q : isSample s = true := by simpa using q0
    conv => whnf
    repeat ((first | refine cond_t q0 ?_ | refine cond_f (hT q0) ?_ | refine cond_t (gT q0) ?_); conv => whnf)
    refine ⟨_, i_IsPlane_ok _ hp, (by first | exact (fun _ => rfl) | exact (fun h => Bool.noConfusion h)), ?_⟩
    conv => whnf
    repeat ((first | refine cond_t q0 ?_ | refine cond_f (hT q0) ?_ | refine cond_t (gT q0) ?_); conv => whnf)
    refine cond_intro (fun r0 => ?_) (fun r0 => ?_)
    · have r : isPlane p = true := by simpa using r0
      conv => whnf
      repeat ((first | refine cond_t q0 ?_ | refine cond_f (hT q0) ?_ | refine cond_t (gT q0) ?_ | refine cond_t r0 ?_ | refine cond_f (hT r0) ?_ | refine cond_t (gT r0) ?_); conv => whnf)
      refine cond_intro (fun t0 => ?_) (fun t0 => ?_)
      · have t : s.1.length ≠ 0 := by simp at t0; intro e; exact t0 (by simpa using e)
        conv => whnf
        repeat ((first | refine cond_t q0 ?_ | refine cond_f (hT q0) ?_ | refine cond_t (gT q0) ?_ | refine cond_t r0 ?_ | refine cond_f (hT r0) ?_ | refine cond_t (gT r0) ?_ | refine cond_t t0 ?_ | refine cond_f (hT t0) ?_ | refine cond_t (gT t0) ?_); conv => whnf)
        refine ⟨⟨by omega, by omega⟩, ?_⟩
        conv => whnf
        repeat ((first | refine cond_t q0 ?_ | refine cond_f (hT q0) ?_ | refine cond_t (gT q0) ?_ | refine cond_t r0 ?_ | refine cond_f (hT r0) ?_ | refine cond_t (gT r0) ?_ | refine cond_t t0 ?_ | refine cond_f (hT t0) ?_ | refine cond_t (gT t0) ?_); conv => whnf)
        have hz : s.1.getD 0 tIS.dflt = s.1.headD [] := getD_zero _ _
        exact ⟨_, _, rfl, .inl rfl, fin1 (by show ((((s.1.getD 0 tIS.dflt).length : Int) == (p.1.length : Int)) = _); rw [natBeq, hz]; unfold suits fstLen; rw [q, r]; simp [t])⟩
      · have t : s.1.length = 0 := by simp at t0; simp [t0]
        conv => whnf
        repeat ((first | refine cond_t q0 ?_ | refine cond_f (hT q0) ?_ | refine cond_t (gT q0) ?_ | refine cond_t r0 ?_ | refine cond_f (hT r0) ?_ | refine cond_t (gT r0) ?_ | refine cond_f t0 ?_ | refine cond_t (hF t0) ?_ | refine cond_f (gF t0) ?_); conv => whnf)
        exact ⟨_, _, rfl, .inl rfl, fin1 (by unfold suits; rw [q, r]; simp [t])⟩
    · have r : isPlane p = false := by simpa using r0
      conv => whnf
      repeat ((first | refine cond_t q0 ?_ | refine cond_f (hT q0) ?_ | refine cond_t (gT q0) ?_ | refine cond_f r0 ?_ | refine cond_t (hF r0) ?_ | refine cond_f (gF r0) ?_); conv => whnf)
      exact ⟨_, _, rfl, .inl rfl, fin1 (by unfold suits; rw [q, r]; rfl)⟩
  · have q : isSample s = false := by simpa using q0
    conv => whnf
    repeat ((first | refine cond_f q0 ?_ | refine cond_t (hF q0) ?_ | refine cond_f (gF q0) ?_); conv => whnf)
    exact ⟨_, _, rfl, .inl rfl, fin1 (by unfold suits; rw [q]; rfl)⟩

theorem s_l2Both_ok (s : Sample) (p : Plane) (hs : FitS s) (hp : p.1.length ≤ 1048576) : orc.pc n_s_l2Both [.d shSample s, .d shPlane p] ⟨.bool, .fz, suits s p⟩ := by
  have hl := hs.p.1
  refine p_s_l2Both true rfl rfl ?_
  conv => whnf
  refine ⟨_, s_l2Sample_ok _ hs, (by first | exact (fun _ => rfl) | exact (fun h => Bool.noConfusion h)), ?_⟩
  conv => whnf
  refine cond_intro (fun q0 => ?_) (fun q0 => ?_)
  · have q : isSample s = true := by simpa using q0
    conv => whnf
    repeat ((first | refine cond_t q0 ?_ | refine cond_f (hT q0) ?_ | refine cond_t (gT q0) ?_); conv => whnf)
    refine ⟨_, s_l2Plane_ok _ hp, (by first | exact (fun _ => rfl) | exact (fun h => Bool.noConfusion h)), ?_⟩
    conv => whnf
    repeat ((first | refine cond_t q0 ?_ | refine cond_f (hT q0) ?_ | refine cond_t (gT q0) ?_); conv => whnf)
    refine cond_intro (fun r0 => ?_) (fun r0 => ?_)
    · have r : isPlane p = true := by simpa using r0
      conv => whnf
      repeat ((first | refine cond_t q0 ?_ | refine cond_f (hT q0) ?_ | refine cond_t (gT q0) ?_ | refine cond_t r0 ?_ | refine cond_f (hT r0) ?_ | refine cond_t (gT r0) ?_); conv => whnf)
      refine cond_intro (fun t0 => ?_) (fun t0 => ?_)
      · have t : s.1.length ≠ 0 := by simp at t0; intro e; exact t0 (by simpa using e)
        conv => whnf
        repeat ((first | refine cond_t q0 ?_ | refine cond_f (hT q0) ?_ | refine cond_t (gT q0) ?_ | refine cond_t r0 ?_ | refine cond_f (hT r0) ?_ | refine cond_t (gT r0) ?_ | refine cond_t t0 ?_ | refine cond_f (hT t0) ?_ | refine cond_t (gT t0) ?_); conv => whnf)
        refine ⟨⟨by omega, by omega⟩, ?_⟩
        conv => whnf
        repeat ((first | refine cond_t q0 ?_ | refine cond_f (hT q0) ?_ | refine cond_t (gT q0) ?_ | refine cond_t r0 ?_ | refine cond_f (hT r0) ?_ | refine cond_t (gT r0) ?_ | refine cond_t t0 ?_ | refine cond_f (hT t0) ?_ | refine cond_t (gT t0) ?_); conv => whnf)
        have hz : s.1.getD 0 tIS.dflt = s.1.headD [] := getD_zero _ _
        exact ⟨_, _, rfl, .inl rfl, fin1 (by show ((((s.1.getD 0 tIS.dflt).length : Int) == (p.1.length : Int)) = _); rw [natBeq, hz]; unfold suits fstLen; rw [q, r]; simp [t])⟩
      · have t : s.1.length = 0 := by simp at t0; simp [t0]
        conv => whnf
        repeat ((first | refine cond_t q0 ?_ | refine cond_f (hT q0) ?_ | refine cond_t (gT q0) ?_ | refine cond_t r0 ?_ | refine cond_f (hT r0) ?_ | refine cond_t (gT r0) ?_ | refine cond_f t0 ?_ | refine cond_t (hF t0) ?_ | refine cond_f (gF t0) ?_); conv => whnf)
        exact ⟨_, _, rfl, .inl rfl, fin1 (by unfold suits; rw [q, r]; simp [t])⟩
    · have r : isPlane p = false := by simpa using r0
      conv => whnf
      repeat ((first | refine cond_t q0 ?_ | refine cond_f (hT q0) ?_ | refine cond_t (gT q0) ?_ | refine cond_f r0 ?_ | refine cond_t (hF r0) ?_ | refine cond_f (gF r0) ?_); conv => whnf)
      exact ⟨_, _, rfl, .inl rfl, fin1 (by unfold suits; rw [q, r]; rfl)⟩
  · have q : isSample s = false := by simpa using q0
    conv => whnf
    repeat ((first | refine cond_f q0 ?_ | refine cond_t (hF q0) ?_ | refine cond_f (gF q0) ?_); conv => whnf)
    exact ⟨_, _, rfl, .inl rfl, fin1 (by unfold suits; rw [q]; rfl)⟩

def isSchool (s : School) : Bool := suits s.1 s.2.1 && (inB s.2.2.1 0 16000 && inB s.2.2.2.1 0 1000)

theorem i_IsSchool_ok (s : School) (hs : FitSc s) : orc.pc n_i_IsSchool [.d shSchool s] ⟨.bool, .fz, isSchool s⟩ := by
  refine p_i_IsSchool true rfl rfl ?_
  conv => whnf
  refine ⟨_, i_suits_ok _ _ hs.sm hs.pl, (by first | exact (fun _ => rfl) | exact (fun h => Bool.noConfusion h)), ?_⟩
  conv => whnf
  refine cond_intro (fun q0 => ?_) (fun q0 => ?_)
  · have q : suits s.1 s.2.1 = true := by simpa using q0
    conv => whnf
    refine ⟨_, i_within_ok _ _ _, (by first | exact (fun _ => rfl) | exact (fun h => Bool.noConfusion h)), ?_⟩
    conv => whnf
    refine cond_intro (fun r0 => ?_) (fun r0 => ?_)
    · have r : inB s.2.2.1 0 16000 = true := by simpa using r0
      conv => whnf
      refine ⟨_, i_within_ok _ _ _, (by first | exact (fun _ => rfl) | exact (fun h => Bool.noConfusion h)), ?_⟩
      conv => whnf
      exact ⟨_, _, rfl, .inl rfl, fin1 (by unfold isSchool; rw [q, r]; rfl)⟩
    · have r : inB s.2.2.1 0 16000 = false := by simpa using r0
      conv => whnf
      exact ⟨_, _, rfl, .inl rfl, fin1 (by unfold isSchool; rw [q, r]; rfl)⟩
  · have q : suits s.1 s.2.1 = false := by simpa using q0
    conv => whnf
    exact ⟨_, _, rfl, .inl rfl, fin1 (by unfold isSchool; rw [q]; rfl)⟩

theorem s_l12Good_ok (s : School) (hs : FitSc s) : orc.pc n_s_l12Good [.d shSchool s] ⟨.bool, .fz, isSchool s⟩ := by
  refine p_s_l12Good true rfl rfl ?_
  conv => whnf
  refine ⟨_, s_l2Both_ok _ _ hs.sm hs.pl, (by first | exact (fun _ => rfl) | exact (fun h => Bool.noConfusion h)), ?_⟩
  conv => whnf
  refine cond_intro (fun q0 => ?_) (fun q0 => ?_)
  · have q : suits s.1 s.2.1 = true := by simpa using q0
    conv => whnf
    refine ⟨_, s_l1In_ok _ _ _, (by first | exact (fun _ => rfl) | exact (fun h => Bool.noConfusion h)), ?_⟩
    conv => whnf
    refine cond_intro (fun r0 => ?_) (fun r0 => ?_)
    · have r : inB s.2.2.1 0 16000 = true := by simpa using r0
      conv => whnf
      refine ⟨_, s_l1In_ok _ _ _, (by first | exact (fun _ => rfl) | exact (fun h => Bool.noConfusion h)), ?_⟩
      conv => whnf
      exact ⟨_, _, rfl, .inl rfl, fin1 (by unfold isSchool; rw [q, r]; rfl)⟩
    · have r : inB s.2.2.1 0 16000 = false := by simpa using r0
      conv => whnf
      exact ⟨_, _, rfl, .inl rfl, fin1 (by unfold isSchool; rw [q, r]; rfl)⟩
  · have q : suits s.1 s.2.1 = false := by simpa using q0
    conv => whnf
    exact ⟨_, _, rfl, .inl rfl, fin1 (by unfold isSchool; rw [q]; rfl)⟩

theorem s_IsSchool_ok (s : School) (hs : FitSc s) : orc.pc n_s_IsSchool [.d shSchool s] ⟨.bool, .fz, isSchool s⟩ := by
  refine p_s_IsSchool true rfl rfl ?_
  conv => whnf
  refine ⟨_, s_l12Good_ok _ hs, (by first | exact (fun _ => rfl) | exact (fun h => Bool.noConfusion h)), ?_⟩
  conv => whnf
  exact ⟨_, _, rfl, .inl rfl, fin1 (rfl)⟩

def meets (p : Plane) (x : List Int) : Bool := isPlane p && (isPoint x && x.length == p.1.length)

theorem i_meets_ok (p : Plane) (x : List Int) (hp : p.1.length ≤ 1048576) (hx : x.length ≤ 1048576) : orc.pc n_i_meets [.d shPlane p, .d tIS x] ⟨.bool, .fz, meets p x⟩ := by
  refine p_i_meets true rfl rfl ?_
  conv => whnf
  refine ⟨_, i_IsPlane_ok _ hp, (by first | exact (fun _ => rfl) | exact (fun h => Bool.noConfusion h)), ?_⟩
  conv => whnf
  refine cond_intro (fun q0 => ?_) (fun q0 => ?_)
  · have q : isPlane p = true := by simpa using q0
    conv => whnf
    refine ⟨_, i_IsPoint_ok _ hx, (by first | exact (fun _ => rfl) | exact (fun h => Bool.noConfusion h)), ?_⟩
    conv => whnf
    refine cond_intro (fun r0 => ?_) (fun r0 => ?_)
    · have r : isPoint x = true := by simpa using r0
      conv => whnf
      exact ⟨_, _, rfl, .inl rfl, fin1 (by unfold meets; rw [q, r]; rw [Bool.eq_iff_iff]; simp; omega)⟩
    · have r : isPoint x = false := by simpa using r0
      conv => whnf
      exact ⟨_, _, rfl, .inl rfl, fin1 (by unfold meets; rw [q, r]; rfl)⟩
  · have q : isPlane p = false := by simpa using q0
    conv => whnf
    exact ⟨_, _, rfl, .inl rfl, fin1 (by unfold meets; rw [q]; rfl)⟩

theorem s_l2One_ok (p : Plane) (x : List Int) (hp : p.1.length ≤ 1048576) (hx : x.length ≤ 1048576) : orc.pc n_s_l2One [.d shPlane p, .d tIS x] ⟨.bool, .fz, meets p x⟩ := by
  refine p_s_l2One true rfl rfl ?_
  conv => whnf
  refine ⟨_, s_l2Plane_ok _ hp, (by first | exact (fun _ => rfl) | exact (fun h => Bool.noConfusion h)), ?_⟩
  conv => whnf
  refine cond_intro (fun q0 => ?_) (fun q0 => ?_)
  · have q : isPlane p = true := by simpa using q0
    conv => whnf
    refine ⟨_, s_l2Point_ok _ hx, (by first | exact (fun _ => rfl) | exact (fun h => Bool.noConfusion h)), ?_⟩
    conv => whnf
    refine cond_intro (fun r0 => ?_) (fun r0 => ?_)
    · have r : isPoint x = true := by simpa using r0
      conv => whnf
      exact ⟨_, _, rfl, .inl rfl, fin1 (by unfold meets; rw [q, r]; rw [Bool.eq_iff_iff]; simp; omega)⟩
    · have r : isPoint x = false := by simpa using r0
      conv => whnf
      exact ⟨_, _, rfl, .inl rfl, fin1 (by unfold meets; rw [q, r]; rfl)⟩
  · have q : isPlane p = false := by simpa using q0
    conv => whnf
    exact ⟨_, _, rfl, .inl rfl, fin1 (by unfold meets; rw [q]; rfl)⟩

theorem s_l1Has_ok (l : List Int) (m : Int) (hl : l.length ≤ 1048576) : orc.pc n_s_l1Has [.d tIS l, .d tI m] ⟨.bool, .fz, l.any (· == m)⟩ := by
  refine p_s_l1Has true rfl rfl ?_
  conv => whnf
  refine loop_ups (X := Int) (fun i => [⟨0, 5, false, .d tI i⟩]) (fun i => l.length - i.toNat) (fun i => ∃ n : Nat, i = n ∧ n ≤ l.length ∧ l.any (· == m) = (l.drop n).any (· == m)) 0 ?_ ⟨0, rfl, by omega, rfl⟩ ?_
  · refine st_eq ?_
    conv => whnf
    exact ⟨rfl⟩
  rintro _ ⟨n, rfl, hn, hi⟩
  conv => whnf
  refine cond_intro (fun h => ?_) (fun h => ?_)
  · have h : n < l.length := by simpa using h
    rw [drop_getD l h tI.dflt] at hi
    conv => whnf
    refine ⟨⟨by omega, by omega⟩, ?_⟩
    conv => whnf
    refine cond_intro (fun g => ?_) (fun g => ?_)
    · have g : (l.getD n tI.dflt == m) = true := by simpa using g
      conv => whnf
      exact ⟨_, _, rfl, .inl rfl, fin1 (by rw [hi, List.any_cons, g]; rfl)⟩
    · have g : (l.getD n tI.dflt == m) = false := by simpa using g
      conv => whnf
      refine ⟨_, rfl, ⟨n + 1, wrap_succ h (by unfold Short; omega), by omega, by rw [hi, List.any_cons, g]; rfl⟩, ?_⟩
      rw [wrap_succ h (by unfold Short; omega)]; simp; omega
  · have h : ¬ n < l.length := by simpa using h
    conv => whnf
    exact ⟨_, _, rfl, .inl rfl, fin1 (by rw [hi, drop_len h]; rfl)⟩

/-! ### Products -/

def dot : List Int → List Int → Int → Int
  | x :: a, y :: b, s => dot a b (IntKind.i64.wrap (s + IntKind.i64.wrap (x * y)))
  | _, _, s => s

theorem i_product_ok (a b : List Int) (ha : a.length ≤ 1048576) (hb : a.length ≤ b.length) : orc.pc n_i_product [.d tIS a, .d tIS b] ⟨tI, .fz, dot a b 0⟩ := by
  refine p_i_product true rfl rfl ?_
  conv => whnf
  refine loop_ups (X := Int × Int) (fun (i, s) => [⟨0, 10, false, .d tI i⟩, ⟨0, 5, false, .d tI s⟩]) (fun (i, _) => a.length - i.toNat) (fun (i, s) => ∃ n : Nat, i = n ∧ n ≤ a.length ∧ dot a b 0 = dot (a.drop n) (b.drop n) s) (0, 0) ?_ ⟨0, rfl, by omega, rfl⟩ ?_
  · refine st_eq ?_
    conv => whnf
    exact ⟨rfl⟩
  rintro ⟨_, s⟩ ⟨n, rfl, hn, hi⟩
  conv => whnf
  refine cond_intro (fun h => ?_) (fun h => ?_)
  · have h : n < a.length := by simpa using h
    have h2 : n < b.length := by omega
    rw [drop_getD a h tI.dflt, drop_getD b h2 tI.dflt, dot] at hi
    conv => whnf
    refine ⟨⟨by omega, by omega⟩, ?_⟩
    conv => whnf
    refine ⟨⟨by omega, by omega⟩, ?_⟩
    conv => whnf
    refine ⟨(_, _), rfl, ⟨n + 1, wrap_succ h (by unfold Short; omega), by omega, hi⟩, ?_⟩
    rw [wrap_succ h (by unfold Short; omega)]; simp; omega
  · have h : ¬ n < a.length := by simpa using h
    conv => whnf
    exact ⟨_, _, rfl, .inl rfl, fin1 (by rw [hi, drop_len h]; rfl)⟩

theorem s_l2Dot_ok (a b : List Int) (ha : a.length ≤ 1048576) (hb : a.length ≤ b.length) : orc.pc n_s_l2Dot [.d tIS a, .d tIS b] ⟨tI, .fz, dot a b 0⟩ := by
  refine p_s_l2Dot true rfl rfl ?_
  conv => whnf
  refine loop_ups (X := Int × Int) (fun (i, s) => [⟨0, 6, false, .d tI i⟩, ⟨0, 5, false, .d tI s⟩]) (fun (i, _) => a.length - i.toNat) (fun (i, s) => ∃ n : Nat, i = n ∧ n ≤ a.length ∧ dot a b 0 = dot (a.drop n) (b.drop n) s) (0, 0) ?_ ⟨0, rfl, by omega, rfl⟩ ?_
  · refine st_eq ?_
    conv => whnf
    exact ⟨rfl⟩
  rintro ⟨_, s⟩ ⟨n, rfl, hn, hi⟩
  conv => whnf
  refine cond_intro (fun h => ?_) (fun h => ?_)
  · have h : n < a.length := by simpa using h
    have h2 : n < b.length := by omega
    rw [drop_getD a h tI.dflt, drop_getD b h2 tI.dflt, dot] at hi
    conv => whnf
    refine ⟨⟨by omega, by omega⟩, ?_⟩
    conv => whnf
    refine ⟨⟨by omega, by omega⟩, ?_⟩
    conv => whnf
    refine ⟨(_, _), rfl, ⟨n + 1, wrap_succ h (by unfold Short; omega), by omega, hi⟩, ?_⟩
    rw [wrap_succ h (by unfold Short; omega)]; simp; omega
  · have h : ¬ n < a.length := by simpa using h
    conv => whnf
    exact ⟨_, _, rfl, .inl rfl, fin1 (by rw [hi, drop_len h]; rfl)⟩

def side (p : Plane) (x : List Int) : Int := if p.2.1 ≤ dot p.1 x 0 then 1 else -1

theorem i_Plane_side_ok (p : Plane) (x : List Int) (hp : p.1.length ≤ 1048576) (hx : p.1.length ≤ x.length) : orc.pc n_i_Plane_side [.d shPlane p, .d tIS x] ⟨tI, .fz, side p x⟩ := by
  refine p_i_Plane_side true rfl rfl ?_
  conv => whnf
  refine ⟨_, i_product_ok _ _ hp hx, (by first | exact (fun _ => rfl) | exact (fun h => Bool.noConfusion h)), ?_⟩
  conv => whnf
  refine cond_intro (fun h => ?_) (fun h => ?_)
  · have h : p.2.1 ≤ dot p.1 x 0 := by simpa using h
    conv => whnf
    exact ⟨_, _, rfl, .inl rfl, fin1 (by unfold side; rw [if_pos h])⟩
  · have h : ¬ p.2.1 ≤ dot p.1 x 0 := by simpa using h
    conv => whnf
    exact ⟨_, _, rfl, .inl rfl, fin1 (by unfold side; rw [if_neg h])⟩

theorem s_l2Side_ok (p : Plane) (x : List Int) (hp : p.1.length ≤ 1048576) (hx : p.1.length ≤ x.length) : orc.pc n_s_l2Side [.d shPlane p, .d tIS x] ⟨tI, .fz, side p x⟩ := by
  refine p_s_l2Side true rfl rfl ?_
  conv => whnf
  refine ⟨_, s_l2Dot_ok _ _ hp hx, (by first | exact (fun _ => rfl) | exact (fun h => Bool.noConfusion h)), ?_⟩
  conv => whnf
  refine cond_intro (fun h => ?_) (fun h => ?_)
  · have h : p.2.1 ≤ dot p.1 x 0 := by simpa using h
    conv => whnf
    exact ⟨_, _, rfl, .inl rfl, fin1 (by unfold side; rw [if_pos h])⟩
  · have h : ¬ p.2.1 ≤ dot p.1 x 0 := by simpa using h
    conv => whnf
    exact ⟨_, _, rfl, .inl rfl, fin1 (by unfold side; rw [if_neg h])⟩

end Go.Proofs.Ytlndfmmigndgeaa.Ev
