/- Kernels, and the points on which they are wrong. -/
import Derived.Test.YtgebhckfdcajoaaFnM
namespace Go.Proofs.Ytgebhckfdcajoaa.Ev
open Go
set_option linter.unusedVariables false
set_option linter.unusedSimpArgs false
set_option maxRecDepth 100000
set_option exponentiation.threshold 100000

theorem dot_comm : ∀ (a b : List Int) (s : Int), dot a b s = dot b a s := by
  intro a
  induction a with
  | nil => intro b s; cases b <;> rfl
  | cons x a ih =>
    intro b s
    cases b with
    | nil => rfl
    | cons y b => simp only [dot]; rw [ih, Int.mul_comm x y]

def powW (b : Int) : Nat → Int
  | 0 => 1
  | n + 1 => IntKind.i64.wrap (powW b n * b)
def kern (x y : List Int) (e : Nat) : Int := powW (IntKind.i64.wrap (dot x y 0 + 1)) e
theorem kern_comm (x y : List Int) (e : Nat) : kern x y e = kern y x e := by unfold kern; rw [dot_comm]

theorem i_kernel_ok (x y : List Int) (e : Nat) (hx : x.length ≤ 1048576) (hy : x.length ≤ y.length) (he : e ≤ 3) : orc.pc n_i_kernel [.d tIS x, .d tIS y, .d tI (e : Int)] ⟨tI, .fz, kern x y e⟩ := by
  refine p_i_kernel true rfl rfl ?_
  conv => whnf
  refine loop_ups (X := Int × Int) (fun (i, v) => [⟨0, 9, false, .d tI i⟩, ⟨0, 7, false, .d tI v⟩]) (fun (i, _) => e - i.toNat) (fun (i, v) => ∃ n : Nat, i = n ∧ v = powW (IntKind.i64.wrap (dot x y 0 + 1)) n ∧ n ≤ e) (0, 1) ?_ ⟨0, rfl, rfl, by omega⟩ ?_
  · refine st_eq ?_
    conv => whnf
    exact ⟨rfl⟩
  rintro ⟨_, _⟩ ⟨n, rfl, rfl, hn⟩
  conv => whnf
  refine cond_intro (fun h => ?_) (fun h => ?_)
  · have h : n < e := by simpa using h
    conv => whnf
    refine ⟨_, i_product_ok x y hx hy, (by first | exact (fun _ => rfl) | exact (fun h => Bool.noConfusion h)), ?_⟩
    conv => whnf
    refine ⟨(_, _), rfl, ⟨n + 1, wrap_succ h (by unfold Short; omega), rfl, by omega⟩, ?_⟩
    rw [wrap_succ h (by unfold Short; omega)]; simp; omega
  · have h : ¬ n < e := by simpa using h
    obtain rfl : n = e := by omega
    conv => whnf
    exact ⟨_, _, rfl, .inl rfl, fin1 (rfl)⟩

theorem s_l10Kernel_ok (x y : List Int) (e : Nat) (hx : x.length ≤ 1048576) (hy : x.length ≤ y.length) (he : e ≤ 3) : orc.pc n_s_l10Kernel [.d tIS x, .d tIS y, .d tI (e : Int)] ⟨tI, .fz, kern x y e⟩ := by
  refine p_s_l10Kernel true rfl rfl ?_
  conv => whnf
  refine ⟨_, s_l2Dot_ok x y hx hy, (by first | exact (fun _ => rfl) | exact (fun h => Bool.noConfusion h)), ?_⟩
  conv => whnf
  refine loop_ups (X := Int × Int) (fun (i, v) => [⟨0, 9, false, .d tI i⟩, ⟨0, 8, false, .d tI v⟩]) (fun (i, _) => e - i.toNat) (fun (i, v) => ∃ n : Nat, i = n ∧ v = powW (IntKind.i64.wrap (dot x y 0 + 1)) n ∧ n ≤ e) (0, 1) ?_ ⟨0, rfl, rfl, by omega⟩ ?_
  · refine st_eq ?_
    conv => whnf
    exact ⟨rfl⟩
  rintro ⟨_, _⟩ ⟨n, rfl, rfl, hn⟩
  conv => whnf
  refine cond_intro (fun h => ?_) (fun h => ?_)
  · have h : n < e := by simpa using h
    conv => whnf
    refine ⟨(_, _), rfl, ⟨n + 1, wrap_succ h (by unfold Short; omega), rfl, by omega⟩, ?_⟩
    rw [wrap_succ h (by unfold Short; omega)]; simp; omega
  · have h : ¬ n < e := by simpa using h
    obtain rfl : n = e := by omega
    conv => whnf
    exact ⟨_, _, rfl, .inl rfl, fin1 (rfl)⟩

def isDeg (e : Int) : Bool := inB e 1 3
theorem i_isDegree_ok (e : Int) : orc.pc n_i_isDegree [.d tI e] ⟨.bool, .fz, isDeg e⟩ := by
  refine p_i_isDegree true rfl rfl ?_
  conv => whnf
  refine ⟨_, i_within_ok _ _ _, (by first | exact (fun _ => rfl) | exact (fun h => Bool.noConfusion h)), ?_⟩
  conv => whnf
  exact ⟨_, _, rfl, .inl rfl, fin1 (rfl)⟩
theorem s_l10Degree_ok (e : Int) : orc.pc n_s_l10Degree [.d tI e] ⟨.bool, .fz, isDeg e⟩ := by
  refine p_s_l10Degree true rfl rfl ?_
  conv => whnf
  refine ⟨_, s_l1In_ok _ _ _, (by first | exact (fun _ => rfl) | exact (fun h => Bool.noConfusion h)), ?_⟩
  conv => whnf
  exact ⟨_, _, rfl, .inl rfl, fin1 (rfl)⟩

def isCounts (s : Sample) (c : List Int) (e : Int) : Bool := isSample s && (c.length == s.1.length && (c.all (inB · 0 999) && isDeg e))

theorem natBeq' {a b : Nat} : (((a : Int) == (b : Int)) = (a == b)) := natBeq a b

theorem i_areCounts_ok (s : Sample) (c : List Int) (e : Int) (hs : FitS s) (hc : c.length ≤ 1048576) : orc.pc n_i_areCounts [.d shSample s, .d tIS c, .d tI e] ⟨.bool, .fz, isCounts s c e⟩ := by
  refine p_i_areCounts true rfl rfl ?_
  conv => whnf
  refine ⟨_, i_IsSample_ok _ hs, (by first | exact (fun _ => rfl) | exact (fun h => Bool.noConfusion h)), ?_⟩
  conv => whnf
  refine cond_intro (fun q0 => ?_) (fun q0 => ?_)
  · have q : isSample s = true := by simpa using q0
    conv => whnf
    repeat ((first | refine cond_t q0 ?_ | refine cond_f (hT q0) ?_ | refine cond_t (gT q0) ?_); conv => whnf)
    refine cond_intro (fun r0 => ?_) (fun r0 => ?_)
    · have r : (c.length == s.1.length) = true := by
        have r1 : ((c.length : Int) == (s.1.length : Int)) = true := by simpa using r0
        rwa [natBeq] at r1
      conv => whnf
      repeat ((first | refine cond_t q0 ?_ | refine cond_f (hT q0) ?_ | refine cond_t (gT q0) ?_ | refine cond_t r0 ?_ | refine cond_f (hT r0) ?_ | refine cond_t (gT r0) ?_); conv => whnf)
      refine ⟨_, i_allWithin_ok _ _ _ hc, (by first | exact (fun _ => rfl) | exact (fun h => Bool.noConfusion h)), ?_⟩
      conv => whnf
      repeat ((first | refine cond_t q0 ?_ | refine cond_f (hT q0) ?_ | refine cond_t (gT q0) ?_ | refine cond_t r0 ?_ | refine cond_f (hT r0) ?_ | refine cond_t (gT r0) ?_); conv => whnf)
      refine cond_intro (fun t0 => ?_) (fun t0 => ?_)
      · have t : c.all (inB · 0 999) = true := by simpa using t0
        conv => whnf
        repeat ((first | refine cond_t q0 ?_ | refine cond_f (hT q0) ?_ | refine cond_t (gT q0) ?_ | refine cond_t r0 ?_ | refine cond_f (hT r0) ?_ | refine cond_t (gT r0) ?_ | refine cond_t t0 ?_ | refine cond_f (hT t0) ?_ | refine cond_t (gT t0) ?_); conv => whnf)
        refine ⟨_, i_isDegree_ok _, (by first | exact (fun _ => rfl) | exact (fun h => Bool.noConfusion h)), ?_⟩
        conv => whnf
        repeat ((first | refine cond_t q0 ?_ | refine cond_f (hT q0) ?_ | refine cond_t (gT q0) ?_ | refine cond_t r0 ?_ | refine cond_f (hT r0) ?_ | refine cond_t (gT r0) ?_ | refine cond_t t0 ?_ | refine cond_f (hT t0) ?_ | refine cond_t (gT t0) ?_); conv => whnf)
        exact ⟨_, _, rfl, .inl rfl, fin1 (by unfold isCounts; rw [q, r, t]; rfl)⟩
      · have t : c.all (inB · 0 999) = false := by simpa using t0
        conv => whnf
        repeat ((first | refine cond_t q0 ?_ | refine cond_f (hT q0) ?_ | refine cond_t (gT q0) ?_ | refine cond_t r0 ?_ | refine cond_f (hT r0) ?_ | refine cond_t (gT r0) ?_ | refine cond_f t0 ?_ | refine cond_t (hF t0) ?_ | refine cond_f (gF t0) ?_); conv => whnf)
        exact ⟨_, _, rfl, .inl rfl, fin1 (by unfold isCounts; rw [q, r, t]; rfl)⟩
    · have r : (c.length == s.1.length) = false := by
        have r1 : ((c.length : Int) == (s.1.length : Int)) = false := by simpa using r0
        rwa [natBeq] at r1
      conv => whnf
      repeat ((first | refine cond_t q0 ?_ | refine cond_f (hT q0) ?_ | refine cond_t (gT q0) ?_ | refine cond_f r0 ?_ | refine cond_t (hF r0) ?_ | refine cond_f (gF r0) ?_); conv => whnf)
      exact ⟨_, _, rfl, .inl rfl, fin1 (by unfold isCounts; rw [q, r]; rfl)⟩
  · have q : isSample s = false := by simpa using q0
    conv => whnf
    repeat ((first | refine cond_f q0 ?_ | refine cond_t (hF q0) ?_ | refine cond_f (gF q0) ?_); conv => whnf)
    exact ⟨_, _, rfl, .inl rfl, fin1 (by unfold isCounts; rw [q]; rfl)⟩

theorem s_l10Counts_ok (s : Sample) (c : List Int) (e : Int) (hs : FitS s) (hc : c.length ≤ 1048576) : orc.pc n_s_l10Counts [.d shSample s, .d tIS c, .d tI e] ⟨.bool, .fz, isCounts s c e⟩ := by
  refine p_s_l10Counts true rfl rfl ?_
  conv => whnf
  refine loop_ups (X := Int) (fun i => [⟨0, 7, false, .d tI i⟩]) (fun i => c.length - i.toNat) (fun i => ∃ n : Nat, i = n ∧ n ≤ c.length ∧ c.all (inB · 0 999) = (c.drop n).all (inB · 0 999)) 0 ?_ ⟨0, rfl, by omega, rfl⟩ ?_
  · refine st_eq ?_
    conv => whnf
    exact ⟨rfl⟩
  rintro _ ⟨n, rfl, hn, hi⟩
  conv => whnf
  refine cond_intro (fun h => ?_) (fun h => ?_)
  · have h : n < c.length := by simpa using h
    rw [all_drop _ c h tI.dflt] at hi
    conv => whnf
    refine ⟨⟨by omega, by omega⟩, ?_⟩
    conv => whnf
    refine ⟨_, s_l1In_ok _ _ _, (by first | exact (fun _ => rfl) | exact (fun h => Bool.noConfusion h)), ?_⟩
    conv => whnf
    refine cond_intro (fun g => ?_) (fun g => ?_)
    · have g : inB (c.getD n tI.dflt) 0 999 = false := by simpa using g
      conv => whnf
      exact ⟨_, _, rfl, .inl rfl, fin1 (by unfold isCounts; rw [hi, g]; simp)⟩
    · have g : inB (c.getD n tI.dflt) 0 999 = true := by simpa using g
      conv => whnf
      refine ⟨_, rfl, ⟨n + 1, wrap_succ h (by unfold Short; omega), by omega, by rw [hi, g]; rfl⟩, ?_⟩
      rw [wrap_succ h (by unfold Short; omega)]; simp; omega
  · have h : ¬ n < c.length := by simpa using h
    have t : c.all (inB · 0 999) = true := by rw [hi, drop_len h]; rfl
    conv => whnf
    refine ⟨_, s_l2Sample_ok _ hs, (by first | exact (fun _ => rfl) | exact (fun h => Bool.noConfusion h)), ?_⟩
    conv => whnf
    refine cond_intro (fun q0 => ?_) (fun q0 => ?_)
    · have q : isSample s = true := by simpa using q0
      conv => whnf
      repeat ((first | refine cond_t q0 ?_ | refine cond_f (hT q0) ?_ | refine cond_t (gT q0) ?_); conv => whnf)
      refine cond_intro (fun r0 => ?_) (fun r0 => ?_)
      · have r : (c.length == s.1.length) = true := by
          have r1 : ((c.length : Int) == (s.1.length : Int)) = true := by simpa using r0
          rwa [natBeq] at r1
        conv => whnf
        repeat ((first | refine cond_t q0 ?_ | refine cond_f (hT q0) ?_ | refine cond_t (gT q0) ?_ | refine cond_t r0 ?_ | refine cond_f (hT r0) ?_ | refine cond_t (gT r0) ?_); conv => whnf)
        refine ⟨_, s_l10Degree_ok _, (by first | exact (fun _ => rfl) | exact (fun h => Bool.noConfusion h)), ?_⟩
        conv => whnf
        repeat ((first | refine cond_t q0 ?_ | refine cond_f (hT q0) ?_ | refine cond_t (gT q0) ?_ | refine cond_t r0 ?_ | refine cond_f (hT r0) ?_ | refine cond_t (gT r0) ?_); conv => whnf)
        exact ⟨_, _, rfl, .inl rfl, fin1 (by unfold isCounts; rw [q, r, t]; rfl)⟩
      · have r : (c.length == s.1.length) = false := by
          have r1 : ((c.length : Int) == (s.1.length : Int)) = false := by simpa using r0
          rwa [natBeq] at r1
        conv => whnf
        repeat ((first | refine cond_t q0 ?_ | refine cond_f (hT q0) ?_ | refine cond_t (gT q0) ?_ | refine cond_f r0 ?_ | refine cond_t (hF r0) ?_ | refine cond_f (gF r0) ?_); conv => whnf)
        exact ⟨_, _, rfl, .inl rfl, fin1 (by unfold isCounts; rw [q, r]; rfl)⟩
    · have q : isSample s = false := by simpa using q0
      conv => whnf
      repeat ((first | refine cond_f q0 ?_ | refine cond_t (hF q0) ?_ | refine cond_f (gF q0) ?_); conv => whnf)
      exact ⟨_, _, rfl, .inl rfl, fin1 (by unfold isCounts; rw [q]; rfl)⟩

/-! ### Forces -/

def forceTo (s : Sample) (c : List Int) (e : Nat) (x : List Int) : Nat → Int
  | 0 => 0
  | n + 1 => IntKind.i64.wrap (forceTo s c e x n + IntKind.i64.wrap (IntKind.i64.wrap (c.getD n tI.dflt * s.2.1.getD n tI.dflt) * kern (s.1.getD n tIS.dflt) x e))
def forceOf (s : Sample) (c : List Int) (e : Nat) (x : List Int) : Int := forceTo s c e x s.1.length

structure OkK (s : Sample) (c : List Int) (e : Nat) : Prop where
  lab : s.2.1.length = s.1.length
  cnt : c.length = s.1.length
  few : s.1.length ≤ 16
  deg : e ≤ 3
  pts : ∀ i j, i < s.1.length → j < s.1.length → (s.1.getD i tIS.dflt).length ≤ (s.1.getD j tIS.dflt).length
  sgn : ∀ i, i < s.1.length → s.2.1.getD i tI.dflt = 1 ∨ s.2.1.getD i tI.dflt = -1

theorem okK_of {s : Sample} {c : List Int} {e : Int} (h : isCounts s c e = true) : ∃ n : Nat, e = n ∧ OkK s c n := by
  unfold isCounts isSample isDeg inB at h
  simp only [Bool.and_eq_true, decide_eq_true_eq, beq_iff_eq] at h
  obtain ⟨⟨⟨h1, h2⟩, h3, h4⟩, h5, _, h6, h7⟩ := h
  refine ⟨e.toNat, by omega, h2, h5, h1, by omega, ?_, ?_⟩
  · intro i j hi hj
    have a := List.all_eq_true.1 h3 _ (getD_mem hi tIS.dflt)
    have b := List.all_eq_true.1 h3 _ (getD_mem hj tIS.dflt)
    simp only [okPt, Bool.and_eq_true, beq_iff_eq] at a b
    omega
  · intro i hi
    have a := List.all_eq_true.1 h4 _ (getD_mem (show i < s.2.1.length by omega) tI.dflt)
    simpa [isLabel] using a

theorem i_Sample_force_ok (s : Sample) (c : List Int) (e : Nat) (hs : FitS s) (ok : OkK s c e) (j : Nat) (hj : j < s.1.length) :
    orc.pc n_i_Sample_force [.d shSample s, .d tIS c, .d tI (e : Int), .d tIS (s.1.getD j tIS.dflt)] ⟨tI, .fz, forceOf s c e (s.1.getD j tIS.dflt)⟩ := by
  have hlab := ok.lab
  have hcnt := ok.cnt
  have hfew := ok.few
  refine p_i_Sample_force true rfl rfl ?_
  conv => whnf
  refine loop_ups (X := Int × Int) (fun (i, v) => [⟨0, 15, false, .d tI i⟩, ⟨0, 9, false, .d tI v⟩]) (fun (i, _) => s.1.length - i.toNat) (fun (i, v) => ∃ n : Nat, i = n ∧ v = forceTo s c e (s.1.getD j tIS.dflt) n ∧ n ≤ s.1.length) (0, 0) ?_ ⟨0, rfl, rfl, by omega⟩ ?_
  · refine st_eq ?_
    conv => whnf
    exact ⟨rfl⟩
  rintro ⟨_, _⟩ ⟨n, rfl, rfl, hn⟩
  conv => whnf
  refine cond_intro (fun h => ?_) (fun h => ?_)
  · have h : n < s.1.length := by simpa using h
    conv => whnf
    refine ⟨⟨by omega, by omega⟩, ?_⟩
    conv => whnf
    refine ⟨⟨by omega, by omega⟩, ?_⟩
    conv => whnf
    refine ⟨⟨by omega, by omega⟩, ?_⟩
    conv => whnf
    refine ⟨_, i_kernel_ok (s.1.getD j tIS.dflt) (s.1.getD n tIS.dflt) e (hs.p.at hj _) (ok.pts j n hj h) ok.deg, (by first | exact (fun _ => rfl) | exact (fun h => Bool.noConfusion h)), ?_⟩
    conv => whnf
    refine ⟨(_, _), rfl, ⟨n + 1, wrap_succ h (by unfold Short; omega), ?_, by omega⟩, ?_⟩
    · rw [kern_comm (s.1.getD j tIS.dflt)]; rfl
    · rw [wrap_succ h (by unfold Short; omega)]; simp; omega
  · have h : ¬ n < s.1.length := by simpa using h
    obtain rfl : n = s.1.length := by omega
    conv => whnf
    exact ⟨_, _, rfl, .inl rfl, fin1 (rfl)⟩

theorem s_l10Force_ok (s : Sample) (c : List Int) (e : Nat) (hs : FitS s) (ok : OkK s c e) (j : Nat) (hj : j < s.1.length) :
    orc.pc n_s_l10Force [.d shSample s, .d tIS c, .d tI (e : Int), .d tIS (s.1.getD j tIS.dflt)] ⟨tI, .fz, forceOf s c e (s.1.getD j tIS.dflt)⟩ := by
  have hlab := ok.lab
  have hcnt := ok.cnt
  have hfew := ok.few
  refine p_s_l10Force true rfl rfl ?_
  conv => whnf
  refine loop_ups (X := Int × Int) (fun (i, v) => [⟨0, 10, false, .d tI i⟩, ⟨0, 9, false, .d tI v⟩]) (fun (i, _) => s.1.length - i.toNat) (fun (i, v) => ∃ n : Nat, i = n ∧ v = forceTo s c e (s.1.getD j tIS.dflt) n ∧ n ≤ s.1.length) (0, 0) ?_ ⟨0, rfl, rfl, by omega⟩ ?_
  · refine st_eq ?_
    conv => whnf
    exact ⟨rfl⟩
  rintro ⟨_, _⟩ ⟨n, rfl, rfl, hn⟩
  conv => whnf
  refine cond_intro (fun h => ?_) (fun h => ?_)
  · have h : n < c.length := by simpa using h
    have h' : n < s.1.length := by omega
    conv => whnf
    refine ⟨⟨by omega, by omega⟩, ?_⟩
    conv => whnf
    refine ⟨⟨by omega, by omega⟩, ?_⟩
    conv => whnf
    refine ⟨⟨by omega, by omega⟩, ?_⟩
    conv => whnf
    refine ⟨_, s_l10Kernel_ok (s.1.getD n tIS.dflt) (s.1.getD j tIS.dflt) e (hs.p.at h' _) (ok.pts n j h' hj) ok.deg, (by first | exact (fun _ => rfl) | exact (fun h => Bool.noConfusion h)), ?_⟩
    conv => whnf
    refine ⟨(_, _), rfl, ⟨n + 1, wrap_succ h (by unfold Short; omega), rfl, by omega⟩, ?_⟩
    rw [wrap_succ h (by unfold Short; omega)]; simp; omega
  · have h : ¬ n < c.length := by simpa using h
    obtain rfl : n = s.1.length := by omega
    conv => whnf
    exact ⟨_, _, rfl, .inl rfl, fin1 (rfl)⟩

/-! ### Points on which a kernel is wrong -/

def badK (s : Sample) (c : List Int) (e : Nat) (n : Nat) : Bool := !(decide (0 ≤ forceOf s c e (s.1.getD n tIS.dflt)) == (s.2.1.getD n tI.dflt == 1))
def badL (s : Sample) (c : List Int) (e : Nat) : Nat → List Int
  | 0 => []
  | n + 1 => cond (badK s c e n) (badL s c e n ++ [(n : Int)]) (badL s c e n)
theorem badL_len (s : Sample) (c : List Int) (e : Nat) : ∀ n, (badL s c e n).length ≤ n := by
  intro n
  induction n with
  | zero => simp [badL]
  | succ n ih => simp only [badL]; cases badK s c e n <;> simp <;> omega
theorem badL_yes {s : Sample} {c : List Int} {e n : Nat} (h : badK s c e n = true) : badL s c e (n + 1) = badL s c e n ++ [(n : Int)] := by simp only [badL, h, cond_true]
theorem badL_no {s : Sample} {c : List Int} {e n : Nat} (h : badK s c e n = false) : badL s c e (n + 1) = badL s c e n := by simp only [badL, h, cond_false]

def pullOf (s : Sample) (c : List Int) (e : Nat) (x : List Int) : Int := if 0 ≤ forceOf s c e x then 1 else -1
theorem pull_bad {s : Sample} {c : List Int} {e n : Nat} (h : s.2.1.getD n tI.dflt = 1 ∨ s.2.1.getD n tI.dflt = -1) : (!(pullOf s c e (s.1.getD n tIS.dflt) == s.2.1.getD n tI.dflt)) = badK s c e n := by
  unfold badK pullOf
  generalize forceOf s c e (s.1.getD n tIS.dflt) = f
  by_cases hp : 0 ≤ f
  · rw [if_pos hp]; rcases h with h | h <;> rw [h] <;> simp [hp]
  · rw [if_neg hp]; rcases h with h | h <;> rw [h] <;> simp [hp]

theorem i_Sample_pull_ok (s : Sample) (c : List Int) (e : Nat) (hs : FitS s) (ok : OkK s c e) (j : Nat) (hj : j < s.1.length) :
    orc.pc n_i_Sample_pull [.d shSample s, .d tIS c, .d tI (e : Int), .d tIS (s.1.getD j tIS.dflt)] ⟨tI, .fz, pullOf s c e (s.1.getD j tIS.dflt)⟩ := by
  refine p_i_Sample_pull true rfl rfl ?_
  conv => whnf
  refine ⟨_, i_Sample_force_ok s c e hs ok j hj, (by first | exact (fun _ => rfl) | exact (fun h => Bool.noConfusion h)), ?_⟩
  conv => whnf
  refine cond_intro (fun h => ?_) (fun h => ?_)
  · have h : 0 ≤ forceOf s c e (s.1.getD j tIS.dflt) := of_decide_eq_true h
    conv => whnf
    exact ⟨_, _, rfl, .inl rfl, fin1 (by unfold pullOf; rw [if_pos h])⟩
  · have h : ¬ 0 ≤ forceOf s c e (s.1.getD j tIS.dflt) := of_decide_eq_false h
    conv => whnf
    exact ⟨_, _, rfl, .inl rfl, fin1 (by unfold pullOf; rw [if_neg h])⟩

theorem i_KernelMistakes_1_ok (s : Sample) (c : List Int) (e : Nat) (hs : FitS s) (ok : OkK s c e) (j : Nat) (hj : j < s.1.length) :
    orc.pc n_i_KernelMistakes_1 [.d tIS (s.1.getD j tIS.dflt), .d (.ptr shSample) (some s), .d (.ptr tIS) (some c), .d (.ptr tI) (some (e : Int))] ⟨tI, .fz, pullOf s c e (s.1.getD j tIS.dflt)⟩ := by
  refine p_i_KernelMistakes_1 true rfl rfl ?_
  conv => whnf
  refine ⟨_, i_Sample_pull_ok s c e hs ok j hj, (by first | exact (fun _ => rfl) | exact (fun h => Bool.noConfusion h)), ?_⟩
  conv => whnf
  exact ⟨_, _, rfl, .inl rfl, fin1 (rfl)⟩

theorem i_Sample_wrong_ker (s : Sample) (c : List Int) (e : Nat) (hs : FitS s) (ok : OkK s c e) :
    orc.pc n_i_Sample_wrong [.d shSample s, .d (.fn n_i_KernelMistakes_1 (.pair (.ptr shSample) (.pair (.ptr tIS) (.pair (.ptr tI) .unit)))) (some s, some c, some (e : Int), ())] ⟨tIS, .ow .fz, badL s c e s.1.length⟩ := by
  have hlab := ok.lab
  have hfew := ok.few
  refine p_i_Sample_wrong true rfl rfl ?_
  conv => whnf
  refine loop_ups (X := Int × List Int) (fun (i, x) => [⟨0, 12, false, .d tI i⟩, ⟨0, 5, false, .own tI .fz x⟩]) (fun (i, _) => s.1.length - i.toNat) (fun (i, x) => ∃ n : Nat, i = n ∧ x = badL s c e n ∧ n ≤ s.1.length) (0, []) ?_ ⟨0, rfl, rfl, by omega⟩ ?_
  · refine st_eq ?_
    conv => whnf
    exact ⟨rfl⟩
  rintro ⟨_, _⟩ ⟨n, rfl, rfl, hn⟩
  have hbl := badL_len s c e n
  conv => whnf
  refine cond_intro (fun h => ?_) (fun h => ?_)
  · have h : n < s.1.length := by simpa using h
    conv => whnf
    refine ⟨⟨by omega, by omega⟩, ?_⟩
    conv => whnf
    refine ⟨_, i_KernelMistakes_1_ok s c e hs ok n h, (by first | exact (fun _ => rfl) | exact (fun h => Bool.noConfusion h)), ?_⟩
    conv => whnf
    refine ⟨⟨by omega, by omega⟩, ?_⟩
    conv => whnf
    have hb := pull_bad (c := c) (e := e) (ok.sgn n h)
    refine cond_intro (fun g => ?_) (fun g => ?_)
    · have g : badK s c e n = true := hb.symm.trans g
      conv => whnf
      refine ⟨⟨room_snoc (by omega) (by decide), len_snoc (by omega)⟩, ?_⟩
      conv => whnf
      refine ⟨(_, _), rfl, ⟨n + 1, wrap_succ h (by unfold Short; omega), (badL_yes g).symm, by omega⟩, ?_⟩
      rw [wrap_succ h (by unfold Short; omega)]; simp; omega
    · have g : badK s c e n = false := hb.symm.trans g
      conv => whnf
      refine ⟨(_, _), rfl, ⟨n + 1, wrap_succ h (by unfold Short; omega), (badL_no g).symm, by omega⟩, ?_⟩
      rw [wrap_succ h (by unfold Short; omega)]; simp; omega
  · have h : ¬ n < s.1.length := by simpa using h
    obtain rfl : n = s.1.length := by omega
    conv => whnf
    exact ⟨_, _, rfl, .inl rfl, fin1 (rfl)⟩

theorem s_l10Wrong_ok (s : Sample) (c : List Int) (e : Nat) (hs : FitS s) (ok : OkK s c e) (j : Nat) (hj : j < s.1.length) :
    orc.pc n_s_l10Wrong [.d shSample s, .d tIS c, .d tI (e : Int), .d tI (j : Int)] ⟨.bool, .fz, badK s c e j⟩ := by
  have hlab := ok.lab
  refine p_s_l10Wrong true rfl rfl ?_
  conv => whnf
  refine ⟨⟨by omega, by omega⟩, ?_⟩
  conv => whnf
  refine ⟨_, s_l10Force_ok s c e hs ok j hj, (by first | exact (fun _ => rfl) | exact (fun h => Bool.noConfusion h)), ?_⟩
  conv => whnf
  refine ⟨⟨by omega, by omega⟩, ?_⟩
  conv => whnf
  exact ⟨_, _, rfl, .inl rfl, fin1 (rfl)⟩

def kernR (s : Sample) (c : List Int) (e : Int) : List Int × Bool × Unit := if isCounts s c e then (badL s c e.toNat s.1.length, true, ()) else ([], false, ())
theorem kernR_no {s : Sample} {c : List Int} {e : Int} (h : isCounts s c e = false) : kernR s c e = ([], false, ()) := by simp [kernR, h]
theorem kernR_yes {s : Sample} {c : List Int} {e : Int} (h : isCounts s c e = true) : kernR s c e = (badL s c e.toNat s.1.length, true, ()) := by simp [kernR, h]
theorem kernR_short {s : Sample} {c : List Int} {e : Int} : (kernR s c e).1.length ≤ 1048576 := by
  cases h : isCounts s c e with
  | true =>
    obtain ⟨n, rfl, ok⟩ := okK_of h
    rw [kernR_yes h]
    have := badL_len s c (n : Int).toNat s.1.length
    have := ok.few
    show (badL s c (n : Int).toNat s.1.length).length ≤ _
    omega
  | false => rw [kernR_no h]; simp

theorem i_KernelMistakes_ok (s : Sample) (c : List Int) (e : Int) (hs : FitS s) (hc : c.length ≤ 1048576) : orc.pc n_i_KernelMistakes [.d shSample s, .d tIS c, .d tI e] ⟨shLB, oLB, kernR s c e⟩ := by
  refine p_i_KernelMistakes true rfl rfl ?_
  conv => whnf
  refine ⟨_, i_areCounts_ok _ _ _ hs hc, (by first | exact (fun _ => rfl) | exact (fun h => Bool.noConfusion h)), ?_⟩
  conv => whnf
  refine cond_intro (fun h => ?_) (fun h => ?_)
  · have h : isCounts s c e = false := by simpa using h
    rw [kernR_no h]
    conv => whnf
    exact ⟨_, _, rfl, .inl rfl, rfl⟩
  · have h : isCounts s c e = true := by simpa using h
    rw [kernR_yes h]
    obtain ⟨n, rfl, ok⟩ := okK_of h
    conv => whnf
    refine ⟨_, i_Sample_wrong_ker s c n hs ok, (by first | exact (fun _ => rfl) | exact (fun h => Bool.noConfusion h)), ?_⟩
    conv => whnf
    exact ⟨_, _, rfl, .inl rfl, rfl⟩

theorem s_KernelMistakes_ok (s : Sample) (c : List Int) (e : Int) (hs : FitS s) (hc : c.length ≤ 1048576) : orc.pc n_s_KernelMistakes [.d shSample s, .d tIS c, .d tI e] ⟨shLB, oLB, kernR s c e⟩ := by
  refine p_s_KernelMistakes true rfl rfl ?_
  conv => whnf
  refine ⟨_, s_l10Counts_ok _ _ _ hs hc, (by first | exact (fun _ => rfl) | exact (fun h => Bool.noConfusion h)), ?_⟩
  conv => whnf
  refine cond_intro (fun h => ?_) (fun h => ?_)
  · have h : isCounts s c e = false := by simpa using h
    rw [kernR_no h]
    conv => whnf
    exact ⟨_, _, rfl, .inl rfl, rfl⟩
  have hk : isCounts s c e = true := by simpa using h
  rw [kernR_yes hk]
  obtain ⟨k, rfl, ok⟩ := okK_of hk
  have hcnt := ok.cnt
  have hfew := ok.few
  conv => whnf
  refine loop_ups (X := Int × List Int) (fun (i, x) => [⟨0, 9, false, .d tI i⟩, ⟨0, 8, false, .own tI .fz x⟩]) (fun (i, _) => s.1.length - i.toNat) (fun (i, x) => ∃ n : Nat, i = n ∧ x = badL s c k n ∧ n ≤ s.1.length) (0, []) ?_ ⟨0, rfl, rfl, by omega⟩ ?_
  · refine st_eq ?_
    conv => whnf
    exact ⟨rfl⟩
  rintro ⟨_, _⟩ ⟨n, rfl, rfl, hn⟩
  have hbl := badL_len s c k n
  conv => whnf
  refine cond_intro (fun h => ?_) (fun h => ?_)
  · have h : n < c.length := by simpa using h
    conv => whnf
    refine ⟨_, s_l10Wrong_ok s c k hs ok n (by omega), (by first | exact (fun _ => rfl) | exact (fun h => Bool.noConfusion h)), ?_⟩
    conv => whnf
    refine cond_intro (fun g => ?_) (fun g => ?_)
    · conv => whnf
      refine ⟨⟨room_snoc (by omega) (by decide), len_snoc (by omega)⟩, ?_⟩
      conv => whnf
      refine ⟨(_, _), rfl, ⟨n + 1, wrap_succ h (by unfold Short; omega), (badL_yes g).symm, by omega⟩, ?_⟩
      rw [wrap_succ h (by unfold Short; omega)]; simp; omega
    · conv => whnf
      refine ⟨(_, _), rfl, ⟨n + 1, wrap_succ h (by unfold Short; omega), (badL_no g).symm, by omega⟩, ?_⟩
      rw [wrap_succ h (by unfold Short; omega)]; simp; omega
  · have h : ¬ n < c.length := by simpa using h
    obtain rfl : n = s.1.length := by omega
    conv => whnf
    exact ⟨_, _, rfl, .inl rfl, rfl⟩

end Go.Proofs.Ytgebhckfdcajoaa.Ev
