/- Validity of points, samples, planes and schools, in the program and in the reference. -/
import Derived.Test.YtlndfmmigndgeaaFnB
namespace Go.Proofs.Ytlndfmmigndgeaa.Ev
open Go
set_option linter.unusedVariables false
set_option linter.unusedSimpArgs false
set_option maxRecDepth 100000
set_option exponentiation.threshold 100000

theorem all_drop {α : Type} (p : α → Bool) (l : List α) {n : Nat} (h : n < l.length) (d : α) : (l.drop n).all p = (p (l.getD n d) && (l.drop (n + 1)).all p) := by
  rw [drop_getD l h d]; rfl

theorem i_allWithin_ok (l : List Int) (lo hi : Int) (hl : l.length ≤ 1048576) : orc.pc n_i_allWithin [.d tIS l, .d tI lo, .d tI hi] ⟨.bool, .fz, l.all (inB · lo hi)⟩ := by
  refine p_i_allWithin true rfl rfl ?_
  conv => whnf
  refine loop_ups (X := Int) (fun i => [⟨0, 11, false, .d tI i⟩]) (fun i => l.length - i.toNat) (fun i => ∃ n : Nat, i = n ∧ n ≤ l.length ∧ l.all (inB · lo hi) = (l.drop n).all (inB · lo hi)) 0 ?_ ⟨0, rfl, by omega, rfl⟩ ?_
  · refine st_eq ?_
    conv => whnf
    exact ⟨rfl⟩
  rintro _ ⟨n, rfl, hn, hi'⟩
  conv => whnf
  refine cond_intro (fun h => ?_) (fun h => ?_)
  · have h : n < l.length := by simpa using h
    conv => whnf
    refine ⟨⟨by omega, by omega⟩, ?_⟩
    conv => whnf
    refine ⟨_, i_within_ok _ _ _, (by first | exact (fun _ => rfl) | exact (fun h => Bool.noConfusion h)), ?_⟩
    conv => whnf
    rw [all_drop _ l h tI.dflt] at hi'
    refine cond_intro (fun g => ?_) (fun g => ?_)
    · have g : inB (l.getD n tI.dflt) lo hi = false := by simpa using g
      conv => whnf
      exact ⟨_, _, rfl, .inl rfl, fin1 (by rw [hi', g]; rfl)⟩
    · have g : inB (l.getD n tI.dflt) lo hi = true := by simpa using g
      conv => whnf
      refine ⟨_, rfl, ⟨n + 1, wrap_succ h (by unfold Short; omega), by omega, by rw [hi', g]; simp⟩, ?_⟩
      rw [wrap_succ h (by unfold Short; omega)]; simp; omega
  · have h : ¬ n < l.length := by simpa using h
    conv => whnf
    exact ⟨_, _, rfl, .inl rfl, fin1 (by rw [hi', drop_len h]; rfl)⟩

theorem s_l2Numbers_ok (l : List Int) (m : Int) (hl : l.length ≤ 1048576) (hm : 0 ≤ m) (hm' : m ≤ 1048576) : orc.pc n_s_l2Numbers [.d tIS l, .d tI m] ⟨.bool, .fz, l.all (inB · (-m) m)⟩ := by
  refine p_s_l2Numbers true rfl rfl ?_
  conv => whnf
  refine loop_ups (X := Int) (fun i => [⟨0, 5, false, .d tI i⟩]) (fun i => l.length - i.toNat) (fun i => ∃ n : Nat, i = n ∧ n ≤ l.length ∧ l.all (inB · (-m) m) = (l.drop n).all (inB · (-m) m)) 0 ?_ ⟨0, rfl, by omega, rfl⟩ ?_
  · refine st_eq ?_
    conv => whnf
    exact ⟨rfl⟩
  rintro _ ⟨n, rfl, hn, hi'⟩
  conv => whnf
  refine cond_intro (fun h => ?_) (fun h => ?_)
  · have h : n < l.length := by simpa using h
    conv => whnf
    refine ⟨⟨by omega, by omega⟩, ?_⟩
    conv => whnf
    refine ⟨_, s_l1In_ok _ _ _, (by first | exact (fun _ => rfl) | exact (fun h => Bool.noConfusion h)), ?_⟩
    conv => whnf
    have hw : IntKind.i64.wrap (0 - m) = -m := by rw [wrap_in (by omega) (by omega)]; omega
    rw [all_drop _ l h tI.dflt] at hi'
    rw [hw]
    refine cond_intro (fun g => ?_) (fun g => ?_)
    · have g : inB (l.getD n tI.dflt) (-m) m = false := by simpa using g
      conv => whnf
      exact ⟨_, _, rfl, .inl rfl, fin1 (by rw [hi', g]; rfl)⟩
    · have g : inB (l.getD n tI.dflt) (-m) m = true := by simpa using g
      conv => whnf
      refine ⟨_, rfl, ⟨n + 1, wrap_succ h (by unfold Short; omega), by omega, by rw [hi', g]; simp⟩, ?_⟩
      rw [wrap_succ h (by unfold Short; omega)]; simp; omega
  · have h : ¬ n < l.length := by simpa using h
    conv => whnf
    exact ⟨_, _, rfl, .inl rfl, fin1 (by rw [hi', drop_len h]; rfl)⟩

def isPoint (x : List Int) : Bool := inB x.length 1 4 && x.all (inB · (-9) 9)
def isPlane (p : Plane) : Bool := inB p.1.length 1 4 && p.1.all (inB · (-99) 99) && inB p.2.1 (-99) 99
def isLabel (n : Int) : Bool := n == 1 || n == -1

theorem i_IsPoint_ok (x : List Int) (hl : x.length ≤ 1048576) : orc.pc n_i_IsPoint [.d tIS x] ⟨.bool, .fz, isPoint x⟩ := by
  refine p_i_IsPoint true rfl rfl ?_
  conv => whnf
  refine ⟨_, i_within_ok _ _ _, (by first | exact (fun _ => rfl) | exact (fun h => Bool.noConfusion h)), ?_⟩
  conv => whnf
  refine cond_intro (fun h => ?_) (fun h => ?_)
  · have h : inB x.length 1 4 = true := by simpa using h
    conv => whnf
    refine ⟨_, i_allWithin_ok _ _ _ hl, (by first | exact (fun _ => rfl) | exact (fun h => Bool.noConfusion h)), ?_⟩
    conv => whnf
    exact ⟨_, _, rfl, .inl rfl, fin1 (by unfold isPoint; rw [h]; rfl)⟩
  · have h : inB x.length 1 4 = false := by simpa using h
    conv => whnf
    exact ⟨_, _, rfl, .inl rfl, fin1 (by unfold isPoint; rw [h]; rfl)⟩

theorem s_l2Point_ok (x : List Int) (hl : x.length ≤ 1048576) : orc.pc n_s_l2Point [.d tIS x] ⟨.bool, .fz, isPoint x⟩ := by
  refine p_s_l2Point true rfl rfl ?_
  conv => whnf
  refine ⟨_, s_l1In_ok _ _ _, (by first | exact (fun _ => rfl) | exact (fun h => Bool.noConfusion h)), ?_⟩
  conv => whnf
  refine cond_intro (fun h => ?_) (fun h => ?_)
  · have h : inB x.length 1 4 = true := by simpa using h
    conv => whnf
    refine ⟨_, s_l2Numbers_ok _ _ hl (by decide) (by decide), (by first | exact (fun _ => rfl) | exact (fun h => Bool.noConfusion h)), ?_⟩
    conv => whnf
    exact ⟨_, _, rfl, .inl rfl, fin1 (by unfold isPoint; rw [h]; rfl)⟩
  · have h : inB x.length 1 4 = false := by simpa using h
    conv => whnf
    exact ⟨_, _, rfl, .inl rfl, fin1 (by unfold isPoint; rw [h]; rfl)⟩

theorem i_isLabel_ok (n : Int) : orc.pc n_i_isLabel [.d tI n] ⟨.bool, .fz, isLabel n⟩ := by
  refine p_i_isLabel true rfl rfl ?_
  conv => whnf
  refine cond_intro (fun h => ?_) (fun h => ?_)
  · have h : (n == 1) = false := by simpa using h
    conv => whnf
    exact ⟨_, _, rfl, .inl rfl, fin1 (by unfold isLabel; rw [h]; rfl)⟩
  · have h : (n == 1) = true := by simpa using h
    conv => whnf
    exact ⟨_, _, rfl, .inl rfl, fin1 (by unfold isLabel; rw [h]; rfl)⟩

theorem i_IsPlane_ok (p : Plane) (hl : p.1.length ≤ 1048576) : orc.pc n_i_IsPlane [.d shPlane p] ⟨.bool, .fz, isPlane p⟩ := by
  refine p_i_IsPlane true rfl rfl ?_
  conv => whnf
  refine ⟨_, i_within_ok _ _ _, (by first | exact (fun _ => rfl) | exact (fun h => Bool.noConfusion h)), ?_⟩
  conv => whnf
  refine cond_intro (fun h => ?_) (fun h => ?_)
  · have h : inB p.1.length 1 4 = true := by simpa using h
    conv => whnf
    refine ⟨_, i_allWithin_ok _ _ _ hl, (by first | exact (fun _ => rfl) | exact (fun h => Bool.noConfusion h)), ?_⟩
    conv => whnf
    refine cond_intro (fun g => ?_) (fun g => ?_)
    · have g : p.1.all (inB · (-99) 99) = true := by simpa using g
      conv => whnf
      refine ⟨_, i_within_ok _ _ _, (by first | exact (fun _ => rfl) | exact (fun h => Bool.noConfusion h)), ?_⟩
      conv => whnf
      exact ⟨_, _, rfl, .inl rfl, fin1 (by unfold isPlane; rw [h, g]; rfl)⟩
    · have g : p.1.all (inB · (-99) 99) = false := by simpa using g
      conv => whnf
      exact ⟨_, _, rfl, .inl rfl, fin1 (by unfold isPlane; rw [h, g]; rfl)⟩
  · have h : inB p.1.length 1 4 = false := by simpa using h
    conv => whnf
    exact ⟨_, _, rfl, .inl rfl, fin1 (by unfold isPlane; rw [h]; rfl)⟩

theorem s_l2Plane_ok (p : Plane) (hl : p.1.length ≤ 1048576) : orc.pc n_s_l2Plane [.d shPlane p] ⟨.bool, .fz, isPlane p⟩ := by
  refine p_s_l2Plane true rfl rfl ?_
  conv => whnf
  refine ⟨_, s_l1In_ok _ _ _, (by first | exact (fun _ => rfl) | exact (fun h => Bool.noConfusion h)), ?_⟩
  conv => whnf
  refine cond_intro (fun h => ?_) (fun h => ?_)
  · have h : inB p.1.length 1 4 = true := by simpa using h
    conv => whnf
    refine ⟨_, s_l2Numbers_ok _ _ hl (by decide) (by decide), (by first | exact (fun _ => rfl) | exact (fun h => Bool.noConfusion h)), ?_⟩
    conv => whnf
    refine cond_intro (fun g => ?_) (fun g => ?_)
    · have g : p.1.all (inB · (-99) 99) = true := by simpa using g
      conv => whnf
      refine ⟨_, s_l1In_ok _ _ _, (by first | exact (fun _ => rfl) | exact (fun h => Bool.noConfusion h)), ?_⟩
      conv => whnf
      exact ⟨_, _, rfl, .inl rfl, fin1 (by unfold isPlane; rw [h, g]; rfl)⟩
    · have g : p.1.all (inB · (-99) 99) = false := by simpa using g
      conv => whnf
      exact ⟨_, _, rfl, .inl rfl, fin1 (by unfold isPlane; rw [h, g]; rfl)⟩
  · have h : inB p.1.length 1 4 = false := by simpa using h
    conv => whnf
    exact ⟨_, _, rfl, .inl rfl, fin1 (by unfold isPlane; rw [h]; rfl)⟩

theorem s_l2Labels_ok (l : List Int) (hl : l.length ≤ 1048576) : orc.pc n_s_l2Labels [.d tIS l] ⟨.bool, .fz, l.all isLabel⟩ := by
  refine p_s_l2Labels true rfl rfl ?_
  conv => whnf
  refine loop_ups (X := Int) (fun i => [⟨0, 3, false, .d tI i⟩]) (fun i => l.length - i.toNat) (fun i => ∃ n : Nat, i = n ∧ n ≤ l.length ∧ l.all isLabel = (l.drop n).all isLabel) 0 ?_ ⟨0, rfl, by omega, rfl⟩ ?_
  · refine st_eq ?_
    conv => whnf
    exact ⟨rfl⟩
  rintro _ ⟨n, rfl, hn, hi'⟩
  conv => whnf
  refine cond_intro (fun h => ?_) (fun h => ?_)
  · have h : n < l.length := by simpa using h
    rw [all_drop _ l h tI.dflt] at hi'
    conv => whnf
    refine ⟨⟨by omega, by omega⟩, ?_⟩
    conv => whnf
    refine cond_intro (fun g => ?_) (fun g => ?_)
    · have g : ((l.getD n tI.dflt) == 1) = false := by simpa using g
      conv => whnf
      refine ⟨⟨by omega, by omega⟩, ?_⟩
      conv => whnf
      refine cond_intro (fun g' => ?_) (fun g' => ?_)
      · have g' : ((l.getD n tI.dflt) == -1) = false := by simpa using g'
        conv => whnf
        exact ⟨_, _, rfl, .inl rfl, fin1 (by rw [hi', isLabel, g, g']; rfl)⟩
      · have g' : ((l.getD n tI.dflt) == -1) = true := by simpa using g'
        conv => whnf
        refine ⟨_, rfl, ⟨n + 1, wrap_succ h (by unfold Short; omega), by omega, by rw [hi', isLabel, g, g']; simp⟩, ?_⟩
        rw [wrap_succ h (by unfold Short; omega)]; simp; omega
    · have g : ((l.getD n tI.dflt) == 1) = true := by simpa using g
      conv => whnf
      refine ⟨_, rfl, ⟨n + 1, wrap_succ h (by unfold Short; omega), by omega, by rw [hi', isLabel, g]; simp⟩, ?_⟩
      rw [wrap_succ h (by unfold Short; omega)]; simp; omega
  · have h : ¬ n < l.length := by simpa using h
    conv => whnf
    exact ⟨_, _, rfl, .inl rfl, fin1 (by rw [hi', drop_len h]; rfl)⟩


/-! ### Samples -/

def fstLen (s : Sample) : Nat := (s.1.headD []).length
def okPt (m : Nat) (x : List Int) : Bool := isPoint x && x.length == m
def isSample (s : Sample) : Bool := decide (s.1.length ≤ 16) && s.2.1.length == s.1.length && (s.1.all (okPt (fstLen s)) && s.2.1.all isLabel)

theorem getD_zero {α : Type} (l : List α) (d : α) : l.getD 0 d = l.headD d := by cases l <;> rfl

theorem i_IsSample_ok (s : Sample) (hs : FitS s) : orc.pc n_i_IsSample [.d shSample s] ⟨.bool, .fz, isSample s⟩ := by
  have hp := hs.p.1
  have hl := hs.l
  refine p_i_IsSample true rfl rfl ?_
  conv => whnf
  refine cond_intro (fun h => ?_) (fun h => ?_)
  · have h : s.1.length ≤ 16 := by simp at h; omega
    conv => whnf
    refine cond_intro (fun g => ?_) (fun g => ?_)
    · have g : s.2.1.length ≠ s.1.length := by simp at g; omega
      conv => whnf
      exact ⟨_, _, rfl, .inl rfl, fin1 (by unfold isSample; simp [g])⟩
    have g : s.2.1.length = s.1.length := by simp at g; omega
    have base : isSample s = (s.1.all (okPt (fstLen s)) && s.2.1.all isLabel) := by unfold isSample; simp [g, h]
    conv => whnf
    refine loop_ups (X := Int) (fun i => [⟨0, 21, false, .d tI i⟩]) (fun i => s.1.length - i.toNat) (fun i => ∃ n : Nat, i = n ∧ n ≤ s.1.length ∧ isSample s = ((s.1.drop n).all (okPt (fstLen s)) && (s.2.1.drop n).all isLabel)) 0 ?_ ⟨0, rfl, by omega, by rw [base]; rfl⟩ ?_
    · refine st_eq ?_
      conv => whnf
      exact ⟨rfl⟩
    rintro _ ⟨n, rfl, hn, hi⟩
    conv => whnf
    refine cond_intro (fun k => ?_) (fun k => ?_)
    · have k : n < s.1.length := by simpa using k
      rw [all_drop _ s.1 k tIS.dflt, all_drop _ s.2.1 (by omega) tI.dflt] at hi
      conv => whnf
      refine ⟨⟨by omega, by omega⟩, ?_⟩
      conv => whnf
      refine ⟨_, i_IsPoint_ok _ (hs.p.at k _), (by first | exact (fun _ => rfl) | exact (fun h => Bool.noConfusion h)), ?_⟩
      conv => whnf
      have hz : s.1.getD 0 tIS.dflt = s.1.headD [] := getD_zero _ _
      refine cond_intro (fun q => ?_) (fun q => ?_)
      · have q : isPoint (s.1.getD n tIS.dflt) = true := by simpa using q
        conv => whnf
        refine ⟨⟨by omega, by omega⟩, ?_⟩
        conv => whnf
        refine cond_intro (fun r => ?_) (fun r => ?_)
        · have r : (s.1.getD n tIS.dflt).length = fstLen s := by unfold fstLen; rw [← hz]; simp at r ⊢; omega
          have r' : okPt (fstLen s) (s.1.getD n tIS.dflt) = true := by unfold okPt; rw [q, r]; simp
          conv => whnf
          refine ⟨⟨by omega, by omega⟩, ?_⟩
          conv => whnf
          refine ⟨_, i_isLabel_ok _, (by first | exact (fun _ => rfl) | exact (fun h => Bool.noConfusion h)), ?_⟩
          conv => whnf
          refine cond_intro (fun t => ?_) (fun t => ?_)
          · have t : isLabel (s.2.1.getD n tI.dflt) = false := by simpa using t
            conv => whnf
            exact ⟨_, _, rfl, .inl rfl, fin1 (by rw [hi, t]; simp)⟩
          · have t : isLabel (s.2.1.getD n tI.dflt) = true := by simpa using t
            conv => whnf
            refine ⟨_, rfl, ⟨n + 1, wrap_succ k (by unfold Short; omega), by omega, by rw [hi, t, r']; simp⟩, ?_⟩
            rw [wrap_succ k (by unfold Short; omega)]; simp; omega
        · have r : (s.1.getD n tIS.dflt).length ≠ fstLen s := by unfold fstLen; rw [← hz]; simp at r ⊢; omega
          have r' : okPt (fstLen s) (s.1.getD n tIS.dflt) = false := by unfold okPt; rw [q]; simpa using r
          conv => whnf
          exact ⟨_, _, rfl, .inl rfl, fin1 (by rw [hi, r']; simp)⟩
      · have q : isPoint (s.1.getD n tIS.dflt) = false := by simpa using q
        have r' : okPt (fstLen s) (s.1.getD n tIS.dflt) = false := by unfold okPt; rw [q]; simp
        conv => whnf
        exact ⟨_, _, rfl, .inl rfl, fin1 (by rw [hi, r']; simp)⟩
    · have k : ¬ n < s.1.length := by simpa using k
      conv => whnf
      exact ⟨_, _, rfl, .inl rfl, fin1 (by rw [hi, drop_len k, drop_len (by omega)]; rfl)⟩
  · have h : ¬ s.1.length ≤ 16 := by simp at h; omega
    conv => whnf
    exact ⟨_, _, rfl, .inl rfl, fin1 (by unfold isSample; simp [h])⟩

theorem s_l2Sample_ok (s : Sample) (hs : FitS s) : orc.pc n_s_l2Sample [.d shSample s] ⟨.bool, .fz, isSample s⟩ := by
  have hp := hs.p.1
  have hl := hs.l
  refine p_s_l2Sample true rfl rfl ?_
  conv => whnf
  refine cond_intro (fun h => ?_) (fun h => ?_)
  · have h : s.1.length ≤ 16 := by simp at h; omega
    conv => whnf
    refine cond_intro (fun g => ?_) (fun g => ?_)
    · have g : s.2.1.length = s.1.length := by simp at g; omega
      conv => whnf
      refine ⟨_, s_l2Labels_ok _ hl, (by first | exact (fun _ => rfl) | exact (fun h => Bool.noConfusion h)), ?_⟩
      conv => whnf
      refine cond_intro (fun e => ?_) (fun e => ?_)
      · have e : s.2.1.all isLabel = false := by simpa using e
        conv => whnf
        exact ⟨_, _, rfl, .inl rfl, fin1 (by unfold isSample; rw [e]; simp)⟩
      have e : s.2.1.all isLabel = true := by simpa using e
      have base : isSample s = s.1.all (okPt (fstLen s)) := by unfold isSample; rw [e]; simp [g, h]
      conv => whnf
      refine loop_ups (X := Int) (fun i => [⟨0, 3, false, .d tI i⟩]) (fun i => s.1.length - i.toNat) (fun i => ∃ n : Nat, i = n ∧ n ≤ s.1.length ∧ isSample s = (s.1.drop n).all (okPt (fstLen s))) 0 ?_ ⟨0, rfl, by omega, by rw [base]; rfl⟩ ?_
      · refine st_eq ?_
        conv => whnf
        exact ⟨rfl⟩
      rintro _ ⟨n, rfl, hn, hi⟩
      conv => whnf
      refine cond_intro (fun k => ?_) (fun k => ?_)
      · have k : n < s.1.length := by simpa using k
        rw [all_drop _ s.1 k tIS.dflt] at hi
        conv => whnf
        refine ⟨⟨by omega, by omega⟩, ?_⟩
        conv => whnf
        refine ⟨_, s_l2Point_ok _ (hs.p.at k _), (by first | exact (fun _ => rfl) | exact (fun h => Bool.noConfusion h)), ?_⟩
        conv => whnf
        have hz : s.1.getD 0 tIS.dflt = s.1.headD [] := getD_zero _ _
        refine cond_intro (fun q0 => ?_) (fun q0 => ?_)
        · have q : isPoint (s.1.getD n tIS.dflt) = true := by simpa using q0
          conv => whnf
          repeat ((first | refine cond_t q0 ?_ | refine cond_f (hT q0) ?_ | refine cond_t (gT q0) ?_); conv => whnf)
          refine ⟨⟨by omega, by omega⟩, ?_⟩
          conv => whnf
          repeat ((first | refine cond_t q0 ?_ | refine cond_f (hT q0) ?_ | refine cond_t (gT q0) ?_); conv => whnf)
          refine ⟨⟨by omega, by omega⟩, ?_⟩
          conv => whnf
          repeat ((first | refine cond_t q0 ?_ | refine cond_f (hT q0) ?_ | refine cond_t (gT q0) ?_); conv => whnf)
          refine cond_intro (fun r => ?_) (fun r => ?_)
          · have r : (s.1.getD n tIS.dflt).length ≠ fstLen s := by unfold fstLen; rw [← hz]; simp at r ⊢; omega
            have r' : okPt (fstLen s) (s.1.getD n tIS.dflt) = false := by unfold okPt; rw [q]; simpa using r
            conv => whnf
            exact ⟨_, _, rfl, .inl rfl, fin1 (by rw [hi, r']; simp)⟩
          · have r : (s.1.getD n tIS.dflt).length = fstLen s := by unfold fstLen; rw [← hz]; simp at r ⊢; omega
            have r' : okPt (fstLen s) (s.1.getD n tIS.dflt) = true := by unfold okPt; rw [q, r]; simp
            conv => whnf
            refine ⟨_, rfl, ⟨n + 1, wrap_succ k (by unfold Short; omega), by omega, by rw [hi, r']; simp⟩, ?_⟩
            rw [wrap_succ k (by unfold Short; omega)]; simp; omega
        · have q : isPoint (s.1.getD n tIS.dflt) = false := by simpa using q0
          have r' : okPt (fstLen s) (s.1.getD n tIS.dflt) = false := by unfold okPt; rw [q]; simp
          conv => whnf
          repeat ((first | refine cond_f q0 ?_ | refine cond_t (hF q0) ?_ | refine cond_f (gF q0) ?_); conv => whnf)
          exact ⟨_, _, rfl, .inl rfl, fin1 (by rw [hi, r']; simp)⟩
      · have k : ¬ n < s.1.length := by simpa using k
        conv => whnf
        exact ⟨_, _, rfl, .inl rfl, fin1 (by rw [hi, drop_len k]; rfl)⟩
    · have g : s.2.1.length ≠ s.1.length := by simp at g; omega
      conv => whnf
      exact ⟨_, _, rfl, .inl rfl, fin1 (by unfold isSample; simp [g])⟩
  · have h : ¬ s.1.length ≤ 16 := by simp at h; omega
    conv => whnf
    exact ⟨_, _, rfl, .inl rfl, fin1 (by unfold isSample; simp [h])⟩

end Go.Proofs.Ytlndfmmigndgeaa.Ev
