/- Juries: their sides, and the points on which they are wrong. -/
import Derived.Test.YtkkpfbfdiigbdaaFnQ
namespace Go.Proofs.Ytkkpfbfdiigbdaa.Ev
open Go
set_option linter.unusedVariables false
set_option linter.unusedSimpArgs false
set_option maxRecDepth 100000
set_option exponentiation.threshold 100000

theorem lenEq {a b : Nat} (h : (((a : Int) != (b : Int)) == false) = true) : a = b := by simp at h; omega
theorem lenNe {a b : Nat} (h : (((a : Int) != (b : Int)) == false) = false) : a ≠ b := by simp at h; omega
theorem lenEq' {a b : Nat} (h : ((a : Int) != (b : Int)) = false) : a = b := by simp at h; omega
theorem lenNe' {a b : Nat} (h : ((a : Int) != (b : Int)) = true) : a ≠ b := by simp at h; omega

def fstW (l : List Plane) : Nat := (l.getD 0 shPlane.dflt).1.length
def okPl (m : Nat) (p : Plane) : Bool := isPlane p && p.1.length == m
theorem okPl_no {m : Nat} {p : Plane} (h : isPlane p = false) : okPl m p = false := by unfold okPl; rw [h]; rfl
theorem okPl_len {m : Nat} {p : Plane} (h : p.1.length ≠ m) : okPl m p = false := by unfold okPl; simp [h]
theorem okPl_yes {m : Nat} {p : Plane} (h : isPlane p = true) (g : p.1.length = m) : okPl m p = true := by unfold okPl; rw [h, g]; simp
def isJury (l : List Plane) : Bool := l.all (okPl (fstW l)) && inB l.length 1 9

theorem i_isJury_ok (l : List Plane) (hl : FitP l) : orc.pc n_i_isJury [.d shPlS l] ⟨.bool, .fz, isJury l⟩ := by
  have hn0 := hl.n
  refine p_i_isJury true rfl rfl ?_
  conv => whnf
  refine loop_ups (X := Int) (fun i => [⟨0, 7, false, .d tI i⟩]) (fun i => l.length - i.toNat) (fun i => ∃ n : Nat, i = n ∧ n ≤ l.length ∧ l.all (okPl (fstW l)) = (l.drop n).all (okPl (fstW l))) 0 ?_ ⟨0, rfl, by omega, rfl⟩ ?_
  · refine st_eq ?_
    conv => whnf
    exact ⟨rfl⟩
  rintro _ ⟨n, rfl, hn, hi⟩
  conv => whnf
  refine cond_intro (fun h => ?_) (fun h => ?_)
  · have h : n < l.length := by simpa using h
    rw [all_drop _ l h shPlane.dflt] at hi
    conv => whnf
    refine ⟨⟨by omega, by omega⟩, ?_⟩
    conv => whnf
    refine ⟨_, i_IsPlane_ok _ (hl.at h _), (by first | exact (fun _ => rfl) | exact (fun h => Bool.noConfusion h)), ?_⟩
    conv => whnf
    refine cond_intro (fun q0 => ?_) (fun q0 => ?_)
    · have q : isPlane (l.getD n shPlane.dflt) = true := by simpa using q0
      conv => whnf
      repeat ((first | refine cond_t q0 ?_ | refine cond_f (hT q0) ?_ | refine cond_t (gT q0) ?_); conv => whnf)
      refine ⟨⟨by omega, by omega⟩, ?_⟩
      conv => whnf
      repeat ((first | refine cond_t q0 ?_ | refine cond_f (hT q0) ?_ | refine cond_t (gT q0) ?_); conv => whnf)
      refine cond_intro (fun u0 => ?_) (fun u0 => ?_)
      · have u : (l.getD n shPlane.dflt).1.length ≠ fstW l := lenNe' u0
        conv => whnf
        exact ⟨_, _, rfl, .inl rfl, fin1 (by unfold isJury; rw [hi, okPl_len u]; rfl)⟩
      · have u : (l.getD n shPlane.dflt).1.length = fstW l := lenEq' u0
        conv => whnf
        refine ⟨_, rfl, ⟨n + 1, wrap_succ h (by unfold Short; omega), by omega, by rw [hi, okPl_yes q u]; rfl⟩, ?_⟩
        rw [wrap_succ h (by unfold Short; omega)]; simp; omega
    · have q : isPlane (l.getD n shPlane.dflt) = false := by simpa using q0
      conv => whnf
      repeat ((first | refine cond_f q0 ?_ | refine cond_t (hF q0) ?_ | refine cond_f (gF q0) ?_); conv => whnf)
      exact ⟨_, _, rfl, .inl rfl, fin1 (by unfold isJury; rw [hi, okPl_no q]; rfl)⟩
  · have h : ¬ n < l.length := by simpa using h
    conv => whnf
    refine ⟨_, i_within_ok _ _ _, (by first | exact (fun _ => rfl) | exact (fun h => Bool.noConfusion h)), ?_⟩
    conv => whnf
    exact ⟨_, _, rfl, .inl rfl, fin1 (by unfold isJury; rw [hi, drop_len h]; rfl)⟩

theorem s_l8Jury_ok (l : List Plane) (hl : FitP l) : orc.pc n_s_l8Jury [.d shPlS l] ⟨.bool, .fz, isJury l⟩ := by
  have hn0 := hl.n
  refine p_s_l8Jury true rfl rfl ?_
  conv => whnf
  refine loop_ups (X := Int) (fun i => [⟨0, 3, false, .d tI i⟩]) (fun i => l.length - i.toNat) (fun i => ∃ n : Nat, i = n ∧ n ≤ l.length ∧ l.all (okPl (fstW l)) = (l.drop n).all (okPl (fstW l))) 0 ?_ ⟨0, rfl, by omega, rfl⟩ ?_
  · refine st_eq ?_
    conv => whnf
    exact ⟨rfl⟩
  rintro _ ⟨n, rfl, hn, hi⟩
  conv => whnf
  refine cond_intro (fun h => ?_) (fun h => ?_)
  · have h : n < l.length := by simpa using h
    rw [all_drop _ l h shPlane.dflt] at hi
    conv => whnf
    refine ⟨⟨by omega, by omega⟩, ?_⟩
    conv => whnf
    refine ⟨_, s_l2Plane_ok _ (hl.at h _), (by first | exact (fun _ => rfl) | exact (fun h => Bool.noConfusion h)), ?_⟩
    conv => whnf
    refine cond_intro (fun q0 => ?_) (fun q0 => ?_)
    · have q : isPlane (l.getD n shPlane.dflt) = true := by simpa using q0
      conv => whnf
      repeat ((first | refine cond_t q0 ?_ | refine cond_f (hT q0) ?_ | refine cond_t (gT q0) ?_); conv => whnf)
      refine ⟨⟨by omega, by omega⟩, ?_⟩
      conv => whnf
      repeat ((first | refine cond_t q0 ?_ | refine cond_f (hT q0) ?_ | refine cond_t (gT q0) ?_); conv => whnf)
      refine ⟨⟨by omega, by omega⟩, ?_⟩
      conv => whnf
      repeat ((first | refine cond_t q0 ?_ | refine cond_f (hT q0) ?_ | refine cond_t (gT q0) ?_); conv => whnf)
      refine cond_intro (fun u0 => ?_) (fun u0 => ?_)
      · have u : (l.getD n shPlane.dflt).1.length ≠ fstW l := lenNe' u0
        conv => whnf
        exact ⟨_, _, rfl, .inl rfl, fin1 (by unfold isJury; rw [hi, okPl_len u]; rfl)⟩
      · have u : (l.getD n shPlane.dflt).1.length = fstW l := lenEq' u0
        conv => whnf
        refine ⟨_, rfl, ⟨n + 1, wrap_succ h (by unfold Short; omega), by omega, by rw [hi, okPl_yes q u]; rfl⟩, ?_⟩
        rw [wrap_succ h (by unfold Short; omega)]; simp; omega
    · have q : isPlane (l.getD n shPlane.dflt) = false := by simpa using q0
      conv => whnf
      repeat ((first | refine cond_f q0 ?_ | refine cond_t (hF q0) ?_ | refine cond_f (gF q0) ?_); conv => whnf)
      exact ⟨_, _, rfl, .inl rfl, fin1 (by unfold isJury; rw [hi, okPl_no q]; rfl)⟩
  · have h : ¬ n < l.length := by simpa using h
    conv => whnf
    refine ⟨_, s_l1In_ok _ _ _, (by first | exact (fun _ => rfl) | exact (fun h => Bool.noConfusion h)), ?_⟩
    conv => whnf
    exact ⟨_, _, rfl, .inl rfl, fin1 (by unfold isJury; rw [hi, drop_len h]; rfl)⟩

structure JurS (s : Sample) (l : List Plane) : Prop where
  suit : ∀ i, i < l.length → Suit s (l.getD i shPlane.dflt)
  some : 0 < l.length
  few : l.length ≤ 9

theorem jury_len {l : List Plane} (h : isJury l = true) : 0 < l.length ∧ l.length ≤ 9 := by
  unfold isJury inB at h
  simp only [Bool.and_eq_true, decide_eq_true_eq] at h
  omega
theorem jury_wid {l : List Plane} (h : isJury l = true) {i : Nat} (hi : i < l.length) : (l.getD i shPlane.dflt).1.length = fstW l ∧ isPlane (l.getD i shPlane.dflt) = true := by
  unfold isJury at h
  simp only [Bool.and_eq_true] at h
  have := List.all_eq_true.1 h.1 _ (getD_mem hi shPlane.dflt)
  simp only [okPl, Bool.and_eq_true, beq_iff_eq] at this
  exact ⟨this.2, this.1⟩
theorem jurS_of {s : Sample} {l : List Plane} (h : isJury l = true) (g : suits s (l.getD 0 shPlane.dflt) = true) : JurS s l := by
  obtain ⟨h1, h2⟩ := jury_len h
  have hs := suit_of g
  refine ⟨fun i hi => ?_, h1, h2⟩
  obtain ⟨w1, _⟩ := jury_wid h hi
  have w : (l.getD i shPlane.dflt).1.length = (l.getD 0 shPlane.dflt).1.length := w1
  exact ⟨hs.lab, hs.few, by rw [w]; exact hs.wid, fun j hj => by rw [w]; exact hs.pts j hj⟩

def juryTo (l : List Plane) (x : List Int) : Nat → Int
  | 0 => 0
  | n + 1 => IntKind.i64.wrap (juryTo l x n + side (l.getD n shPlane.dflt) x)
def jurySd (l : List Plane) (x : List Int) : Int := if 0 ≤ juryTo l x l.length then 1 else -1

theorem i_jurySide_ok (s : Sample) (l : List Plane) (hJ : JurS s l) (j : Nat) (hj : j < s.1.length) : orc.pc n_i_jurySide [.d shPlS l, .d tIS (s.1.getD j tIS.dflt)] ⟨tI, .fz, jurySd l (s.1.getD j tIS.dflt)⟩ := by
  have hfew := hJ.few
  refine p_i_jurySide true rfl rfl ?_
  conv => whnf
  refine loop_ups (X := Int × Int) (fun (i, v) => [⟨0, 10, false, .d tI i⟩, ⟨0, 5, false, .d tI v⟩]) (fun (i, _) => l.length - i.toNat) (fun (i, v) => ∃ n : Nat, i = n ∧ v = juryTo l (s.1.getD j tIS.dflt) n ∧ n ≤ l.length) (0, 0) ?_ ⟨0, rfl, rfl, by omega⟩ ?_
  · refine st_eq ?_
    conv => whnf
    exact ⟨rfl⟩
  rintro ⟨_, _⟩ ⟨n, rfl, rfl, hn⟩
  conv => whnf
  refine cond_intro (fun h => ?_) (fun h => ?_)
  · have g : n < l.length := by simpa using h
    have w1 := (hJ.suit n g).wid
    have w2 := (hJ.suit n g).pts j hj
    conv => whnf
    refine ⟨⟨by omega, by omega⟩, ?_⟩
    conv => whnf
    refine ⟨_, i_Plane_side_ok (l.getD n shPlane.dflt) (s.1.getD j tIS.dflt) (by omega) (by omega), (by first | exact (fun _ => rfl) | exact (fun h => Bool.noConfusion h)), ?_⟩
    conv => whnf
    refine ⟨(_, _), rfl, ⟨n + 1, wrap_succ g (by unfold Short; omega), rfl, by omega⟩, ?_⟩
    rw [wrap_succ g (by unfold Short; omega)]; simp; omega
  · have g : ¬ n < l.length := by simpa using h
    obtain rfl : n = l.length := by omega
    conv => whnf
    refine cond_intro (fun t => ?_) (fun t => ?_)
    · have t : 0 ≤ juryTo l (s.1.getD j tIS.dflt) l.length := of_decide_eq_true t
      conv => whnf
      exact ⟨_, _, rfl, .inl rfl, fin1 (by unfold jurySd; rw [if_pos t])⟩
    · have t : ¬ 0 ≤ juryTo l (s.1.getD j tIS.dflt) l.length := of_decide_eq_false t
      conv => whnf
      exact ⟨_, _, rfl, .inl rfl, fin1 (by unfold jurySd; rw [if_neg t])⟩

theorem s_l8Side_ok (s : Sample) (l : List Plane) (hJ : JurS s l) (j : Nat) (hj : j < s.1.length) : orc.pc n_s_l8Side [.d shPlS l, .d tIS (s.1.getD j tIS.dflt)] ⟨tI, .fz, jurySd l (s.1.getD j tIS.dflt)⟩ := by
  have hfew := hJ.few
  refine p_s_l8Side true rfl rfl ?_
  conv => whnf
  refine loop_ups (X := Int × Int) (fun (i, v) => [⟨0, 6, false, .d tI i⟩, ⟨0, 5, false, .d tI v⟩]) (fun (i, _) => l.length - i.toNat) (fun (i, v) => ∃ n : Nat, i = n ∧ v = juryTo l (s.1.getD j tIS.dflt) n ∧ n ≤ l.length) (0, 0) ?_ ⟨0, rfl, rfl, by omega⟩ ?_
  · refine st_eq ?_
    conv => whnf
    exact ⟨rfl⟩
  rintro ⟨_, _⟩ ⟨n, rfl, rfl, hn⟩
  conv => whnf
  refine cond_intro (fun h => ?_) (fun h => ?_)
  · have g : n < l.length := by simpa using h
    have w1 := (hJ.suit n g).wid
    have w2 := (hJ.suit n g).pts j hj
    conv => whnf
    refine ⟨⟨by omega, by omega⟩, ?_⟩
    conv => whnf
    refine ⟨_, s_l2Side_ok (l.getD n shPlane.dflt) (s.1.getD j tIS.dflt) (by omega) (by omega), (by first | exact (fun _ => rfl) | exact (fun h => Bool.noConfusion h)), ?_⟩
    conv => whnf
    refine ⟨(_, _), rfl, ⟨n + 1, wrap_succ g (by unfold Short; omega), rfl, by omega⟩, ?_⟩
    rw [wrap_succ g (by unfold Short; omega)]; simp; omega
  · have g : ¬ n < l.length := by simpa using h
    obtain rfl : n = l.length := by omega
    conv => whnf
    refine cond_intro (fun t => ?_) (fun t => ?_)
    · have t : 0 ≤ juryTo l (s.1.getD j tIS.dflt) l.length := of_decide_eq_true t
      conv => whnf
      exact ⟨_, _, rfl, .inl rfl, fin1 (by unfold jurySd; rw [if_pos t])⟩
    · have t : ¬ 0 ≤ juryTo l (s.1.getD j tIS.dflt) l.length := of_decide_eq_false t
      conv => whnf
      exact ⟨_, _, rfl, .inl rfl, fin1 (by unfold jurySd; rw [if_neg t])⟩

theorem i_JuryMistakes_1_ok (s : Sample) (l : List Plane) (hJ : JurS s l) (j : Nat) (hj : j < s.1.length) : orc.pc n_i_JuryMistakes_1 [.d tIS (s.1.getD j tIS.dflt), .d (.ptr shPlS) (some l)] ⟨tI, .fz, jurySd l (s.1.getD j tIS.dflt)⟩ := by
  refine p_i_JuryMistakes_1 true rfl rfl ?_
  conv => whnf
  refine ⟨_, i_jurySide_ok s l hJ j hj, (by first | exact (fun _ => rfl) | exact (fun h => Bool.noConfusion h)), ?_⟩
  conv => whnf
  exact ⟨_, _, rfl, .inl rfl, fin1 (rfl)⟩

theorem i_Sample_wrong_jur (s : Sample) (l : List Plane) (hJ : JurS s l) :
    orc.pc n_i_Sample_wrong [.d shSample s, .d (.fn n_i_JuryMistakes_1 (.pair (.ptr shPlS) .unit)) (some l, ())] ⟨tIS, .ow .fz, missL s (jurySd l) s.1.length⟩ := by
  have hlab := (hJ.suit 0 hJ.some).lab
  have hfew := (hJ.suit 0 hJ.some).few
  refine p_i_Sample_wrong true rfl rfl ?_
  conv => whnf
  refine loop_ups (X := Int × List Int) (fun (i, x) => [⟨0, 12, false, .d tI i⟩, ⟨0, 5, false, .own tI .fz x⟩]) (fun (i, _) => s.1.length - i.toNat) (fun (i, x) => ∃ n : Nat, i = n ∧ x = missL s (jurySd l) n ∧ n ≤ s.1.length) (0, []) ?_ ⟨0, rfl, rfl, by omega⟩ ?_
  · refine st_eq ?_
    conv => whnf
    exact ⟨rfl⟩
  rintro ⟨_, _⟩ ⟨n, rfl, rfl, hn⟩
  have hbl := missL_len s (jurySd l) n
  conv => whnf
  refine cond_intro (fun h => ?_) (fun h => ?_)
  · have h : n < s.1.length := by simpa using h
    conv => whnf
    refine ⟨⟨by omega, by omega⟩, ?_⟩
    conv => whnf
    refine ⟨_, i_JuryMistakes_1_ok s l hJ n h, (by first | exact (fun _ => rfl) | exact (fun h => Bool.noConfusion h)), ?_⟩
    conv => whnf
    refine ⟨⟨by omega, by omega⟩, ?_⟩
    conv => whnf
    refine cond_intro (fun g => ?_) (fun g => ?_)
    · have g : missB s (jurySd l) n = true := g
      conv => whnf
      refine ⟨⟨room_snoc (by omega) (by decide), len_snoc (by omega)⟩, ?_⟩
      conv => whnf
      refine ⟨(_, _), rfl, ⟨n + 1, wrap_succ h (by unfold Short; omega), (missL_yes g).symm, by omega⟩, ?_⟩
      rw [wrap_succ h (by unfold Short; omega)]; simp; omega
    · have g : missB s (jurySd l) n = false := g
      conv => whnf
      refine ⟨(_, _), rfl, ⟨n + 1, wrap_succ h (by unfold Short; omega), (missL_no g).symm, by omega⟩, ?_⟩
      rw [wrap_succ h (by unfold Short; omega)]; simp; omega
  · have h : ¬ n < s.1.length := by simpa using h
    obtain rfl : n = s.1.length := by omega
    conv => whnf
    exact ⟨_, _, rfl, .inl rfl, fin1 (rfl)⟩

theorem s_l8Wrong_ok (s : Sample) (l : List Plane) (hJ : JurS s l) : orc.pc n_s_l8Wrong [.d shSample s, .d shPlS l] ⟨tIS, .ow .fz, missL s (jurySd l) s.1.length⟩ := by
  have hlab := (hJ.suit 0 hJ.some).lab
  have hfew := (hJ.suit 0 hJ.some).few
  refine p_s_l8Wrong true rfl rfl ?_
  conv => whnf
  refine loop_ups (X := Int × List Int) (fun (i, x) => [⟨0, 6, false, .d tI i⟩, ⟨0, 5, false, .own tI .fz x⟩]) (fun (i, _) => s.1.length - i.toNat) (fun (i, x) => ∃ n : Nat, i = n ∧ x = missL s (jurySd l) n ∧ n ≤ s.1.length) (0, []) ?_ ⟨0, rfl, rfl, by omega⟩ ?_
  · refine st_eq ?_
    conv => whnf
    exact ⟨rfl⟩
  rintro ⟨_, _⟩ ⟨n, rfl, rfl, hn⟩
  have hbl := missL_len s (jurySd l) n
  conv => whnf
  refine cond_intro (fun h => ?_) (fun h => ?_)
  · have h : n < s.1.length := by simpa using h
    conv => whnf
    refine ⟨⟨by omega, by omega⟩, ?_⟩
    conv => whnf
    refine ⟨_, s_l8Side_ok s l hJ n h, (by first | exact (fun _ => rfl) | exact (fun h => Bool.noConfusion h)), ?_⟩
    conv => whnf
    refine ⟨⟨by omega, by omega⟩, ?_⟩
    conv => whnf
    refine cond_intro (fun g => ?_) (fun g => ?_)
    · have g : missB s (jurySd l) n = true := g
      conv => whnf
      refine ⟨⟨room_snoc (by omega) (by decide), len_snoc (by omega)⟩, ?_⟩
      conv => whnf
      refine ⟨(_, _), rfl, ⟨n + 1, wrap_succ h (by unfold Short; omega), (missL_yes g).symm, by omega⟩, ?_⟩
      rw [wrap_succ h (by unfold Short; omega)]; simp; omega
    · have g : missB s (jurySd l) n = false := g
      conv => whnf
      refine ⟨(_, _), rfl, ⟨n + 1, wrap_succ h (by unfold Short; omega), (missL_no g).symm, by omega⟩, ?_⟩
      rw [wrap_succ h (by unfold Short; omega)]; simp; omega
  · have h : ¬ n < s.1.length := by simpa using h
    obtain rfl : n = s.1.length := by omega
    conv => whnf
    exact ⟨_, _, rfl, .inl rfl, fin1 (rfl)⟩

def okJur (s : Sample) (l : List Plane) : Bool := isJury l && suits s (l.getD 0 shPlane.dflt)
def jurR (s : Sample) (l : List Plane) : List Int × Bool × Unit := if okJur s l then (missL s (jurySd l) s.1.length, true, ()) else ([], false, ())
theorem jurR_no {s : Sample} {l : List Plane} (h : okJur s l = false) : jurR s l = ([], false, ()) := by simp [jurR, h]
theorem jurR_yes {s : Sample} {l : List Plane} (h : okJur s l = true) : jurR s l = (missL s (jurySd l) s.1.length, true, ()) := by simp [jurR, h]
theorem okJur_of {s : Sample} {l : List Plane} (h : okJur s l = true) : JurS s l := by
  unfold okJur at h
  simp only [Bool.and_eq_true] at h
  exact jurS_of h.1 h.2
theorem jurR_short {s : Sample} {l : List Plane} : (jurR s l).1.length ≤ 1048576 := by
  cases h : okJur s l with
  | true =>
    rw [jurR_yes h]
    have hJ := okJur_of h
    have := missL_len s (jurySd l) s.1.length
    have := (hJ.suit 0 hJ.some).few
    show (missL s (jurySd l) s.1.length).length ≤ _
    omega
  | false => rw [jurR_no h]; simp

theorem i_JuryMistakes_ok (s : Sample) (l : List Plane) (hs : FitS s) (hl : FitP l) : orc.pc n_i_JuryMistakes [.d shSample s, .d shPlS l] ⟨shLB, oLB, jurR s l⟩ := by
  refine p_i_JuryMistakes true rfl rfl ?_
  conv => whnf
  refine ⟨_, i_isJury_ok l hl, (by first | exact (fun _ => rfl) | exact (fun h => Bool.noConfusion h)), ?_⟩
  conv => whnf
  refine cond_intro (fun q0 => ?_) (fun q0 => ?_)
  · have q : isJury l = true := by simpa using q0
    obtain ⟨n1, n2⟩ := jury_len q
    conv => whnf
    repeat ((first | refine cond_t q0 ?_ | refine cond_f (hT q0) ?_ | refine cond_t (gT q0) ?_); conv => whnf)
    refine ⟨⟨by omega, by omega⟩, ?_⟩
    conv => whnf
    repeat ((first | refine cond_t q0 ?_ | refine cond_f (hT q0) ?_ | refine cond_t (gT q0) ?_); conv => whnf)
    refine ⟨_, i_suits_ok s (l.getD 0 shPlane.dflt) hs (hl.at n1 _), (by first | exact (fun _ => rfl) | exact (fun h => Bool.noConfusion h)), ?_⟩
    conv => whnf
    repeat ((first | refine cond_t q0 ?_ | refine cond_f (hT q0) ?_ | refine cond_t (gT q0) ?_); conv => whnf)
    refine cond_intro (fun r0 => ?_) (fun r0 => ?_)
    · have r : suits s (l.getD 0 shPlane.dflt) = false := by simpa using r0
      rw [jurR_no (by unfold okJur; rw [q, r]; rfl)]
      conv => whnf
      exact ⟨_, _, rfl, .inl rfl, rfl⟩
    · have r : suits s (l.getD 0 shPlane.dflt) = true := by simpa using r0
      have hk : okJur s l = true := by unfold okJur; rw [q, r]; rfl
      rw [jurR_yes hk]
      conv => whnf
      refine ⟨_, i_Sample_wrong_jur s l (okJur_of hk), (by first | exact (fun _ => rfl) | exact (fun h => Bool.noConfusion h)), ?_⟩
      conv => whnf
      exact ⟨_, _, rfl, .inl rfl, rfl⟩
  · have q : isJury l = false := by simpa using q0
    rw [jurR_no (by unfold okJur; rw [q]; rfl)]
    conv => whnf
    repeat ((first | refine cond_f q0 ?_ | refine cond_t (hF q0) ?_ | refine cond_f (gF q0) ?_); conv => whnf)
    exact ⟨_, _, rfl, .inl rfl, rfl⟩

theorem s_JuryMistakes_ok (s : Sample) (l : List Plane) (hs : FitS s) (hl : FitP l) : orc.pc n_s_JuryMistakes [.d shSample s, .d shPlS l] ⟨shLB, oLB, jurR s l⟩ := by
  refine p_s_JuryMistakes true rfl rfl ?_
  conv => whnf
  refine ⟨_, s_l8Jury_ok l hl, (by first | exact (fun _ => rfl) | exact (fun h => Bool.noConfusion h)), ?_⟩
  conv => whnf
  refine cond_intro (fun q0 => ?_) (fun q0 => ?_)
  · have q : isJury l = true := by simpa using q0
    obtain ⟨n1, n2⟩ := jury_len q
    conv => whnf
    repeat ((first | refine cond_t q0 ?_ | refine cond_f (hT q0) ?_ | refine cond_t (gT q0) ?_); conv => whnf)
    refine ⟨⟨by omega, by omega⟩, ?_⟩
    conv => whnf
    repeat ((first | refine cond_t q0 ?_ | refine cond_f (hT q0) ?_ | refine cond_t (gT q0) ?_); conv => whnf)
    refine ⟨_, s_l2Both_ok s (l.getD 0 shPlane.dflt) hs (hl.at n1 _), (by first | exact (fun _ => rfl) | exact (fun h => Bool.noConfusion h)), ?_⟩
    conv => whnf
    repeat ((first | refine cond_t q0 ?_ | refine cond_f (hT q0) ?_ | refine cond_t (gT q0) ?_); conv => whnf)
    refine cond_intro (fun r0 => ?_) (fun r0 => ?_)
    · have r : suits s (l.getD 0 shPlane.dflt) = false := by simpa using r0
      rw [jurR_no (by unfold okJur; rw [q, r]; rfl)]
      conv => whnf
      exact ⟨_, _, rfl, .inl rfl, rfl⟩
    · have r : suits s (l.getD 0 shPlane.dflt) = true := by simpa using r0
      have hk : okJur s l = true := by unfold okJur; rw [q, r]; rfl
      rw [jurR_yes hk]
      conv => whnf
      refine ⟨_, s_l8Wrong_ok s l (okJur_of hk), (by first | exact (fun _ => rfl) | exact (fun h => Bool.noConfusion h)), ?_⟩
      conv => whnf
      exact ⟨_, _, rfl, .inl rfl, rfl⟩
  · have q : isJury l = false := by simpa using q0
    rw [jurR_no (by unfold okJur; rw [q]; rfl)]
    conv => whnf
    repeat ((first | refine cond_f q0 ?_ | refine cond_t (hF q0) ?_ | refine cond_f (gF q0) ?_); conv => whnf)
    exact ⟨_, _, rfl, .inl rfl, rfl⟩

end Go.Proofs.Ytkkpfbfdiigbdaa.Ev
