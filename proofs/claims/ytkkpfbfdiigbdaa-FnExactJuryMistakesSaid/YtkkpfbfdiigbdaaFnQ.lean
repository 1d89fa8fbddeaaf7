/- Points on which sides are wrong: choices of planes, juries. -/
import Derived.Test.YtkkpfbfdiigbdaaFnP
namespace Go.Proofs.Ytkkpfbfdiigbdaa.Ev
open Go
set_option linter.unusedVariables false
set_option linter.unusedSimpArgs false
set_option maxRecDepth 100000
set_option exponentiation.threshold 100000

def missB (s : Sample) (f : List Int → Int) (n : Nat) : Bool := !(f (s.1.getD n tIS.dflt) == s.2.1.getD n tI.dflt)
def missL (s : Sample) (f : List Int → Int) : Nat → List Int
  | 0 => []
  | n + 1 => cond (missB s f n) (missL s f n ++ [(n : Int)]) (missL s f n)
theorem missL_len (s : Sample) (f : List Int → Int) : ∀ n, (missL s f n).length ≤ n := by
  intro n
  induction n with
  | zero => simp [missL]
  | succ n ih => simp only [missL]; cases missB s f n <;> simp <;> omega
theorem missL_yes {s : Sample} {f : List Int → Int} {n : Nat} (h : missB s f n = true) : missL s f (n + 1) = missL s f n ++ [(n : Int)] := by simp only [missL, h, cond_true]
theorem missL_no {s : Sample} {f : List Int → Int} {n : Nat} (h : missB s f n = false) : missL s f (n + 1) = missL s f n := by simp only [missL, h, cond_false]

/-- What suits. -/
structure Suit (s : Sample) (p : Plane) : Prop where
  lab : s.2.1.length = s.1.length
  few : s.1.length ≤ 16
  wid : p.1.length ≤ 4
  pts : ∀ j, j < s.1.length → (s.1.getD j tIS.dflt).length = p.1.length

theorem suit_of {s : Sample} {p : Plane} (h : suits s p = true) : Suit s p := by
  unfold suits isSample isPlane inB at h
  simp only [Bool.and_eq_true, decide_eq_true_eq, beq_iff_eq, Bool.or_eq_true] at h
  obtain ⟨⟨⟨h1, h2⟩, h3, h4⟩, ⟨⟨h5, h6⟩, h7⟩, h8⟩ := h
  refine ⟨h2, h1, by omega, ?_⟩
  intro j hj
  have a := List.all_eq_true.1 h3 _ (getD_mem hj tIS.dflt)
  simp only [okPt, Bool.and_eq_true, beq_iff_eq] at a
  omega

/-! ### Choices -/

def choice (root low high : Plane) (x : List Int) : Int := if side root x == 1 then side high x else side low x

structure Suit3 (s : Sample) (a b c : Plane) : Prop where
  a : Suit s a
  b : Suit s b
  c : Suit s c

theorem i_choiceSide_ok (s : Sample) (a b c : Plane) (h : Suit3 s a b c) (j : Nat) (hj : j < s.1.length) : orc.pc n_i_choiceSide [.d shPlane a, .d shPlane b, .d shPlane c, .d tIS (s.1.getD j tIS.dflt)] ⟨tI, .fz, choice a b c (s.1.getD j tIS.dflt)⟩ := by
  have ha := h.a.pts j hj
  have hb := h.b.pts j hj
  have hc := h.c.pts j hj
  have wa := h.a.wid
  have wb := h.b.wid
  have wc := h.c.wid
  refine p_i_choiceSide true rfl rfl ?_
  conv => whnf
  refine ⟨_, i_Plane_side_ok a _ (by omega) (by omega), (by first | exact (fun _ => rfl) | exact (fun h => Bool.noConfusion h)), ?_⟩
  conv => whnf
  refine cond_intro (fun g => ?_) (fun g => ?_)
  · have g : (side a (s.1.getD j tIS.dflt) == 1) = true := g
    conv => whnf
    refine ⟨_, i_Plane_side_ok c _ (by omega) (by omega), (by first | exact (fun _ => rfl) | exact (fun h => Bool.noConfusion h)), ?_⟩
    conv => whnf
    exact ⟨_, _, rfl, .inl rfl, fin1 (by unfold choice; rw [if_pos g])⟩
  · have g : (side a (s.1.getD j tIS.dflt) == 1) = false := g
    conv => whnf
    refine ⟨_, i_Plane_side_ok b _ (by omega) (by omega), (by first | exact (fun _ => rfl) | exact (fun h => Bool.noConfusion h)), ?_⟩
    conv => whnf
    exact ⟨_, _, rfl, .inl rfl, fin1 (by unfold choice; rw [if_neg (by rw [g]; simp)])⟩

theorem s_l8Choice_ok (s : Sample) (a b c : Plane) (h : Suit3 s a b c) (j : Nat) (hj : j < s.1.length) : orc.pc n_s_l8Choice [.d shPlane a, .d shPlane b, .d shPlane c, .d tIS (s.1.getD j tIS.dflt)] ⟨tI, .fz, choice a b c (s.1.getD j tIS.dflt)⟩ := by
  have ha := h.a.pts j hj
  have hb := h.b.pts j hj
  have hc := h.c.pts j hj
  have wa := h.a.wid
  have wb := h.b.wid
  have wc := h.c.wid
  refine p_s_l8Choice true rfl rfl ?_
  conv => whnf
  refine ⟨_, s_l2Side_ok a _ (by omega) (by omega), (by first | exact (fun _ => rfl) | exact (fun h => Bool.noConfusion h)), ?_⟩
  conv => whnf
  refine cond_intro (fun g => ?_) (fun g => ?_)
  · have g : (side a (s.1.getD j tIS.dflt) == 1) = true := g
    conv => whnf
    refine ⟨_, s_l2Side_ok c _ (by omega) (by omega), (by first | exact (fun _ => rfl) | exact (fun h => Bool.noConfusion h)), ?_⟩
    conv => whnf
    exact ⟨_, _, rfl, .inl rfl, fin1 (by unfold choice; rw [if_pos g])⟩
  · have g : (side a (s.1.getD j tIS.dflt) == 1) = false := g
    conv => whnf
    refine ⟨_, s_l2Side_ok b _ (by omega) (by omega), (by first | exact (fun _ => rfl) | exact (fun h => Bool.noConfusion h)), ?_⟩
    conv => whnf
    exact ⟨_, _, rfl, .inl rfl, fin1 (by unfold choice; rw [if_neg (by rw [g]; simp)])⟩

theorem i_ChoiceMistakes_1_ok (s : Sample) (a b c : Plane) (h : Suit3 s a b c) (j : Nat) (hj : j < s.1.length) : orc.pc n_i_ChoiceMistakes_1 [.d tIS (s.1.getD j tIS.dflt), .d (.ptr shPlane) (some a), .d (.ptr shPlane) (some b), .d (.ptr shPlane) (some c)] ⟨tI, .fz, choice a b c (s.1.getD j tIS.dflt)⟩ := by
  refine p_i_ChoiceMistakes_1 true rfl rfl ?_
  conv => whnf
  refine ⟨_, i_choiceSide_ok s a b c h j hj, (by first | exact (fun _ => rfl) | exact (fun h => Bool.noConfusion h)), ?_⟩
  conv => whnf
  exact ⟨_, _, rfl, .inl rfl, fin1 (rfl)⟩

theorem i_Sample_wrong_cho (s : Sample) (a b c : Plane) (h3 : Suit3 s a b c) :
    orc.pc n_i_Sample_wrong [.d shSample s, .d (.fn n_i_ChoiceMistakes_1 (.pair (.ptr shPlane) (.pair (.ptr shPlane) (.pair (.ptr shPlane) .unit)))) (some a, some b, some c, ())] ⟨tIS, .ow .fz, missL s (choice a b c) s.1.length⟩ := by
  have hlab := h3.a.lab
  have hfew := h3.a.few
  refine p_i_Sample_wrong true rfl rfl ?_
  conv => whnf
  refine loop_ups (X := Int × List Int) (fun (i, x) => [⟨0, 12, false, .d tI i⟩, ⟨0, 5, false, .own tI .fz x⟩]) (fun (i, _) => s.1.length - i.toNat) (fun (i, x) => ∃ n : Nat, i = n ∧ x = missL s (choice a b c) n ∧ n ≤ s.1.length) (0, []) ?_ ⟨0, rfl, rfl, by omega⟩ ?_
  · refine st_eq ?_
    conv => whnf
    exact ⟨rfl⟩
  rintro ⟨_, _⟩ ⟨n, rfl, rfl, hn⟩
  have hbl := missL_len s (choice a b c) n
  conv => whnf
  refine cond_intro (fun h => ?_) (fun h => ?_)
  · have h : n < s.1.length := by simpa using h
    conv => whnf
    refine ⟨⟨by omega, by omega⟩, ?_⟩
    conv => whnf
    refine ⟨_, i_ChoiceMistakes_1_ok s a b c h3 n h, (by first | exact (fun _ => rfl) | exact (fun h => Bool.noConfusion h)), ?_⟩
    conv => whnf
    refine ⟨⟨by omega, by omega⟩, ?_⟩
    conv => whnf
    refine cond_intro (fun g => ?_) (fun g => ?_)
    · have g : missB s (choice a b c) n = true := g
      conv => whnf
      refine ⟨⟨room_snoc (by omega) (by decide), len_snoc (by omega)⟩, ?_⟩
      conv => whnf
      refine ⟨(_, _), rfl, ⟨n + 1, wrap_succ h (by unfold Short; omega), (missL_yes g).symm, by omega⟩, ?_⟩
      rw [wrap_succ h (by unfold Short; omega)]; simp; omega
    · have g : missB s (choice a b c) n = false := g
      conv => whnf
      refine ⟨(_, _), rfl, ⟨n + 1, wrap_succ h (by unfold Short; omega), (missL_no g).symm, by omega⟩, ?_⟩
      rw [wrap_succ h (by unfold Short; omega)]; simp; omega
  · have h : ¬ n < s.1.length := by simpa using h
    obtain rfl : n = s.1.length := by omega
    conv => whnf
    exact ⟨_, _, rfl, .inl rfl, fin1 (rfl)⟩

theorem s_l8Missed_ok (s : Sample) (a b c : Plane) (h3 : Suit3 s a b c) : orc.pc n_s_l8Missed [.d shSample s, .d shPlane a, .d shPlane b, .d shPlane c] ⟨tIS, .ow .fz, missL s (choice a b c) s.1.length⟩ := by
  have hlab := h3.a.lab
  have hfew := h3.a.few
  refine p_s_l8Missed true rfl rfl ?_
  conv => whnf
  refine loop_ups (X := Int × List Int) (fun (i, x) => [⟨0, 10, false, .d tI i⟩, ⟨0, 9, false, .own tI .fz x⟩]) (fun (i, _) => s.1.length - i.toNat) (fun (i, x) => ∃ n : Nat, i = n ∧ x = missL s (choice a b c) n ∧ n ≤ s.1.length) (0, []) ?_ ⟨0, rfl, rfl, by omega⟩ ?_
  · refine st_eq ?_
    conv => whnf
    exact ⟨rfl⟩
  rintro ⟨_, _⟩ ⟨n, rfl, rfl, hn⟩
  have hbl := missL_len s (choice a b c) n
  conv => whnf
  refine cond_intro (fun h => ?_) (fun h => ?_)
  · have h : n < s.1.length := by simpa using h
    conv => whnf
    refine ⟨⟨by omega, by omega⟩, ?_⟩
    conv => whnf
    refine ⟨_, s_l8Choice_ok s a b c h3 n h, (by first | exact (fun _ => rfl) | exact (fun h => Bool.noConfusion h)), ?_⟩
    conv => whnf
    refine ⟨⟨by omega, by omega⟩, ?_⟩
    conv => whnf
    refine cond_intro (fun g => ?_) (fun g => ?_)
    · have g : missB s (choice a b c) n = true := g
      conv => whnf
      refine ⟨⟨room_snoc (by omega) (by decide), len_snoc (by omega)⟩, ?_⟩
      conv => whnf
      refine ⟨(_, _), rfl, ⟨n + 1, wrap_succ h (by unfold Short; omega), (missL_yes g).symm, by omega⟩, ?_⟩
      rw [wrap_succ h (by unfold Short; omega)]; simp; omega
    · have g : missB s (choice a b c) n = false := g
      conv => whnf
      refine ⟨(_, _), rfl, ⟨n + 1, wrap_succ h (by unfold Short; omega), (missL_no g).symm, by omega⟩, ?_⟩
      rw [wrap_succ h (by unfold Short; omega)]; simp; omega
  · have h : ¬ n < s.1.length := by simpa using h
    obtain rfl : n = s.1.length := by omega
    conv => whnf
    exact ⟨_, _, rfl, .inl rfl, fin1 (rfl)⟩

def suits3 (s : Sample) (a b c : Plane) : Bool := suits s a && (suits s b && suits s c)
theorem suit3_of {s : Sample} {a b c : Plane} (h : suits3 s a b c = true) : Suit3 s a b c := by
  unfold suits3 at h
  simp only [Bool.and_eq_true] at h
  exact ⟨suit_of h.1, suit_of h.2.1, suit_of h.2.2⟩
def choR (s : Sample) (a b c : Plane) : List Int × Bool × Unit := if suits3 s a b c then (missL s (choice a b c) s.1.length, true, ()) else ([], false, ())
theorem choR_no {s : Sample} {a b c : Plane} (h : suits3 s a b c = false) : choR s a b c = ([], false, ()) := by simp [choR, h]
theorem choR_yes {s : Sample} {a b c : Plane} (h : suits3 s a b c = true) : choR s a b c = (missL s (choice a b c) s.1.length, true, ()) := by simp [choR, h]
theorem choR_short {s : Sample} {a b c : Plane} : (choR s a b c).1.length ≤ 1048576 := by
  cases h : suits3 s a b c with
  | true =>
    rw [choR_yes h]
    have := missL_len s (choice a b c) s.1.length
    have := (suit3_of h).a.few
    show (missL s (choice a b c) s.1.length).length ≤ _
    omega
  | false => rw [choR_no h]; simp

theorem i_ChoiceMistakes_ok (s : Sample) (a b c : Plane) (hs : FitS s) (ha : a.1.length ≤ 1048576) (hb : b.1.length ≤ 1048576) (hc : c.1.length ≤ 1048576) :
    orc.pc n_i_ChoiceMistakes [.d shSample s, .d shPlane a, .d shPlane b, .d shPlane c] ⟨shLB, oLB, choR s a b c⟩ := by
  refine p_i_ChoiceMistakes true rfl rfl ?_
  conv => whnf
  refine ⟨_, i_suits_ok s a hs ha, (by first | exact (fun _ => rfl) | exact (fun h => Bool.noConfusion h)), ?_⟩
  conv => whnf
  refine cond_intro (fun q0 => ?_) (fun q0 => ?_)
  · have q : suits s a = true := by simpa using q0
    conv => whnf
    repeat ((first | refine cond_t q0 ?_ | refine cond_f (hT q0) ?_ | refine cond_t (gT q0) ?_); conv => whnf)
    refine ⟨_, i_suits_ok s b hs hb, (by first | exact (fun _ => rfl) | exact (fun h => Bool.noConfusion h)), ?_⟩
    conv => whnf
    repeat ((first | refine cond_t q0 ?_ | refine cond_f (hT q0) ?_ | refine cond_t (gT q0) ?_); conv => whnf)
    refine cond_intro (fun r0 => ?_) (fun r0 => ?_)
    · have r : suits s b = true := by simpa using r0
      conv => whnf
      repeat ((first | refine cond_t q0 ?_ | refine cond_f (hT q0) ?_ | refine cond_t (gT q0) ?_ | refine cond_t r0 ?_ | refine cond_f (hT r0) ?_ | refine cond_t (gT r0) ?_); conv => whnf)
      refine ⟨_, i_suits_ok s c hs hc, (by first | exact (fun _ => rfl) | exact (fun h => Bool.noConfusion h)), ?_⟩
      conv => whnf
      repeat ((first | refine cond_t q0 ?_ | refine cond_f (hT q0) ?_ | refine cond_t (gT q0) ?_ | refine cond_t r0 ?_ | refine cond_f (hT r0) ?_ | refine cond_t (gT r0) ?_); conv => whnf)
      refine cond_intro (fun t0 => ?_) (fun t0 => ?_)
      · have t : suits s c = false := by simpa using t0
        rw [choR_no (by unfold suits3; rw [q, r, t]; rfl)]
        conv => whnf
        exact ⟨_, _, rfl, .inl rfl, rfl⟩
      · have t : suits s c = true := by simpa using t0
        have h3 : suits3 s a b c = true := by unfold suits3; rw [q, r, t]; rfl
        rw [choR_yes h3]
        conv => whnf
        refine ⟨_, i_Sample_wrong_cho s a b c (suit3_of h3), (by first | exact (fun _ => rfl) | exact (fun h => Bool.noConfusion h)), ?_⟩
        conv => whnf
        exact ⟨_, _, rfl, .inl rfl, rfl⟩
    · have r : suits s b = false := by simpa using r0
      rw [choR_no (by unfold suits3; rw [q, r]; rfl)]
      conv => whnf
      repeat ((first | refine cond_t q0 ?_ | refine cond_f (hT q0) ?_ | refine cond_t (gT q0) ?_ | refine cond_f r0 ?_ | refine cond_t (hF r0) ?_ | refine cond_f (gF r0) ?_); conv => whnf)
      exact ⟨_, _, rfl, .inl rfl, rfl⟩
  · have q : suits s a = false := by simpa using q0
    rw [choR_no (by unfold suits3; rw [q]; rfl)]
    conv => whnf
    repeat ((first | refine cond_f q0 ?_ | refine cond_t (hF q0) ?_ | refine cond_f (gF q0) ?_); conv => whnf)
    exact ⟨_, _, rfl, .inl rfl, rfl⟩

theorem s_ChoiceMistakes_ok (s : Sample) (a b c : Plane) (hs : FitS s) (ha : a.1.length ≤ 1048576) (hb : b.1.length ≤ 1048576) (hc : c.1.length ≤ 1048576) :
    orc.pc n_s_ChoiceMistakes [.d shSample s, .d shPlane a, .d shPlane b, .d shPlane c] ⟨shLB, oLB, choR s a b c⟩ := by
  refine p_s_ChoiceMistakes true rfl rfl ?_
  conv => whnf
  refine ⟨_, s_l2Both_ok s a hs ha, (by first | exact (fun _ => rfl) | exact (fun h => Bool.noConfusion h)), ?_⟩
  conv => whnf
  refine cond_intro (fun q0 => ?_) (fun q0 => ?_)
  · have q : suits s a = true := by simpa using q0
    conv => whnf
    repeat ((first | refine cond_t q0 ?_ | refine cond_f (hT q0) ?_ | refine cond_t (gT q0) ?_); conv => whnf)
    refine ⟨_, s_l2Both_ok s b hs hb, (by first | exact (fun _ => rfl) | exact (fun h => Bool.noConfusion h)), ?_⟩
    conv => whnf
    repeat ((first | refine cond_t q0 ?_ | refine cond_f (hT q0) ?_ | refine cond_t (gT q0) ?_); conv => whnf)
    refine cond_intro (fun r0 => ?_) (fun r0 => ?_)
    · have r : suits s b = true := by simpa using r0
      conv => whnf
      repeat ((first | refine cond_t q0 ?_ | refine cond_f (hT q0) ?_ | refine cond_t (gT q0) ?_ | refine cond_t r0 ?_ | refine cond_f (hT r0) ?_ | refine cond_t (gT r0) ?_); conv => whnf)
      refine ⟨_, s_l2Both_ok s c hs hc, (by first | exact (fun _ => rfl) | exact (fun h => Bool.noConfusion h)), ?_⟩
      conv => whnf
      repeat ((first | refine cond_t q0 ?_ | refine cond_f (hT q0) ?_ | refine cond_t (gT q0) ?_ | refine cond_t r0 ?_ | refine cond_f (hT r0) ?_ | refine cond_t (gT r0) ?_); conv => whnf)
      refine cond_intro (fun t0 => ?_) (fun t0 => ?_)
      · have t : suits s c = false := by simpa using t0
        rw [choR_no (by unfold suits3; rw [q, r, t]; rfl)]
        conv => whnf
        exact ⟨_, _, rfl, .inl rfl, rfl⟩
      · have t : suits s c = true := by simpa using t0
        have h3 : suits3 s a b c = true := by unfold suits3; rw [q, r, t]; rfl
        rw [choR_yes h3]
        conv => whnf
        refine ⟨_, s_l8Missed_ok s a b c (suit3_of h3), (by first | exact (fun _ => rfl) | exact (fun h => Bool.noConfusion h)), ?_⟩
        conv => whnf
        exact ⟨_, _, rfl, .inl rfl, rfl⟩
    · have r : suits s b = false := by simpa using r0
      rw [choR_no (by unfold suits3; rw [q, r]; rfl)]
      conv => whnf
      repeat ((first | refine cond_t q0 ?_ | refine cond_f (hT q0) ?_ | refine cond_t (gT q0) ?_ | refine cond_f r0 ?_ | refine cond_t (hF r0) ?_ | refine cond_f (gF r0) ?_); conv => whnf)
      exact ⟨_, _, rfl, .inl rfl, rfl⟩
  · have q : suits s a = false := by simpa using q0
    rw [choR_no (by unfold suits3; rw [q]; rfl)]
    conv => whnf
    repeat ((first | refine cond_f q0 ?_ | refine cond_t (hF q0) ?_ | refine cond_f (gF q0) ?_); conv => whnf)
    exact ⟨_, _, rfl, .inl rfl, rfl⟩

end Go.Proofs.Ytkkpfbfdiigbdaa.Ev
