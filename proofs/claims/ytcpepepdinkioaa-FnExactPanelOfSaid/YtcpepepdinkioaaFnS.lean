/- Sides of the points of samples, panels out of juries. -/
import Derived.Test.YtcpepepdinkioaaFnR
import Derived.Test.YtcpepepdinkioaaFnM
namespace Go.Proofs.Ytcpepepdinkioaa.Ev
open Go
set_option linter.unusedVariables false
set_option linter.unusedSimpArgs false
set_option maxRecDepth 100000
set_option exponentiation.threshold 100000

def sidesOf (s : Sample) (p : Plane) : List Int := s.1.map fun x => side p x
theorem sides_snoc (s : Sample) (p : Plane) {n : Nat} (h : n < s.1.length) : (s.1.take (n + 1)).map (fun x => side p x) = (s.1.take n).map (fun x => side p x) ++ [side p (s.1.getD n tIS.dflt)] := by
  rw [take_getD s.1 h tIS.dflt]; simp

theorem s_l2Sides_ok (s : Sample) (p : Plane) (hs : Suit s p) : orc.pc n_s_l2Sides [.d shSample s, .d shPlane p] ⟨tIS, .ow .fz, sidesOf s p⟩ := by
  have hfew := hs.few
  have hwid := hs.wid
  refine p_s_l2Sides true rfl rfl ?_
  conv => whnf
  refine loop_ups (X := Int × List Int) (fun (i, x) => [⟨0, 6, false, .d tI i⟩, ⟨0, 5, false, .own tI .fz x⟩]) (fun (i, _) => s.1.length - i.toNat) (fun (i, x) => ∃ n : Nat, i = n ∧ x = (s.1.take n).map (fun x => side p x) ∧ n ≤ s.1.length) (0, []) ?_ ⟨0, rfl, rfl, by omega⟩ ?_
  · refine st_eq ?_
    conv => whnf
    exact ⟨rfl⟩
  rintro ⟨_, _⟩ ⟨n, rfl, rfl, hn⟩
  conv => whnf
  refine cond_intro (fun h => ?_) (fun h => ?_)
  · have h : n < s.1.length := by simpa using h
    have hp := hs.pts n h
    conv => whnf
    refine ⟨⟨by omega, by omega⟩, ?_⟩
    conv => whnf
    refine ⟨_, s_l2Side_ok p (s.1.getD n tIS.dflt) (by omega) (by omega), (by first | exact (fun _ => rfl) | exact (fun h => Bool.noConfusion h)), ?_⟩
    conv => whnf
    refine ⟨⟨room_snoc (by simp; omega) (by decide), len_snoc (by simp; omega)⟩, ?_⟩
    conv => whnf
    refine ⟨(_, _), rfl, ⟨n + 1, wrap_succ h (by unfold Short; omega), (sides_snoc s p h).symm, by omega⟩, ?_⟩
    rw [wrap_succ h (by unfold Short; omega)]; simp; omega
  · have h : ¬ n < s.1.length := by simpa using h
    obtain rfl : n = s.1.length := by omega
    rw [List.take_length]
    conv => whnf
    exact ⟨_, _, rfl, .inl rfl, fin1 (rfl)⟩

theorem i_SidesOf_ok (s : Sample) (p : Plane) (hf : FitS s) (hp : suits s p = true) : orc.pc n_i_SidesOf [.d shSample s, .d shPlane p] ⟨shLB, oLB, (sidesOf s p, true, ())⟩ := by
  have hs := suit_of hp
  have hfew := hs.few
  have hwid := hs.wid
  refine p_i_SidesOf true rfl rfl ?_
  conv => whnf
  refine ⟨_, i_suits_ok s p hf (by omega), (by first | exact (fun _ => rfl) | exact (fun h => Bool.noConfusion h)), ?_⟩
  conv => whnf
  refine cond_f (by simp [hp]) ?_
  conv => whnf
  refine loop_ups (X := Int × List Int) (fun (i, x) => [⟨0, 17, false, .d tI i⟩, ⟨0, 6, false, .own tI .fz x⟩]) (fun (i, _) => s.1.length - i.toNat) (fun (i, x) => ∃ n : Nat, i = n ∧ x = (s.1.take n).map (fun x => side p x) ∧ n ≤ s.1.length) (0, []) ?_ ⟨0, rfl, rfl, by omega⟩ ?_
  · refine st_eq ?_
    conv => whnf
    exact ⟨rfl⟩
  rintro ⟨_, _⟩ ⟨n, rfl, rfl, hn⟩
  conv => whnf
  refine cond_intro (fun h => ?_) (fun h => ?_)
  · have h : n < s.1.length := by simpa using h
    have hp := hs.pts n h
    conv => whnf
    refine ⟨⟨by omega, by omega⟩, ?_⟩
    conv => whnf
    refine ⟨_, i_Plane_side_ok p (s.1.getD n tIS.dflt) (by omega) (by omega), (by first | exact (fun _ => rfl) | exact (fun h => Bool.noConfusion h)), ?_⟩
    conv => whnf
    refine ⟨⟨room_snoc (by simp; omega) (by decide), len_snoc (by simp; omega)⟩, ?_⟩
    conv => whnf
    refine ⟨(_, _), rfl, ⟨n + 1, wrap_succ h (by unfold Short; omega), (sides_snoc s p h).symm, by omega⟩, ?_⟩
    rw [wrap_succ h (by unfold Short; omega)]; simp; omega
  · have h : ¬ n < s.1.length := by simpa using h
    obtain rfl : n = s.1.length := by omega
    rw [List.take_length]
    conv => whnf
    exact ⟨_, _, rfl, .inl rfl, rfl⟩

theorem jury_suits {s : Sample} {l : List Plane} (h : isJury l = true) (g : suits s (l.getD 0 shPlane.dflt) = true) {i : Nat} (hi : i < l.length) : suits s (l.getD i shPlane.dflt) = true := by
  obtain ⟨w1, w2⟩ := jury_wid h hi
  unfold suits at g ⊢
  simp only [Bool.and_eq_true] at g ⊢
  refine ⟨g.1, w2, ?_⟩
  rw [w1]; exact g.2.2

def okPan (s : Sample) (l : List Plane) : Bool := isJury l && (decide (l.length ≤ 8) && suits s (l.getD 0 shPlane.dflt))
def panR (s : Sample) (l : List Plane) : Sample × Bool × Unit := if okPan s l then ((l.map (sidesOf s), s.2.1, ()), true, ()) else (zeroSample, false, ())
theorem panR_no {s : Sample} {l : List Plane} (h : okPan s l = false) : panR s l = (zeroSample, false, ()) := by simp [panR, h]
theorem panR_yes {s : Sample} {l : List Plane} (h : okPan s l = true) : panR s l = ((l.map (sidesOf s), s.2.1, ()), true, ()) := by simp [panR, h]
theorem panR_fit {s : Sample} {l : List Plane} : FitS (panR s l).1 := by
  cases h : okPan s l with
  | true =>
    rw [panR_yes h]
    unfold okPan at h
    simp only [Bool.and_eq_true, decide_eq_true_eq] at h
    obtain ⟨h1, h2, h3⟩ := h
    have hs := suit_of h3
    have := hs.few
    have := hs.lab
    refine ⟨⟨?_, fun x hx => ?_⟩, ?_⟩
    · show (l.map (sidesOf s)).length ≤ _
      simp; omega
    · obtain ⟨p, _, rfl⟩ := List.mem_map.1 hx
      simp [sidesOf]; omega
    · show s.2.1.length ≤ _
      omega
  | false => rw [panR_no h]; exact ⟨⟨by simp [zeroSample], by simp [zeroSample]⟩, by simp [zeroSample]⟩
theorem map_take_snoc' {l : List Plane} (f : Plane → List Int) {n : Nat} (h : n < l.length) : (l.take (n + 1)).map f = (l.take n).map f ++ [f (l.getD n shPlane.dflt)] := by
  rw [take_getD l h shPlane.dflt]; simp

theorem s_PanelOf_ok (s : Sample) (l : List Plane) (hs : FitS s) (hl : FitP l) : orc.pc n_s_PanelOf [.d shSample s, .d shPlS l] ⟨shSaB, oSaB, panR s l⟩ := by
  refine p_s_PanelOf true rfl rfl ?_
  conv => whnf
  refine ⟨_, s_l8Jury_ok l hl, (by first | exact (fun _ => rfl) | exact (fun h => Bool.noConfusion h)), ?_⟩
  conv => whnf
  refine cond_intro (fun q0 => ?_) (fun q0 => ?_)
  · have q : isJury l = true := by simpa using q0
    obtain ⟨n1, n2⟩ := jury_len q
    conv => whnf
    repeat ((first | refine cond_t q0 ?_ | refine cond_f (hT q0) ?_ | refine cond_t (gT q0) ?_); conv => whnf)
    refine cond_intro (fun r0 => ?_) (fun r0 => ?_)
    · have r : l.length ≤ 8 := by simp at r0; omega
      conv => whnf
      repeat ((first | refine cond_t q0 ?_ | refine cond_f (hT q0) ?_ | refine cond_t (gT q0) ?_ | refine cond_t r0 ?_ | refine cond_f (hT r0) ?_ | refine cond_t (gT r0) ?_); conv => whnf)
      refine ⟨⟨by omega, by omega⟩, ?_⟩
      conv => whnf
      repeat ((first | refine cond_t q0 ?_ | refine cond_f (hT q0) ?_ | refine cond_t (gT q0) ?_ | refine cond_t r0 ?_ | refine cond_f (hT r0) ?_ | refine cond_t (gT r0) ?_); conv => whnf)
      refine ⟨_, s_l2Both_ok s (l.getD 0 shPlane.dflt) hs (hl.at n1 _), (by first | exact (fun _ => rfl) | exact (fun h => Bool.noConfusion h)), ?_⟩
      conv => whnf
      repeat ((first | refine cond_t q0 ?_ | refine cond_f (hT q0) ?_ | refine cond_t (gT q0) ?_ | refine cond_t r0 ?_ | refine cond_f (hT r0) ?_ | refine cond_t (gT r0) ?_); conv => whnf)
      refine cond_intro (fun t0 => ?_) (fun t0 => ?_)
      · have t : suits s (l.getD 0 shPlane.dflt) = false := by simpa using t0
        rw [panR_no (by unfold okPan; rw [t]; simp)]
        conv => whnf
        exact ⟨_, _, rfl, .inl rfl, rfl⟩
      · have t : suits s (l.getD 0 shPlane.dflt) = true := by simpa using t0
        rw [panR_yes (by unfold okPan; rw [q, t]; simp [r])]
        conv => whnf
        refine ⟨_, s_l1Own_ok _ hs.l, (by first | exact (fun _ => rfl) | exact (fun h => Bool.noConfusion h)), ?_⟩
        conv => whnf
        refine loop_ups (X := Int × List (List Int)) (fun (i, x) => [⟨0, 7, false, .d tI i⟩, ⟨0, 6, true, .pair .unit (.pair (.own tIS (.ow .fz) x) (.pair (.own tI .fz s.2.1) .unit))⟩]) (fun (i, _) => l.length - i.toNat) (fun (i, x) => ∃ n : Nat, i = n ∧ x = (l.take n).map (sidesOf s) ∧ n ≤ l.length) (0, []) ?_ ⟨0, rfl, rfl, by omega⟩ ?_
        · refine st_eq ?_
          conv => whnf
          exact ⟨rfl⟩
        rintro ⟨_, _⟩ ⟨n, rfl, rfl, hn⟩
        conv => whnf
        refine cond_intro (fun h => ?_) (fun h => ?_)
        · have h : n < l.length := by simpa using h
          conv => whnf
          refine ⟨⟨by omega, by omega⟩, ?_⟩
          conv => whnf
          refine ⟨_, s_l2Sides_ok s (l.getD n shPlane.dflt) (suit_of (jury_suits q t h)), (by first | exact (fun _ => rfl) | exact (fun h => Bool.noConfusion h)), ?_⟩
          conv => whnf
          refine ⟨⟨room_snoc (by simp; omega) (by decide), len_snoc (by simp; omega)⟩, ?_⟩
          conv => whnf
          refine ⟨(_, _), rfl, ⟨n + 1, wrap_succ h (by unfold Short; omega), (map_take_snoc' _ h).symm, by omega⟩, ?_⟩
          rw [wrap_succ h (by unfold Short; omega)]; simp; omega
        · have h : ¬ n < l.length := by simpa using h
          obtain rfl : n = l.length := by omega
          rw [List.take_length]
          conv => whnf
          exact ⟨_, _, rfl, .inl rfl, rfl⟩
    · have r : ¬ l.length ≤ 8 := by simp at r0; omega
      rw [panR_no (by unfold okPan; simp [r])]
      conv => whnf
      repeat ((first | refine cond_t q0 ?_ | refine cond_f (hT q0) ?_ | refine cond_t (gT q0) ?_ | refine cond_f r0 ?_ | refine cond_t (hF r0) ?_ | refine cond_f (gF r0) ?_); conv => whnf)
      exact ⟨_, _, rfl, .inl rfl, rfl⟩
  · have q : isJury l = false := by simpa using q0
    rw [panR_no (by unfold okPan; rw [q]; rfl)]
    conv => whnf
    repeat ((first | refine cond_f q0 ?_ | refine cond_t (hF q0) ?_ | refine cond_f (gF q0) ?_); conv => whnf)
    exact ⟨_, _, rfl, .inl rfl, rfl⟩

theorem i_PanelOf_ok (s : Sample) (l : List Plane) (hs : FitS s) (hl : FitP l) : orc.pc n_i_PanelOf [.d shSample s, .d shPlS l] ⟨shSaB, oSaB, panR s l⟩ := by
  refine p_i_PanelOf true rfl rfl ?_
  conv => whnf
  refine ⟨_, i_isJury_ok l hl, (by first | exact (fun _ => rfl) | exact (fun h => Bool.noConfusion h)), ?_⟩
  conv => whnf
  refine cond_intro (fun q0 => ?_) (fun q0 => ?_)
  · have q : isJury l = true := by simpa using q0
    obtain ⟨n1, n2⟩ := jury_len q
    conv => whnf
    repeat ((first | refine cond_t q0 ?_ | refine cond_f (hT q0) ?_ | refine cond_t (gT q0) ?_); conv => whnf)
    refine cond_intro (fun r0 => ?_) (fun r0 => ?_)
    · have r : l.length ≤ 8 := by simp at r0; omega
      conv => whnf
      repeat ((first | refine cond_t q0 ?_ | refine cond_f (hT q0) ?_ | refine cond_t (gT q0) ?_ | refine cond_t r0 ?_ | refine cond_f (hT r0) ?_ | refine cond_t (gT r0) ?_); conv => whnf)
      refine ⟨⟨by omega, by omega⟩, ?_⟩
      conv => whnf
      repeat ((first | refine cond_t q0 ?_ | refine cond_f (hT q0) ?_ | refine cond_t (gT q0) ?_ | refine cond_t r0 ?_ | refine cond_f (hT r0) ?_ | refine cond_t (gT r0) ?_); conv => whnf)
      refine ⟨_, i_suits_ok s (l.getD 0 shPlane.dflt) hs (hl.at n1 _), (by first | exact (fun _ => rfl) | exact (fun h => Bool.noConfusion h)), ?_⟩
      conv => whnf
      repeat ((first | refine cond_t q0 ?_ | refine cond_f (hT q0) ?_ | refine cond_t (gT q0) ?_ | refine cond_t r0 ?_ | refine cond_f (hT r0) ?_ | refine cond_t (gT r0) ?_); conv => whnf)
      refine cond_intro (fun t0 => ?_) (fun t0 => ?_)
      · have t : suits s (l.getD 0 shPlane.dflt) = false := by simpa using t0
        rw [panR_no (by unfold okPan; rw [t]; simp)]
        conv => whnf
        exact ⟨_, _, rfl, .inl rfl, rfl⟩
      · have t : suits s (l.getD 0 shPlane.dflt) = true := by simpa using t0
        rw [panR_yes (by unfold okPan; rw [q, t]; simp [r])]
        conv => whnf
        refine ⟨_, i_copied_ok _ hs.l, (by first | exact (fun _ => rfl) | exact (fun h => Bool.noConfusion h)), ?_⟩
        conv => whnf
        refine loop_ups (X := Int × List (List Int)) (fun (i, x) => [⟨0, 34, false, .d tI i⟩, ⟨0, 6, true, .pair .unit (.pair (.own tIS (.ow .fz) x) (.pair (.own tI .fz s.2.1) .unit))⟩]) (fun (i, _) => l.length - i.toNat) (fun (i, x) => ∃ n : Nat, i = n ∧ x = (l.take n).map (sidesOf s) ∧ n ≤ l.length) (0, []) ?_ ⟨0, rfl, rfl, by omega⟩ ?_
        · refine st_eq ?_
          conv => whnf
          exact ⟨rfl⟩
        rintro ⟨_, _⟩ ⟨n, rfl, rfl, hn⟩
        conv => whnf
        refine cond_intro (fun h => ?_) (fun h => ?_)
        · have h : n < l.length := by simpa using h
          conv => whnf
          refine ⟨⟨by omega, by omega⟩, ?_⟩
          conv => whnf
          refine ⟨_, i_SidesOf_ok s (l.getD n shPlane.dflt) hs (jury_suits q t h), (by first | exact (fun _ => rfl) | exact (fun h => Bool.noConfusion h)), ?_⟩
          conv => whnf
          refine ⟨⟨room_snoc (by simp; omega) (by decide), len_snoc (by simp; omega)⟩, ?_⟩
          conv => whnf
          refine ⟨(_, _), rfl, ⟨n + 1, wrap_succ h (by unfold Short; omega), (map_take_snoc' _ h).symm, by omega⟩, ?_⟩
          rw [wrap_succ h (by unfold Short; omega)]; simp; omega
        · have h : ¬ n < l.length := by simpa using h
          obtain rfl : n = l.length := by omega
          rw [List.take_length]
          conv => whnf
          exact ⟨_, _, rfl, .inl rfl, rfl⟩
    · have r : ¬ l.length ≤ 8 := by simp at r0; omega
      rw [panR_no (by unfold okPan; simp [r])]
      conv => whnf
      repeat ((first | refine cond_t q0 ?_ | refine cond_f (hT q0) ?_ | refine cond_t (gT q0) ?_ | refine cond_f r0 ?_ | refine cond_t (hF r0) ?_ | refine cond_f (gF r0) ?_); conv => whnf)
      exact ⟨_, _, rfl, .inl rfl, rfl⟩
  · have q : isJury l = false := by simpa using q0
    rw [panR_no (by unfold okPan; rw [q]; rfl)]
    conv => whnf
    repeat ((first | refine cond_f q0 ?_ | refine cond_t (hF q0) ?_ | refine cond_f (gF q0) ?_); conv => whnf)
    exact ⟨_, _, rfl, .inl rfl, rfl⟩

end Go.Proofs.Ytcpepepdinkioaa.Ev
