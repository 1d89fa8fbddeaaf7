/- Steps of a plane. -/
import Derived.Test.YtlndfmmigndgeaaFnF
namespace Go.Proofs.Ytlndfmmigndgeaa.Ev
open Go
set_option linter.unusedVariables false
set_option linter.unusedSimpArgs false
set_option maxRecDepth 100000
set_option exponentiation.threshold 100000

theorem not_true {b : Bool} (h : (!b) = true) : b = false := by simpa using h
theorem not_false {b : Bool} (h : (!b) = false) : b = true := by simpa using h

def addW : List Int → List Int → Int → List Int
  | w :: ws, x :: xs, l => IntKind.i64.wrap (w + IntKind.i64.wrap (l * x)) :: addW ws xs l
  | ws, _, _ => ws

theorem addW_length : ∀ (ws xs : List Int) (l : Int), (addW ws xs l).length = ws.length := by
  intro ws
  induction ws with
  | nil => intro xs l; cases xs <;> rfl
  | cons w ws ih => intro xs l; cases xs with
    | nil => rfl
    | cons x xs => simp [addW, ih]

theorem addW_snoc : ∀ (ws xs : List Int) (w x l : Int), ws.length = xs.length → addW (ws ++ [w]) (xs ++ [x]) l = addW ws xs l ++ [IntKind.i64.wrap (w + IntKind.i64.wrap (l * x))] := by
  intro ws
  induction ws with
  | nil => intro xs w x l h; cases xs with | nil => rfl | cons => simp at h
  | cons a ws ih => intro xs w x l h; cases xs with
    | nil => simp at h
    | cons b xs => simp only [List.cons_append, addW, ih xs w x l (by simpa using h)]

theorem addW_step {ws xs : List Int} {l : Int} {n : Nat} (h : n < xs.length) (he : xs.length = ws.length) (d e : Int) :
    (addW (ws.take n) (xs.take n) l ++ ws.drop n).set n (IntKind.i64.wrap (((addW (ws.take n) (xs.take n) l ++ ws.drop n).getD n d) + IntKind.i64.wrap (l * xs.getD n e))) = addW (ws.take (n + 1)) (xs.take (n + 1)) l ++ ws.drop (n + 1) := by
  have hl : (addW (ws.take n) (xs.take n) l).length = n := by rw [addW_length]; simp; omega
  rw [getD_mid hl, drop_getD ws (by omega) 0, set_at hl, take_getD ws (by omega) 0, take_getD xs h e, addW_snoc _ _ _ _ _ (by simp; omega)]
  simp

def stepTo (p : Plane) (x : List Int) (l : Int) : Plane := (addW p.1 x l, IntKind.i64.wrap (p.2.1 - l), ())
abbrev shPlB : Sh := .pair shPlane (.pair .bool .unit)

theorem i_Plane_step_no (p : Plane) (x : List Int) (l : Int) (hp : p.1.length ≤ 1048576) (hx : x.length = p.1.length) (h : side p x = l) : orc.pc n_i_Plane_step [.d shPlane p, .d tIS x, .d tI l] ⟨shPlB, .fz, (p, false, ())⟩ := by
  refine p_i_Plane_step true rfl rfl ?_
  conv => whnf
  refine ⟨_, i_Plane_side_ok _ _ hp (by omega), (by first | exact (fun _ => rfl) | exact (fun h => Bool.noConfusion h)), ?_⟩
  conv => whnf
  refine cond_t (show (side p x == l) = true by simp [h]) ?_
  conv => whnf
  exact ⟨_, _, rfl, .inl rfl, rfl⟩

theorem i_Plane_step_yes (p : Plane) (x : List Int) (l : Int) (hp : p.1.length ≤ 1048576) (hx : x.length = p.1.length) (h : side p x ≠ l) : orc.pc n_i_Plane_step [.d shPlane p, .d tIS x, .d tI l] ⟨shPlB, .pr shPlane.full .fz, (stepTo p x l, true, ())⟩ := by
  refine p_i_Plane_step true rfl rfl ?_
  conv => whnf
  refine ⟨_, i_Plane_side_ok _ _ hp (by omega), (by first | exact (fun _ => rfl) | exact (fun h => Bool.noConfusion h)), ?_⟩
  conv => whnf
  refine cond_f (show (side p x == l) = false by simp [h]) ?_
  conv => whnf
  refine ⟨_, i_copied_ok _ hp, (by first | exact (fun _ => rfl) | exact (fun h => Bool.noConfusion h)), ?_⟩
  conv => whnf
  refine loop_ups (X := Int × List Int) (fun (i, w) => [⟨0, 27, false, .d tI i⟩, ⟨0, 8, true, .pair .unit (.pair (.own tI .fz w) (.pair (.d tI (IntKind.i64.wrap (p.2.1 - l))) .unit))⟩]) (fun (i, _) => x.length - i.toNat) (fun (i, w) => ∃ n : Nat, i = n ∧ w = addW (p.1.take n) (x.take n) l ++ p.1.drop n ∧ n ≤ x.length) (0, p.1) ?_ ⟨0, rfl, rfl, by omega⟩ ?_
  · refine st_eq ?_
    conv => whnf
    exact ⟨rfl⟩
  rintro ⟨_, _⟩ ⟨n, rfl, rfl, hn⟩
  have hlen : (addW (p.1.take n) (x.take n) l ++ p.1.drop n).length = p.1.length := by simp [addW_length]; omega
  conv => whnf
  refine cond_intro (fun h => ?_) (fun h => ?_)
  · have h : n < x.length := by simpa using h
    conv => whnf
    refine ⟨⟨by omega, by omega⟩, ?_⟩
    conv => whnf
    refine ⟨⟨by omega, by rw [hlen]; omega⟩, ?_⟩
    conv => whnf
    refine ⟨(by rw [hlen]; show n < _; omega), ?_⟩
    conv => whnf
    refine ⟨⟨by omega, by rw [hlen]; omega⟩, ?_⟩
    conv => whnf
    refine ⟨(by rw [hlen]; show n < _; omega), ?_⟩
    conv => whnf
    refine ⟨(_, _), rfl, ⟨n + 1, wrap_succ h (by unfold Short; omega), ?_, by omega⟩, ?_⟩
    · exact addW_step h hx _ _
    · rw [wrap_succ h (by unfold Short; omega)]; simp; omega
  · have h : ¬ n < x.length := by simpa using h
    obtain rfl : n = x.length := by omega
    rw [List.take_length, hx, List.take_length, List.drop_length, List.append_nil]
    conv => whnf
    exact ⟨_, _, rfl, .inl rfl, rfl⟩

theorem s_l3Step_no (p : Plane) (x : List Int) (l : Int) (hp : p.1.length ≤ 1048576) (hx : x.length = p.1.length) (h : side p x = l) : orc.pc n_s_l3Step [.d shPlane p, .d tIS x, .d tI l] ⟨shPlB, .fz, (p, false, ())⟩ := by
  refine p_s_l3Step true rfl rfl ?_
  conv => whnf
  refine ⟨_, s_l2Side_ok _ _ hp (by omega), (by first | exact (fun _ => rfl) | exact (fun h => Bool.noConfusion h)), ?_⟩
  conv => whnf
  refine cond_t (show (side p x == l) = true by simp [h]) ?_
  conv => whnf
  exact ⟨_, _, rfl, .inl rfl, rfl⟩

theorem s_l3Step_yes (p : Plane) (x : List Int) (l : Int) (hp : p.1.length ≤ 1048576) (hx : x.length = p.1.length) (h : side p x ≠ l) : orc.pc n_s_l3Step [.d shPlane p, .d tIS x, .d tI l] ⟨shPlB, .pr shPlane.full .fz, (stepTo p x l, true, ())⟩ := by
  refine p_s_l3Step true rfl rfl ?_
  conv => whnf
  refine ⟨_, s_l2Side_ok _ _ hp (by omega), (by first | exact (fun _ => rfl) | exact (fun h => Bool.noConfusion h)), ?_⟩
  conv => whnf
  refine cond_f (show (side p x == l) = false by simp [h]) ?_
  conv => whnf
  refine ⟨_, s_l1Own_ok _ hp, (by first | exact (fun _ => rfl) | exact (fun h => Bool.noConfusion h)), ?_⟩
  conv => whnf
  refine loop_ups (X := Int × List Int) (fun (i, w) => [⟨0, 9, false, .d tI i⟩, ⟨0, 8, true, .pair .unit (.pair (.own tI .fz w) (.pair (.d tI (IntKind.i64.wrap (p.2.1 - l))) .unit))⟩]) (fun (i, _) => x.length - i.toNat) (fun (i, w) => ∃ n : Nat, i = n ∧ w = addW (p.1.take n) (x.take n) l ++ p.1.drop n ∧ n ≤ x.length) (0, p.1) ?_ ⟨0, rfl, rfl, by omega⟩ ?_
  · refine st_eq ?_
    conv => whnf
    exact ⟨rfl⟩
  rintro ⟨_, _⟩ ⟨n, rfl, rfl, hn⟩
  have hlen : (addW (p.1.take n) (x.take n) l ++ p.1.drop n).length = p.1.length := by simp [addW_length]; omega
  conv => whnf
  refine cond_intro (fun h => ?_) (fun h => ?_)
  · have h : n < x.length := by simpa using h
    conv => whnf
    refine ⟨⟨by omega, by rw [hlen]; omega⟩, ?_⟩
    conv => whnf
    refine ⟨(by rw [hlen]; show n < _; omega), ?_⟩
    conv => whnf
    refine ⟨⟨by omega, by omega⟩, ?_⟩
    conv => whnf
    refine ⟨⟨by omega, by rw [hlen]; omega⟩, ?_⟩
    conv => whnf
    refine ⟨(by rw [hlen]; show n < _; omega), ?_⟩
    conv => whnf
    refine ⟨(_, _), rfl, ⟨n + 1, wrap_succ h (by unfold Short; omega), ?_, by omega⟩, ?_⟩
    · exact addW_step h hx _ _
    · rw [wrap_succ h (by unfold Short; omega)]; simp; omega
  · have h : ¬ n < x.length := by simpa using h
    obtain rfl : n = x.length := by omega
    rw [List.take_length, hx, List.take_length, List.drop_length, List.append_nil]
    conv => whnf
    exact ⟨_, _, rfl, .inl rfl, rfl⟩

def zeroPlane : Plane := ([], 0, ())
def okStep (p : Plane) (x : List Int) (l : Int) : Bool := meets p x && isLabel l
def nextP (p : Plane) (x : List Int) (l : Int) : Plane := if side p x = l then p else stepTo p x l
/-- What a step comes to. -/
def stepR (p : Plane) (x : List Int) (l : Int) : Plane × Bool × Bool × Unit :=
  if okStep p x l && isPlane (nextP p x l) then (nextP p x l, !(side p x == l), true, ()) else (zeroPlane, false, false, ())
abbrev shStep : Sh := .pair shPlane (.pair .bool (.pair .bool .unit))
def oStep : Ow := .pr shPlane.full .fz

theorem meets_len {p : Plane} {x : List Int} (h : meets p x = true) : x.length = p.1.length := by
  unfold meets at h; simp at h; exact h.2.2

theorem i_StepPerceptron_ok (p : Plane) (x : List Int) (l : Int) (hp : p.1.length ≤ 1048576) (hx : x.length ≤ 1048576) : orc.pc n_i_StepPerceptron [.d shPlane p, .d tIS x, .d tI l] ⟨shStep, oStep, stepR p x l⟩ := by
  refine p_i_StepPerceptron true rfl rfl ?_
  conv => whnf
  refine ⟨_, i_meets_ok _ _ hp hx, (by first | exact (fun _ => rfl) | exact (fun h => Bool.noConfusion h)), ?_⟩
  conv => whnf
  refine cond_intro (fun q => ?_) (fun q => ?_)
  · have q : meets p x = true := by simpa using q
    have hlen := meets_len q
    conv => whnf
    refine ⟨_, i_isLabel_ok _, (by first | exact (fun _ => rfl) | exact (fun h => Bool.noConfusion h)), ?_⟩
    conv => whnf
    refine cond_intro (fun r => ?_) (fun r => ?_)
    · have r : isLabel l = false := by simpa using r
      rw [show stepR p x l = (zeroPlane, false, false, ()) by unfold stepR okStep; rw [q, r]; rfl]
      conv => whnf
      exact ⟨_, _, rfl, .inl rfl, rfl⟩
    have r : isLabel l = true := by simpa using r
    conv => whnf
    by_cases hs : side p x = l
    · refine ⟨_, i_Plane_step_no p x l hp hlen hs, (by first | exact (fun _ => rfl) | exact (fun h => Bool.noConfusion h)), ?_⟩
      conv => whnf
      refine ⟨_, i_IsPlane_ok _ hp, (by first | exact (fun _ => rfl) | exact (fun h => Bool.noConfusion h)), ?_⟩
      conv => whnf
      have en : nextP p x l = p := by unfold nextP; rw [if_pos hs]
      refine cond_intro (fun t => ?_) (fun t => ?_)
      · have t : isPlane p = false := by simpa using t
        rw [show stepR p x l = (zeroPlane, false, false, ()) by unfold stepR okStep; rw [q, r, en, t]; rfl]
        conv => whnf
        exact ⟨_, _, rfl, .inl rfl, rfl⟩
      · have t : isPlane p = true := by simpa using t
        rw [show stepR p x l = (p, false, true, ()) by unfold stepR okStep; rw [q, r, en, t]; simp [hs]]
        conv => whnf
        refine ⟨_, i_copied_ok _ hp, (by first | exact (fun _ => rfl) | exact (fun h => Bool.noConfusion h)), ?_⟩
        conv => whnf
        exact ⟨_, _, rfl, .inl rfl, rfl⟩
    · refine ⟨_, i_Plane_step_yes p x l hp hlen hs, (by first | exact (fun _ => rfl) | exact (fun h => Bool.noConfusion h)), ?_⟩
      conv => whnf
      refine ⟨_, i_IsPlane_ok _ (show (addW p.1 x l).length ≤ 1048576 by rw [addW_length]; exact hp), (by first | exact (fun _ => rfl) | exact (fun h => Bool.noConfusion h)), ?_⟩
      conv => whnf
      have en : nextP p x l = stepTo p x l := by unfold nextP; rw [if_neg hs]
      refine cond_intro (fun t => ?_) (fun t => ?_)
      · have t : isPlane (stepTo p x l) = false := not_true t
        rw [show stepR p x l = (zeroPlane, false, false, ()) by unfold stepR okStep; rw [q, r, en, t]; rfl]
        conv => whnf
        exact ⟨_, _, rfl, .inl rfl, rfl⟩
      · have t : isPlane (stepTo p x l) = true := not_false t
        rw [show stepR p x l = (stepTo p x l, true, true, ()) by unfold stepR okStep; rw [q, r, en, t]; simp [hs]]
        conv => whnf
        refine ⟨_, i_copied_ok _ (show (addW p.1 x l).length ≤ 1048576 by rw [addW_length]; exact hp), (by first | exact (fun _ => rfl) | exact (fun h => Bool.noConfusion h)), ?_⟩
        conv => whnf
        exact ⟨_, _, rfl, .inl rfl, rfl⟩
  · have q : meets p x = false := by simpa using q
    rw [show stepR p x l = (zeroPlane, false, false, ()) by unfold stepR okStep; rw [q]; rfl]
    conv => whnf
    exact ⟨_, _, rfl, .inl rfl, rfl⟩

theorem has_label (l : Int) : ([1, -1] : List Int).any (· == l) = isLabel l := by
  unfold isLabel
  rw [Bool.eq_iff_iff]; simp; omega

theorem meets_plane {p : Plane} {x : List Int} (h : isPlane p = false) : meets p x = false := by unfold meets; rw [h]; rfl

end Go.Proofs.Ytlndfmmigndgeaa.Ev
