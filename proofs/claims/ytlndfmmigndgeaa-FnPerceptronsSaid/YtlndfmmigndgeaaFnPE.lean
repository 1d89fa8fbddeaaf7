/- Mistakes of planes, planes of counts, planes of runs. -/
import Derived.Test.YtlndfmmigndgeaaFnV
namespace Go.Proofs.Ytlndfmmigndgeaa.Ev
open Go
set_option linter.unusedVariables false
set_option linter.unusedSimpArgs false
set_option maxRecDepth 100000
set_option exponentiation.threshold 100000
set_option maxHeartbeats 2000000

theorem bneT {a b : Int} (h : (a != b) = true) : a ≠ b := by simpa using h
theorem bneF {a b : Int} (h : (a != b) = false) : a = b := by simpa using h

/-! ### Mistakes -/
def misTo (p : Plane) (s : Sample) : Nat → List Int
  | 0 => []
  | n + 1 => misTo p s n ++ (if side p (s.1.getD n tIS.dflt) = s.2.1.getD n 0 then [] else [(n : Int)])
theorem misTo_len (p : Plane) (s : Sample) : ∀ n, (misTo p s n).length ≤ n := by
  intro n
  induction n with
  | zero => exact Nat.le_refl _
  | succ n ih => simp only [misTo, List.length_append]; split <;> simp <;> omega
theorem misTo_yes {p : Plane} {s : Sample} {n : Nat} (h : side p (s.1.getD n tIS.dflt) = s.2.1.getD n 0) : misTo p s (n + 1) = misTo p s n := by simp only [misTo, if_pos h, List.append_nil]
theorem misTo_no {p : Plane} {s : Sample} {n : Nat} (h : side p (s.1.getD n tIS.dflt) ≠ s.2.1.getD n 0) : misTo p s (n + 1) = misTo p s n ++ [(n : Int)] := by simp only [misTo, if_neg h]

/-- A plane and a sample of the same numbers. -/
structure Fits (p : Plane) (s : Sample) : Prop where
  w : p.1.length ≤ 1048576
  x : ∀ n, n < s.1.length → p.1.length ≤ (s.1.getD n tIS.dflt).length
  l : s.2.1.length = s.1.length
  few : s.1.length ≤ 1048576

theorem i_Plane_mistakes_ok (p : Plane) (s : Sample) (F : Fits p s) : orc.pc n_i_Plane_mistakes [.d shPlane p, .d shSample s] ⟨tIS, .ow .fz, misTo p s s.1.length⟩ := by
  have few := F.few
  refine p_i_Plane_mistakes true rfl rfl ?_
  conv => whnf
  refine loop_ups (X := Int × List Int) (fun (i, x) => [⟨0, 12, false, .d tI i⟩, ⟨0, 5, false, .own tI .fz x⟩]) (fun (i, _) => s.1.length - i.toNat) (fun (i, x) => ∃ m : Nat, i = m ∧ x = misTo p s m ∧ m ≤ s.1.length) (0, []) ?_ ⟨0, rfl, rfl, by omega⟩ ?_
  · refine st_eq ?_
    conv => whnf
    exact ⟨rfl⟩
  rintro ⟨_, _⟩ ⟨m, rfl, rfl, hm⟩
  have hml := misTo_len p s m
  conv => whnf
  refine cond_intro (fun h => ?_) (fun h => ?_)
  · have h : m < s.1.length := by simpa using h
    conv => whnf
    refine ⟨⟨Int.natCast_nonneg _, Int.ofNat_lt.2 h⟩, ?_⟩
    conv => whnf
    refine ⟨_, i_Plane_side_ok _ _ F.w (F.x m h), (by first | exact (fun _ => rfl) | exact (fun h => Bool.noConfusion h)), ?_⟩
    conv => whnf
    refine ⟨⟨Int.natCast_nonneg _, Int.ofNat_lt.2 (by rw [F.l]; exact h)⟩, ?_⟩
    conv => whnf
    refine cond_intro (fun g => ?_) (fun g => ?_)
    · have g : side p (s.1.getD m tIS.dflt) ≠ s.2.1.getD m 0 := bneT g
      conv => whnf
      refine ⟨⟨room_snoc (by omega) (by decide), len_snoc (by omega)⟩, ?_⟩
      conv => whnf
      refine ⟨(_, _), rfl, ⟨m + 1, wrap_succ h (by unfold Short; omega), (misTo_no g).symm, by omega⟩, ?_⟩
      rw [wrap_succ h (by unfold Short; omega)]; simp; omega
    · have g : side p (s.1.getD m tIS.dflt) = s.2.1.getD m 0 := bneF g
      conv => whnf
      refine ⟨(_, _), rfl, ⟨m + 1, wrap_succ h (by unfold Short; omega), (misTo_yes g).symm, by omega⟩, ?_⟩
      rw [wrap_succ h (by unfold Short; omega)]; simp; omega
  · have h : ¬ m < s.1.length := by simpa using h
    obtain rfl : m = s.1.length := by omega
    conv => whnf
    exact ⟨_, _, rfl, .inl rfl, rfl⟩

theorem s_l2Mistakes_ok (s : Sample) (p : Plane) (F : Fits p s) : orc.pc n_s_l2Mistakes [.d shSample s, .d shPlane p] ⟨tIS, .ow .fz, misTo p s s.1.length⟩ := by
  have few := F.few
  refine p_s_l2Mistakes true rfl rfl ?_
  conv => whnf
  refine loop_ups (X := Int × List Int) (fun (i, x) => [⟨0, 6, false, .d tI i⟩, ⟨0, 5, false, .own tI .fz x⟩]) (fun (i, _) => s.1.length - i.toNat) (fun (i, x) => ∃ m : Nat, i = m ∧ x = misTo p s m ∧ m ≤ s.1.length) (0, []) ?_ ⟨0, rfl, rfl, by omega⟩ ?_
  · refine st_eq ?_
    conv => whnf
    exact ⟨rfl⟩
  rintro ⟨_, _⟩ ⟨m, rfl, rfl, hm⟩
  have hml := misTo_len p s m
  conv => whnf
  refine cond_intro (fun h => ?_) (fun h => ?_)
  · have h : m < s.1.length := by simpa using h
    conv => whnf
    refine ⟨⟨Int.natCast_nonneg _, Int.ofNat_lt.2 h⟩, ?_⟩
    conv => whnf
    refine ⟨_, s_l2Side_ok _ _ F.w (F.x m h), (by first | exact (fun _ => rfl) | exact (fun h => Bool.noConfusion h)), ?_⟩
    conv => whnf
    refine ⟨⟨Int.natCast_nonneg _, Int.ofNat_lt.2 (by rw [F.l]; exact h)⟩, ?_⟩
    conv => whnf
    refine cond_intro (fun g => ?_) (fun g => ?_)
    · have g : side p (s.1.getD m tIS.dflt) ≠ s.2.1.getD m 0 := bneT g
      conv => whnf
      refine ⟨⟨room_snoc (by omega) (by decide), len_snoc (by omega)⟩, ?_⟩
      conv => whnf
      refine ⟨(_, _), rfl, ⟨m + 1, wrap_succ h (by unfold Short; omega), (misTo_no g).symm, by omega⟩, ?_⟩
      rw [wrap_succ h (by unfold Short; omega)]; simp; omega
    · have g : side p (s.1.getD m tIS.dflt) = s.2.1.getD m 0 := bneF g
      conv => whnf
      refine ⟨(_, _), rfl, ⟨m + 1, wrap_succ h (by unfold Short; omega), (misTo_yes g).symm, by omega⟩, ?_⟩
      rw [wrap_succ h (by unfold Short; omega)]; simp; omega
  · have h : ¬ m < s.1.length := by simpa using h
    obtain rfl : m = s.1.length := by omega
    conv => whnf
    exact ⟨_, _, rfl, .inl rfl, rfl⟩

theorem i_MistakesOf_yes (s : Sample) (p : Plane) (hs : FitS s) (F : Fits p s) (h : suits s p = true) : orc.pc n_i_MistakesOf [.d shSample s, .d shPlane p] ⟨shLB, oLB, (misTo p s s.1.length, true, ())⟩ := by
  refine p_i_MistakesOf true rfl rfl ?_
  conv => whnf
  refine ⟨_, i_suits_ok s p hs F.w, (by first | exact (fun _ => rfl) | exact (fun h => Bool.noConfusion h)), ?_⟩
  conv => whnf
  refine cond_f (show (!suits s p) = false by rw [h]; rfl) ?_
  conv => whnf
  refine ⟨_, i_Plane_mistakes_ok p s F, (by first | exact (fun _ => rfl) | exact (fun h => Bool.noConfusion h)), ?_⟩
  conv => whnf
  exact ⟨_, _, rfl, .inl rfl, rfl⟩
theorem i_FitsSample_yes (s : Sample) (p : Plane) (hs : FitS s) (F : Fits p s) (h : suits s p = true) : orc.pc n_i_FitsSample [.d shSample s, .d shPlane p] ⟨.pair .bool (.pair .bool .unit), .fz, (((misTo p s s.1.length).length : Int) == 0, true, ())⟩ := by
  refine p_i_FitsSample true rfl rfl ?_
  conv => whnf
  refine ⟨_, i_suits_ok s p hs F.w, (by first | exact (fun _ => rfl) | exact (fun h => Bool.noConfusion h)), ?_⟩
  conv => whnf
  refine cond_f (show (!suits s p) = false by rw [h]; rfl) ?_
  conv => whnf
  refine ⟨_, i_Plane_mistakes_ok p s F, (by first | exact (fun _ => rfl) | exact (fun h => Bool.noConfusion h)), ?_⟩
  conv => whnf
  exact ⟨_, _, rfl, .inl rfl, rfl⟩

/-! ### The plane of a run -/
abbrev shPLB : Sh := .pair shPlane (.pair tIS (.pair .bool .unit))
theorem i_RunPerceptron_no (s : Sample) (r : Int) (hs : FitS s) (q : runO s r = none) : orc.pc n_i_RunPerceptron [.d shSample s, .d tI r] ⟨shPLB, .pr shPlane.full (.pr (.ow .fz) .fz), (([], 0, ()), [], false, ())⟩ := by
  refine p_i_RunPerceptron false rfl rfl ?_
  have c := i_runOf_ok s r hs
  rw [runR_no q] at c
  conv => whnf
  refine ⟨_, c, (by first | exact (fun _ => rfl) | exact (fun h => Bool.noConfusion h)), ?_⟩
  conv => whnf
  exact ⟨_, _, rfl, .inl rfl, rfl⟩
theorem s_RunPerceptron_no (s : Sample) (r : Int) (hs : FitS s) (q : runO s r = none) : orc.pc n_s_RunPerceptron [.d shSample s, .d tI r] ⟨shPLB, .pr shPlane.full (.pr (.ow .fz) .fz), (([], 0, ()), [], false, ())⟩ := by
  refine p_s_RunPerceptron false rfl rfl ?_
  have c := s_l3Made_ok s r hs
  rw [runR_no q] at c
  conv => whnf
  refine ⟨_, c, (by first | exact (fun _ => rfl) | exact (fun h => Bool.noConfusion h)), ?_⟩
  conv => whnf
  exact ⟨_, _, rfl, .inl rfl, rfl⟩
theorem i_RunPerceptron_yes (s : Sample) (r : Int) (hs : FitS s) {st : RT} (q : runO s r = some st) : orc.pc n_i_RunPerceptron [.d shSample s, .d tI r] ⟨shPLB, .pr .fz (.pr (.ow .fz) .fz), (lastP st.1, st.2.2, true, ())⟩ := by
  refine p_i_RunPerceptron false rfl rfl ?_
  have c := i_runOf_ok s r hs
  have g := (runO_good q).1
  have g1 := g.ne
  have g2 := g.n
  rw [runR_yes q] at c
  have hw : IntKind.i64.wrap ((st.1.length : Int) - 1) = ((st.1.length - 1 : Nat) : Int) := by rw [wrap_in (by omega) (by omega)]; omega
  conv => whnf
  refine ⟨_, c, (by first | exact (fun _ => rfl) | exact (fun h => Bool.noConfusion h)), ?_⟩
  conv => whnf
  rw [hw]
  refine ⟨⟨Int.natCast_nonneg _, Int.ofNat_lt.2 (show st.1.length - 1 < st.1.length by omega)⟩, ?_⟩
  conv => whnf
  refine ⟨(show st.1.length - 1 < st.1.length by omega), ?_⟩
  conv => whnf
  exact ⟨_, _, rfl, .inl rfl, rfl⟩
theorem s_RunPerceptron_yes (s : Sample) (r : Int) (hs : FitS s) {st : RT} (q : runO s r = some st) : orc.pc n_s_RunPerceptron [.d shSample s, .d tI r] ⟨shPLB, .pr .fz (.pr (.ow .fz) .fz), (lastP st.1, st.2.2, true, ())⟩ := by
  refine p_s_RunPerceptron false rfl rfl ?_
  have c := s_l3Made_ok s r hs
  have g := (runO_good q).1
  have g1 := g.ne
  have g2 := g.n
  rw [runR_yes q] at c
  have hw : IntKind.i64.wrap ((st.1.length : Int) - 1) = ((st.1.length - 1 : Nat) : Int) := by rw [wrap_in (by omega) (by omega)]; omega
  conv => whnf
  refine ⟨_, c, (by first | exact (fun _ => rfl) | exact (fun h => Bool.noConfusion h)), ?_⟩
  conv => whnf
  rw [hw]
  refine ⟨⟨Int.natCast_nonneg _, Int.ofNat_lt.2 (show st.1.length - 1 < st.1.length by omega)⟩, ?_⟩
  conv => whnf
  refine ⟨(show st.1.length - 1 < st.1.length by omega), ?_⟩
  conv => whnf
  exact ⟨_, _, rfl, .inl rfl, rfl⟩

/-! ### The pocket -/
def pk (ps : List Plane) (s : Sample) : Nat → Nat
  | 0 => 0
  | n + 1 => if (misTo (ps.getD n shPlane.dflt) s s.1.length).length < (misTo (ps.getD (pk ps s n) shPlane.dflt) s s.1.length).length then n else pk ps s n
theorem pk_lt {ps : List Plane} {s : Sample} (h0 : 0 < ps.length) : ∀ n, n ≤ ps.length → pk ps s n < ps.length := by
  intro n
  induction n with
  | zero => intro _; exact h0
  | succ n ih => intro h; simp only [pk]; split; omega; exact ih (by omega)
theorem pk_least {ps : List Plane} {s : Sample} : ∀ n i, i < n → (misTo (ps.getD (pk ps s n) shPlane.dflt) s s.1.length).length ≤ (misTo (ps.getD i shPlane.dflt) s s.1.length).length := by
  intro n
  induction n with
  | zero => intro i h; omega
  | succ n ih =>
    intro i h
    simp only [pk]
    by_cases hi : i = n
    · subst hi; split <;> omega
    · have := ih i (by omega); split <;> omega
theorem pk_one (ps : List Plane) (s : Sample) : pk ps s 1 = 0 := by simp [pk]

theorem i_PocketPlane_no (s : Sample) (r : Int) (hs : FitS s) (q : runO s r = none) : orc.pc n_i_PocketPlane [.d shSample s, .d tI r] ⟨shPlB, .pr shPlane.full .fz, (([], 0, ()), false, ())⟩ := by
  refine p_i_PocketPlane false rfl rfl ?_
  have c := i_runOf_ok s r hs
  rw [runR_no q] at c
  conv => whnf
  refine ⟨_, c, (by first | exact (fun _ => rfl) | exact (fun h => Bool.noConfusion h)), ?_⟩
  conv => whnf
  exact ⟨_, _, rfl, .inl rfl, rfl⟩
theorem s_PocketPlane_no (s : Sample) (r : Int) (hs : FitS s) (q : runO s r = none) : orc.pc n_s_PocketPlane [.d shSample s, .d tI r] ⟨shPlB, .pr shPlane.full .fz, (([], 0, ()), false, ())⟩ := by
  refine p_s_PocketPlane false rfl rfl ?_
  have c := s_l3Made_ok s r hs
  rw [runR_no q] at c
  conv => whnf
  refine ⟨_, c, (by first | exact (fun _ => rfl) | exact (fun h => Bool.noConfusion h)), ?_⟩
  conv => whnf
  exact ⟨_, _, rfl, .inl rfl, rfl⟩
theorem i_PocketPlane_yes (s : Sample) (r : Int) (hs : FitS s) {st : RT} (q : runO s r = some st) (F : ∀ n, n < st.1.length → Fits (st.1.getD n shPlane.dflt) s) :
    orc.pc n_i_PocketPlane [.d shSample s, .d tI r] ⟨shPlB, .fz, (st.1.getD (pk st.1 s st.1.length) shPlane.dflt, true, ())⟩ := by
  refine p_i_PocketPlane false rfl rfl ?_
  have c := i_runOf_ok s r hs
  have g := (runO_good q).1
  have g1 := g.ne
  have g2 := g.n
  rw [runR_yes q] at c
  conv => whnf
  refine ⟨_, c, (by first | exact (fun _ => rfl) | exact (fun h => Bool.noConfusion h)), ?_⟩
  conv => whnf
  refine ⟨⟨Int.le_refl _, Int.ofNat_lt.2 g1⟩, ?_⟩
  conv => whnf
  refine ⟨g1, ?_⟩
  conv => whnf
  refine loop_ups (X := Int × Plane) (fun (i, x) => [⟨0, 27, false, .d tI i⟩, ⟨0, 8, true, .pair .unit (.d shPlane x)⟩]) (fun (i, _) => st.1.length - i.toNat) (fun (i, x) => ∃ m : Nat, i = m ∧ x = st.1.getD (pk st.1 s m) shPlane.dflt ∧ m ≤ st.1.length) (0, st.1.getD 0 shPlane.dflt) ?_ ⟨0, rfl, rfl, by omega⟩ ?_
  · refine st_eq ?_
    conv => whnf
    exact ⟨rfl⟩
  rintro ⟨_, _⟩ ⟨m, rfl, rfl, hm⟩
  conv => whnf
  refine cond_intro (fun h => ?_) (fun h => ?_)
  · have h : m < st.1.length := by simpa using h
    conv => whnf
    refine ⟨⟨Int.natCast_nonneg _, Int.ofNat_lt.2 h⟩, ?_⟩
    conv => whnf
    refine ⟨h, ?_⟩
    conv => whnf
    refine ⟨_, i_Plane_mistakes_ok _ _ (F m h), (by first | exact (fun _ => rfl) | exact (fun h => Bool.noConfusion h)), ?_⟩
    conv => whnf
    refine ⟨_, i_Plane_mistakes_ok _ _ (F _ (pk_lt g1 m hm)), (by first | exact (fun _ => rfl) | exact (fun h => Bool.noConfusion h)), ?_⟩
    conv => whnf
    refine cond_intro (fun z => ?_) (fun z => ?_)
    · have z : (misTo (st.1.getD m shPlane.dflt) s s.1.length).length < (misTo (st.1.getD (pk st.1 s m) shPlane.dflt) s s.1.length).length := Int.ofNat_lt.1 (of_decide_eq_true z)
      conv => whnf
      refine ⟨(_, _), rfl, ⟨m + 1, wrap_succ h (by unfold Short; omega), by simp only [pk, if_pos z]; rfl, by omega⟩, ?_⟩
      rw [wrap_succ h (by unfold Short; omega)]; simp; omega
    · have z : ¬ (misTo (st.1.getD m shPlane.dflt) s s.1.length).length < (misTo (st.1.getD (pk st.1 s m) shPlane.dflt) s s.1.length).length := fun e => of_decide_eq_false z (Int.ofNat_lt.2 e)
      conv => whnf
      refine ⟨(_, _), rfl, ⟨m + 1, wrap_succ h (by unfold Short; omega), by simp only [pk, if_neg z], by omega⟩, ?_⟩
      rw [wrap_succ h (by unfold Short; omega)]; simp; omega
  · have h : ¬ m < st.1.length := by simpa using h
    obtain rfl : m = st.1.length := by omega
    conv => whnf
    exact ⟨_, _, rfl, .inl rfl, rfl⟩
theorem s_PocketPlane_yes (s : Sample) (r : Int) (hs : FitS s) {st : RT} (q : runO s r = some st) (F : ∀ n, n < st.1.length → Fits (st.1.getD n shPlane.dflt) s) :
    orc.pc n_s_PocketPlane [.d shSample s, .d tI r] ⟨shPlB, .fz, (st.1.getD (pk st.1 s st.1.length) shPlane.dflt, true, ())⟩ := by
  refine p_s_PocketPlane false rfl rfl ?_
  have c := s_l3Made_ok s r hs
  have g := (runO_good q).1
  have g1 := g.ne
  have g2 := g.n
  rw [runR_yes q] at c
  conv => whnf
  refine ⟨_, c, (by first | exact (fun _ => rfl) | exact (fun h => Bool.noConfusion h)), ?_⟩
  conv => whnf
  refine loop_ups (X := Int × Int) (fun (i, x) => [⟨0, 9, false, .d tI i⟩, ⟨0, 8, false, .d tI x⟩]) (fun (i, _) => st.1.length - i.toNat) (fun (i, x) => ∃ m : Nat, i = m ∧ x = pk st.1 s m ∧ m ≤ st.1.length) (1, 0) ?_ ⟨1, rfl, by rw [pk_one]; rfl, by omega⟩ ?_
  · refine st_eq ?_
    conv => whnf
    exact ⟨rfl⟩
  rintro ⟨_, _⟩ ⟨m, rfl, rfl, hm⟩
  have hk := pk_lt (s := s) g1 m hm
  conv => whnf
  refine cond_intro (fun h => ?_) (fun h => ?_)
  · have h : m < st.1.length := by simpa using h
    conv => whnf
    refine ⟨⟨Int.natCast_nonneg _, Int.ofNat_lt.2 h⟩, ?_⟩
    conv => whnf
    refine ⟨h, ?_⟩
    conv => whnf
    refine ⟨_, s_l2Mistakes_ok _ _ (F m h), (by first | exact (fun _ => rfl) | exact (fun h => Bool.noConfusion h)), ?_⟩
    conv => whnf
    refine ⟨⟨Int.natCast_nonneg _, Int.ofNat_lt.2 hk⟩, ?_⟩
    conv => whnf
    refine ⟨hk, ?_⟩
    conv => whnf
    refine ⟨_, s_l2Mistakes_ok _ _ (F _ hk), (by first | exact (fun _ => rfl) | exact (fun h => Bool.noConfusion h)), ?_⟩
    conv => whnf
    refine cond_intro (fun z => ?_) (fun z => ?_)
    · have z : (misTo (st.1.getD m shPlane.dflt) s s.1.length).length < (misTo (st.1.getD (pk st.1 s m) shPlane.dflt) s s.1.length).length := Int.ofNat_lt.1 (of_decide_eq_true z)
      conv => whnf
      refine ⟨(_, _), rfl, ⟨m + 1, wrap_succ h (by unfold Short; omega), by simp only [pk, if_pos z], by omega⟩, ?_⟩
      rw [wrap_succ h (by unfold Short; omega)]; simp; omega
    · have z : ¬ (misTo (st.1.getD m shPlane.dflt) s s.1.length).length < (misTo (st.1.getD (pk st.1 s m) shPlane.dflt) s s.1.length).length := fun e => of_decide_eq_false z (Int.ofNat_lt.2 e)
      conv => whnf
      refine ⟨(_, _), rfl, ⟨m + 1, wrap_succ h (by unfold Short; omega), by simp only [pk, if_neg z], by omega⟩, ?_⟩
      rw [wrap_succ h (by unfold Short; omega)]; simp; omega
  · have h : ¬ m < st.1.length := by simpa using h
    obtain rfl : m = st.1.length := by omega
    conv => whnf
    refine ⟨⟨Int.natCast_nonneg _, Int.ofNat_lt.2 hk⟩, ?_⟩
    conv => whnf
    refine ⟨hk, ?_⟩
    conv => whnf
    exact ⟨_, _, rfl, .inl rfl, rfl⟩

end Go.Proofs.Ytlndfmmigndgeaa.Ev
