/- Functions of the laws' own: equality, marks, what is held; lists of numbers and what is made of them. -/
import Derived.Test.YtcpepepdinkioaaFd
namespace Go.Proofs.Ytcpepepdinkioaa.Ev
open Go
set_option linter.unusedVariables false
set_option linter.unusedSimpArgs false
set_option maxRecDepth 100000
set_option exponentiation.threshold 100000

theorem gT {b : Bool} (h : (b == true) = true) : b = true := by simpa using h
theorem gF {b : Bool} (h : (b == true) = false) : b = false := by simpa using h
theorem hT {b : Bool} (h : (b == false) = true) : b = false := by simpa using h
theorem hF {b : Bool} (h : (b == false) = false) : b = true := by simpa using h

/-! ### Lists -/

theorem drop_getD {α : Type} (l : List α) {n : Nat} (h : n < l.length) (d : α) : l.drop n = l.getD n d :: l.drop (n + 1) := by
  rw [List.drop_eq_getElem_cons h]
  congr 1
  rw [List.getD_eq_getElem?_getD, List.getElem?_eq_getElem h]; rfl

theorem take_getD {α : Type} (l : List α) {n : Nat} (h : n < l.length) (d : α) : l.take (n + 1) = l.take n ++ [l.getD n d] := by
  rw [List.take_succ_eq_append_getElem h]
  congr 2
  rw [List.getD_eq_getElem?_getD, List.getElem?_eq_getElem h]; rfl

theorem getD_mem {α : Type} {l : List α} {n : Nat} (h : n < l.length) (d : α) : l.getD n d ∈ l := by
  rw [List.getD_eq_getElem?_getD, List.getElem?_eq_getElem h]
  exact List.getElem_mem h

theorem drop_len {α : Type} {l : List α} {n : Nat} (h : ¬ n < l.length) : l.drop n = [] := List.drop_eq_nil_of_le (by omega)

/-- Bounds of lists of lists. -/
def Fit2 (l : List (List Int)) : Prop := l.length ≤ 1048576 ∧ ∀ x ∈ l, x.length ≤ 1048576

theorem Fit2.at {l : List (List Int)} (h : Fit2 l) {n : Nat} (hn : n < l.length) (d : List Int) : (l.getD n d).length ≤ 1048576 := h.2 _ (getD_mem hn d)

/-! ### Equality -/

theorem l_eqIntS_ok (a b : List Int) (ha : a.length ≤ 1048576) : orc.pc n_l_eqIntS [.d tIS a, .d tIS b] ⟨.bool, .fz, decide (a = b)⟩ := by
  refine p_l_eqIntS true rfl rfl ?_
  conv => whnf
  refine cond_intro (fun h => ?_) (fun h => ?_)
  · have h : a.length ≠ b.length := by simp at h; omega
    conv => whnf
    exact ⟨_, _, rfl, .inl rfl, fin1 (by symm; simp; intro e; exact h (by rw [e]))⟩
  have h : a.length = b.length := by simp at h; omega
  conv => whnf
  refine loop_ups (X := Int) (fun i => [⟨0, 5, false, .d tI i⟩]) (fun i => a.length - i.toNat) (fun i => ∃ n : Nat, i = n ∧ n ≤ a.length ∧ (a = b ↔ a.drop n = b.drop n)) 0 rfl ⟨0, rfl, by omega, by simp⟩ ?_
  rintro _ ⟨n, rfl, hn, hi⟩
  conv => whnf
  refine cond_intro (fun g => ?_) (fun g => ?_)
  · have h1 : n < a.length := by simpa using g
    have h2 : n < b.length := by omega
    conv => whnf
    refine ⟨⟨by omega, by omega⟩, ?_⟩
    conv => whnf
    refine ⟨⟨by omega, by omega⟩, ?_⟩
    conv => whnf
    rw [drop_getD a h1 tI.dflt, drop_getD b h2 tI.dflt] at hi
    refine cond_intro (fun h => ?_) (fun h => ?_)
    · have h : a.getD n tI.dflt ≠ b.getD n tI.dflt := by simpa using h
      conv => whnf
      exact ⟨_, _, rfl, .inl rfl, fin1 (by symm; simp only [decide_eq_false_iff_not]; rw [hi]; intro e; exact h (List.cons.inj e).1)⟩
    · have h : a.getD n tI.dflt = b.getD n tI.dflt := by simpa using h
      conv => whnf
      refine ⟨_, rfl, ⟨n + 1, wrap_succ h1 (by unfold Short; omega), by omega, by rw [hi, h]; simp⟩, ?_⟩
      rw [wrap_succ h1 (by unfold Short; omega)]; simp; omega
  · have h1 : ¬ n < a.length := by simpa using g
    conv => whnf
    exact ⟨_, _, rfl, .inl rfl, fin1 (by symm; simp only [decide_eq_true_eq]; rw [hi, drop_len h1, drop_len (by omega)])⟩


theorem l_eqIntSS_ok (a b : List (List Int)) (ha : Fit2 a) : orc.pc n_l_eqIntSS [.d tISS a, .d tISS b] ⟨.bool, .fz, decide (a = b)⟩ := by
  have hal := ha.1
  refine p_l_eqIntSS true rfl rfl ?_
  conv => whnf
  refine cond_intro (fun h => ?_) (fun h => ?_)
  · have h : a.length ≠ b.length := by simp at h; omega
    conv => whnf
    exact ⟨_, _, rfl, .inl rfl, fin1 (by symm; simp; intro e; exact h (by rw [e]))⟩
  have h : a.length = b.length := by simp at h; omega
  conv => whnf
  refine loop_ups (X := Int) (fun i => [⟨0, 5, false, .d tI i⟩]) (fun i => a.length - i.toNat) (fun i => ∃ n : Nat, i = n ∧ n ≤ a.length ∧ (a = b ↔ a.drop n = b.drop n)) 0 rfl ⟨0, rfl, by omega, by simp⟩ ?_
  rintro _ ⟨n, rfl, hn, hi⟩
  conv => whnf
  refine cond_intro (fun g => ?_) (fun g => ?_)
  · have h1 : n < a.length := by simpa using g
    have h2 : n < b.length := by omega
    conv => whnf
    refine ⟨⟨by omega, by omega⟩, ?_⟩
    conv => whnf
    refine ⟨⟨by omega, by omega⟩, ?_⟩
    conv => whnf
    refine ⟨_, l_eqIntS_ok _ _ (ha.at h1 _), (by first | exact (fun _ => rfl) | exact (fun h => Bool.noConfusion h)), ?_⟩
    conv => whnf
    rw [drop_getD a h1 tIS.dflt, drop_getD b h2 tIS.dflt] at hi
    refine cond_intro (fun h => ?_) (fun h => ?_)
    · have h : a.getD n tIS.dflt ≠ b.getD n tIS.dflt := by simpa using h
      conv => whnf
      exact ⟨_, _, rfl, .inl rfl, fin1 (by symm; simp only [decide_eq_false_iff_not]; rw [hi]; intro e; exact h (List.cons.inj e).1)⟩
    · have h : a.getD n tIS.dflt = b.getD n tIS.dflt := by simpa using h
      conv => whnf
      refine ⟨_, rfl, ⟨n + 1, wrap_succ h1 (by unfold Short; omega), by omega, by rw [hi, h]; simp⟩, ?_⟩
      rw [wrap_succ h1 (by unfold Short; omega)]; simp; omega
  · have h1 : ¬ n < a.length := by simpa using g
    conv => whnf
    exact ⟨_, _, rfl, .inl rfl, fin1 (by symm; simp only [decide_eq_true_eq]; rw [hi, drop_len h1, drop_len (by omega)])⟩

abbrev shSample : Sh := .pair tISS (.pair tIS .unit)
abbrev shPlane : Sh := .pair tIS (.pair tI .unit)
abbrev shSchool : Sh := .pair shSample (.pair shPlane (.pair tI (.pair tI .unit)))
abbrev Sample := List (List Int) × List Int × Unit
abbrev Plane := List Int × Int × Unit
abbrev School := Sample × Plane × Int × Int × Unit

structure FitS (s : Sample) : Prop where
  p : Fit2 s.1
  l : s.2.1.length ≤ 1048576

theorem l_eqSample_ok (a b : Sample) (ha : FitS a) : orc.pc n_l_eqSample [.d shSample a, .d shSample b] ⟨.bool, .fz, decide (a = b)⟩ := by
  refine p_l_eqSample true rfl rfl ?_
  conv => whnf
  refine ⟨_, l_eqIntSS_ok _ _ ha.p, (by first | exact (fun _ => rfl) | exact (fun h => Bool.noConfusion h)), ?_⟩
  conv => whnf
  refine cond_intro (fun h => ?_) (fun g => ?_)
  · have h : a.1 ≠ b.1 := by simpa using h
    conv => whnf
    exact ⟨_, _, rfl, .inl rfl, fin1 (by symm; simp only [decide_eq_false_iff_not]; intro e; exact h (by rw [e]))⟩
  have g : a.1 = b.1 := by simpa using g
  conv => whnf
  refine ⟨_, l_eqIntS_ok _ _ ha.l, (by first | exact (fun _ => rfl) | exact (fun h => Bool.noConfusion h)), ?_⟩
  conv => whnf
  refine cond_intro (fun h => ?_) (fun h => ?_)
  · have h : a.2.1 ≠ b.2.1 := by simpa using h
    conv => whnf
    exact ⟨_, _, rfl, .inl rfl, fin1 (by symm; simp only [decide_eq_false_iff_not]; intro e; exact h (by rw [e]))⟩
  · have h : a.2.1 = b.2.1 := by simpa using h
    conv => whnf
    exact ⟨_, _, rfl, .inl rfl, fin1 (by symm; simp only [decide_eq_true_eq]; exact Prod.ext g (Prod.ext h rfl))⟩

theorem l_eqPlane_ok (a b : Plane) (ha : a.1.length ≤ 1048576) : orc.pc n_l_eqPlane [.d shPlane a, .d shPlane b] ⟨.bool, .fz, decide (a = b)⟩ := by
  refine p_l_eqPlane true rfl rfl ?_
  conv => whnf
  refine ⟨_, l_eqIntS_ok _ _ ha, (by first | exact (fun _ => rfl) | exact (fun h => Bool.noConfusion h)), ?_⟩
  conv => whnf
  refine cond_intro (fun h => ?_) (fun g => ?_)
  · have h : a.1 ≠ b.1 := by simpa using h
    conv => whnf
    exact ⟨_, _, rfl, .inl rfl, fin1 (by symm; simp only [decide_eq_false_iff_not]; intro e; exact h (by rw [e]))⟩
  have g : a.1 = b.1 := by simpa using g
  conv => whnf
  refine cond_intro (fun h => ?_) (fun h => ?_)
  · have h : a.2.1 ≠ b.2.1 := by simpa using h
    conv => whnf
    exact ⟨_, _, rfl, .inl rfl, fin1 (by symm; simp only [decide_eq_false_iff_not]; intro e; exact h (by rw [e]))⟩
  · have h : a.2.1 = b.2.1 := by simpa using h
    conv => whnf
    exact ⟨_, _, rfl, .inl rfl, fin1 (by symm; simp only [decide_eq_true_eq]; exact Prod.ext g (Prod.ext h rfl))⟩

structure FitSc (s : School) : Prop where
  sm : FitS s.1
  pl : s.2.1.1.length ≤ 1048576

theorem l_eqSchool_ok (a b : School) (ha : FitSc a) : orc.pc n_l_eqSchool [.d shSchool a, .d shSchool b] ⟨.bool, .fz, decide (a = b)⟩ := by
  refine p_l_eqSchool true rfl rfl ?_
  conv => whnf
  refine ⟨_, l_eqSample_ok _ _ ha.sm, (by first | exact (fun _ => rfl) | exact (fun h => Bool.noConfusion h)), ?_⟩
  conv => whnf
  refine cond_intro (fun h => ?_) (fun g1 => ?_)
  · have h : a.1 ≠ b.1 := by simpa using h
    conv => whnf
    exact ⟨_, _, rfl, .inl rfl, fin1 (by symm; simp only [decide_eq_false_iff_not]; intro e; exact h (by rw [e]))⟩
  have g1 : a.1 = b.1 := by simpa using g1
  conv => whnf
  refine ⟨_, l_eqPlane_ok _ _ ha.pl, (by first | exact (fun _ => rfl) | exact (fun h => Bool.noConfusion h)), ?_⟩
  conv => whnf
  refine cond_intro (fun h => ?_) (fun g2 => ?_)
  · have h : a.2.1 ≠ b.2.1 := by simpa using h
    conv => whnf
    exact ⟨_, _, rfl, .inl rfl, fin1 (by symm; simp only [decide_eq_false_iff_not]; intro e; exact h (by rw [e]))⟩
  have g2 : a.2.1 = b.2.1 := by simpa using g2
  conv => whnf
  refine cond_intro (fun h => ?_) (fun g3 => ?_)
  · have h : a.2.2.1 ≠ b.2.2.1 := by simpa using h
    conv => whnf
    exact ⟨_, _, rfl, .inl rfl, fin1 (by symm; simp only [decide_eq_false_iff_not]; intro e; exact h (by rw [e]))⟩
  have g3 : a.2.2.1 = b.2.2.1 := by simpa using g3
  conv => whnf
  refine cond_intro (fun h => ?_) (fun h => ?_)
  · have h : a.2.2.2.1 ≠ b.2.2.2.1 := by simpa using h
    conv => whnf
    exact ⟨_, _, rfl, .inl rfl, fin1 (by symm; simp only [decide_eq_false_iff_not]; intro e; exact h (by rw [e]))⟩
  · have h : a.2.2.2.1 = b.2.2.2.1 := by simpa using h
    conv => whnf
    exact ⟨_, _, rfl, .inl rfl, fin1 (by symm; simp only [decide_eq_true_eq]; exact Prod.ext g1 (Prod.ext g2 (Prod.ext g3 (Prod.ext h rfl))))⟩

/-! ### Marks -/

def marks : Nat → Int → List Int
  | 0, _ => []
  | n + 1, k => k :: marks n (k + 1)
theorem marks_length : ∀ n k, (marks n k).length = n := by
  intro n; induction n with
  | zero => intro k; rfl
  | succ n ih => intro k; simp [marks, ih]
theorem marks_snoc : ∀ n k, marks (n + 1) k = marks n k ++ [k + n] := by
  intro n; induction n with
  | zero => intro k; simp [marks]
  | succ n ih =>
    intro k
    rw [marks, ih]
    simp [marks]; omega
theorem set_at {α : Type} {a b : List α} {n : Nat} {x y : α} (h : a.length = n) : (a ++ x :: b).set n y = a ++ y :: b := by
  rw [List.set_append_right _ _ (by omega), h, Nat.sub_self]; rfl
theorem set_marks {l : List Int} {n : Nat} {k : Int} (h : n < l.length) : (marks n k ++ l.drop n).set n (k + n) = marks (n + 1) k ++ l.drop (n + 1) := by
  rw [marks_snoc, drop_getD l h 0, set_at (marks_length n k)]
  simp

theorem l_markIntS_ok {q : Pl} {P : List Int → St} (O : Owns q tI .fz P) (l : List Int) (k : Int) (hl : l.length ≤ 1048576) (h0 : 0 ≤ k) (hk : k ≤ 1152921504606846976) :
    orc.ic n_l_markIntS [.vw q tI, .d tI k] (P l) (.d tI (k + l.length)) (P (marks l.length k)) := by
  refine p_l_markIntS true (O.pos _) rfl rfl ?_
  conv => whnf
  refine loop_upt (X := Int × Int × List Int) (fun (i, k', _) => [⟨0, 5, false, .d tI i⟩, ⟨0, 1, false, .d tI k'⟩]) (fun (_, _, l') => P l') (fun (i, _, _) => l.length - i.toNat) (fun (i, k', l') => ∃ n : Nat, i = (n : Int) ∧ k' = k + n ∧ l' = marks n k ++ l.drop n ∧ n ≤ l.length) (0, k, l) rfl ⟨0, by simp [marks]⟩ ?_
  rintro ⟨_, _, _⟩ ⟨n, rfl, rfl, rfl, hn⟩
  have hlen : (marks n k ++ l.drop n).length = l.length := by simp [marks_length]; omega
  conv => whnf
  refine O.get _ _ ?_
  conv => whnf
  refine cond_intro (fun h => ?_) (fun h => ?_)
  · have h : n < l.length := by simpa [hlen] using h
    conv => whnf
    refine O.get _ _ ?_
    conv => whnf
    refine ⟨⟨by omega, by rw [hlen]; omega⟩, ?_⟩
    conv => whnf
    refine cond_f (O.ok rfl rfl) ?_
    conv => whnf
    refine O.put _ _ _ _ _ (by rw [hlen]; simpa using h) rfl rfl ?_
    conv => whnf
    refine ⟨(_, _, _), rfl, ⟨n + 1, wrap_succ h (by unfold Short; omega), ?_, ?_, by omega⟩, ?_⟩
    · rw [wrap_in (by omega) (by omega)]; omega
    · simp only [Int.toNat_natCast]; exact set_marks h
    · rw [wrap_succ h (by unfold Short; omega)]; simp; omega
  · have h : ¬ n < l.length := by simpa [hlen] using h
    obtain rfl : n = l.length := by omega
    conv => whnf
    refine ⟨_, rfl, rfl, ?_⟩
    show P _ = _
    rw [List.drop_length, List.append_nil]

/-- All of several lists. -/
def tot : List (List Int) → Nat
  | [] => 0
  | x :: r => x.length + tot r
def marksS : List (List Int) → Int → List (List Int)
  | [], _ => []
  | x :: r, k => marks x.length k :: marksS r (k + x.length)
theorem tot_snoc (l : List (List Int)) (x : List Int) : tot (l ++ [x]) = tot l + x.length := by
  induction l with
  | nil => simp [tot]
  | cons y l ih => simp [tot, ih]; omega
theorem marksS_snoc (l : List (List Int)) (x : List Int) : ∀ k, marksS (l ++ [x]) k = marksS l k ++ [marks x.length (k + tot l)] := by
  induction l with
  | nil => intro k; simp [marksS, tot]
  | cons y l ih => intro k; simp [marksS, tot, ih]; congr 1; omega
theorem marksS_length (l : List (List Int)) : ∀ k, (marksS l k).length = l.length := by
  induction l with
  | nil => intro k; rfl
  | cons y l ih => intro k; simp [marksS, ih]
theorem tot_take_le (l : List (List Int)) : ∀ n, tot (l.take n) ≤ tot l := by
  induction l with
  | nil => intro n; simp [tot]
  | cons y l ih =>
    intro n
    cases n with
    | zero => simp [tot]
    | succ n => simp [tot]; exact ih n

theorem l_markIntSS_ok {q : Pl} {P : List (List Int) → St} (O : Owns q tIS (.ow .fz) P) (l : List (List Int)) (k : Int) (hl : Fit2 l) (h0 : 0 ≤ k) (hk : k + tot l ≤ 1152921504606846976) :
    orc.ic n_l_markIntSS [.vw q tIS, .d tI k] (P l) (.d tI (k + tot l)) (P (marksS l k)) := by
  have hll := hl.1
  refine p_l_markIntSS true (O.pos _) rfl rfl ?_
  conv => whnf
  refine loop_upt (X := Int × Int × List (List Int)) (fun (i, k', _) => [⟨0, 5, false, .d tI i⟩, ⟨0, 1, false, .d tI k'⟩]) (fun (_, _, l') => P l') (fun (i, _, _) => l.length - i.toNat) (fun (i, k', l') => ∃ n : Nat, i = (n : Int) ∧ k' = k + tot (l.take n) ∧ l' = marksS (l.take n) k ++ l.drop n ∧ n ≤ l.length) (0, k, l) rfl ⟨0, by simp [marksS, tot]⟩ ?_
  rintro ⟨_, _, _⟩ ⟨n, rfl, rfl, rfl, hn⟩
  have hml : (marksS (l.take n) k).length = n := by simp [marksS_length]; omega
  have hlen : (marksS (l.take n) k ++ l.drop n).length = l.length := by simp [hml]; omega
  conv => whnf
  refine O.get _ _ ?_
  conv => whnf
  refine cond_intro (fun h => ?_) (fun h => ?_)
  · have h : n < l.length := by simpa [hlen] using h
    conv => whnf
    refine O.get _ _ ?_
    conv => whnf
    refine ⟨⟨by omega, by rw [hlen]; omega⟩, ?_⟩
    conv => whnf
    refine O.look _ _ _ (by rw [hlen]; simpa using h) ?_
    conv => whnf
    have hx := hl.at h tIS.dflt
    have ht : tot (l.take (n + 1)) = tot (l.take n) + (l.getD n tIS.dflt).length := by rw [take_getD l h tIS.dflt, tot_snoc]
    have ht' := tot_take_le l (n + 1)
    have hat : marksS (l.take n) k ++ l.drop n = (marksS (l.take n) k ++ l.drop n).set n (l.getD n tIS.dflt) := by rw [drop_getD l h tIS.dflt, set_at hml]
    have hc := fun f => l_markIntS_ok ((O.lift f).inside (inside_sl tI .fz) (l := marksS (l.take n) k ++ l.drop n) (i := n) (by rw [hlen]; exact h)) (l.getD n tIS.dflt) (k + tot (l.take n)) hx (by omega) (by omega)
    simp only [← hat] at hc
    refine ⟨_, _, hc _, ?_⟩
    conv => whnf
    refine ⟨(_, _, _), rfl, ⟨n + 1, wrap_succ h (by unfold Short; omega), ?_, ?_, by omega⟩, ?_⟩
    · rw [ht]; simp; omega
    · rw [drop_getD l h tIS.dflt, set_at hml, take_getD l h tIS.dflt, marksS_snoc]; simp
    · rw [wrap_succ h (by unfold Short; omega)]; simp; omega
  · have h : ¬ n < l.length := by simpa [hlen] using h
    obtain rfl : n = l.length := by omega
    conv => whnf
    refine ⟨_, rfl, ?_, ?_⟩
    · simp
    · show P _ = _
      rw [List.drop_length, List.append_nil, List.take_length]


theorem l_markSample_ok {q1 q2 : Pl} {P : List (List Int) → List Int → St} (O1 : ∀ y, Owns q1 tIS (.ow .fz) (fun x => P x y)) (O2 : ∀ x, Owns q2 tI .fz (P x)) (x : List (List Int)) (y : List Int) (u : Unit) (k : Int) (hx : Fit2 x) (hy : y.length ≤ 1048576) (h0 : 0 ≤ k) (hk : k + tot x ≤ 1152921504606846976) :
    orc.ic n_l_markSample [.pair (.vw q1 tIS) (.pair (.vw q2 tI) (.d .unit u)), .d tI k] (P x y) (.d tI (k + tot x + y.length)) (P (marksS x k) (marks y.length (k + tot x))) := by
  refine p_l_markSample true ((O2 _).pos _) rfl rfl ?_
  conv => whnf
  refine ⟨_, _, l_markIntSS_ok ((O1 y).lift _) x k hx h0 hk, ?_⟩
  conv => whnf
  refine ⟨_, _, l_markIntS_ok ((O2 _).lift _) y (k + tot x) hy (by omega) hk, ?_⟩
  conv => whnf
  exact ⟨_, rfl, rfl, rfl⟩

theorem l_markPlane_ok {q : Pl} {P : List Int → St} (O : Owns q tI .fz P) (x : List Int) (b : Int × Unit) (k : Int) (hx : x.length ≤ 1048576) (h0 : 0 ≤ k) (hk : k ≤ 1152921504606846976) :
    orc.ic n_l_markPlane [.pair (.vw q tI) (.d (.pair tI .unit) b), .d tI k] (P x) (.d tI (k + x.length)) (P (marks x.length k)) := by
  refine p_l_markPlane true (O.pos _) rfl rfl ?_
  conv => whnf
  refine ⟨_, _, l_markIntS_ok (O.lift _) x k hx h0 hk, ?_⟩
  conv => whnf
  exact ⟨_, rfl, rfl, rfl⟩

theorem l_markSchool_ok {q1 q2 q3 : Pl} {P : List (List Int) → List Int → List Int → St} (O1 : ∀ y z, Owns q1 tIS (.ow .fz) (fun x => P x y z)) (O2 : ∀ x z, Owns q2 tI .fz (fun y => P x y z)) (O3 : ∀ x y, Owns q3 tI .fz (P x y)) (x : List (List Int)) (y z : List Int) (u : Unit) (b : Int × Unit) (c : Int × Int × Unit) (k : Int)
    (hx : Fit2 x) (hy : y.length ≤ 1048576) (hz : z.length ≤ 1048576) (h0 : 0 ≤ k) (hk : k + tot x + y.length ≤ 1152921504606846976) :
    orc.ic n_l_markSchool [.pair (.pair (.vw q1 tIS) (.pair (.vw q2 tI) (.d .unit u))) (.pair (.pair (.vw q3 tI) (.d (.pair tI .unit) b)) (.d (.pair tI (.pair tI .unit)) c)), .d tI k] (P x y z) (.d tI (k + tot x + y.length + z.length)) (P (marksS x k) (marks y.length (k + tot x)) (marks z.length (k + tot x + y.length))) := by
  refine p_l_markSchool true ((O3 _ _).pos _) rfl rfl ?_
  conv => whnf
  refine ⟨_, _, l_markSample_ok (P := fun x y => _ :: P x y z) (fun y => (O1 y z).lift _) (fun x => (O2 x z).lift _) x y u k hx hy h0 (by omega), ?_⟩
  conv => whnf
  refine ⟨_, _, l_markPlane_ok ((O3 _ _).lift _) z b (k + tot x + y.length) hz (by omega) hk, ?_⟩
  conv => whnf
  exact ⟨_, rfl, rfl, rfl⟩

/-- What the box of a slot holds. -/
def boxSample (x : List (List Int)) (y : List Int) (u : Unit) : AV := .pair .unit (.pair (.own tIS (.ow .fz) x) (.pair (.own tI .fz y) (.d .unit u)))
def boxPlane (x : List Int) (b : Int × Unit) : AV := .pair .unit (.pair (.own tI .fz x) (.d (.pair tI .unit) b))
def boxSchool (x : List (List Int)) (y z : List Int) (u : Unit) (b : Int × Unit) (c : Int × Int × Unit) : AV :=
  .pair .unit (.pair (.pair (.own tIS (.ow .fz) x) (.pair (.own tI .fz y) (.d .unit u))) (.pair (.pair (.own tI .fz z) (.d (.pair tI .unit) b)) (.d (.pair tI (.pair tI .unit)) c)))

theorem l_markSample_at {st : St} {s : Nat} {sl : Slot} (x : List (List Int)) (y : List Int) (u : Unit) (hg : st.get 0 s = some sl) (hf : sl.fb = true) (hb : sl.b = boxSample x y u) (k : Int)
    (hx : Fit2 x) (hy : y.length ≤ 1048576) (h0 : 0 ≤ k) (hk : k + tot x ≤ 1152921504606846976) :
    orc.ic n_l_markSample [.pair (.vw ⟨⟨0, s, true⟩, [.l, .r 0]⟩ tIS) (.pair (.vw ⟨⟨0, s, true⟩, [.l, .r 1, .r 0]⟩ tI) (.d .unit u)), .d tI k] st (.d tI (k + tot x + y.length))
      (st.upd 0 s true (boxSample (marksS x k) (marks y.length (k + tot x)) u)) := by
  have h := l_markSample_ok (P := fun x y => st.upd 0 s true (boxSample x y u))
    (fun y => owns_box hg hf (e := tIS) (o := .ow .fz) (mk := fun x => boxSample x y u) (ps := [.r 0, .l]) rfl (fun _ => rfl) (fun _ _ => rfl))
    (fun x => owns_box hg hf (e := tI) (o := .fz) (mk := fun y => boxSample x y u) (ps := [.r 0, .r 1, .l]) rfl (fun _ => rfl) (fun _ _ => rfl)) x y u k hx hy h0 hk
  rw [← hb, upd_self hg] at h
  exact h

theorem l_markIntS_at {st : St} {s : Nat} {sl : Slot} (x : List Int) (hg : st.get 0 s = some sl) (hf : sl.fv = true) (hb : sl.v = .own tI .fz x) (k : Int)
    (hx : x.length ≤ 1048576) (h0 : 0 ≤ k) (hk : k ≤ 1152921504606846976) :
    orc.ic n_l_markIntS [.vw ⟨⟨0, s, false⟩, []⟩ tI, .d tI k] st (.d tI (k + x.length)) (st.upd 0 s false (.own tI .fz (marks x.length k))) := by
  have h := l_markIntS_ok (owns_var hg hf tI .fz) x k hx h0 hk
  rw [← hb, updV_self hg] at h
  exact h

theorem l_markPlane_at {st : St} {s : Nat} {sl : Slot} (x : List Int) (b : Int × Unit) (hg : st.get 0 s = some sl) (hf : sl.fb = true) (hb : sl.b = boxPlane x b) (k : Int)
    (hx : x.length ≤ 1048576) (h0 : 0 ≤ k) (hk : k ≤ 1152921504606846976) :
    orc.ic n_l_markPlane [.pair (.vw ⟨⟨0, s, true⟩, [.l, .r 0]⟩ tI) (.d (.pair tI .unit) b), .d tI k] st (.d tI (k + x.length))
      (st.upd 0 s true (boxPlane (marks x.length k) b)) := by
  have h := l_markPlane_ok (P := fun x => st.upd 0 s true (boxPlane x b))
    (owns_box hg hf (e := tI) (o := .fz) (mk := fun x => boxPlane x b) (ps := [.r 0, .l]) rfl (fun _ => rfl) (fun _ _ => rfl)) x b k hx h0 hk
  rw [← hb, upd_self hg] at h
  exact h

theorem l_markSchool_at {st : St} {s : Nat} {sl : Slot} (x : List (List Int)) (y z : List Int) (u : Unit) (b : Int × Unit) (c : Int × Int × Unit) (hg : st.get 0 s = some sl) (hf : sl.fb = true) (hb : sl.b = boxSchool x y z u b c) (k : Int)
    (hx : Fit2 x) (hy : y.length ≤ 1048576) (hz : z.length ≤ 1048576) (h0 : 0 ≤ k) (hk : k + tot x + y.length ≤ 1152921504606846976) :
    orc.ic n_l_markSchool [.pair (.pair (.vw ⟨⟨0, s, true⟩, [.l, .l, .r 0]⟩ tIS) (.pair (.vw ⟨⟨0, s, true⟩, [.l, .r 1, .l, .r 0]⟩ tI) (.d .unit u))) (.pair (.pair (.vw ⟨⟨0, s, true⟩, [.l, .l, .r 2, .r 0]⟩ tI) (.d (.pair tI .unit) b)) (.d (.pair tI (.pair tI .unit)) c)), .d tI k] st (.d tI (k + tot x + y.length + z.length))
      (st.upd 0 s true (boxSchool (marksS x k) (marks y.length (k + tot x)) (marks z.length (k + tot x + y.length)) u b c)) := by
  have h := l_markSchool_ok (P := fun x y z => st.upd 0 s true (boxSchool x y z u b c))
    (fun y z => owns_box hg hf (e := tIS) (o := .ow .fz) (mk := fun x => boxSchool x y z u b c) (ps := [.r 0, .l, .l]) rfl (fun _ => rfl) (fun _ _ => rfl))
    (fun x z => owns_box hg hf (e := tI) (o := .fz) (mk := fun y => boxSchool x y z u b c) (ps := [.r 0, .l, .r 1, .l]) rfl (fun _ => rfl) (fun _ _ => rfl))
    (fun x y => owns_box hg hf (e := tI) (o := .fz) (mk := fun z => boxSchool x y z u b c) (ps := [.r 0, .r 2, .l, .l]) rfl (fun _ => rfl) (fun _ _ => rfl)) x y z u b c k hx hy hz h0 hk
  rw [← hb, upd_self hg] at h
  exact h

/-! ### What is held -/

theorem marks_getD : ∀ (n m : Nat) (k : Int) (d : Int), m < n → (marks n k).getD m d = k + m := by
  intro n
  induction n with
  | zero => intro m k d h; omega
  | succ n ih =>
    intro m k d h
    cases m with
    | zero => simp [marks]
    | succ m =>
      have := ih m (k + 1) d (by omega)
      simp only [marks, List.getD_cons_succ, this]
      simp; omega

theorem l_heldIntS_ok (m : Nat) (k : Int) (hl : m ≤ 1048576) (h0 : 0 ≤ k) (hk : k ≤ 1152921504606846976) :
    orc.pc n_l_heldIntS [.d tIS (marks m k), .d tI k] ⟨tI, .fz, k + m⟩ := by
  have hlen := marks_length m k
  refine p_l_heldIntS true rfl rfl ?_
  conv => whnf
  refine loop_ups (X := Int × Int) (fun (i, k') => [⟨0, 5, false, .d tI i⟩, ⟨0, 1, false, .d tI k'⟩]) (fun (i, _) => m - i.toNat) (fun (i, k') => ∃ n : Nat, i = (n : Int) ∧ k' = k + n ∧ n ≤ m) (0, k) rfl ⟨0, by simp⟩ ?_
  rintro ⟨_, _⟩ ⟨n, rfl, rfl, hn⟩
  conv => whnf
  refine cond_intro (fun h => ?_) (fun h => ?_)
  · have h : n < m := by simpa [hlen] using h
    conv => whnf
    refine ⟨⟨by omega, by omega⟩, ?_⟩
    conv => whnf
    refine cond_f ?_ ?_
    · have := marks_getD m n k (Sh.dflt (.int .i64)) h
      simp only [Int.toNat_natCast]
      rw [this]; simp
    conv => whnf
    refine ⟨(_, _), rfl, ⟨n + 1, wrap_succ h (by unfold Short; omega), ?_, by omega⟩, ?_⟩
    · rw [wrap_in (by omega) (by omega)]; omega
    · rw [wrap_succ h (by unfold Short; omega)]; simp; omega
  · have h : ¬ n < m := by simpa [hlen] using h
    obtain rfl : n = m := by omega
    conv => whnf
    exact ⟨_, _, rfl, .inl rfl, rfl⟩

theorem marksS_getD : ∀ (l : List (List Int)) (m : Nat) (k : Int) (d e : List Int), m < l.length → (marksS l k).getD m d = marks (l.getD m e).length (k + tot (l.take m)) := by
  intro l
  induction l with
  | nil => intro m k d e h; simp at h
  | cons x l ih =>
    intro m k d e h
    cases m with
    | zero => simp [marksS, tot]
    | succ m =>
      have := ih m (k + x.length) d e (by simpa using h)
      simp only [marksS, List.getD_cons_succ, this, List.take_succ_cons, tot]
      congr 1; simp; omega

theorem l_heldIntSS_ok (l : List (List Int)) (k : Int) (hl : Fit2 l) (h0 : 0 ≤ k) (hk : k + tot l ≤ 1152921504606846976) :
    orc.pc n_l_heldIntSS [.d tISS (marksS l k), .d tI k] ⟨tI, .fz, k + tot l⟩ := by
  have hlen := marksS_length l k
  have hll := hl.1
  refine p_l_heldIntSS true rfl rfl ?_
  conv => whnf
  refine loop_ups (X := Int × Int) (fun (i, k') => [⟨0, 5, false, .d tI i⟩, ⟨0, 1, false, .d tI k'⟩]) (fun (i, _) => l.length - i.toNat) (fun (i, k') => ∃ n : Nat, i = (n : Int) ∧ k' = k + tot (l.take n) ∧ n ≤ l.length) (0, k) rfl ⟨0, by simp [tot]⟩ ?_
  rintro ⟨_, _⟩ ⟨n, rfl, rfl, hn⟩
  conv => whnf
  refine cond_intro (fun h => ?_) (fun h => ?_)
  · have h : n < l.length := by simpa [hlen] using h
    conv => whnf
    refine ⟨⟨by omega, by omega⟩, ?_⟩
    conv => whnf
    have ht : tot (l.take (n + 1)) = tot (l.take n) + (l.getD n []).length := by rw [take_getD l h [], tot_snoc]
    have ht' := tot_take_le l (n + 1)
    have hc := l_heldIntS_ok (l.getD n []).length (k + tot (l.take n)) (hl.at h _) (by omega) (by omega)
    rw [← marksS_getD l n k (Sh.dflt (.sl (.int .i64))) [] h] at hc
    refine ⟨_, hc, (by first | exact (fun _ => rfl) | exact (fun h => Bool.noConfusion h)), ?_⟩
    conv => whnf
    have hq : ¬ ((k + tot (l.take n) + (l.getD n []).length : Int) < 0) := by omega
    refine cond_f (decide_eq_false hq) ?_
    conv => whnf
    refine ⟨(_, _), rfl, ⟨n + 1, wrap_succ h (by unfold Short; omega), ?_, by omega⟩, ?_⟩
    · rw [ht]; simp; omega
    · rw [wrap_succ h (by unfold Short; omega)]; simp; omega
  · have h : ¬ n < l.length := by simpa [hlen] using h
    obtain rfl : n = l.length := by omega
    conv => whnf
    refine ⟨_, _, rfl, .inl rfl, fin1 ?_⟩
    simp

theorem l_heldSample_ok (x : List (List Int)) (m : Nat) (u : Unit) (k : Int) (hx : Fit2 x) (hy : m ≤ 1048576) (h0 : 0 ≤ k) (hk : k + tot x ≤ 1152921504606846976) :
    orc.pc n_l_heldSample [.d shSample (marksS x k, marks m (k + tot x), u), .d tI k] ⟨tI, .fz, k + tot x + m⟩ := by
  refine p_l_heldSample true rfl rfl ?_
  conv => whnf
  refine ⟨_, l_heldIntSS_ok x k hx h0 hk, (by first | exact (fun _ => rfl) | exact (fun h => Bool.noConfusion h)), ?_⟩
  conv => whnf
  refine cond_f (by simp; omega) ?_
  conv => whnf
  refine ⟨_, l_heldIntS_ok m (k + tot x) hy (by omega) hk, (by first | exact (fun _ => rfl) | exact (fun h => Bool.noConfusion h)), ?_⟩
  conv => whnf
  refine cond_f (by simp; omega) ?_
  conv => whnf
  exact ⟨_, _, rfl, .inl rfl, rfl⟩

theorem l_heldPlane_ok (m : Nat) (b : Int × Unit) (k : Int) (hx : m ≤ 1048576) (h0 : 0 ≤ k) (hk : k ≤ 1152921504606846976) :
    orc.pc n_l_heldPlane [.d shPlane (marks m k, b), .d tI k] ⟨tI, .fz, k + m⟩ := by
  refine p_l_heldPlane true rfl rfl ?_
  conv => whnf
  refine ⟨_, l_heldIntS_ok m k hx h0 hk, (by first | exact (fun _ => rfl) | exact (fun h => Bool.noConfusion h)), ?_⟩
  conv => whnf
  refine cond_f (by simp; omega) ?_
  conv => whnf
  exact ⟨_, _, rfl, .inl rfl, rfl⟩

theorem l_heldSchool_ok (x : List (List Int)) (m m' : Nat) (u : Unit) (b : Int × Unit) (c : Int × Int × Unit) (k : Int) (hx : Fit2 x) (hy : m ≤ 1048576) (hz : m' ≤ 1048576) (h0 : 0 ≤ k) (hk : k + tot x + m ≤ 1152921504606846976) :
    orc.pc n_l_heldSchool [.d shSchool ((marksS x k, marks m (k + tot x), u), (marks m' (k + tot x + m), b), c), .d tI k] ⟨tI, .fz, k + tot x + m + m'⟩ := by
  refine p_l_heldSchool true rfl rfl ?_
  conv => whnf
  refine ⟨_, l_heldSample_ok x m u k hx hy h0 (by omega), (by first | exact (fun _ => rfl) | exact (fun h => Bool.noConfusion h)), ?_⟩
  conv => whnf
  refine cond_f (by simp; omega) ?_
  conv => whnf
  refine ⟨_, l_heldPlane_ok m' b (k + tot x + m) hz (by omega) hk, (by first | exact (fun _ => rfl) | exact (fun h => Bool.noConfusion h)), ?_⟩
  conv => whnf
  refine cond_f (by simp; omega) ?_
  conv => whnf
  exact ⟨_, _, rfl, .inl rfl, rfl⟩

end Go.Proofs.Ytcpepepdinkioaa.Ev
