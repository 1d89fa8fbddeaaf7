/- Days on which experts are wrong, and the forecast that follows the best of them. -/
import Derived.Test.YtlndfmmigndgeaaFnM
namespace Go.Proofs.Ytlndfmmigndgeaa.Ev
open Go
set_option linter.unusedVariables false
set_option linter.unusedSimpArgs false
set_option maxRecDepth 100000
set_option exponentiation.threshold 100000

def wrongB (say truth : Int) : Bool := !(say == 0) && !(say == truth)

theorem say_in {p : Sample} (hv : isPanel p = true) {i d : Nat} (hi : i < p.1.length) (hd : d < p.2.1.length) :
    d < (p.1.getD i tIS.dflt).length ∧ (((p.1.getD i tIS.dflt).getD d tI.dflt = -1 ∨ (p.1.getD i tIS.dflt).getD d tI.dflt = 0 ∨ (p.1.getD i tIS.dflt).getD d tI.dflt = 1) ∧ (p.2.1.getD d tI.dflt = 1 ∨ p.2.1.getD d tI.dflt = -1)) := by
  unfold isPanel at hv
  simp only [Bool.and_eq_true] at hv
  obtain ⟨_, _, h3, h4⟩ := hv
  have h5 := List.all_eq_true.1 h4 _ (getD_mem hi tIS.dflt)
  simp only [okSay, Bool.and_eq_true] at h5
  have hlen : (p.1.getD i tIS.dflt).length = p.2.1.length := by simpa using h5.1
  have hd' : d < (p.1.getD i tIS.dflt).length := by omega
  have h6 := List.all_eq_true.1 h5.2 _ (getD_mem hd' tI.dflt)
  have h7 := List.all_eq_true.1 h3 _ (getD_mem hd tI.dflt)
  refine ⟨hd', ?_, ?_⟩
  · simp only [inB, Bool.and_eq_true, decide_eq_true_eq] at h6; omega
  · simpa [isLabel] using h7

theorem wrong_eq {s t : Int} (hs : s = -1 ∨ s = 0 ∨ s = 1) (ht : t = 1 ∨ t = -1) : (s == IntKind.i64.wrap (0 - t)) = wrongB s t := by
  rcases hs with rfl | rfl | rfl <;> rcases ht with rfl | rfl <;> decide

theorem i_Panel_wrong_ok (p : Sample) (hv : isPanel p = true) (hp : FitS p) (i d : Nat) (hi : i < p.1.length) (hd : d < p.2.1.length) :
    orc.pc n_i_Panel_wrong [.d shSample p, .d tI (i : Int), .d tI (d : Int)] ⟨.bool, .fz, wrongB ((p.1.getD i tIS.dflt).getD d tI.dflt) (p.2.1.getD d tI.dflt)⟩ := by
  obtain ⟨hl, hs, ht⟩ := say_in hv hi hd
  refine p_i_Panel_wrong true rfl rfl ?_
  conv => whnf
  refine ⟨⟨by omega, by omega⟩, ?_⟩
  conv => whnf
  refine ⟨⟨by omega, Int.ofNat_lt.2 hl⟩, ?_⟩
  conv => whnf
  refine ⟨⟨by omega, by omega⟩, ?_⟩
  conv => whnf
  exact ⟨_, _, rfl, .inl rfl, fin1 (wrong_eq hs ht)⟩

theorem s_l11Wrong_ok (s t : Int) : orc.pc n_s_l11Wrong [.d tI s, .d tI t] ⟨.bool, .fz, wrongB s t⟩ := by
  refine p_s_l11Wrong true rfl rfl ?_
  conv => whnf
  refine cond_intro (fun q0 => ?_) (fun q0 => ?_)
  · have q : (s == 0) = false := by simpa using q0
    conv => whnf
    repeat ((first | refine cond_t q0 ?_ | refine cond_f (hT q0) ?_ | refine cond_t (gT q0) ?_); conv => whnf)
    exact ⟨_, _, rfl, .inl rfl, fin1 (by unfold wrongB; rw [q]; rfl)⟩
  · have q : (s == 0) = true := by simpa using q0
    conv => whnf
    repeat ((first | refine cond_f q0 ?_ | refine cond_t (hF q0) ?_ | refine cond_f (gF q0) ?_); conv => whnf)
    exact ⟨_, _, rfl, .inl rfl, fin1 (by unfold wrongB; rw [q]; rfl)⟩

def cnt (row tr : List Int) : Nat → Nat
  | 0 => 0
  | d + 1 => cond (wrongB (row.getD d tI.dflt) (tr.getD d tI.dflt)) (cnt row tr d + 1) (cnt row tr d)
theorem cnt_le (row tr : List Int) : ∀ d, cnt row tr d ≤ d := by
  intro d
  induction d with
  | zero => simp [cnt]
  | succ d ih => simp only [cnt]; cases wrongB (row.getD d tI.dflt) (tr.getD d tI.dflt) <;> simp <;> omega
theorem cnt_yes {row tr : List Int} {d : Nat} (h : wrongB (row.getD d tI.dflt) (tr.getD d tI.dflt) = true) : cnt row tr (d + 1) = cnt row tr d + 1 := by simp only [cnt, h, cond_true]
theorem cnt_no {row tr : List Int} {d : Nat} (h : wrongB (row.getD d tI.dflt) (tr.getD d tI.dflt) = false) : cnt row tr (d + 1) = cnt row tr d := by simp only [cnt, h, cond_false]

def daysOf (p : Sample) (d : Nat) : List Int := p.1.map fun r => (cnt r p.2.1 d : Int)
/-- The counts of the first experts, the others still 0. -/
def daysTo (p : Sample) (d n : Nat) : List Int := ((p.1.take n).map fun r => (cnt r p.2.1 d : Int)) ++ List.replicate (p.1.length - n) 0
def daysAt (p : Sample) (d n m : Nat) : List Int := ((p.1.take n).map fun r => (cnt r p.2.1 d : Int)) ++ (cnt (p.1.getD n tIS.dflt) p.2.1 m : Int) :: List.replicate (p.1.length - (n + 1)) 0
theorem daysTo_len {p : Sample} {d n : Nat} (h : n ≤ p.1.length) : (daysTo p d n).length = p.1.length := by simp [daysTo]; omega
theorem daysAt_len {p : Sample} {d n m : Nat} (h : n < p.1.length) : (daysAt p d n m).length = p.1.length := by simp [daysAt]; omega
theorem daysTo_zero (p : Sample) (d : Nat) : daysTo p d 0 = List.replicate p.1.length 0 := by simp [daysTo]
theorem daysTo_all (p : Sample) (d : Nat) : daysTo p d p.1.length = daysOf p d := by simp [daysTo, daysOf]
theorem daysAt_zero {p : Sample} {d n : Nat} (h : n < p.1.length) : daysTo p d n = daysAt p d n 0 := by
  have : p.1.length - n = (p.1.length - (n + 1)) + 1 := by omega
  simp only [daysTo, daysAt, this, List.replicate_succ, cnt]; rfl
theorem daysAt_end {p : Sample} {d n : Nat} (h : n < p.1.length) : daysAt p d n d = daysTo p d (n + 1) := by
  simp only [daysTo, daysAt]
  rw [take_getD p.1 h tIS.dflt]; simp
theorem daysAt_pre {p : Sample} {d n : Nat} (h : n < p.1.length) : ((p.1.take n).map fun r => (cnt r p.2.1 d : Int)).length = n := by simp; omega
theorem daysAt_get {p : Sample} {d n m : Nat} (h : n < p.1.length) : (daysAt p d n m).getD n tI.dflt = (cnt (p.1.getD n tIS.dflt) p.2.1 m : Int) := by
  unfold daysAt; rw [getD_mid (daysAt_pre h)]; rfl
theorem daysAt_yes {p : Sample} {d n m : Nat} (h : n < p.1.length) (hm : m < 1048576) (hw : wrongB ((p.1.getD n tIS.dflt).getD m tI.dflt) (p.2.1.getD m tI.dflt) = true) :
    (daysAt p d n m).set n (IntKind.i64.wrap ((daysAt p d n m).getD n tI.dflt + 1)) = daysAt p d n (m + 1) := by
  rw [daysAt_get h]
  have := cnt_le (p.1.getD n tIS.dflt) p.2.1 m
  rw [wrap_in (by omega) (by omega)]
  unfold daysAt
  rw [set_at (daysAt_pre h), cnt_yes hw]
  simp
theorem daysAt_no {p : Sample} {d n m : Nat} (hw : wrongB ((p.1.getD n tIS.dflt).getD m tI.dflt) (p.2.1.getD m tI.dflt) = false) : daysAt p d n m = daysAt p d n (m + 1) := by
  unfold daysAt; rw [cnt_no hw]

theorem panel_len {p : Sample} (hv : isPanel p = true) : p.2.1.length ≤ 16 ∧ 1 ≤ p.1.length ∧ p.1.length ≤ 8 := by
  unfold isPanel at hv
  simp only [Bool.and_eq_true, inB, decide_eq_true_eq] at hv
  omega

theorem i_Panel_wrongBefore_ok (p : Sample) (hv : isPanel p = true) (hp : FitS p) (d : Nat) (hd : d ≤ p.2.1.length) : orc.pc n_i_Panel_wrongBefore [.d shSample p, .d tI (d : Int)] ⟨tIS, .ow .fz, daysOf p d⟩ := by
  obtain ⟨l1, l2, l3⟩ := panel_len hv
  refine p_i_Panel_wrongBefore true rfl rfl ?_
  conv => whnf
  refine ⟨room_make (by omega) (by omega) (by decide), ?_⟩
  conv => whnf
  refine loop_ups (X := Int × List Int) (fun (i, x) => [⟨0, 14, false, .d tI i⟩, ⟨0, 5, false, .own tI .fz x⟩]) (fun (i, _) => p.1.length - i.toNat) (fun (i, x) => ∃ n : Nat, i = n ∧ x = daysTo p d n ∧ n ≤ p.1.length) (0, List.replicate p.1.length 0) ?_ ⟨0, rfl, (daysTo_zero p d).symm, by omega⟩ ?_
  · refine st_eq ?_
    conv => whnf
    exact ⟨rfl⟩
  rintro ⟨_, _⟩ ⟨n, rfl, rfl, hn⟩
  conv => whnf
  refine cond_intro (fun h => ?_) (fun h => ?_)
  · have h : n < p.1.length := by simpa using h
    conv => whnf
    refine loop_ups (X := Int × List Int) (fun (j, y) => [⟨0, 18, false, .d tI j⟩, ⟨0, 5, false, .own tI .fz y⟩]) (fun (j, _) => d - j.toNat) (fun (j, y) => ∃ m : Nat, j = m ∧ y = daysAt p d n m ∧ m ≤ d) (0, daysTo p d n) ?_ ⟨0, rfl, daysAt_zero h, by omega⟩ ?_
    · refine st_eq ?_
      conv => whnf
      exact ⟨rfl⟩
    rintro ⟨_, _⟩ ⟨m, rfl, rfl, hm⟩
    have hlen := daysAt_len (d := d) (m := m) h
    conv => whnf
    refine cond_intro (fun g => ?_) (fun g => ?_)
    · have g : m < d := by simpa using g
      conv => whnf
      refine ⟨_, i_Panel_wrong_ok p hv hp n m h (by omega), (by first | exact (fun _ => rfl) | exact (fun h => Bool.noConfusion h)), ?_⟩
      conv => whnf
      refine cond_intro (fun w => ?_) (fun w => ?_)
      · conv => whnf
        refine ⟨⟨by omega, by rw [hlen]; omega⟩, ?_⟩
        conv => whnf
        refine ⟨(by rw [hlen]; simpa using h), ?_⟩
        conv => whnf
        refine ⟨⟨by omega, by rw [hlen]; omega⟩, ?_⟩
        conv => whnf
        refine ⟨(by rw [hlen]; simpa using h), ?_⟩
        conv => whnf
        refine ⟨(_, _), rfl, ⟨m + 1, wrap_succ g (by unfold Short; omega), daysAt_yes h (by omega) w, by omega⟩, ?_⟩
        rw [wrap_succ g (by unfold Short; omega)]; simp; omega
      · conv => whnf
        refine ⟨(_, _), rfl, ⟨m + 1, wrap_succ g (by unfold Short; omega), daysAt_no w, by omega⟩, ?_⟩
        rw [wrap_succ g (by unfold Short; omega)]; simp; omega
    · have g : ¬ m < d := by simpa using g
      obtain rfl : m = d := by omega
      rw [daysAt_end h]
      conv => whnf
      refine ⟨(_, _), rfl, ⟨n + 1, wrap_succ h (by unfold Short; omega), rfl, by omega⟩, ?_⟩
      rw [wrap_succ h (by unfold Short; omega)]; simp; omega
  · have h : ¬ n < p.1.length := by simpa using h
    obtain rfl : n = p.1.length := by omega
    rw [daysTo_all]
    conv => whnf
    exact ⟨_, _, rfl, .inl rfl, fin1 (rfl)⟩

theorem s_l11Days_ok (p : Sample) (hv : isPanel p = true) (hp : FitS p) (d : Nat) (hd : d ≤ p.2.1.length) : orc.pc n_s_l11Days [.d shSample p, .d tI (d : Int)] ⟨tIS, .ow .fz, daysOf p d⟩ := by
  obtain ⟨l1, l2, l3⟩ := panel_len hv
  refine p_s_l11Days true rfl rfl ?_
  conv => whnf
  refine ⟨room_make (by omega) (by omega) (by decide), ?_⟩
  conv => whnf
  refine loop_ups (X := Int × List Int) (fun (i, x) => [⟨0, 6, false, .d tI i⟩, ⟨0, 5, false, .own tI .fz x⟩]) (fun (i, _) => p.1.length - i.toNat) (fun (i, x) => ∃ n : Nat, i = n ∧ x = daysTo p d n ∧ n ≤ p.1.length) (0, List.replicate p.1.length 0) ?_ ⟨0, rfl, (daysTo_zero p d).symm, by omega⟩ ?_
  · refine st_eq ?_
    conv => whnf
    exact ⟨rfl⟩
  rintro ⟨_, _⟩ ⟨n, rfl, rfl, hn⟩
  conv => whnf
  refine cond_intro (fun h => ?_) (fun h => ?_)
  · have h : n < p.1.length := by simpa using h
    conv => whnf
    refine loop_ups (X := Int × List Int) (fun (j, y) => [⟨0, 7, false, .d tI j⟩, ⟨0, 5, false, .own tI .fz y⟩]) (fun (j, _) => d - j.toNat) (fun (j, y) => ∃ m : Nat, j = m ∧ y = daysAt p d n m ∧ m ≤ d) (0, daysTo p d n) ?_ ⟨0, rfl, daysAt_zero h, by omega⟩ ?_
    · refine st_eq ?_
      conv => whnf
      exact ⟨rfl⟩
    rintro ⟨_, _⟩ ⟨m, rfl, rfl, hm⟩
    have hlen := daysAt_len (d := d) (m := m) h
    conv => whnf
    refine cond_intro (fun g => ?_) (fun g => ?_)
    · have g : m < d := by simpa using g
      obtain ⟨hl, hs, ht⟩ := say_in hv h (show m < p.2.1.length by omega)
      conv => whnf
      refine ⟨⟨by omega, by omega⟩, ?_⟩
      conv => whnf
      refine ⟨⟨by omega, Int.ofNat_lt.2 hl⟩, ?_⟩
      conv => whnf
      refine ⟨⟨by omega, by omega⟩, ?_⟩
      conv => whnf
      refine ⟨_, s_l11Wrong_ok _ _, (by first | exact (fun _ => rfl) | exact (fun h => Bool.noConfusion h)), ?_⟩
      conv => whnf
      refine cond_intro (fun w => ?_) (fun w => ?_)
      · conv => whnf
        refine ⟨⟨by omega, by rw [hlen]; omega⟩, ?_⟩
        conv => whnf
        refine ⟨(by rw [hlen]; simpa using h), ?_⟩
        conv => whnf
        refine ⟨⟨by omega, by rw [hlen]; omega⟩, ?_⟩
        conv => whnf
        refine ⟨(by rw [hlen]; simpa using h), ?_⟩
        conv => whnf
        refine ⟨(_, _), rfl, ⟨m + 1, wrap_succ g (by unfold Short; omega), daysAt_yes h (by omega) w, by omega⟩, ?_⟩
        rw [wrap_succ g (by unfold Short; omega)]; simp; omega
      · conv => whnf
        refine ⟨(_, _), rfl, ⟨m + 1, wrap_succ g (by unfold Short; omega), daysAt_no w, by omega⟩, ?_⟩
        rw [wrap_succ g (by unfold Short; omega)]; simp; omega
    · have g : ¬ m < d := by simpa using g
      obtain rfl : m = d := by omega
      rw [daysAt_end h]
      conv => whnf
      refine ⟨(_, _), rfl, ⟨n + 1, wrap_succ h (by unfold Short; omega), rfl, by omega⟩, ?_⟩
      rw [wrap_succ h (by unfold Short; omega)]; simp; omega
  · have h : ¬ n < p.1.length := by simpa using h
    obtain rfl : n = p.1.length := by omega
    rw [daysTo_all]
    conv => whnf
    exact ⟨_, _, rfl, .inl rfl, fin1 (rfl)⟩

/-! ### The first least one -/

structure FM (l : List Int) (n b : Nat) : Prop where
  lt : b < n
  le : ∀ j, j < n → l.getD b tI.dflt ≤ l.getD j tI.dflt
  no : ∀ j, j < b → l.getD b tI.dflt < l.getD j tI.dflt

def fmin : List Int → Nat
  | [] => 0
  | x :: r => if r.all (fun y => decide (x ≤ y)) then 0 else fmin r + 1

theorem getD_succ (x : Int) (r : List Int) (j : Nat) (d : Int) : (x :: r).getD (j + 1) d = r.getD j d := by simp

theorem fmin_spec : ∀ {l : List Int}, l ≠ [] → FM l l.length (fmin l) := by
  intro l
  induction l with
  | nil => intro h; exact absurd rfl h
  | cons x r ih =>
    intro _
    simp only [fmin]
    by_cases h : r.all (fun y => decide (x ≤ y)) = true
    · rw [if_pos h]
      refine ⟨by simp, fun j hj => ?_, fun j hj => by omega⟩
      cases j with
      | zero => exact Int.le_refl _
      | succ j =>
        rw [getD_succ]
        have hj : j < r.length := by simpa using hj
        simpa using List.all_eq_true.1 h _ (getD_mem hj tI.dflt)
    · rw [if_neg h]
      obtain ⟨y, hy, hyx⟩ : ∃ y ∈ r, y < x := by
        simp only [Bool.not_eq_true, List.all_eq_false, decide_eq_true_eq, Int.not_le] at h
        simpa using h
      have hne : r ≠ [] := by rintro rfl; simp at hy
      obtain ⟨i1, i2, i3⟩ := ih hne
      obtain ⟨k, hk, hk2⟩ := List.getElem_of_mem hy
      have hyk : r.getD k tI.dflt = y := by rw [List.getD_eq_getElem?_getD, List.getElem?_eq_getElem hk]; simpa using hk2
      have hlt : r.getD (fmin r) tI.dflt < x := by have := i2 k hk; omega
      refine ⟨by simp; omega, fun j hj => ?_, fun j hj => ?_⟩
      · rw [getD_succ]
        cases j with
        | zero => exact Int.le_of_lt hlt
        | succ j => rw [getD_succ]; exact i2 j (by simpa using hj)
      · rw [getD_succ]
        cases j with
        | zero => exact hlt
        | succ j => rw [getD_succ]; exact i3 j (by omega)

theorem FM.uniq {l : List Int} {n b c : Nat} (h : FM l n b) (g : FM l n c) : b = c := by
  rcases Nat.lt_trichotomy b c with e | e | e
  · have := g.no b e; have := h.le c g.lt; omega
  · exact e
  · have := h.no c e; have := g.le b h.lt; omega

theorem slices_Min_ok (l : List Int) (hl : l.length ≤ 1048576) (h0 : l ≠ []) : orc.pc n_slices_Min [.d tIS l] ⟨tI, .fz, l.getD (fmin l) tI.dflt⟩ := by
  have hpos : 0 < l.length := List.length_pos_iff.2 h0
  obtain ⟨f1, f2, f3⟩ := fmin_spec h0
  refine p_slices_Min true rfl rfl ?_
  conv => whnf
  refine cond_f (by simp; omega) ?_
  conv => whnf
  refine ⟨⟨by omega, by omega⟩, ?_⟩
  conv => whnf
  refine loop_ups (X := Int × Int) (fun (i, v) => [⟨0, 4, false, .d tI i⟩, ⟨0, 3, false, .d tI v⟩]) (fun (i, _) => l.length - i.toNat) (fun (i, v) => ∃ n : Nat, i = n ∧ 1 ≤ n ∧ n ≤ l.length ∧ (∀ j, j < n → v ≤ l.getD j tI.dflt) ∧ ∃ j, j < n ∧ v = l.getD j tI.dflt) (1, l.getD 0 tI.dflt) ?_ ⟨1, rfl, by omega, by omega, fun j hj => by (have : j = 0 := by omega); subst this; exact Int.le_refl _, 0, by omega, rfl⟩ ?_
  · refine st_eq ?_
    conv => whnf
    exact ⟨rfl⟩
  rintro ⟨_, v⟩ ⟨n, rfl, hn0, hn, hle, k, hk, hv⟩
  conv => whnf
  refine cond_intro (fun h => ?_) (fun h => ?_)
  · have h : n < l.length := by simpa using h
    conv => whnf
    refine ⟨⟨by omega, by omega⟩, ?_⟩
    conv => whnf
    refine ⟨(_, _), rfl, ⟨n + 1, wrap_succ h (by unfold Short; omega), by omega, by omega, fun j hj => ?_, ?_⟩, ?_⟩
    · show (if l.getD n tI.dflt < v then l.getD n tI.dflt else v) ≤ _
      by_cases hj' : j = n
      · subst hj'; split <;> omega
      · have := hle j (by omega); split <;> omega
    · show ∃ j, j < n + 1 ∧ (if l.getD n tI.dflt < v then l.getD n tI.dflt else v) = _
      split
      · exact ⟨n, by omega, rfl⟩
      · exact ⟨k, by omega, hv⟩
    · rw [wrap_succ h (by unfold Short; omega)]; simp; omega
  · have h : ¬ n < l.length := by simpa using h
    conv => whnf
    exact ⟨_, _, rfl, .inl rfl, fin1 (Int.le_antisymm (hle (fmin l) (by omega)) (hv ▸ f2 k (by omega)))⟩

theorem slices_Index_ok (l : List Int) (hl : l.length ≤ 1048576) (h0 : l ≠ []) : orc.pc n_slices_Index [.d tIS l, .d tI (l.getD (fmin l) tI.dflt)] ⟨tI, .fz, (fmin l : Int)⟩ := by
  obtain ⟨f1, f2, f3⟩ := fmin_spec h0
  refine p_slices_Index true rfl rfl ?_
  conv => whnf
  refine loop_ups (X := Int) (fun i => [⟨0, 8, false, .d tI i⟩]) (fun i => l.length - i.toNat) (fun i => ∃ n : Nat, i = n ∧ n ≤ fmin l) 0 ?_ ⟨0, rfl, by omega⟩ ?_
  · refine st_eq ?_
    conv => whnf
    exact ⟨rfl⟩
  rintro _ ⟨n, rfl, hn⟩
  conv => whnf
  refine cond_intro (fun h => ?_) (fun h => ?_)
  · have h : n < l.length := by simpa using h
    conv => whnf
    refine ⟨⟨by omega, by omega⟩, ?_⟩
    conv => whnf
    refine cond_intro (fun g => ?_) (fun g => ?_)
    · have g : l.getD (fmin l) tI.dflt = l.getD n tI.dflt := eq_of_beq g
      conv => whnf
      exact ⟨_, _, rfl, .inl rfl, fin1 (by (have h2 : ¬ n < fmin l := fun e => absurd g (Int.ne_of_lt (f3 n e))); (have h3 : n = fmin l := by omega); rw [h3])⟩
    · have g : l.getD (fmin l) tI.dflt ≠ l.getD n tI.dflt := ne_of_beq_false g
      have hne : n ≠ fmin l := by rintro rfl; exact g rfl
      conv => whnf
      refine ⟨_, rfl, ⟨n + 1, wrap_succ h (by unfold Short; omega), by omega⟩, ?_⟩
      rw [wrap_succ h (by unfold Short; omega)]; simp; omega
  · have h : ¬ n < l.length := by simpa using h
    omega

theorem i_firstLeast_ok (l : List Int) (hl : l.length ≤ 1048576) (h0 : l ≠ []) : orc.pc n_i_firstLeast [.d tIS l] ⟨tI, .fz, (fmin l : Int)⟩ := by
  refine p_i_firstLeast true rfl rfl ?_
  conv => whnf
  refine ⟨_, slices_Min_ok l hl h0, (by first | exact (fun _ => rfl) | exact (fun h => Bool.noConfusion h)), ?_⟩
  conv => whnf
  refine ⟨_, slices_Index_ok l hl h0, (by first | exact (fun _ => rfl) | exact (fun h => Bool.noConfusion h)), ?_⟩
  conv => whnf
  exact ⟨_, _, rfl, .inl rfl, fin1 (rfl)⟩

theorem s_l11First_ok (l : List Int) (hl : l.length ≤ 1048576) (h0 : l ≠ []) : orc.pc n_s_l11First [.d tIS l] ⟨tI, .fz, (fmin l : Int)⟩ := by
  have hpos : 0 < l.length := List.length_pos_iff.2 h0
  have hf := fmin_spec h0
  refine p_s_l11First true rfl rfl ?_
  conv => whnf
  refine loop_ups (X := Int × Int) (fun (i, v) => [⟨0, 4, false, .d tI i⟩, ⟨0, 3, false, .d tI v⟩]) (fun (i, _) => l.length - i.toNat) (fun (i, v) => ∃ n b : Nat, i = n ∧ v = b ∧ 1 ≤ n ∧ n ≤ l.length ∧ FM l n b) (1, 0) ?_ ⟨1, 0, rfl, rfl, by omega, by omega, by omega, fun j hj => by (have : j = 0 := by omega); subst this; exact Int.le_refl _, fun j hj => by omega⟩ ?_
  · refine st_eq ?_
    conv => whnf
    exact ⟨rfl⟩
  rintro ⟨_, _⟩ ⟨n, b, rfl, rfl, hn0, hn, hb, hle, hno⟩
  conv => whnf
  refine cond_intro (fun h => ?_) (fun h => ?_)
  · have h : n < l.length := by simpa using h
    conv => whnf
    refine ⟨⟨by omega, by omega⟩, ?_⟩
    conv => whnf
    refine ⟨⟨by omega, by omega⟩, ?_⟩
    conv => whnf
    refine cond_intro (fun g => ?_) (fun g => ?_)
    · have g : l.getD n tI.dflt < l.getD b tI.dflt := of_decide_eq_true g
      conv => whnf
      refine ⟨(_, _), rfl, ⟨n + 1, n, wrap_succ h (by unfold Short; omega), rfl, by omega, by omega, by omega, fun j hj => ?_, fun j hj => ?_⟩, ?_⟩
      · by_cases e : j = n
        · subst e; exact Int.le_refl _
        · have := hle j (by omega); omega
      · have := hle j (by omega); omega
      · rw [wrap_succ h (by unfold Short; omega)]; simp; omega
    · have g : ¬ l.getD n tI.dflt < l.getD b tI.dflt := of_decide_eq_false g
      conv => whnf
      refine ⟨(_, _), rfl, ⟨n + 1, b, wrap_succ h (by unfold Short; omega), rfl, by omega, by omega, by omega, fun j hj => ?_, hno⟩, ?_⟩
      · by_cases e : j = n
        · subst e; omega
        · exact hle j (by omega)
      · rw [wrap_succ h (by unfold Short; omega)]; simp; omega
  · have h : ¬ n < l.length := by simpa using h
    obtain rfl : n = l.length := by omega
    have := hf.uniq ⟨hb, hle, hno⟩
    rw [this]
    conv => whnf
    exact ⟨_, _, rfl, .inl rfl, fin1 (rfl)⟩

/-! ### Following -/

def sgn (n : Int) : Int := if 0 ≤ n then 1 else -1
def folAt (p : Sample) (d : Nat) : Int := sgn ((p.1.getD (fmin (daysOf p d)) tIS.dflt).getD d tI.dflt)
def folR (p : Sample) : List Int × Bool × Unit := if isPanel p then ((List.range p.2.1.length).map (folAt p), true, ()) else ([], false, ())
theorem folR_no {p : Sample} (h : isPanel p = false) : folR p = ([], false, ()) := by simp [folR, h]
theorem folR_yes {p : Sample} (h : isPanel p = true) : folR p = ((List.range p.2.1.length).map (folAt p), true, ()) := by simp [folR, h]

theorem i_sign_ok (n : Int) : orc.pc n_i_sign [.d tI n] ⟨tI, .fz, sgn n⟩ := by
  refine p_i_sign true rfl rfl ?_
  conv => whnf
  refine cond_intro (fun h => ?_) (fun h => ?_)
  · have h : 0 ≤ n := by simpa using h
    conv => whnf
    exact ⟨_, _, rfl, .inl rfl, fin1 (by unfold sgn; rw [if_pos h])⟩
  · have h : ¬ 0 ≤ n := by simpa using h
    conv => whnf
    exact ⟨_, _, rfl, .inl rfl, fin1 (by unfold sgn; rw [if_neg h])⟩

theorem s_l11Sign_ok (n : Int) : orc.pc n_s_l11Sign [.d tI n] ⟨tI, .fz, sgn n⟩ := by
  refine p_s_l11Sign true rfl rfl ?_
  conv => whnf
  refine cond_intro (fun h => ?_) (fun h => ?_)
  · have h : 0 ≤ n := by simpa using h
    conv => whnf
    exact ⟨_, _, rfl, .inl rfl, fin1 (by unfold sgn; rw [if_pos h])⟩
  · have h : ¬ 0 ≤ n := by simpa using h
    conv => whnf
    exact ⟨_, _, rfl, .inl rfl, fin1 (by unfold sgn; rw [if_neg h])⟩

theorem days_short {p : Sample} (hv : isPanel p = true) (d : Nat) : (daysOf p d).length ≤ 1048576 ∧ daysOf p d ≠ [] ∧ fmin (daysOf p d) < p.1.length := by
  obtain ⟨l1, l2, l3⟩ := panel_len hv
  have hlen : (daysOf p d).length = p.1.length := by simp [daysOf]
  have hne : daysOf p d ≠ [] := by intro e; rw [e] at hlen; simp at hlen; omega
  exact ⟨by omega, hne, by rw [← hlen]; exact (fmin_spec hne).lt⟩

theorem i_FollowingSays_1_ok (p : Sample) (hv : isPanel p = true) (hp : FitS p) (d : Nat) (hd : d < p.2.1.length) :
    orc.pc n_i_FollowingSays_1 [.d tI (d : Int), .d tIS (daysOf p d), .d (.ptr shSample) (some p)] ⟨tI, .fz, folAt p d⟩ := by
  obtain ⟨s1, s2, s3⟩ := days_short hv d
  obtain ⟨hl, _⟩ := say_in hv s3 hd
  refine p_i_FollowingSays_1 true rfl rfl ?_
  conv => whnf
  refine ⟨_, i_firstLeast_ok _ s1 s2, (by first | exact (fun _ => rfl) | exact (fun h => Bool.noConfusion h)), ?_⟩
  conv => whnf
  refine ⟨⟨Int.natCast_nonneg _, Int.ofNat_lt.2 s3⟩, ?_⟩
  conv => whnf
  refine ⟨⟨by omega, Int.ofNat_lt.2 hl⟩, ?_⟩
  conv => whnf
  refine ⟨_, i_sign_ok _, (by first | exact (fun _ => rfl) | exact (fun h => Bool.noConfusion h)), ?_⟩
  conv => whnf
  exact ⟨_, _, rfl, .inl rfl, fin1 (rfl)⟩

theorem i_Panel_forecast_fol (p : Sample) (hv : isPanel p = true) (hp : FitS p) :
    orc.pc n_i_Panel_forecast [.d shSample p, .d (.fn n_i_FollowingSays_1 (.pair (.ptr shSample) .unit)) (some p, ())] ⟨tIS, .ow .fz, (List.range p.2.1.length).map (folAt p)⟩ := by
  obtain ⟨l1, l2, l3⟩ := panel_len hv
  refine p_i_Panel_forecast true rfl rfl ?_
  conv => whnf
  refine loop_ups (X := Int × List Int) (fun (i, x) => [⟨0, 11, false, .d tI i⟩, ⟨0, 5, false, .own tI .fz x⟩]) (fun (i, _) => p.2.1.length - i.toNat) (fun (i, x) => ∃ m : Nat, i = m ∧ x = (List.range m).map (folAt p) ∧ m ≤ p.2.1.length) (0, []) ?_ ⟨0, rfl, rfl, by omega⟩ ?_
  · refine st_eq ?_
    conv => whnf
    exact ⟨rfl⟩
  rintro ⟨_, _⟩ ⟨m, rfl, rfl, hm⟩
  conv => whnf
  refine cond_intro (fun h => ?_) (fun h => ?_)
  · have h : m < p.2.1.length := by simpa using h
    conv => whnf
    refine ⟨_, i_Panel_wrongBefore_ok p hv hp m (by omega), (by first | exact (fun _ => rfl) | exact (fun h => Bool.noConfusion h)), ?_⟩
    conv => whnf
    refine ⟨_, i_FollowingSays_1_ok p hv hp m h, (by first | exact (fun _ => rfl) | exact (fun h => Bool.noConfusion h)), ?_⟩
    conv => whnf
    refine ⟨⟨room_snoc (by simp; omega) (by decide), len_snoc (by simp; omega)⟩, ?_⟩
    conv => whnf
    refine ⟨(_, _), rfl, ⟨m + 1, wrap_succ h (by unfold Short; omega), ?_, by omega⟩, ?_⟩
    · rw [map_range_snoc]; rfl
    · rw [wrap_succ h (by unfold Short; omega)]; simp; omega
  · have h : ¬ m < p.2.1.length := by simpa using h
    obtain rfl : m = p.2.1.length := by omega
    conv => whnf
    exact ⟨_, _, rfl, .inl rfl, fin1 (rfl)⟩

theorem i_FollowingSays_ok (p : Sample) (hp : FitS p) : orc.pc n_i_FollowingSays [.d shSample p] ⟨shLB, oLB, folR p⟩ := by
  refine p_i_FollowingSays true rfl rfl ?_
  conv => whnf
  refine ⟨_, i_IsPanel_ok _ hp, (by first | exact (fun _ => rfl) | exact (fun h => Bool.noConfusion h)), ?_⟩
  conv => whnf
  refine cond_intro (fun h => ?_) (fun h => ?_)
  · have h : isPanel p = false := by simpa using h
    rw [folR_no h]
    conv => whnf
    exact ⟨_, _, rfl, .inl rfl, rfl⟩
  · have h : isPanel p = true := by simpa using h
    rw [folR_yes h]
    conv => whnf
    refine ⟨_, i_Panel_forecast_fol p h hp, (by first | exact (fun _ => rfl) | exact (fun h => Bool.noConfusion h)), ?_⟩
    conv => whnf
    exact ⟨_, _, rfl, .inl rfl, rfl⟩

theorem s_FollowingSays_ok (p : Sample) (hp : FitS p) : orc.pc n_s_FollowingSays [.d shSample p] ⟨shLB, oLB, folR p⟩ := by
  refine p_s_FollowingSays true rfl rfl ?_
  conv => whnf
  refine ⟨_, s_l11Panel_ok _ hp, (by first | exact (fun _ => rfl) | exact (fun h => Bool.noConfusion h)), ?_⟩
  conv => whnf
  refine cond_intro (fun h => ?_) (fun h => ?_)
  · have h : isPanel p = false := by simpa using h
    rw [folR_no h]
    conv => whnf
    exact ⟨_, _, rfl, .inl rfl, rfl⟩
  have hv : isPanel p = true := by simpa using h
  obtain ⟨l1, l2, l3⟩ := panel_len hv
  rw [folR_yes hv]
  conv => whnf
  refine loop_ups (X := Int × List Int) (fun (i, x) => [⟨0, 5, false, .d tI i⟩, ⟨0, 4, false, .own tI .fz x⟩]) (fun (i, _) => p.2.1.length - i.toNat) (fun (i, x) => ∃ m : Nat, i = m ∧ x = (List.range m).map (folAt p) ∧ m ≤ p.2.1.length) (0, []) ?_ ⟨0, rfl, rfl, by omega⟩ ?_
  · refine st_eq ?_
    conv => whnf
    exact ⟨rfl⟩
  rintro ⟨_, _⟩ ⟨m, rfl, rfl, hm⟩
  conv => whnf
  refine cond_intro (fun h => ?_) (fun h => ?_)
  · have h : m < p.2.1.length := by simpa using h
    obtain ⟨s1, s2, s3⟩ := days_short hv m
    obtain ⟨hl, _⟩ := say_in hv s3 h
    conv => whnf
    refine ⟨_, s_l11Days_ok p hv hp m (by omega), (by first | exact (fun _ => rfl) | exact (fun h => Bool.noConfusion h)), ?_⟩
    conv => whnf
    refine ⟨_, s_l11First_ok _ s1 s2, (by first | exact (fun _ => rfl) | exact (fun h => Bool.noConfusion h)), ?_⟩
    conv => whnf
    refine ⟨⟨Int.natCast_nonneg _, Int.ofNat_lt.2 s3⟩, ?_⟩
    conv => whnf
    refine ⟨⟨by omega, Int.ofNat_lt.2 hl⟩, ?_⟩
    conv => whnf
    refine ⟨_, s_l11Sign_ok _, (by first | exact (fun _ => rfl) | exact (fun h => Bool.noConfusion h)), ?_⟩
    conv => whnf
    refine ⟨⟨room_snoc (by simp; omega) (by decide), len_snoc (by simp; omega)⟩, ?_⟩
    conv => whnf
    refine ⟨(_, _), rfl, ⟨m + 1, wrap_succ h (by unfold Short; omega), ?_, by omega⟩, ?_⟩
    · rw [map_range_snoc]; rfl
    · rw [wrap_succ h (by unfold Short; omega)]; simp; omega
  · have h : ¬ m < p.2.1.length := by simpa using h
    obtain rfl : m = p.2.1.length := by omega
    conv => whnf
    exact ⟨_, _, rfl, .inl rfl, rfl⟩

theorem folR_short {p : Sample} : (folR p).1.length ≤ 1048576 := by
  cases h : isPanel p with
  | true => rw [folR_yes h]; have := panel_len h; simp; omega
  | false => rw [folR_no h]; simp

end Go.Proofs.Ytlndfmmigndgeaa.Ev
