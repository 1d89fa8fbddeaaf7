/- Days on which experts are wrong, and the forecast that follows the best of them. -/
import Derived.Test.YtcpepepdinkioaaFnM
namespace Go.Proofs.Ytcpepepdinkioaa.Ev
open Go
set_option linter.unusedVariables false
set_option linter.unusedSimpArgs false
set_option maxRecDepth 100000
set_option exponentiation.threshold 100000

def wrongB (say truth : Int) : Bool := !(say == 0) && !(say == truth)

theorem say_in {p : Sample} (hv : isPanel p = true) {i d : Nat} (hi : i < p.1.length) (hd : d < p.2.1.length) :
    d < (p.1.getD i tIS.dflt).length ∧ (((p.1.getD i tIS.dflt).getD d tI.dflt = -1 ∨ (p.1.getD i tIS.dflt).getD d tI.dflt = 0 ∨ (p.1.getD i tIS.dflt).getD d tI.dflt = 1) ∧ (p.2.1.getD d tI.dflt = 1 ∨ p.2.1.getD d tI.dflt = -1)) := by
  unfold isPanel at hv
  simp only [Bool.and_eq_true] at hv
  obtain ⟨_, _, h3, h4⟩ := hv
  have h5 := List.all_eq_true.1 h4 _ (getD_mem hi tIS.dflt)
  simp only [okSay, Bool.and_eq_true] at h5
  have hlen : (p.1.getD i tIS.dflt).length = p.2.1.length := by simpa using h5.1
  have hd' : d < (p.1.getD i tIS.dflt).length := by omega
  have h6 := List.all_eq_true.1 h5.2 _ (getD_mem hd' tI.dflt)
  have h7 := List.all_eq_true.1 h3 _ (getD_mem hd tI.dflt)
  refine ⟨hd', ?_, ?_⟩
  · simp only [inB, Bool.and_eq_true, decide_eq_true_eq] at h6; omega
  · simpa [isLabel] using h7

theorem wrong_eq {s t : Int} (hs : s = -1 ∨ s = 0 ∨ s = 1) (ht : t = 1 ∨ t = -1) : (s == IntKind.i64.wrap (0 - t)) = wrongB s t := by
  rcases hs with rfl | rfl | rfl <;> rcases ht with rfl | rfl <;> decide

theorem i_Panel_wrong_ok (p : Sample) (hv : isPanel p = true) (hp : FitS p) (i d : Nat) (hi : i < p.1.length) (hd : d < p.2.1.length) :
    orc.pc n_i_Panel_wrong [.d shSample p, .d tI (i : Int), .d tI (d : Int)] ⟨.bool, .fz, wrongB ((p.1.getD i tIS.dflt).getD d tI.dflt) (p.2.1.getD d tI.dflt)⟩ := by
  obtain ⟨hl, hs, ht⟩ := say_in hv hi hd
  refine p_i_Panel_wrong true rfl rfl ?_
  conv => whnf
  refine ⟨⟨by omega, by omega⟩, ?_⟩
  conv => whnf
  refine ⟨⟨by omega, Int.ofNat_lt.2 hl⟩, ?_⟩
  conv => whnf
  refine ⟨⟨by omega, by omega⟩, ?_⟩
  conv => whnf
  exact ⟨_, _, rfl, .inl rfl, fin1 (wrong_eq hs ht)⟩

theorem s_l11Wrong_ok (s t : Int) : orc.pc n_s_l11Wrong [.d tI s, .d tI t] ⟨.bool, .fz, wrongB s t⟩ := by
  refine p_s_l11Wrong true rfl rfl ?_
  conv => whnf
  refine cond_intro (fun q0 => ?_) (fun q0 => ?_)
  · have q : (s == 0) = false := by simpa using q0
    conv => whnf
    repeat ((first | refine cond_t q0 ?_ | refine cond_f (hT q0) ?_ | refine cond_t (gT q0) ?_); conv => whnf)
    exact ⟨_, _, rfl, .inl rfl, fin1 (by unfold wrongB; rw [q]; rfl)⟩
  · have q : (s == 0) = true := by simpa using q0
    conv => whnf
    repeat ((first | refine cond_f q0 ?_ | refine cond_t (hF q0) ?_ | refine cond_f (gF q0) ?_); conv => whnf)
    exact ⟨_, _, rfl, .inl rfl, fin1 (by unfold wrongB; rw [q]; rfl)⟩

def cnt (row tr : List Int) : Nat → Nat
  | 0 => 0
  | d + 1 => cond (wrongB (row.getD d tI.dflt) (tr.getD d tI.dflt)) (cnt row tr d + 1) (cnt row tr d)
theorem cnt_le (row tr : List Int) : ∀ d, cnt row tr d ≤ d := by
  intro d
  induction d with
  | zero => simp [cnt]
  | succ d ih => simp only [cnt]; cases wrongB (row.getD d tI.dflt) (tr.getD d tI.dflt) <;> simp <;> omega
theorem cnt_yes {row tr : List Int} {d : Nat} (h : wrongB (row.getD d tI.dflt) (tr.getD d tI.dflt) = true) : cnt row tr (d + 1) = cnt row tr d + 1 := by simp only [cnt, h, cond_true]
theorem cnt_no {row tr : List Int} {d : Nat} (h : wrongB (row.getD d tI.dflt) (tr.getD d tI.dflt) = false) : cnt row tr (d + 1) = cnt row tr d := by simp only [cnt, h, cond_false]

def daysOf (p : Sample) (d : Nat) : List Int := p.1.map fun r => (cnt r p.2.1 d : Int)
/-- The counts of the first experts, the others still 0. -/
def daysTo (p : Sample) (d n : Nat) : List Int := ((p.1.take n).map fun r => (cnt r p.2.1 d : Int)) ++ List.replicate (p.1.length - n) 0
def daysAt (p : Sample) (d n m : Nat) : List Int := ((p.1.take n).map fun r => (cnt r p.2.1 d : Int)) ++ (cnt (p.1.getD n tIS.dflt) p.2.1 m : Int) :: List.replicate (p.1.length - (n + 1)) 0
theorem daysTo_len {p : Sample} {d n : Nat} (h : n ≤ p.1.length) : (daysTo p d n).length = p.1.length := by simp [daysTo]; omega
theorem daysAt_len {p : Sample} {d n m : Nat} (h : n < p.1.length) : (daysAt p d n m).length = p.1.length := by simp [daysAt]; omega
theorem daysTo_zero (p : Sample) (d : Nat) : daysTo p d 0 = List.replicate p.1.length 0 := by simp [daysTo]
theorem daysTo_all (p : Sample) (d : Nat) : daysTo p d p.1.length = daysOf p d := by simp [daysTo, daysOf]
theorem daysAt_zero {p : Sample} {d n : Nat} (h : n < p.1.length) : daysTo p d n = daysAt p d n 0 := by
  have : p.1.length - n = (p.1.length - (n + 1)) + 1 := by omega
  simp only [daysTo, daysAt, this, List.replicate_succ, cnt]; rfl
theorem daysAt_end {p : Sample} {d n : Nat} (h : n < p.1.length) : daysAt p d n d = daysTo p d (n + 1) := by
  simp only [daysTo, daysAt]
  rw [take_getD p.1 h tIS.dflt]; simp
theorem daysAt_pre {p : Sample} {d n : Nat} (h : n < p.1.length) : ((p.1.take n).map fun r => (cnt r p.2.1 d : Int)).length = n := by simp; omega
theorem daysAt_get {p : Sample} {d n m : Nat} (h : n < p.1.length) : (daysAt p d n m).getD n tI.dflt = (cnt (p.1.getD n tIS.dflt) p.2.1 m : Int) := by
  unfold daysAt; rw [getD_mid (daysAt_pre h)]; rfl
theorem daysAt_yes {p : Sample} {d n m : Nat} (h : n < p.1.length) (hm : m < 1048576) (hw : wrongB ((p.1.getD n tIS.dflt).getD m tI.dflt) (p.2.1.getD m tI.dflt) = true) :
    (daysAt p d n m).set n (IntKind.i64.wrap ((daysAt p d n m).getD n tI.dflt + 1)) = daysAt p d n (m + 1) := by
  rw [daysAt_get h]
  have := cnt_le (p.1.getD n tIS.dflt) p.2.1 m
  rw [wrap_in (by omega) (by omega)]
  unfold daysAt
  rw [set_at (daysAt_pre h), cnt_yes hw]
  simp
theorem daysAt_no {p : Sample} {d n m : Nat} (hw : wrongB ((p.1.getD n tIS.dflt).getD m tI.dflt) (p.2.1.getD m tI.dflt) = false) : daysAt p d n m = daysAt p d n (m + 1) := by
  unfold daysAt; rw [cnt_no hw]

theorem panel_len {p : Sample} (hv : isPanel p = true) : p.2.1.length ≤ 16 ∧ 1 ≤ p.1.length ∧ p.1.length ≤ 8 := by
  unfold isPanel at hv
  simp only [Bool.and_eq_true, inB, decide_eq_true_eq] at hv
  omega

/-! ### The first least one -/

structure FM (l : List Int) (n b : Nat) : Prop where
  lt : b < n
  le : ∀ j, j < n → l.getD b tI.dflt ≤ l.getD j tI.dflt
  no : ∀ j, j < b → l.getD b tI.dflt < l.getD j tI.dflt

def fmin : List Int → Nat
  | [] => 0
  | x :: r => if r.all (fun y => decide (x ≤ y)) then 0 else fmin r + 1

theorem getD_succ (x : Int) (r : List Int) (j : Nat) (d : Int) : (x :: r).getD (j + 1) d = r.getD j d := by simp

theorem fmin_spec : ∀ {l : List Int}, l ≠ [] → FM l l.length (fmin l) := by
  intro l
  induction l with
  | nil => intro h; exact absurd rfl h
  | cons x r ih =>
    intro _
    simp only [fmin]
    by_cases h : r.all (fun y => decide (x ≤ y)) = true
    · rw [if_pos h]
      refine ⟨by simp, fun j hj => ?_, fun j hj => by omega⟩
      cases j with
      | zero => exact Int.le_refl _
      | succ j =>
        rw [getD_succ]
        have hj : j < r.length := by simpa using hj
        simpa using List.all_eq_true.1 h _ (getD_mem hj tI.dflt)
    · rw [if_neg h]
      obtain ⟨y, hy, hyx⟩ : ∃ y ∈ r, y < x := by
        simp only [Bool.not_eq_true, List.all_eq_false, decide_eq_true_eq, Int.not_le] at h
        simpa using h
      have hne : r ≠ [] := by rintro rfl; simp at hy
      obtain ⟨i1, i2, i3⟩ := ih hne
      obtain ⟨k, hk, hk2⟩ := List.getElem_of_mem hy
      have hyk : r.getD k tI.dflt = y := by rw [List.getD_eq_getElem?_getD, List.getElem?_eq_getElem hk]; simpa using hk2
      have hlt : r.getD (fmin r) tI.dflt < x := by have := i2 k hk; omega
      refine ⟨by simp; omega, fun j hj => ?_, fun j hj => ?_⟩
      · rw [getD_succ]
        cases j with
        | zero => exact Int.le_of_lt hlt
        | succ j => rw [getD_succ]; exact i2 j (by simpa using hj)
      · rw [getD_succ]
        cases j with
        | zero => exact hlt
        | succ j => rw [getD_succ]; exact i3 j (by omega)

theorem FM.uniq {l : List Int} {n b c : Nat} (h : FM l n b) (g : FM l n c) : b = c := by
  rcases Nat.lt_trichotomy b c with e | e | e
  · have := g.no b e; have := h.le c g.lt; omega
  · exact e
  · have := h.no c e; have := g.le b h.lt; omega

theorem slices_Min_ok (l : List Int) (hl : l.length ≤ 1048576) (h0 : l ≠ []) : orc.pc n_slices_Min [.d tIS l] ⟨tI, .fz, l.getD (fmin l) tI.dflt⟩ := by
  have hpos : 0 < l.length := List.length_pos_iff.2 h0
  obtain ⟨f1, f2, f3⟩ := fmin_spec h0
  refine p_slices_Min true rfl rfl ?_
  conv => whnf
  refine cond_f (by simp; omega) ?_
  conv => whnf
  refine ⟨⟨by omega, by omega⟩, ?_⟩
  conv => whnf
  refine loop_ups (X := Int × Int) (fun (i, v) => [⟨0, 4, false, .d tI i⟩, ⟨0, 3, false, .d tI v⟩]) (fun (i, _) => l.length - i.toNat) (fun (i, v) => ∃ n : Nat, i = n ∧ 1 ≤ n ∧ n ≤ l.length ∧ (∀ j, j < n → v ≤ l.getD j tI.dflt) ∧ ∃ j, j < n ∧ v = l.getD j tI.dflt) (1, l.getD 0 tI.dflt) ?_ ⟨1, rfl, by omega, by omega, fun j hj => by (have : j = 0 := by omega); subst this; exact Int.le_refl _, 0, by omega, rfl⟩ ?_
  · refine st_eq ?_
    conv => whnf
    exact ⟨rfl⟩
  rintro ⟨_, v⟩ ⟨n, rfl, hn0, hn, hle, k, hk, hv⟩
  conv => whnf
  refine cond_intro (fun h => ?_) (fun h => ?_)
  · have h : n < l.length := by simpa using h
    conv => whnf
    refine ⟨⟨by omega, by omega⟩, ?_⟩
    conv => whnf
    refine ⟨(_, _), rfl, ⟨n + 1, wrap_succ h (by unfold Short; omega), by omega, by omega, fun j hj => ?_, ?_⟩, ?_⟩
    · show (if l.getD n tI.dflt < v then l.getD n tI.dflt else v) ≤ _
      by_cases hj' : j = n
      · subst hj'; split <;> omega
      · have := hle j (by omega); split <;> omega
    · show ∃ j, j < n + 1 ∧ (if l.getD n tI.dflt < v then l.getD n tI.dflt else v) = _
      split
      · exact ⟨n, by omega, rfl⟩
      · exact ⟨k, by omega, hv⟩
    · rw [wrap_succ h (by unfold Short; omega)]; simp; omega
  · have h : ¬ n < l.length := by simpa using h
    conv => whnf
    exact ⟨_, _, rfl, .inl rfl, fin1 (Int.le_antisymm (hle (fmin l) (by omega)) (hv ▸ f2 k (by omega)))⟩

/-! ### Following -/

def sgn (n : Int) : Int := if 0 ≤ n then 1 else -1
def folAt (p : Sample) (d : Nat) : Int := sgn ((p.1.getD (fmin (daysOf p d)) tIS.dflt).getD d tI.dflt)
def folR (p : Sample) : List Int × Bool × Unit := if isPanel p then ((List.range p.2.1.length).map (folAt p), true, ()) else ([], false, ())
theorem folR_no {p : Sample} (h : isPanel p = false) : folR p = ([], false, ()) := by simp [folR, h]
theorem folR_yes {p : Sample} (h : isPanel p = true) : folR p = ((List.range p.2.1.length).map (folAt p), true, ()) := by simp [folR, h]

theorem days_short {p : Sample} (hv : isPanel p = true) (d : Nat) : (daysOf p d).length ≤ 1048576 ∧ daysOf p d ≠ [] ∧ fmin (daysOf p d) < p.1.length := by
  obtain ⟨l1, l2, l3⟩ := panel_len hv
  have hlen : (daysOf p d).length = p.1.length := by simp [daysOf]
  have hne : daysOf p d ≠ [] := by intro e; rw [e] at hlen; simp at hlen; omega
  exact ⟨by omega, hne, by rw [← hlen]; exact (fmin_spec hne).lt⟩

theorem folR_short {p : Sample} : (folR p).1.length ≤ 1048576 := by
  cases h : isPanel p with
  | true => rw [folR_yes h]; have := panel_len h; simp; omega
  | false => rw [folR_no h]; simp

end Go.Proofs.Ytcpepepdinkioaa.Ev
