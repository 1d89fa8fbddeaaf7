/- Forecasters: what the halving one and the following one have at most of wrong days. Plain facts. -/
import Derived.Test.YtlndfmmigndgeaaFnN
namespace Go.Proofs.Ytlndfmmigndgeaa.Ev
open Go
set_option linter.unusedVariables false
set_option linter.unusedSimpArgs false
set_option maxRecDepth 100000
set_option exponentiation.threshold 100000

/-- Sums over lists of experts. -/
def sm (f : List Int → Int) : List (List Int) → Int
  | [] => 0
  | r :: l => f r + sm f l
theorem sm_snoc (f : List Int → Int) (x : List Int) : ∀ l, sm f (l ++ [x]) = sm f l + f x := by
  intro l
  induction l with
  | nil => simp [sm]
  | cons y l ih => simp [sm, ih]; omega
theorem sm_le {f g : List Int → Int} : ∀ {l : List (List Int)}, (∀ r ∈ l, f r ≤ g r) → sm f l ≤ sm g l := by
  intro l
  induction l with
  | nil => intro _; exact Int.le_refl _
  | cons x l ih =>
    intro h
    have h1 := h x (List.mem_cons_self ..)
    have h2 := ih fun r hr => h r (List.mem_cons_of_mem _ hr)
    simp only [sm]; omega
theorem sm_lt {f g : List Int → Int} {x : List Int} (hx : f x + 1 ≤ g x) : ∀ {l : List (List Int)}, (∀ r ∈ l, f r ≤ g r) → x ∈ l → sm f l + 1 ≤ sm g l := by
  intro l
  induction l with
  | nil => intro _ h; simp at h
  | cons y l ih =>
    intro h hm
    have h1 := h y (List.mem_cons_self ..)
    have hl := fun r hr => h r (List.mem_cons_of_mem _ hr)
    simp only [sm]
    rcases List.mem_cons.1 hm with e | hm
    · subst e
      have := sm_le hl
      omega
    · have := ih hl hm
      omega
theorem sm_const (c : Int) : ∀ l : List (List Int), sm (fun _ => c) l = l.length * c := by
  intro l
  induction l with
  | nil => simp [sm]
  | cons x l ih => simp only [sm, ih, List.length_cons, Int.natCast_add, Int.natCast_one, Int.add_mul, Int.one_mul]; omega
theorem sm_lin {f g h : List Int → Int} {a b c : Int} : ∀ {l : List (List Int)}, (∀ r ∈ l, a * f r = b * g r + c * h r) → a * sm f l = b * sm g l + c * sm h l := by
  intro l
  induction l with
  | nil => intro _; simp [sm]
  | cons x l ih =>
    intro e
    have h1 := e x (List.mem_cons_self ..)
    have h2 := ih fun r hr => e r (List.mem_cons_of_mem _ hr)
    simp only [sm, Int.mul_add]; omega
theorem sm_one {f : List Int → Int} {x : List Int} : ∀ {l : List (List Int)}, (∀ r ∈ l, 0 ≤ f r) → x ∈ l → f x ≤ sm f l := by
  intro l
  induction l with
  | nil => intro _ h; simp at h
  | cons y l ih =>
    intro h hm
    have h1 := h y (List.mem_cons_self ..)
    have hl := fun r hr => h r (List.mem_cons_of_mem _ hr)
    have h3 : 0 ≤ sm f l := by
      have := sm_le (f := fun _ => 0) (g := f) hl
      rw [sm_const] at this; omega
    simp only [sm]
    rcases List.mem_cons.1 hm with e | hm
    · subst e; omega
    · have := ih hl hm; omega

/-- Wrong days of what is said. -/
def wc (f : Nat → Int) (tr : List Int) : Nat → Nat
  | 0 => 0
  | d + 1 => wc f tr d + cond (f d != tr.getD d tI.dflt) 1 0
theorem wc_no {f : Nat → Int} {tr : List Int} {d : Nat} (h : (f d != tr.getD d tI.dflt) = false) : wc f tr (d + 1) = wc f tr d := by simp only [wc, h, cond_false, Nat.add_zero]
theorem wc_yes {f : Nat → Int} {tr : List Int} {d : Nat} (h : (f d != tr.getD d tI.dflt) = true) : wc f tr (d + 1) = wc f tr d + 1 := by simp only [wc, h, cond_true]
theorem wc_le (f : Nat → Int) (tr : List Int) : ∀ d, wc f tr d ≤ d := by
  intro d
  induction d with
  | zero => exact Nat.le_refl _
  | succ d ih => simp only [wc]; cases (f d != tr.getD d tI.dflt) <;> simp <;> omega

def wgt (tr : List Int) (d : Nat) (r : List Int) : Int := 2 ^ (16 - cnt r tr d)
def halSum (p : Sample) (d : Nat) : Int := sm (fun r => r.getD d tI.dflt * wgt p.2.1 d r) p.1
def halAt (p : Sample) (d : Nat) : Int := sgn (halSum p d)
def majSum (p : Sample) (d : Nat) : Int := sm (fun r => r.getD d tI.dflt) p.1
def majAt (p : Sample) (d : Nat) : Int := sgn (majSum p d)

theorem two_pow_pos (n : Nat) : (0 : Int) < 2 ^ n := Int.pow_pos (by decide)
theorem wgt_pos (tr : List Int) (d : Nat) (r : List Int) : 0 < wgt tr d r := two_pow_pos _
theorem wgt_step {tr r : List Int} {d : Nat} (hd : d < 16) (hs : r.getD d tI.dflt = 1 ∨ r.getD d tI.dflt = -1) (ht : tr.getD d tI.dflt = 1 ∨ tr.getD d tI.dflt = -1) :
    4 * wgt tr (d + 1) r = 3 * wgt tr d r + tr.getD d tI.dflt * (r.getD d tI.dflt * wgt tr d r) := by
  have hc := cnt_le r tr d
  have key : wrongB (r.getD d tI.dflt) (tr.getD d tI.dflt) = !(r.getD d tI.dflt == tr.getD d tI.dflt) := by
    unfold wrongB
    rcases hs with h | h <;> rw [h] <;> simp
  cases e : (r.getD d tI.dflt == tr.getD d tI.dflt) with
  | true =>
    have e' := eq_of_beq e
    unfold wgt
    rw [cnt_no (by rw [key, e]; rfl), e']
    rcases ht with h | h <;> rw [h] <;> omega
  | false =>
    have e' := ne_of_beq_false e
    have e2 : tr.getD d tI.dflt * r.getD d tI.dflt = -1 := by
      rcases hs with h | h <;> rcases ht with g | g <;> rw [h, g] at e' ⊢ <;> simp at e' ⊢
    unfold wgt
    rw [cnt_yes (by rw [key, e]; rfl), ← Int.mul_assoc, e2, show 16 - cnt r tr d = (16 - (cnt r tr d + 1)) + 1 by omega, Int.pow_succ]
    omega
theorem cnt_mono (r tr : List Int) (d : Nat) : cnt r tr d ≤ cnt r tr (d + 1) ∧ cnt r tr (d + 1) ≤ cnt r tr d + 1 := by
  simp only [cnt]; cases wrongB (r.getD d tI.dflt) (tr.getD d tI.dflt) <;> simp
theorem cnt_mono' (r tr : List Int) {a b : Nat} (h : a ≤ b) : cnt r tr a ≤ cnt r tr b := by
  induction h with
  | refl => exact Nat.le_refl _
  | step _ ih => exact Nat.le_trans ih (cnt_mono r tr _).1
theorem wgt_mono (r tr : List Int) (d : Nat) : wgt tr (d + 1) r ≤ wgt tr d r := by
  unfold wgt
  have := (cnt_mono r tr d).1
  rw [show 16 - cnt r tr d = (16 - cnt r tr (d + 1)) + ((16 - cnt r tr d) - (16 - cnt r tr (d + 1))) by omega, Int.pow_add]
  have h1 := two_pow_pos (16 - cnt r tr (d + 1))
  have h2 := two_pow_pos ((16 - cnt r tr d) - (16 - cnt r tr (d + 1)))
  have h3 := Int.mul_le_mul_of_nonneg_left (show (1 : Int) ≤ 2 ^ ((16 - cnt r tr d) - (16 - cnt r tr (d + 1))) by omega) (Int.le_of_lt h1)
  rw [Int.mul_one] at h3; exact h3

/-- Nobody is silent. -/
def Loud (p : Sample) : Prop := ∀ d, d < p.2.1.length → ∀ i, i < p.1.length → (p.1.getD i tIS.dflt).getD d tI.dflt ≠ 0
theorem loud_mem {p : Sample} (hv : isPanel p = true) (hl : Loud p) {r : List Int} (hr : r ∈ p.1) {d : Nat} (hd : d < p.2.1.length) :
    r.getD d tI.dflt = 1 ∨ r.getD d tI.dflt = -1 := by
  obtain ⟨i, hi, e⟩ := List.getElem_of_mem hr
  have h1 := (say_in hv hi hd)
  have h2 := hl d hd i hi
  have e' : p.1.getD i tIS.dflt = r := by rw [List.getD_eq_getElem?_getD, List.getElem?_eq_getElem hi, e]; rfl
  rw [e'] at h1 h2
  obtain ⟨_, h1, _⟩ := h1
  rcases h1 with h | h | h
  · exact .inr h
  · exact absurd h h2
  · exact .inl h
theorem truth_in {p : Sample} (hv : isPanel p = true) {d : Nat} (hd : d < p.2.1.length) : p.2.1.getD d tI.dflt = 1 ∨ p.2.1.getD d tI.dflt = -1 := by
  obtain ⟨_, h1, _⟩ := panel_len hv
  exact (say_in hv (i := 0) (by omega) hd).2.2

theorem hal_main {p : Sample} (hv : isPanel p = true) (hl : Loud p) : ∀ d, d ≤ p.2.1.length → (4 : Int) ^ wc (halAt p) p.2.1 d * sm (wgt p.2.1 d) p.1 ≤ 3 ^ wc (halAt p) p.2.1 d * sm (wgt p.2.1 0) p.1 := by
  obtain ⟨hD, hN, _⟩ := panel_len hv
  intro d
  induction d with
  | zero => intro _; simp [wc]
  | succ d ih =>
    intro hd
    have ih := ih (by omega)
    have hstep : 4 * sm (wgt p.2.1 (d + 1)) p.1 = 3 * sm (wgt p.2.1 d) p.1 + p.2.1.getD d tI.dflt * halSum p d :=
      sm_lin fun r hr => wgt_step (by omega) (loud_mem hv hl hr (by omega)) (truth_in hv (by omega))
    have hmono : sm (wgt p.2.1 (d + 1)) p.1 ≤ sm (wgt p.2.1 d) p.1 := sm_le fun r _ => wgt_mono r _ d
    have h4 : (0 : Int) < 4 ^ wc (halAt p) p.2.1 d := Int.pow_pos (by decide)
    cases e : (halAt p d != p.2.1.getD d tI.dflt) with
    | false =>
      have : wc (halAt p) p.2.1 (d + 1) = wc (halAt p) p.2.1 d := wc_no e
      rw [this]
      exact Int.le_trans (Int.mul_le_mul_of_nonneg_left hmono (Int.le_of_lt h4)) ih
    | true =>
      have : wc (halAt p) p.2.1 (d + 1) = wc (halAt p) p.2.1 d + 1 := wc_yes e
      rw [this, Int.pow_succ, Int.pow_succ]
      have hle : 4 * sm (wgt p.2.1 (d + 1)) p.1 ≤ 3 * sm (wgt p.2.1 d) p.1 := by
        have hne : halAt p d ≠ p.2.1.getD d tI.dflt := by simpa using e
        unfold halAt sgn at hne
        rcases truth_in hv (show d < p.2.1.length by omega) with h | h <;> rw [h] at hne hstep <;> split at hne <;> omega
      have h5 := Int.mul_le_mul_of_nonneg_left hle (Int.le_of_lt h4)
      have h6 := Int.mul_le_mul_of_nonneg_left ih (show (0 : Int) ≤ 3 by decide)
      have e1 : (4 : Int) ^ wc (halAt p) p.2.1 d * 4 * sm (wgt p.2.1 (d + 1)) p.1 = 4 ^ wc (halAt p) p.2.1 d * (4 * sm (wgt p.2.1 (d + 1)) p.1) := Int.mul_assoc _ _ _
      have e2 : (3 : Int) ^ wc (halAt p) p.2.1 d * 3 * sm (wgt p.2.1 0) p.1 = 3 * (3 ^ wc (halAt p) p.2.1 d * sm (wgt p.2.1 0) p.1) := by rw [Int.mul_comm (3 ^ _) 3, Int.mul_assoc]
      have e3 : (4 : Int) ^ wc (halAt p) p.2.1 d * (3 * sm (wgt p.2.1 d) p.1) = 3 * (4 ^ wc (halAt p) p.2.1 d * sm (wgt p.2.1 d) p.1) := by rw [← Int.mul_assoc, Int.mul_comm _ 3, Int.mul_assoc]
      rw [e1, e2]
      rw [e3] at h5
      exact Int.le_trans h5 h6

theorem hal_bound {p : Sample} (hv : isPanel p = true) (hl : Loud p) {r : List Int} (hr : r ∈ p.1) :
    (4 : Int) ^ wc (halAt p) p.2.1 p.2.1.length ≤ 3 ^ wc (halAt p) p.2.1 p.2.1.length * (p.1.length * 2 ^ cnt r p.2.1 p.2.1.length) := by
  obtain ⟨hD, hN, _⟩ := panel_len hv
  have h := hal_main hv hl p.2.1.length (Nat.le_refl _)
  have h0 : sm (wgt p.2.1 0) p.1 = p.1.length * 2 ^ 16 := by
    have := sm_const (2 ^ 16) p.1
    rw [← this]; rfl
  have h1 : wgt p.2.1 p.2.1.length r ≤ sm (wgt p.2.1 p.2.1.length) p.1 := sm_one (fun r _ => Int.le_of_lt (wgt_pos _ _ r)) hr
  have hc := cnt_le r p.2.1 p.2.1.length
  have h4 : (0 : Int) ≤ 4 ^ wc (halAt p) p.2.1 p.2.1.length := Int.le_of_lt (Int.pow_pos (by decide))
  have h2 := Int.le_trans (Int.mul_le_mul_of_nonneg_left h1 h4) h
  rw [h0] at h2
  unfold wgt at h2
  have e : (2 : Int) ^ 16 = 2 ^ cnt r p.2.1 p.2.1.length * 2 ^ (16 - cnt r p.2.1 p.2.1.length) := by rw [← Int.pow_add]; congr 1; omega
  rw [e] at h2
  refine Int.le_of_mul_le_mul_right ?_ (two_pow_pos (16 - cnt r p.2.1 p.2.1.length))
  refine Int.le_trans h2 (Int.le_of_eq ?_)
  simp only [Int.mul_assoc]

theorem fol_main {p : Sample} (hv : isPanel p = true) (hl : Loud p) {m : Nat} {r0 : List Int} (hr0 : r0 ∈ p.1) (hm : cnt r0 p.2.1 p.2.1.length = m) : ∀ d, d ≤ p.2.1.length → (wc (folAt p) p.2.1 d : Int) ≤ sm (fun r => ((min (cnt r p.2.1 d) (m + 1) : Nat) : Int)) p.1 := by
  obtain ⟨hD, hN, _⟩ := panel_len hv
  intro d
  induction d with
  | zero =>
    intro _
    have := sm_const 0 p.1
    simp only [wc, cnt, Nat.zero_min]
    have e : sm (fun _ => ((0 : Nat) : Int)) p.1 = sm (fun _ => 0) p.1 := rfl
    rw [e, this]; simp
  | succ d ih =>
    intro hd
    have ih := ih (by omega)
    have hmono : ∀ r ∈ p.1, ((min (cnt r p.2.1 d) (m + 1) : Nat) : Int) ≤ ((min (cnt r p.2.1 (d + 1)) (m + 1) : Nat) : Int) := fun r _ => by
      have := (cnt_mono r p.2.1 d).1
      omega
    cases e : (folAt p d != p.2.1.getD d tI.dflt) with
    | false =>
      have : wc (folAt p) p.2.1 (d + 1) = wc (folAt p) p.2.1 d := wc_no e
      rw [this]
      exact Int.le_trans ih (sm_le hmono)
    | true =>
      have : wc (folAt p) p.2.1 (d + 1) = wc (folAt p) p.2.1 d + 1 := wc_yes e
      rw [this]
      obtain ⟨h1, h2, h3⟩ := days_short hv d
      have F := fmin_spec h2
      have hmem : p.1.getD (fmin (daysOf p d)) tIS.dflt ∈ p.1 := getD_mem h3 _
      have hne : folAt p d ≠ p.2.1.getD d tI.dflt := by simpa using e
      have hsay := loud_mem hv hl hmem (show d < p.2.1.length by omega)
      have htr := truth_in hv (show d < p.2.1.length by omega)
      have hw : wrongB ((p.1.getD (fmin (daysOf p d)) tIS.dflt).getD d tI.dflt) (p.2.1.getD d tI.dflt) = true := by
        unfold folAt at hne
        unfold wrongB
        rcases hsay with h | h <;> rw [h] at hne ⊢ <;> rcases htr with g | g <;> rw [g] at hne ⊢ <;> first | rfl | (exact absurd rfl hne)
      have hget : ∀ i, i < p.1.length → (daysOf p d).getD i tI.dflt = (cnt (p.1.getD i tIS.dflt) p.2.1 d : Int) := fun i hi => by
        unfold daysOf
        rw [List.getD_eq_getElem?_getD, List.getElem?_map, List.getElem?_eq_getElem hi, List.getD_eq_getElem?_getD, List.getElem?_eq_getElem hi]; rfl
      have hlead : cnt (p.1.getD (fmin (daysOf p d)) tIS.dflt) p.2.1 d ≤ m := by
        obtain ⟨j, hj, ej⟩ := List.getElem_of_mem hr0
        have ej' : p.1.getD j tIS.dflt = r0 := by rw [List.getD_eq_getElem?_getD, List.getElem?_eq_getElem hj, ej]; rfl
        have hle := F.le j (by unfold daysOf; simpa using hj)
        rw [hget _ h3, hget _ hj, ej'] at hle
        have := cnt_mono' r0 p.2.1 (show d ≤ p.2.1.length by omega)
        omega
      have := sm_lt (x := p.1.getD (fmin (daysOf p d)) tIS.dflt) (f := fun r => ((min (cnt r p.2.1 d) (m + 1) : Nat) : Int)) (g := fun r => ((min (cnt r p.2.1 (d + 1)) (m + 1) : Nat) : Int)) (by
        show ((min (cnt _ p.2.1 d) (m + 1) : Nat) : Int) + 1 ≤ ((min (cnt _ p.2.1 (d + 1)) (m + 1) : Nat) : Int)
        rw [cnt_yes hw]; omega) hmono hmem
      omega

theorem fol_bound {p : Sample} (hv : isPanel p = true) (hl : Loud p) {m : Nat} {r0 : List Int} (hr0 : r0 ∈ p.1) (hm : cnt r0 p.2.1 p.2.1.length = m) :
    (wc (folAt p) p.2.1 p.2.1.length : Int) ≤ p.1.length * (m + 1) - 1 := by
  have h := fol_main hv hl hr0 hm p.2.1.length (Nat.le_refl _)
  have h2 := sm_lt (x := r0) (f := fun r => ((min (cnt r p.2.1 p.2.1.length) (m + 1) : Nat) : Int)) (g := fun _ => ((m + 1 : Nat) : Int)) (l := p.1) (by
    show ((min (cnt r0 p.2.1 p.2.1.length) (m + 1) : Nat) : Int) + 1 ≤ ((m + 1 : Nat) : Int)
    rw [hm]; omega) (fun r _ => by show ((min (cnt r p.2.1 p.2.1.length) (m + 1) : Nat) : Int) ≤ _; omega) hr0
  rw [sm_const] at h2
  have e : ((m + 1 : Nat) : Int) = (m : Int) + 1 := by omega
  rw [e] at h2
  omega
theorem hal_first {p : Sample} (hv : isPanel p = true) (h : 0 < p.2.1.length) : halAt p 0 = majAt p 0 := by
  unfold halAt majAt halSum majSum
  have e := sm_lin (f := fun r => r.getD 0 tI.dflt * wgt p.2.1 0 r) (g := fun r => r.getD 0 tI.dflt) (h := fun _ => 0) (a := 1) (b := 2 ^ 16) (c := 0) (l := p.1) (fun r _ => by
    show 1 * (r.getD 0 tI.dflt * wgt p.2.1 0 r) = 2 ^ 16 * r.getD 0 tI.dflt + 0 * 0
    unfold wgt; simp only [cnt]; omega)
  unfold sgn
  have : (2 : Int) ^ 16 = 65536 := by decide
  rw [this] at e
  split <;> split <;> first | rfl | omega

end Go.Proofs.Ytlndfmmigndgeaa.Ev
