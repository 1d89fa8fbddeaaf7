/- The fewest wrong days with switches: plain facts. -/
import Derived.Test.YtcpepepdinkioaaFnN
namespace Go.Proofs.Ytcpepepdinkioaa.Ev
open Go
set_option linter.unusedVariables false
set_option linter.unusedSimpArgs false
set_option maxRecDepth 100000
set_option exponentiation.threshold 100000

def least (a b : Int) : Int := if a < b then a else b
theorem least_le_l (a b : Int) : least a b ≤ a := by unfold least; split <;> omega
theorem least_le_r (a b : Int) : least a b ≤ b := by unfold least; split <;> omega
theorem least_mono {a b c d : Int} (h : a ≤ c) (g : b ≤ d) : least a b ≤ least c d := by unfold least; split <;> split <;> omega
theorem least_cases (a b : Int) : least a b = a ∨ least a b = b := by unfold least; split <;> simp
/-- The least of a number and of a function's values. -/
def mn (f : Nat → Int) : Nat → Int → Int
  | 0, a => a
  | n + 1, a => least (mn f n a) (f n)
theorem mn_le (f : Nat → Int) (a : Int) : ∀ n, mn f n a ≤ a := by
  intro n; induction n with
  | zero => exact Int.le_refl _
  | succ n ih => exact Int.le_trans (least_le_l _ _) ih
theorem mn_le_f (f : Nat → Int) (a : Int) : ∀ n j, j < n → mn f n a ≤ f j := by
  intro n; induction n with
  | zero => intro j h; omega
  | succ n ih =>
    intro j h
    by_cases e : j = n
    · subst e; exact least_le_r _ _
    · exact Int.le_trans (least_le_l _ _) (ih j (by omega))
theorem mn_mono {f g : Nat → Int} {a b : Int} (h : a ≤ b) : ∀ n, (∀ j, j < n → f j ≤ g j) → mn f n a ≤ mn g n b := by
  intro n; induction n with
  | zero => intro _; exact h
  | succ n ih => intro hf; exact least_mono (ih fun j hj => hf j (by omega)) (hf n (by omega))
theorem mn_cases (f : Nat → Int) (a : Int) : ∀ n, mn f n a = a ∨ ∃ j, j < n ∧ mn f n a = f j := by
  intro n; induction n with
  | zero => exact .inl rfl
  | succ n ih =>
    simp only [mn]
    rcases least_cases (mn f n a) (f n) with e | e
    · rw [e]
      rcases ih with ih | ⟨j, hj, ih⟩
      · exact .inl ih
      · exact .inr ⟨j, by omega, ih⟩
    · rw [e]; exact .inr ⟨n, by omega, rfl⟩
theorem mn_bd {f : Nat → Int} {a lo hi : Int} (ha : lo ≤ a ∧ a ≤ hi) : ∀ n, (∀ j, j < n → lo ≤ f j) → lo ≤ mn f n a ∧ mn f n a ≤ hi := by
  intro n h
  refine ⟨?_, Int.le_trans (mn_le _ _ _) ha.2⟩
  rcases mn_cases f a n with e | ⟨j, hj, e⟩
  · rw [e]; exact ha.1
  · rw [e]; exact h j hj

section
variable (N : Nat) (w : Nat → Nat → Bool)
/-- The fewest wrong days of the last days (D - m is the first one), by switches left and expert. -/
def cst (D : Nat) : Nat → Nat → Nat → Int
  | 0, _, _ => 0
  | m + 1, l, i => (cond (l == 0) (cst D m 0 i) (mn (cst D m (l - 1)) N (cst D m l i))) + cond (w i (D - (m + 1))) 1 0
/-- What the days behind cost at best. -/
def bst (D m l i : Nat) : Int := cond (l == 0) (cst N w D m 0 i) (mn (cst N w D m (l - 1)) N (cst N w D m l i))
theorem cst_succ (D m l i : Nat) : cst N w D (m + 1) l i = bst N w D m l i + cond (w i (D - (m + 1))) 1 0 := rfl
theorem cst_bd (D : Nat) : ∀ m l i, 0 ≤ cst N w D m l i ∧ cst N w D m l i ≤ m := by
  intro m
  induction m with
  | zero => intro l i; exact ⟨Int.le_refl _, Int.le_refl _⟩
  | succ m ih =>
    intro l i
    have h1 : 0 ≤ bst N w D m l i ∧ bst N w D m l i ≤ m := by
      unfold bst
      cases l == 0
      · exact mn_bd (ih l i) N fun j _ => (ih (l - 1) j).1
      · exact ih 0 i
    rw [cst_succ]
    have h2 : 0 ≤ (cond (w i (D - (m + 1))) 1 0 : Int) ∧ (cond (w i (D - (m + 1))) 1 0 : Int) ≤ 1 := by cases w i (D - (m + 1)) <;> decide
    omega
theorem cst_mono (D : Nat) : ∀ m l i, cst N w D m (l + 1) i ≤ cst N w D m l i := by
  intro m
  induction m with
  | zero => intro l i; exact Int.le_refl _
  | succ m ih =>
    intro l i
    rw [cst_succ, cst_succ]
    refine Int.add_le_add_right ?_ _
    unfold bst
    have e : (l + 1 == 0) = false := rfl
    rw [e]
    cases l with
    | zero => exact Int.le_trans (mn_le _ _ _) (ih 0 i)
    | succ l =>
      have e : (l + 1 == 0) = false := rfl
      rw [e]
      exact mn_mono (ih (l + 1) i) N fun j _ => ih l j

/-- The switches left if an expert is followed. -/
def nowK : Option Nat → Int → Nat → Int
  | none, k, _ => k
  | some e, k, i => if i = e then k else k - 1
def hitK (D m : Nat) (e : Option Nat) (k due : Int) (i : Nat) : Bool := decide (0 ≤ nowK e k i) && (cst N w D m (nowK e k i).toNat i == due)
/-- What holds of a day: the least can be had. -/
def CanK (D m : Nat) (e : Option Nat) (k : Nat) (due : Int) : Prop :=
  match e with
  | none => ∃ i, i < N ∧ cst N w D m k i = due
  | some e => e < N ∧ due = bst N w D m k e
theorem hit_ex {D m : Nat} {e : Option Nat} {k : Nat} {due : Int} (h : CanK N w D m e k due) : ∃ i, i < N ∧ hitK N w D m e k due i = true := by
  cases e with
  | none =>
    obtain ⟨i, hi, e⟩ := h
    refine ⟨i, hi, ?_⟩
    simp only [hitK, nowK, Bool.and_eq_true, decide_eq_true_eq, beq_iff_eq]
    exact ⟨decide_eq_true (Int.natCast_nonneg k), by rw [Int.toNat_natCast]; exact e⟩
  | some e =>
    obtain ⟨he, hd⟩ := h
    have same : cst N w D m k e = due → ∃ i, i < N ∧ hitK N w D m (some e) k due i = true := by
      intro h
      refine ⟨e, he, ?_⟩
      simp only [hitK, nowK, if_pos, Bool.and_eq_true, decide_eq_true_eq, beq_iff_eq]
      exact ⟨by omega, by rw [Int.toNat_natCast]; exact h⟩
    unfold bst at hd
    cases k with
    | zero => exact same hd.symm
    | succ k =>
      have e0 : (k + 1 == 0) = false := rfl
      rw [e0] at hd
      have hd : due = mn (cst N w D m k) N (cst N w D m (k + 1) e) := hd
      rcases mn_cases (cst N w D m k) (cst N w D m (k + 1) e) N with h | ⟨j, hj, h⟩
      · exact same (by rw [hd, h])
      · by_cases hje : j = e
        · subst hje
          have h1 := mn_le (cst N w D m k) (cst N w D m (k + 1) j) N
          have h2 := cst_mono N w D m k j
          exact same (by omega)
        · refine ⟨j, hj, ?_⟩
          simp only [hitK, nowK, if_neg hje, Bool.and_eq_true, decide_eq_true_eq, beq_iff_eq]
          refine ⟨by omega, ?_⟩
          have : (((k + 1 : Nat) : Int) - 1).toNat = k := by omega
          rw [this, hd, h]
theorem can_next {D m : Nat} {e : Option Nat} {k : Nat} {due : Int} {i : Nat} (hi : i < N) (h : hitK N w D (m + 1) e k due i = true) :
    CanK N w D m (some i) (nowK e k i).toNat (due - cond (w i (D - (m + 1))) 1 0) := by
  simp only [hitK, Bool.and_eq_true, decide_eq_true_eq, beq_iff_eq] at h
  refine ⟨hi, ?_⟩
  rw [← h.2, cst_succ]; omega

/-- The first place with a property. -/
def fh (h : Nat → Bool) : Nat → Nat → Nat
  | 0, i => i
  | f + 1, i => cond (h i) i (fh h f (i + 1))
theorem fh_spec {h : Nat → Bool} : ∀ {f i j : Nat}, i ≤ j → j < i + f → h j = true → i ≤ fh h f i ∧ fh h f i ≤ j ∧ h (fh h f i) = true := by
  intro f
  induction f with
  | zero => intro i j h1 h2; omega
  | succ f ih =>
    intro i j h1 h2 hj
    simp only [fh]
    cases e : h i with
    | true => exact ⟨Nat.le_refl _, h1, e⟩
    | false =>
      have : i ≠ j := by intro e'; rw [e', hj] at e; cases e
      obtain ⟨a, b, c⟩ := ih (i := i + 1) (j := j) (by omega) (by omega) hj
      exact ⟨by simp only [cond_false]; omega, b, c⟩
def pickK (D m : Nat) (e : Option Nat) (k due : Int) : Nat := fh (hitK N w D m e k due) N 0
theorem pick_ok {D m : Nat} {e : Option Nat} {k : Nat} {due : Int} (h : CanK N w D m e k due) : pickK N w D m e k due < N ∧ hitK N w D m e k due (pickK N w D m e k due) = true := by
  obtain ⟨j, hj, hh⟩ := hit_ex N w h
  obtain ⟨_, b, c⟩ := fh_spec (h := hitK N w D m e k due) (f := N) (i := 0) (Nat.zero_le _) (by omega) hh
  exact ⟨Nat.lt_of_le_of_lt b hj, c⟩
/-- The plan of the last m days. -/
def planK (D : Nat) : Nat → Option Nat → Int → Int → List Int
  | 0, _, _, _ => []
  | m + 1, e, k, due => (pickK N w D (m + 1) e k due : Int) :: planK D m (some (pickK N w D (m + 1) e k due)) (nowK e k (pickK N w D (m + 1) e k due)) (due - cond (w (pickK N w D (m + 1) e k due) (D - (m + 1))) 1 0)
theorem planK_length (D : Nat) : ∀ m e k due, (planK N w D m e k due).length = m := by
  intro m; induction m with
  | zero => intros; rfl
  | succ m ih => intros; simp [planK, ih]

end

/-! ### Tables filled from the last day on -/

section
variable {α : Type} (F : Nat → List α) (D : Nat)
/-- The days from d on are filled. -/
def hdT (d : Nat) : List (List α) := List.replicate d [] ++ (List.range' d (D + 1 - d)).map F
/-- The day d is filled in part. -/
def midT (d : Nat) (part : List α) : List (List α) := List.replicate d [] ++ part :: (List.range' (d + 1) (D - d)).map F
theorem hdT_top : hdT F D (D + 1) = List.replicate (D + 1) [] := by simp [hdT]
theorem hdT_mid {d : Nat} (h : d ≤ D) : hdT F D (d + 1) = midT F D d [] := by
  unfold hdT midT
  have e : D + 1 - (d + 1) = D - d := by omega
  rw [e, List.replicate_succ', List.append_assoc]; rfl
theorem midT_hd {d : Nat} (h : d ≤ D) : midT F D d (F d) = hdT F D d := by
  unfold hdT midT
  have e : D + 1 - d = (D - d) + 1 := by omega
  rw [e, List.range'_succ]; rfl
theorem midT_length {d : Nat} (h : d ≤ D) (part : List α) : (midT F D d part).length = D + 1 := by simp [midT]; omega
theorem midT_get {d : Nat} (part : List α) (e : List α) : (midT F D d part).getD d e = part := by
  unfold midT
  rw [getD_mid (by simp)]; rfl
theorem midT_set {d : Nat} (part x : List α) : (midT F D d part).set d x = midT F D d x := by
  unfold midT
  rw [set_at (by simp)]
theorem midT_next {d : Nat} (h : d < D) (part : List α) (e : List α) : (midT F D d part).getD (d + 1) e = F (d + 1) := by
  unfold midT
  have e1 : D - d = (D - (d + 1)) + 1 := by omega
  rw [e1, List.range'_succ]
  rw [List.getD_eq_getElem?_getD, List.getElem?_append_right (by simp)]
  simp
theorem hdT_zero : hdT F D 0 = (List.range (D + 1)).map F := by unfold hdT; rw [List.range_eq_range']; simp
end
theorem getD_range_map {α : Type} {f : Nat → α} {n i : Nat} (h : i < n) (d : α) : ((List.range n).map f).getD i d = f i := by
  rw [List.getD_eq_getElem?_getD]; simp [h]

end Go.Proofs.Ytcpepepdinkioaa.Ev
