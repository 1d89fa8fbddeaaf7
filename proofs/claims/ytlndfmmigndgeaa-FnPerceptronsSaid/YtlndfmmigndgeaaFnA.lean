/- Functions of the laws' own: equality, marks, what is held; lists of numbers and what is made of them. -/
import Derived.Test.YtlndfmmigndgeaaFd
namespace Go.Proofs.Ytlndfmmigndgeaa.Ev
open Go
set_option linter.unusedVariables false
set_option linter.unusedSimpArgs false
set_option maxRecDepth 100000
set_option exponentiation.threshold 100000

theorem gT {b : Bool} (h : (b == true) = true) : b = true := by simpa using h
theorem gF {b : Bool} (h : (b == true) = false) : b = false := by simpa using h
theorem hT {b : Bool} (h : (b == false) = true) : b = false := by simpa using h
theorem hF {b : Bool} (h : (b == false) = false) : b = true := by simpa using h

/-! ### Lists -/

theorem drop_getD {α : Type} (l : List α) {n : Nat} (h : n < l.length) (d : α) : l.drop n = l.getD n d :: l.drop (n + 1) := by
  rw [List.drop_eq_getElem_cons h]
  congr 1
  rw [List.getD_eq_getElem?_getD, List.getElem?_eq_getElem h]; rfl

theorem take_getD {α : Type} (l : List α) {n : Nat} (h : n < l.length) (d : α) : l.take (n + 1) = l.take n ++ [l.getD n d] := by
  rw [List.take_succ_eq_append_getElem h]
  congr 2
  rw [List.getD_eq_getElem?_getD, List.getElem?_eq_getElem h]; rfl

theorem getD_mem {α : Type} {l : List α} {n : Nat} (h : n < l.length) (d : α) : l.getD n d ∈ l := by
  rw [List.getD_eq_getElem?_getD, List.getElem?_eq_getElem h]
  exact List.getElem_mem h

theorem drop_len {α : Type} {l : List α} {n : Nat} (h : ¬ n < l.length) : l.drop n = [] := List.drop_eq_nil_of_le (by omega)

/-- Bounds of lists of lists. -/
def Fit2 (l : List (List Int)) : Prop := l.length ≤ 1048576 ∧ ∀ x ∈ l, x.length ≤ 1048576

theorem Fit2.at {l : List (List Int)} (h : Fit2 l) {n : Nat} (hn : n < l.length) (d : List Int) : (l.getD n d).length ≤ 1048576 := h.2 _ (getD_mem hn d)

/-! ### Equality -/

abbrev shSample : Sh := .pair tISS (.pair tIS .unit)
abbrev shPlane : Sh := .pair tIS (.pair tI .unit)
abbrev shSchool : Sh := .pair shSample (.pair shPlane (.pair tI (.pair tI .unit)))
abbrev Sample := List (List Int) × List Int × Unit
abbrev Plane := List Int × Int × Unit
abbrev School := Sample × Plane × Int × Int × Unit

structure FitS (s : Sample) : Prop where
  p : Fit2 s.1
  l : s.2.1.length ≤ 1048576

structure FitSc (s : School) : Prop where
  sm : FitS s.1
  pl : s.2.1.1.length ≤ 1048576

/-! ### Marks -/

def marks : Nat → Int → List Int
  | 0, _ => []
  | n + 1, k => k :: marks n (k + 1)
theorem marks_length : ∀ n k, (marks n k).length = n := by
  intro n; induction n with
  | zero => intro k; rfl
  | succ n ih => intro k; simp [marks, ih]
theorem marks_snoc : ∀ n k, marks (n + 1) k = marks n k ++ [k + n] := by
  intro n; induction n with
  | zero => intro k; simp [marks]
  | succ n ih =>
    intro k
    rw [marks, ih]
    simp [marks]; omega
theorem set_at {α : Type} {a b : List α} {n : Nat} {x y : α} (h : a.length = n) : (a ++ x :: b).set n y = a ++ y :: b := by
  rw [List.set_append_right _ _ (by omega), h, Nat.sub_self]; rfl
theorem set_marks {l : List Int} {n : Nat} {k : Int} (h : n < l.length) : (marks n k ++ l.drop n).set n (k + n) = marks (n + 1) k ++ l.drop (n + 1) := by
  rw [marks_snoc, drop_getD l h 0, set_at (marks_length n k)]
  simp

/-- All of several lists. -/
def tot : List (List Int) → Nat
  | [] => 0
  | x :: r => x.length + tot r
def marksS : List (List Int) → Int → List (List Int)
  | [], _ => []
  | x :: r, k => marks x.length k :: marksS r (k + x.length)
theorem tot_snoc (l : List (List Int)) (x : List Int) : tot (l ++ [x]) = tot l + x.length := by
  induction l with
  | nil => simp [tot]
  | cons y l ih => simp [tot, ih]; omega
theorem marksS_snoc (l : List (List Int)) (x : List Int) : ∀ k, marksS (l ++ [x]) k = marksS l k ++ [marks x.length (k + tot l)] := by
  induction l with
  | nil => intro k; simp [marksS, tot]
  | cons y l ih => intro k; simp [marksS, tot, ih]; congr 1; omega
theorem marksS_length (l : List (List Int)) : ∀ k, (marksS l k).length = l.length := by
  induction l with
  | nil => intro k; rfl
  | cons y l ih => intro k; simp [marksS, ih]
theorem tot_take_le (l : List (List Int)) : ∀ n, tot (l.take n) ≤ tot l := by
  induction l with
  | nil => intro n; simp [tot]
  | cons y l ih =>
    intro n
    cases n with
    | zero => simp [tot]
    | succ n => simp [tot]; exact ih n

/-- What the box of a slot holds. -/
def boxSample (x : List (List Int)) (y : List Int) (u : Unit) : AV := .pair .unit (.pair (.own tIS (.ow .fz) x) (.pair (.own tI .fz y) (.d .unit u)))
def boxPlane (x : List Int) (b : Int × Unit) : AV := .pair .unit (.pair (.own tI .fz x) (.d (.pair tI .unit) b))
def boxSchool (x : List (List Int)) (y z : List Int) (u : Unit) (b : Int × Unit) (c : Int × Int × Unit) : AV :=
  .pair .unit (.pair (.pair (.own tIS (.ow .fz) x) (.pair (.own tI .fz y) (.d .unit u))) (.pair (.pair (.own tI .fz z) (.d (.pair tI .unit) b)) (.d (.pair tI (.pair tI .unit)) c)))

/-! ### What is held -/

theorem marks_getD : ∀ (n m : Nat) (k : Int) (d : Int), m < n → (marks n k).getD m d = k + m := by
  intro n
  induction n with
  | zero => intro m k d h; omega
  | succ n ih =>
    intro m k d h
    cases m with
    | zero => simp [marks]
    | succ m =>
      have := ih m (k + 1) d (by omega)
      simp only [marks, List.getD_cons_succ, this]
      simp; omega

theorem marksS_getD : ∀ (l : List (List Int)) (m : Nat) (k : Int) (d e : List Int), m < l.length → (marksS l k).getD m d = marks (l.getD m e).length (k + tot (l.take m)) := by
  intro l
  induction l with
  | nil => intro m k d e h; simp at h
  | cons x l ih =>
    intro m k d e h
    cases m with
    | zero => simp [marksS, tot]
    | succ m =>
      have := ih m (k + x.length) d e (by simpa using h)
      simp only [marksS, List.getD_cons_succ, this, List.take_succ_cons, tot]
      congr 1; simp; omega

end Go.Proofs.Ytlndfmmigndgeaa.Ev
