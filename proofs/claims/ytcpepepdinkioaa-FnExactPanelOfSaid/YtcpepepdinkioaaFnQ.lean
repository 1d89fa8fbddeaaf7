/- Points on which sides are wrong: choices of planes, juries. -/
import Derived.Test.YtcpepepdinkioaaFnP
namespace Go.Proofs.Ytcpepepdinkioaa.Ev
open Go
set_option linter.unusedVariables false
set_option linter.unusedSimpArgs false
set_option maxRecDepth 100000
set_option exponentiation.threshold 100000

def missB (s : Sample) (f : List Int → Int) (n : Nat) : Bool := !(f (s.1.getD n tIS.dflt) == s.2.1.getD n tI.dflt)
def missL (s : Sample) (f : List Int → Int) : Nat → List Int
  | 0 => []
  | n + 1 => cond (missB s f n) (missL s f n ++ [(n : Int)]) (missL s f n)
theorem missL_len (s : Sample) (f : List Int → Int) : ∀ n, (missL s f n).length ≤ n := by
  intro n
  induction n with
  | zero => simp [missL]
  | succ n ih => simp only [missL]; cases missB s f n <;> simp <;> omega
theorem missL_yes {s : Sample} {f : List Int → Int} {n : Nat} (h : missB s f n = true) : missL s f (n + 1) = missL s f n ++ [(n : Int)] := by simp only [missL, h, cond_true]
theorem missL_no {s : Sample} {f : List Int → Int} {n : Nat} (h : missB s f n = false) : missL s f (n + 1) = missL s f n := by simp only [missL, h, cond_false]

/-- What suits. -/
structure Suit (s : Sample) (p : Plane) : Prop where
  lab : s.2.1.length = s.1.length
  few : s.1.length ≤ 16
  wid : p.1.length ≤ 4
  pts : ∀ j, j < s.1.length → (s.1.getD j tIS.dflt).length = p.1.length

theorem suit_of {s : Sample} {p : Plane} (h : suits s p = true) : Suit s p := by
  unfold suits isSample isPlane inB at h
  simp only [Bool.and_eq_true, decide_eq_true_eq, beq_iff_eq, Bool.or_eq_true] at h
  obtain ⟨⟨⟨h1, h2⟩, h3, h4⟩, ⟨⟨h5, h6⟩, h7⟩, h8⟩ := h
  refine ⟨h2, h1, by omega, ?_⟩
  intro j hj
  have a := List.all_eq_true.1 h3 _ (getD_mem hj tIS.dflt)
  simp only [okPt, Bool.and_eq_true, beq_iff_eq] at a
  omega

/-! ### Choices -/

def choice (root low high : Plane) (x : List Int) : Int := if side root x == 1 then side high x else side low x

structure Suit3 (s : Sample) (a b c : Plane) : Prop where
  a : Suit s a
  b : Suit s b
  c : Suit s c

def suits3 (s : Sample) (a b c : Plane) : Bool := suits s a && (suits s b && suits s c)
theorem suit3_of {s : Sample} {a b c : Plane} (h : suits3 s a b c = true) : Suit3 s a b c := by
  unfold suits3 at h
  simp only [Bool.and_eq_true] at h
  exact ⟨suit_of h.1, suit_of h.2.1, suit_of h.2.2⟩
def choR (s : Sample) (a b c : Plane) : List Int × Bool × Unit := if suits3 s a b c then (missL s (choice a b c) s.1.length, true, ()) else ([], false, ())
theorem choR_no {s : Sample} {a b c : Plane} (h : suits3 s a b c = false) : choR s a b c = ([], false, ()) := by simp [choR, h]
theorem choR_yes {s : Sample} {a b c : Plane} (h : suits3 s a b c = true) : choR s a b c = (missL s (choice a b c) s.1.length, true, ()) := by simp [choR, h]
theorem choR_short {s : Sample} {a b c : Plane} : (choR s a b c).1.length ≤ 1048576 := by
  cases h : suits3 s a b c with
  | true =>
    rw [choR_yes h]
    have := missL_len s (choice a b c) s.1.length
    have := (suit3_of h).a.few
    show (missL s (choice a b c) s.1.length).length ≤ _
    omega
  | false => rw [choR_no h]; simp

end Go.Proofs.Ytcpepepdinkioaa.Ev
