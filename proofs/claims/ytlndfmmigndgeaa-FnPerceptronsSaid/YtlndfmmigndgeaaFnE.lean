/- Sizes of arguments, and the arguments as the program's own values. -/
import Derived.Test.YtlndfmmigndgeaaFnD
namespace Go.Proofs.Ytlndfmmigndgeaa.Ev
open Go
set_option linter.unusedVariables false
set_option linter.unusedSimpArgs false
set_option maxRecDepth 100000
set_option exponentiation.threshold 100000

abbrev maxL : Nat := 9223372036854775807

def szL (n : Nat) (k : Int) : Int := if k - n < 0 then -1 else k - n

theorem szL_le {n : Nat} {k : Int} (h : 0 ≤ szL n k) : (n : Int) ≤ k ∧ szL n k = k - n := by
  unfold szL at h ⊢; split at h
  · omega
  · rename_i g; rw [if_neg g]; omega

theorem wrap_sub {n : Nat} {k : Int} (hn : n ≤ maxL) (h0 : 0 ≤ k) (hk : k ≤ 1048576) : IntKind.i64.wrap (k - n) = k - n := by
  unfold maxL at hn; exact wrap_in (by omega) (by omega)

/-- Sizes, one behind the other; -1 from the first that does not fit. -/
def szAll : List Nat → Int → Int
  | [], k => k
  | n :: r, k => if szL n k < 0 then -1 else szAll r (szL n k)

theorem szAll_le : ∀ {l : List Nat} {k : Int}, 0 ≤ k → 0 ≤ szAll l k → szAll l k ≤ k ∧ ∀ n ∈ l, (n : Int) ≤ k := by
  intro l
  induction l with
  | nil => intro k _ h; exact ⟨Int.le_refl _, fun n hn => by simp at hn⟩
  | cons n l ih =>
    intro k h0 h
    unfold szAll at h ⊢
    split at h
    · omega
    · rename_i g
      rw [if_neg g]
      obtain ⟨h1, h2⟩ := szL_le (Int.not_lt.1 g)
      obtain ⟨h3, h4⟩ := ih (Int.not_lt.1 g) h
      refine ⟨by omega, fun m hm => ?_⟩
      rcases List.mem_cons.1 hm with rfl | hm
      · exact h1
      · have := h4 m hm; omega

def szSS (l : List (List Int)) (k : Int) : Int := szAll (l.length :: l.map List.length) k

theorem szSS_fit {a : List (List Int)} {k : Int} (h0 : 0 ≤ k) (hk : k ≤ 1048576) (h : 0 ≤ szSS a k) : Fit2 a ∧ szSS a k ≤ k := by
  obtain ⟨h1, h2⟩ := szAll_le h0 h
  refine ⟨⟨by have := h2 a.length (by simp); omega, fun x hx => ?_⟩, h1⟩
  have := h2 x.length (by simp; exact .inr ⟨x, hx, rfl⟩)
  omega

def sz2 (f g : Int → Int) (k : Int) : Int := if f k < 0 then -1 else if g (f k) < 0 then -1 else g (f k)

def szSa (s : Sample) : Int → Int := sz2 (szSS s.1) (szL s.2.1.length)

structure LimS (s : Sample) : Prop where
  p : s.1.length ≤ maxL
  q : ∀ x ∈ s.1, x.length ≤ maxL
  l : s.2.1.length ≤ maxL

theorem szL_bd {n : Nat} {k : Int} (h0 : 0 ≤ k) (hk : k ≤ 1048576) : szL n k ≤ 1048576 := by unfold szL; split <;> omega

theorem szSa_fit {s : Sample} {k : Int} (h0 : 0 ≤ k) (hk : k ≤ 1048576) (h : 0 ≤ szSa s k) : FitS s ∧ szSa s k ≤ k := by
  unfold szSa sz2 at h ⊢
  split at h
  · omega
  · rename_i g
    split at h
    · omega
    · rename_i g'
      rw [if_neg g, if_neg g']
      obtain ⟨h1, h2⟩ := szSS_fit h0 hk (Int.not_lt.1 g)
      obtain ⟨h3, h4⟩ := szL_le (Int.not_lt.1 g')
      exact ⟨⟨h1, by omega⟩, by omega⟩

def szSc (s : School) : Int → Int := sz2 (szSa s.1) (szL s.2.1.1.length)

theorem szSc_fit {s : School} {k : Int} (h0 : 0 ≤ k) (hk : k ≤ 1048576) (h : 0 ≤ szSc s k) : FitSc s ∧ szSc s k ≤ k := by
  unfold szSc sz2 at h ⊢
  split at h
  · omega
  · rename_i g
    split at h
    · omega
    · rename_i g'
      rw [if_neg g, if_neg g']
      obtain ⟨h1, h2⟩ := szSa_fit h0 hk (Int.not_lt.1 g)
      obtain ⟨h3, h4⟩ := szL_le (Int.not_lt.1 g')
      exact ⟨⟨h1, by omega⟩, by omega⟩

/-! ### The program's own values -/

theorem set_repl {α : Type} {l : List α} {n : Nat} {d : α} (h : n < l.length) (e : α) : (l.take n ++ List.replicate (l.length - n) d).set n (l.getD n e) = l.take (n + 1) ++ List.replicate (l.length - (n + 1)) d := by
  have : l.length - n = (l.length - (n + 1)) + 1 := by omega
  rw [this, List.replicate_succ, set_at (by simp; omega), take_getD l h e]
  simp

theorem lim_list {l : List Int} (h : WfD tIS l) : l.length ≤ maxL := by
  have := h.2.1; simpa [maxLen] using this
theorem lim_lists {l : List (List Int)} (h : WfD tISS l) : l.length ≤ maxL ∧ ∀ x ∈ l, x.length ≤ maxL :=
  ⟨by have := h.2.1; simpa [maxLen] using this, fun x hx => lim_list (h.2.2 x hx)⟩
theorem lim_sample {s : Sample} (h : WfD shSample s) : LimS s := ⟨(lim_lists h.1).1, (lim_lists h.1).2, lim_list h.2.1⟩

end Go.Proofs.Ytlndfmmigndgeaa.Ev
