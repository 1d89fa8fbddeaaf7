/- Valid logs. -/
import Derived.Test.YthgjpoeneihmnaaFnSH
namespace Go.Proofs.Ythgjpoeneihmnaa.Ev
open Go
set_option linter.unusedVariables false
set_option linter.unusedSimpArgs false
set_option maxRecDepth 100000
set_option exponentiation.threshold 100000

def ixOf : List Int → Int → Int → Int
  | [], _, _ => -1
  | a :: l, x, i => if x = a then i else ixOf l x (i + 1)
theorem ixOf_nonneg (x : Int) : ∀ (l : List Int) (i : Int), 0 ≤ i → (0 ≤ ixOf l x i ↔ x ∈ l) := by
  intro l
  induction l with
  | nil => intro i hi; simp [ixOf]
  | cons a l ih =>
    intro i hi
    simp only [ixOf, List.mem_cons]
    by_cases h : x = a
    · simp [h]; exact hi
    · simp only [if_neg h, h, false_or]; exact ih (i + 1) (by omega)

/-! ### Where a text's own part ends -/

theorem bef_in {D P : Txt} (h : (10 : UInt8) ∈ D) : bef 10 (D ++ P) = bef 10 D ∧ aft 10 (D ++ P) = aft 10 D ++ P := by
  have e := bef_aft h
  have hn := not_mem_bef 10 D
  have e2 : D ++ P = bef 10 D ++ 10 :: (aft 10 D ++ P) := by
    have : D ++ P = (bef 10 D ++ 10 :: aft 10 D) ++ P := congrArg (· ++ P) e
    rw [this]; simp
  exact ⟨by rw [e2]; exact bef_app hn, by rw [e2]; exact aft_app hn⟩
theorem bef_ge {P : Txt} : ∀ {D : Txt}, (10 : UInt8) ∉ D → D.length ≤ (bef 10 (D ++ P)).length := by
  intro D
  induction D with
  | nil => intro _; simp
  | cons b D ih =>
    intro h
    have hb : ¬ b = 10 := fun e => h (by simp [e])
    simp only [List.cons_append, bef, if_neg hb, List.length_cons]
    have := ih (fun e => h ((mem_ne hb).2 e))
    omega
theorem ends_ge : ∀ (d : List (Rec × Nat)) (a : Nat) (x : Int), x ∈ endsOf d a → (a : Int) ≤ x := by
  intro d
  induction d with
  | nil => intro a x h; simp [endsOf] at h; omega
  | cons y d ih =>
    intro a x h
    simp only [endsOf, List.mem_cons] at h
    rcases h with h | h
    · omega
    · have := ih _ _ h; omega
theorem scan_split {P : Txt} : ∀ (f k : Nat) (D : Txt) (a : Nat), (((a + D.length : Nat) : Int) ∈ endsOf (scan f k (D ++ P)) a ↔ tot1 (scan f k D) = D.length) := by
  intro f
  induction f with
  | zero =>
    intro k D a
    simp only [scan, endsOf, tot1, List.map_nil, List.sum_nil, List.mem_singleton]
    omega
  | succ f ih =>
    intro k D a
    cases hD : D with
    | nil =>
      rw [scan_no (f := f + 1) (k := k) (s := []) (by simp)]
      have : (a : Int) ∈ endsOf (scan (f + 1) k ([] ++ P)) a := by
        cases scan (f + 1) k ([] ++ P) <;> simp [endsOf]
      simp only [List.length_nil, Nat.add_zero]
      exact ⟨fun _ => rfl, fun _ => this⟩
    | cons b D0 =>
      have hpos : 0 < (b :: D0).length := by simp
      rw [← hD] at hpos ⊢
      by_cases hm : (10 : UInt8) ∈ D
      · obtain ⟨e1, e2⟩ := bef_in (P := P) hm
        have hm2 : (10 : UInt8) ∈ D ++ P := List.mem_append_left _ hm
        have hlen := congrArg List.length (bef_aft hm)
        simp only [List.length_append, List.length_cons] at hlen
        cases q : dec k (bef 10 D) with
        | none =>
          rw [scan_none q, scan_none (by rw [e1]; exact q)]
          simp only [endsOf, tot1, List.map_nil, List.sum_nil, List.mem_singleton]
          constructor <;> intro h <;> omega
        | some e =>
          rw [scan_some hm q, scan_some hm2 (by rw [e1]; exact q), e1, e2]
          have := ih (k + 1) (aft 10 D) (a + ((bef 10 D).length + 1))
          simp only [endsOf, List.mem_cons, tot1, List.map_cons, List.sum_cons] at this ⊢
          have e3 : a + ((bef 10 D).length + 1) + (aft 10 D).length = a + D.length := by omega
          rw [e3] at this
          have e4 : ¬ ((a + D.length : Nat) : Int) = (a : Int) := by omega
          simp only [e4, false_or, this]
          omega
      · rw [scan_no (f := f + 1) (k := k) (s := D) hm]
        have hge := bef_ge (P := P) hm
        have : tot1 ([] : List (Rec × Nat)) = 0 := rfl
        rw [this]
        refine ⟨fun h => ?_, fun h => by omega⟩
        exfalso
        by_cases hm2 : (10 : UInt8) ∈ D ++ P
        · cases q : dec k (bef 10 (D ++ P)) with
          | none =>
            rw [scan_none q] at h
            simp [endsOf] at h; omega
          | some e =>
            rw [scan_some hm2 q] at h
            simp only [endsOf, List.mem_cons] at h
            rcases h with h | h
            · omega
            · have := ends_ge _ _ _ h
              omega
        · rw [scan_no hm2] at h
          simp [endsOf] at h; omega

/-! ### Valid logs -/

abbrev shLog : Sh := .pair .str (.pair .str (.pair tI .unit))
abbrev LogD := Txt × Txt × Int
def logD (l : LogD) : shLog.den := (mk l.1, mk l.2.1, l.2.2, ())
def validL (l : LogD) : Bool := decide (l.1.length + l.2.1.length ≤ 30000) && (decide (tot1 (openR (l.1 ++ l.2.1)) = l.1.length + l.2.1.length) && (decide (l.2.2 = (openR (l.1 ++ l.2.1)).length) && decide (tot1 (openR l.1) = l.1.length)))

theorem eq_dec {a b : Nat} {c : Int} (h : a = b) : (((a : Nat) : Int) == c) = decide (c = (b : Int)) := by
  subst h
  by_cases e : c = (a : Int)
  · rw [e]; simp
  · rw [decide_eq_false e, beq_eq_false_iff_ne]; exact fun g => e g.symm

end Go.Proofs.Ythgjpoeneihmnaa.Ev
