/- Functions of the log's records: logs opened, in the specification and in the program. -/
import Derived.Test.YthgjpoeneihmnaaFnSE
namespace Go.Proofs.Ythgjpoeneihmnaa.Ev
open Go
set_option linter.unusedVariables false
set_option linter.unusedSimpArgs false
set_option maxRecDepth 100000
set_option exponentiation.threshold 100000

/-- The records at the start of a text, each with the length of its line. -/
def scan : Nat → Nat → Txt → List (Rec × Nat)
  | 0, _, _ => []
  | f + 1, k, s => if (10 : UInt8) ∈ s then (match dec k (bef 10 s) with
      | some e => (e, (bef 10 s).length + 1) :: scan f (k + 1) (aft 10 s)
      | none => [])
    else []
def tot1 (d : List (Rec × Nat)) : Nat := (d.map (·.2)).sum
def recsD (d : List (Rec × Nat)) : List shRec.den := d.map fun x => recD x.1
theorem tot1_snoc (d : List (Rec × Nat)) (x : Rec × Nat) : tot1 (d ++ [x]) = tot1 d + x.2 := by simp [tot1]
theorem recsD_snoc (d : List (Rec × Nat)) (x : Rec × Nat) : recsD (d ++ [x]) = recsD d ++ [recD x.1] := by simp [recsD]
theorem scan_no {f k : Nat} {s : Txt} (h : (10 : UInt8) ∉ s) : scan f k s = [] := by
  cases f with
  | zero => rfl
  | succ f => simp only [scan, if_neg h]
theorem scan_none {f k : Nat} {s : Txt} (h : dec k (bef 10 s) = none) : scan f k s = [] := by
  cases f with
  | zero => rfl
  | succ f => simp only [scan, h]; split <;> rfl
theorem scan_some {f k : Nat} {s : Txt} {e : Rec} (hm : (10 : UInt8) ∈ s) (h : dec k (bef 10 s) = some e) : scan (f + 1) k s = (e, (bef 10 s).length + 1) :: scan f (k + 1) (aft 10 s) := by
  simp only [scan, if_pos hm, h]
theorem scan_len : ∀ (f k : Nat) (s : Txt), (scan f k s).length ≤ f := by
  intro f
  induction f with
  | zero => intro k s; simp [scan]
  | succ f ih =>
    intro k s
    simp only [scan]
    split
    · split
      · simp; exact ih _ _
      · simp
    · simp
theorem scan_tot : ∀ (f k : Nat) (s : Txt), tot1 (scan f k s) ≤ s.length := by
  intro f
  induction f with
  | zero => intro k s; simp [scan, tot1]
  | succ f ih =>
    intro k s
    simp only [scan]
    split
    · rename_i hm
      split
      · have := ih (k + 1) (aft 10 s)
        have e := congrArg List.length (bef_aft hm)
        simp only [tot1, List.map_cons, List.sum_cons] at this ⊢
        simp at e; omega
      · simp [tot1]
    · simp [tot1]
def openR (s : Txt) : List (Rec × Nat) := scan 60 0 s

abbrev shRecS : Sh := .sl shRec
abbrev shRecSI : Sh := .pair shRecS (.pair tI .unit)
def oRecSI : Ow := .pr (.ow .fz) .fz
end Go.Proofs.Ythgjpoeneihmnaa.Ev
