/- Records read by the program; valid logs. -/
import Derived.Test.YthgjpoeneihmnaaFnSG
namespace Go.Proofs.Ythgjpoeneihmnaa.Ev
open Go
set_option linter.unusedVariables false
set_option linter.unusedSimpArgs false
set_option maxRecDepth 100000
set_option exponentiation.threshold 100000

def progE (s : Txt) : Rec := (bef 64 (aft 32 (verT s)), aft 64 (aft 32 (verT s)))
theorem prog_yes {k : Nat} {s : Txt} (h1 : okRec (progE s) = true) (h2 : lineOf k (progE s) = s ++ [10]) : dec k s = some (progE s) := dec_of h1 h2
theorem prog_of {k : Nat} {s : Txt} {e : Rec} (hk : k < 60) (h : dec k s = some e) : progE s = e := by
  obtain ⟨h1, h2⟩ := dec_some h
  have O := okRec_of h1
  have hs := line_eq h2
  have hb : bef 35 s = body k e := by rw [hs]; exact seal_bef (body_no O)
  have hv : okVer s = true := by
    unfold okVer
    rw [hb, okSeal_body h1 (by omega), decide_eq_true hs.symm]; rfl
  have ht : verT s = body k e := by unfold verT; rw [if_pos hv, hb]
  have ha : aft 32 (body k e) = e.1 ++ 64 :: e.2 := by
    have : body k e = Lib.decDigits k ++ 32 :: (e.1 ++ 64 :: e.2) := by unfold body ahead; simp
    rw [this]; exact aft_app (dec_not (by decide))
  unfold progE
  rw [ht, ha, bef_app O.h2, aft_app O.h2]
theorem prog_no {k : Nat} {s : Txt} (hk : k < 60) (h : okRec (progE s) = false ∨ lineOf k (progE s) ≠ s ++ [10]) : dec k s = none := by
  cases q : dec k s with
  | none => rfl
  | some e =>
    have e1 := prog_of hk q
    obtain ⟨h1, h2⟩ := dec_some q
    rw [e1] at h
    rcases h with h | h
    · rw [h1] at h; cases h
    · exact absurd h2 h

theorem verT_len (s : Txt) : (verT s).length ≤ s.length := by
  unfold verT
  split
  · exact bef_length_le _ _
  · simp

def endsOf : List (Rec × Nat) → Nat → List Int
  | [], a => [(a : Int)]
  | x :: d, a => (a : Int) :: endsOf d (a + x.2)
theorem endsOf_snoc (x : Rec × Nat) : ∀ (d : List (Rec × Nat)) (a : Nat), endsOf (d ++ [x]) a = endsOf d a ++ [((a + tot1 d + x.2 : Nat) : Int)] := by
  intro d
  induction d with
  | nil => intro a; simp [endsOf, tot1]
  | cons y d ih =>
    intro a
    simp only [List.cons_append, endsOf, ih, tot1, List.map_cons, List.sum_cons]
    have : a + y.2 + (d.map (·.2)).sum + x.2 = a + (y.2 + (d.map (·.2)).sum) + x.2 := by omega
    rw [this]
theorem endsOf_len : ∀ (d : List (Rec × Nat)) (a : Nat), (endsOf d a).length = d.length + 1 := by
  intro d
  induction d with
  | nil => intro a; rfl
  | cons y d ih => intro a; simp [endsOf, ih]
theorem endsOf_last : ∀ (d : List (Rec × Nat)) (a : Nat), (endsOf d a).getD d.length 0 = ((a + tot1 d : Nat) : Int) := by
  intro d
  induction d with
  | nil => intro a; simp [endsOf, tot1]
  | cons y d ih =>
    intro a
    simp only [endsOf, List.length_cons, List.getD_cons_succ, ih, tot1, List.map_cons, List.sum_cons]
    congr 1; omega

abbrev shRecI : Sh := .pair shRecS (.pair tIS .unit)
def oRecI : Ow := .pr (.ow .fz) (.pr (.ow .fz) .fz)
end Go.Proofs.Ythgjpoeneihmnaa.Ev
