/- Copies, turned and moved samples, steps of a plane. -/
import Derived.Test.YtkkpfbfdiigbdaaFnE
namespace Go.Proofs.Ytkkpfbfdiigbdaa.Ev
open Go
set_option linter.unusedVariables false
set_option linter.unusedSimpArgs false
set_option maxRecDepth 100000
set_option exponentiation.threshold 100000

/-! ### Turned labels -/

def negW (n : Int) : Int := IntKind.i64.wrap (n * -1)
def negS (n : Int) : Int := IntKind.i64.wrap (0 - n)
theorem negW_eq (n : Int) : negW n = negS n := by unfold negW negS; congr 1; omega

theorem map_take_snoc {α β : Type} (f : α → β) (l : List α) {n : Nat} (h : n < l.length) (d : α) : (l.take (n + 1)).map f = (l.take n).map f ++ [f (l.getD n d)] := by
  rw [take_getD l h d]; simp

def zeroSample : Sample := ([], [], ())
def turnL (s : Sample) : Sample := if isSample s then (s.1, s.2.1.map negS, ()) else zeroSample
theorem turnL_no {s : Sample} (h : isSample s = false) : turnL s = zeroSample := by simp [turnL, h]
theorem turnL_yes {s : Sample} (h : isSample s = true) : turnL s = (s.1, s.2.1.map negS, ()) := by simp [turnL, h]

abbrev shSaB : Sh := .pair shSample (.pair .bool .unit)
def oSaB : Ow := .pr shSample.full .fz

theorem set_map {l : List Int} {f : Int → Int} {n : Nat} (h : n < l.length) (d : Int) : ((l.take n).map f ++ l.drop n).set n (f (l.getD n d)) = (l.take (n + 1)).map f ++ l.drop (n + 1) := by
  rw [drop_getD l h d, set_at (by simp; omega), map_take_snoc f l h d]; simp

theorem getD_mid {α : Type} {a b : List α} {n : Nat} (h : a.length = n) (d : α) : (a ++ b).getD n d = b.getD 0 d := by
  rw [List.getD_eq_getElem?_getD, List.getElem?_append_right (by omega), h, Nat.sub_self, ← List.getD_eq_getElem?_getD]

theorem getD_map {l : List Int} {f : Int → Int} {n : Nat} (h : n < l.length) (d e : Int) : ((l.take n).map f ++ l.drop n).getD n d = l.getD n e := by
  rw [getD_mid (by simp; omega), drop_getD l h e]; rfl

end Go.Proofs.Ytkkpfbfdiigbdaa.Ev
