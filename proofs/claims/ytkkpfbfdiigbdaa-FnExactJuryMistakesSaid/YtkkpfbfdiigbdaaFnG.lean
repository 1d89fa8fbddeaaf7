/- Steps of a plane. -/
import Derived.Test.YtkkpfbfdiigbdaaFnF
namespace Go.Proofs.Ytkkpfbfdiigbdaa.Ev
open Go
set_option linter.unusedVariables false
set_option linter.unusedSimpArgs false
set_option maxRecDepth 100000
set_option exponentiation.threshold 100000

theorem not_true {b : Bool} (h : (!b) = true) : b = false := by simpa using h
theorem not_false {b : Bool} (h : (!b) = false) : b = true := by simpa using h

def addW : List Int → List Int → Int → List Int
  | w :: ws, x :: xs, l => IntKind.i64.wrap (w + IntKind.i64.wrap (l * x)) :: addW ws xs l
  | ws, _, _ => ws

theorem addW_length : ∀ (ws xs : List Int) (l : Int), (addW ws xs l).length = ws.length := by
  intro ws
  induction ws with
  | nil => intro xs l; cases xs <;> rfl
  | cons w ws ih => intro xs l; cases xs with
    | nil => rfl
    | cons x xs => simp [addW, ih]

theorem addW_snoc : ∀ (ws xs : List Int) (w x l : Int), ws.length = xs.length → addW (ws ++ [w]) (xs ++ [x]) l = addW ws xs l ++ [IntKind.i64.wrap (w + IntKind.i64.wrap (l * x))] := by
  intro ws
  induction ws with
  | nil => intro xs w x l h; cases xs with | nil => rfl | cons => simp at h
  | cons a ws ih => intro xs w x l h; cases xs with
    | nil => simp at h
    | cons b xs => simp only [List.cons_append, addW, ih xs w x l (by simpa using h)]

theorem addW_step {ws xs : List Int} {l : Int} {n : Nat} (h : n < xs.length) (he : xs.length = ws.length) (d e : Int) :
    (addW (ws.take n) (xs.take n) l ++ ws.drop n).set n (IntKind.i64.wrap (((addW (ws.take n) (xs.take n) l ++ ws.drop n).getD n d) + IntKind.i64.wrap (l * xs.getD n e))) = addW (ws.take (n + 1)) (xs.take (n + 1)) l ++ ws.drop (n + 1) := by
  have hl : (addW (ws.take n) (xs.take n) l).length = n := by rw [addW_length]; simp; omega
  rw [getD_mid hl, drop_getD ws (by omega) 0, set_at hl, take_getD ws (by omega) 0, take_getD xs h e, addW_snoc _ _ _ _ _ (by simp; omega)]
  simp

def stepTo (p : Plane) (x : List Int) (l : Int) : Plane := (addW p.1 x l, IntKind.i64.wrap (p.2.1 - l), ())
abbrev shPlB : Sh := .pair shPlane (.pair .bool .unit)

def zeroPlane : Plane := ([], 0, ())
def okStep (p : Plane) (x : List Int) (l : Int) : Bool := meets p x && isLabel l
def nextP (p : Plane) (x : List Int) (l : Int) : Plane := if side p x = l then p else stepTo p x l
/-- What a step comes to. -/
def stepR (p : Plane) (x : List Int) (l : Int) : Plane × Bool × Bool × Unit :=
  if okStep p x l && isPlane (nextP p x l) then (nextP p x l, !(side p x == l), true, ()) else (zeroPlane, false, false, ())
abbrev shStep : Sh := .pair shPlane (.pair .bool (.pair .bool .unit))
def oStep : Ow := .pr shPlane.full .fz

theorem meets_len {p : Plane} {x : List Int} (h : meets p x = true) : x.length = p.1.length := by
  unfold meets at h; simp at h; exact h.2.2

theorem has_label (l : Int) : ([1, -1] : List Int).any (· == l) = isLabel l := by
  unfold isLabel
  rw [Bool.eq_iff_iff]; simp; omega

theorem meets_plane {p : Plane} {x : List Int} (h : isPlane p = false) : meets p x = false := by unfold meets; rw [h]; rfl

end Go.Proofs.Ytkkpfbfdiigbdaa.Ev
