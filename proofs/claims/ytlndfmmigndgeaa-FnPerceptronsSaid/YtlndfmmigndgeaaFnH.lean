/- Moved samples. -/
import Derived.Test.YtlndfmmigndgeaaFnG
namespace Go.Proofs.Ytlndfmmigndgeaa.Ev
open Go
set_option linter.unusedVariables false
set_option linter.unusedSimpArgs false
set_option maxRecDepth 100000
set_option exponentiation.threshold 100000

/-- A place of a state holds a slice. -/
def Holds (st : St) (q : Pl) (e : Sh) (o : Ow) (x : List e.den) : Prop := ∀ K : AV → Prop, K (.own e o x) → GetP st q K

def addL : List Int → List Int → List Int
  | x :: a, y :: b => IntKind.i64.wrap (x + y) :: addL a b
  | _, _ => []

theorem addL_length : ∀ (a b : List Int), a.length ≤ b.length → (addL a b).length = a.length := by
  intro a
  induction a with
  | nil => intro b _; cases b <;> rfl
  | cons x a ih => intro b h; cases b with
    | nil => simp at h
    | cons y b => simp [addL, ih b (by simpa using h)]

theorem addL_snoc : ∀ (a b : List Int) (x y : Int), a.length = b.length → addL (a ++ [x]) (b ++ [y]) = addL a b ++ [IntKind.i64.wrap (x + y)] := by
  intro a
  induction a with
  | nil => intro b x y h; cases b with | nil => rfl | cons => simp at h
  | cons c a ih => intro b x y h; cases b with
    | nil => simp at h
    | cons d b => simp only [List.cons_append, addL, ih b x y (by simpa using h)]

theorem addL_take {a b : List Int} {n : Nat} (h1 : n < a.length) (h2 : n < b.length) (d e : Int) : addL (a.take (n + 1)) (b.take (n + 1)) = addL (a.take n) (b.take n) ++ [IntKind.i64.wrap (a.getD n d + b.getD n e)] := by
  rw [take_getD a h1 d, take_getD b h2 e, addL_snoc _ _ _ _ (by simp; omega)]

def okMove (s : Sample) (v : List Int) : Bool := isSample s && (!(s.1.length == 0) && (v.length == fstLen s && isPoint v))
def moved (s : Sample) (v : List Int) : Sample := (s.1.map (addL · v), s.2.1, ())
def moveR (s : Sample) (v : List Int) : Sample × Bool × Unit :=
  if okMove s v && isSample (moved s v) then (moved s v, true, ()) else (zeroSample, false, ())
theorem moveR_no {s : Sample} {v : List Int} (h : (okMove s v && isSample (moved s v)) = false) : moveR s v = (zeroSample, false, ()) := by unfold moveR; rw [h]; rfl
theorem moveR_yes {s : Sample} {v : List Int} (h : (okMove s v && isSample (moved s v)) = true) : moveR s v = (moved s v, true, ()) := by unfold moveR; rw [h]; rfl

theorem sample_lens {s : Sample} (h : isSample s = true) : ∀ x ∈ s.1, x.length = fstLen s := by
  intro x hx
  simp only [isSample, Bool.and_eq_true] at h
  have := List.all_eq_true.1 h.2.1 x hx
  simp only [okPt, Bool.and_eq_true, beq_iff_eq] at this
  exact this.2

theorem moved_fit {s : Sample} {v : List Int} (hs : FitS s) (h : ∀ x ∈ s.1, x.length = v.length) : FitS (moved s v) := by
  refine ⟨⟨by simp [moved]; exact hs.p.1, ?_⟩, hs.l⟩
  intro x hx
  simp only [moved, List.mem_map] at hx
  obtain ⟨y, hy, rfl⟩ := hx
  rw [addL_length _ _ (by rw [h y hy]; omega)]
  exact hs.p.2 y hy

end Go.Proofs.Ytlndfmmigndgeaa.Ev
