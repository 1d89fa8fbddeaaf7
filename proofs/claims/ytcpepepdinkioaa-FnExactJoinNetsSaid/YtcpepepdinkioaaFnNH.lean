/- Nets joined: when the joined one is a net. -/
import Derived.Test.YtcpepepdinkioaaFnNG
namespace Go.Proofs.Ytcpepepdinkioaa.Ev
open Go
set_option linter.unusedVariables false
set_option linter.unusedSimpArgs false
set_option maxRecDepth 100000
set_option exponentiation.threshold 100000

def wAt (w : Int) (l : List (List Plane)) : Nat → Int
  | 0 => w
  | n + 1 => ((l.getD n (Sh.dflt shPlS)).length : Nat)
theorem okLayers_iff : ∀ (l : List (List Plane)) (w : Int), okLayers w l = true ↔ ∀ n, n < l.length → okLayer (wAt w l n) (l.getD n (Sh.dflt shPlS)) = true := by
  intro l
  induction l with
  | nil => intro w; simp [okLayers]
  | cons x r ih =>
    intro w
    have e : okLayers w (x :: r) = (okLayer w x && okLayers x.length r) := rfl
    rw [e, Bool.and_eq_true, ih]
    constructor
    · rintro ⟨h1, h2⟩ n hn
      cases n with
      | zero => exact h1
      | succ n =>
        have := h2 n (by simpa using hn)
        cases n with
        | zero => exact this
        | succ m => exact this
    · intro h
      refine ⟨h 0 (by simp), fun n hn => ?_⟩
      have := h (n + 1) (by simpa using hn)
      cases n with
      | zero => exact this
      | succ m => exact this

theorem inB_iff {x a b : Int} : inB x a b = true ↔ a ≤ x ∧ x ≤ b := by unfold inB; simp
theorem all_zero (l : Nat) : (List.replicate l (0 : Int)).all (inB · (-99) 99) = true := by
  rw [List.all_eq_true]; intro x hx
  rw [(List.mem_replicate.1 hx).2]; decide
theorem isPlane_pad {p : Plane} {l r : Nat} (h : isPlane p = true) (g : inB ((l + p.1.length + r : Nat) : Int) 1 4 = true) : isPlane (padPl l r p) = true := by
  unfold isPlane at h ⊢
  simp only [Bool.and_eq_true] at h
  have e : (padPl l r p).1.length = l + p.1.length + r := by simp [padPl]; omega
  rw [e, g, show (padPl l r p).1.all (inB · (-99) 99) = true by
    show (List.replicate l 0 ++ p.1 ++ List.replicate r 0).all _ = true
    rw [List.all_append, List.all_append, all_zero, all_zero, h.1.2]; rfl, show (padPl l r p).2.1 = p.2.1 from rfl, h.2]
  rfl
theorem okGate_iff {w : Int} {p : Plane} : okGate w p = true ↔ isPlane p = true ∧ (p.1.length : Int) = w := by
  unfold okGate; simp
theorem okLayer_iff {w : Int} {x : List Plane} : okLayer w x = true ↔ (1 ≤ x.length ∧ x.length ≤ 4) ∧ ∀ p ∈ x, okGate w p = true := by
  unfold okLayer
  rw [Bool.and_eq_true, inB_iff, List.all_eq_true]
  constructor
  · rintro ⟨h1, h2⟩; exact ⟨by omega, h2⟩
  · rintro ⟨h1, h2⟩; exact ⟨by omega, h2⟩

theorem jLays_getD (a b : List (List Plane)) {n m : Nat} (h : n < m) (d : List Plane) : (jLays a b m).getD n d = jLay a b n := by
  rw [List.getD_eq_getElem?_getD]
  simp [jLays, h]
theorem jLay_len (a b : List (List Plane)) (n : Nat) : (jLay a b n).length = (a.getD n (Sh.dflt shPlS)).length + (b.getD n (Sh.dflt shPlS)).length := by
  unfold jLay; rw [List.length_append, wideL_len, wideL_len]

theorem isNet_join {s t : Net} (q : isNet s = true) (q2 : isNet t = true) (v : s.1 = t.1) (w : s.2.1.length = t.2.1.length) :
    isNet (s.1, jLays s.2.1 t.2.1 s.2.1.length, ()) = okSums s.2.1 t.2.1 s.2.1.length := by
  unfold isNet at q q2 ⊢
  simp only [Bool.and_eq_true] at q q2
  obtain ⟨a1, a2, a3⟩ := q
  obtain ⟨b1, b2, b3⟩ := q2
  rw [okLayers_iff] at a3 b3
  show (inB s.1 1 4 && (inB ((jLays s.2.1 t.2.1 s.2.1.length).length : Nat) 1 6 && okLayers s.1 (jLays s.2.1 t.2.1 s.2.1.length))) = _
  rw [jLays_len, a1, a2, Bool.true_and, Bool.true_and, Bool.eq_iff_iff, okLayers_iff, jLays_len]
  unfold okSums
  rw [List.all_eq_true]
  have hA : ∀ n, n < s.2.1.length → (1 ≤ (s.2.1.getD n (Sh.dflt shPlS)).length) ∧ ∀ p ∈ s.2.1.getD n (Sh.dflt shPlS), isPlane p = true ∧ (p.1.length : Int) = wAt s.1 s.2.1 n := fun n hn => by
    obtain ⟨h1, h2⟩ := okLayer_iff.1 (a3 n hn)
    exact ⟨h1.1, fun p hp => okGate_iff.1 (h2 p hp)⟩
  have hB : ∀ n, n < s.2.1.length → (1 ≤ (t.2.1.getD n (Sh.dflt shPlS)).length) ∧ ∀ p ∈ t.2.1.getD n (Sh.dflt shPlS), isPlane p = true ∧ (p.1.length : Int) = wAt s.1 t.2.1 n := fun n hn => by
    obtain ⟨h1, h2⟩ := okLayer_iff.1 (b3 n (by omega))
    rw [← v] at h2
    exact ⟨h1.1, fun p hp => okGate_iff.1 (h2 p hp)⟩
  constructor
  · intro h n hn
    have hn := List.mem_range.1 hn
    have := (okLayer_iff.1 (h n hn)).1.2
    rw [jLays_getD _ _ hn, jLay_len] at this
    exact decide_eq_true this
  · intro h n hn
    have sums : ∀ m, m < s.2.1.length → (s.2.1.getD m (Sh.dflt shPlS)).length + (t.2.1.getD m (Sh.dflt shPlS)).length ≤ 4 := fun m hm => of_decide_eq_true (h m (List.mem_range.2 hm))
    have hw : inB (wAt s.1 (jLays s.2.1 t.2.1 s.2.1.length) n) 1 4 = true := by
      cases n with
      | zero => exact a1
      | succ m =>
        have h1 := sums m (by omega)
        have h2 := (hA m (by omega)).1
        show inB (((jLays s.2.1 t.2.1 s.2.1.length).getD m (Sh.dflt shPlS)).length : Nat) 1 4 = true
        rw [jLays_getD _ _ (by omega), jLay_len, inB_iff]; omega
    have hwa : (wAt s.1 s.2.1 n) + lenAt t.2.1 n = wAt s.1 (jLays s.2.1 t.2.1 s.2.1.length) n := by
      cases n with
      | zero => simp [wAt, lenAt]
      | succ m =>
        show (((s.2.1.getD m (Sh.dflt shPlS)).length : Nat) : Int) + (((t.2.1.getD m (Sh.dflt shPlS)).length : Nat) : Int) = (((jLays s.2.1 t.2.1 s.2.1.length).getD m (Sh.dflt shPlS)).length : Nat)
        rw [jLays_getD _ _ (by omega), jLay_len]; simp
    have hwb : (wAt s.1 t.2.1 n) + lenAt s.2.1 n = wAt s.1 (jLays s.2.1 t.2.1 s.2.1.length) n := by
      cases n with
      | zero => simp [wAt, lenAt]
      | succ m =>
        show (((t.2.1.getD m (Sh.dflt shPlS)).length : Nat) : Int) + (((s.2.1.getD m (Sh.dflt shPlS)).length : Nat) : Int) = (((jLays s.2.1 t.2.1 s.2.1.length).getD m (Sh.dflt shPlS)).length : Nat)
        rw [jLays_getD _ _ (by omega), jLay_len]; simp; omega
    rw [jLays_getD _ _ hn]
    have h1 := sums n hn
    have h2 := hA n hn
    have h3 := hB n hn
    refine okLayer_iff.2 ⟨by rw [jLay_len]; omega, fun p hp => okGate_iff.2 ?_⟩
    rcases List.mem_append.1 hp with hp | hp
    · obtain ⟨p0, hp0, rfl⟩ := List.mem_map.1 hp
      obtain ⟨g1, g2⟩ := h2.2 p0 hp0
      have e : ((0 + p0.1.length + lenAt t.2.1 n : Nat) : Int) = wAt s.1 (jLays s.2.1 t.2.1 s.2.1.length) n := by rw [← hwa, ← g2]; simp
      refine ⟨isPlane_pad g1 (by rw [e]; exact hw), ?_⟩
      rw [← e]; simp [padPl]
    · obtain ⟨p0, hp0, rfl⟩ := List.mem_map.1 hp
      obtain ⟨g1, g2⟩ := h3.2 p0 hp0
      have e : ((lenAt s.2.1 n + p0.1.length + 0 : Nat) : Int) = wAt s.1 (jLays s.2.1 t.2.1 s.2.1.length) n := by rw [← hwb, ← g2]; simp; omega
      refine ⟨isPlane_pad g1 (by rw [e]; exact hw), ?_⟩
      rw [← e]; simp [padPl]

end Go.Proofs.Ytcpepepdinkioaa.Ev
