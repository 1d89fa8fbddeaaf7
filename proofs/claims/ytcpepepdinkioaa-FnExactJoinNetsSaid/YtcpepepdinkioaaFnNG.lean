/- Nets joined: the specification's walk. -/
import Derived.Test.YtcpepepdinkioaaFnNF
namespace Go.Proofs.Ytcpepepdinkioaa.Ev
open Go
set_option linter.unusedVariables false
set_option linter.unusedSimpArgs false
set_option maxRecDepth 100000
set_option exponentiation.threshold 100000

/-- The number of gates of the layer ahead of layer 'n'. -/
def lenAt (a : List (List Plane)) : Nat → Nat
  | 0 => 0
  | n + 1 => (a.getD n (Sh.dflt shPlS)).length
def jLay (a b : List (List Plane)) (n : Nat) : List Plane := wideL 0 (lenAt b n) (a.getD n (Sh.dflt shPlS)) ++ wideL (lenAt a n) 0 (b.getD n (Sh.dflt shPlS))
def jLays (a b : List (List Plane)) (n : Nat) : List (List Plane) := (List.range n).map (jLay a b)
theorem jLays_succ (a b : List (List Plane)) (n : Nat) : jLays a b (n + 1) = jLays a b n ++ [jLay a b n] := by simp [jLays, List.range_succ]
theorem jLays_len (a b : List (List Plane)) (n : Nat) : (jLays a b n).length = n := by simp [jLays]
def okSum (a b : List (List Plane)) (n : Nat) : Bool := decide ((a.getD n (Sh.dflt shPlS)).length + (b.getD n (Sh.dflt shPlS)).length ≤ 4)
def okSums (a b : List (List Plane)) (n : Nat) : Bool := (List.range n).all (okSum a b)
theorem okSums_succ (a b : List (List Plane)) (n : Nat) : okSums a b (n + 1) = (okSums a b n && okSum a b n) := by simp [okSums, List.range_succ]
theorem okSums_no {a b : List (List Plane)} {n m : Nat} (h : n < m) (g : okSum a b n = false) : okSums a b m = false := by
  rw [Bool.eq_false_iff]; intro e
  have := List.all_eq_true.1 e n (List.mem_range.2 h)
  rw [g] at this; cases this
def joinOkN (s t : Net) : Bool := isNet s && (isNet t && (decide (s.1 = t.1) && (decide (s.2.1.length = t.2.1.length) && okSums s.2.1 t.2.1 s.2.1.length)))
def joinRN (s t : Net) : shNetB.den := if joinOkN s t = true then ((s.1, jLays s.2.1 t.2.1 s.2.1.length, ()), true, ()) else (zNet, false, ())
theorem joinRN_no {s t : Net} (h : joinOkN s t = false) : joinRN s t = (zNet, false, ()) := by unfold joinRN; rw [h]; rfl
theorem joinRN_yes {s t : Net} (h : joinOkN s t = true) : joinRN s t = ((s.1, jLays s.2.1 t.2.1 s.2.1.length, ()), true, ()) := by unfold joinRN; rw [h]; rfl

theorem wideL_len (l r : Nat) (x : List Plane) : (wideL l r x).length = x.length := by simp [wideL]
theorem lenAt_le {a : List (List Plane)} (h : FitPP a) (n : Nat) (hn : n ≤ a.length) : lenAt a n ≤ 1048576 := by
  cases n with
  | zero => simp [lenAt]
  | succ n => exact (h.at (by omega) _).n

theorem s_JoinNets_ok (s t : Net) (hs : FitPP s.2.1) (ht : FitPP t.2.1) : orc.pc n_s_JoinNets [.d shNet s, .d shNet t] ⟨shNetB, oNetB, joinRN s t⟩ := by
  refine p_s_JoinNets true rfl rfl ?_
  conv => whnf
  refine ⟨_, s_l9Good_ok s hs, (by first | exact (fun _ => rfl) | exact (fun h => Bool.noConfusion h)), ?_⟩
  conv => whnf
  cases q : isNet s with
  | false =>
    rw [joinRN_no (by unfold joinOkN; rw [q]; rfl)]
    conv => whnf
    exact ⟨_, _, rfl, .inl rfl, rfl⟩
  | true =>
  obtain ⟨n1, n6⟩ := net_len q
  conv => whnf
  refine ⟨_, s_l9Good_ok t ht, (by first | exact (fun _ => rfl) | exact (fun h => Bool.noConfusion h)), ?_⟩
  conv => whnf
  cases q2 : isNet t with
  | false =>
    rw [joinRN_no (by unfold joinOkN; rw [q, q2]; rfl)]
    conv => whnf
    exact ⟨_, _, rfl, .inl rfl, rfl⟩
  | true =>
  conv => whnf
  refine cond_intro (fun v0 => ?_) (fun v0 => ?_)
  rotate_left
  · have v : ¬ s.1 = t.1 := by simpa using v0
    rw [joinRN_no (by unfold joinOkN; rw [q, q2, decide_eq_false v]; rfl)]
    conv => whnf
    exact ⟨_, _, rfl, .inl rfl, rfl⟩
  have v : s.1 = t.1 := by simpa using v0
  conv => whnf
  refine cond_intro (fun w0 => ?_) (fun w0 => ?_)
  · have w : ¬ s.2.1.length = t.2.1.length := by
      intro e; rw [e] at w0; simp at w0
    rw [joinRN_no (by unfold joinOkN; rw [q, q2, decide_eq_false w, decide_eq_true v]; rfl)]
    conv => whnf
    exact ⟨_, _, rfl, .inl rfl, rfl⟩
  have w : s.2.1.length = t.2.1.length := by
    have := w0
    simp at this; omega
  have base : joinOkN s t = okSums s.2.1 t.2.1 s.2.1.length := by unfold joinOkN; rw [q, q2, decide_eq_true v, decide_eq_true w]; rfl
  conv => whnf
  refine loop_ups (X := Int × Int × Int × List (List Plane)) (fun (i, l, r, o) => [⟨0, 9, false, .d tI i⟩, ⟨0, 7, false, .d tI l⟩, ⟨0, 8, false, .d tI r⟩, ⟨0, 6, true, .pair .unit (.pair (.d tI s.1) (.pair (.own shPlS (.ow oPl) o) .unit))⟩]) (fun (i, _, _, _) => s.2.1.length - i.toNat) (fun (i, l, r, o) => ∃ n : Nat, i = n ∧ n ≤ s.2.1.length ∧ l = (lenAt s.2.1 n : Nat) ∧ r = (lenAt t.2.1 n : Nat) ∧ o = jLays s.2.1 t.2.1 n ∧ okSums s.2.1 t.2.1 n = true) (0, 0, 0, []) ?_ ⟨0, rfl, by omega, rfl, rfl, rfl, rfl⟩ ?_
  · refine st_eq ?_
    conv => whnf
    exact ⟨rfl⟩
  rintro ⟨_, _, _, _⟩ ⟨n, rfl, hm, rfl, rfl, rfl, hok⟩
  have hlt := jLays_len s.2.1 t.2.1 n
  conv => whnf
  refine cond_intro (fun k0 => ?_) (fun k0 => ?_)
  · have k : n < s.2.1.length := by have := of_decide_eq_true k0; exact Int.ofNat_lt.1 this
    have k2 : n < t.2.1.length := by omega
    have hx := hs.at k (Sh.dflt shPlS)
    have hy := ht.at k2 (Sh.dflt shPlS)
    have hxn := hx.n
    have hyn := hy.n
    have hla := lenAt_le hs n hm
    have hlb := lenAt_le ht n (by omega)
    conv => whnf
    refine ⟨⟨Int.natCast_nonneg _, Int.ofNat_lt.2 k⟩, ?_⟩
    conv => whnf
    refine ⟨⟨Int.natCast_nonneg _, Int.ofNat_lt.2 k2⟩, ?_⟩
    conv => whnf
    have hsum : IntKind.i64.wrap (((s.2.1.getD n (Sh.dflt shPlS)).length : Int) + ((t.2.1.getD n (Sh.dflt shPlS)).length : Int)) = ((s.2.1.getD n (Sh.dflt shPlS)).length : Int) + ((t.2.1.getD n (Sh.dflt shPlS)).length : Int) := wrap_in (by omega) (by omega)
    refine cond_intro (fun c0 => ?_) (fun c0 => ?_)
    · have c : okSum s.2.1 t.2.1 n = false := by
        have : IntKind.i64.wrap (((s.2.1.getD n (Sh.dflt shPlS)).length : Int) + ((t.2.1.getD n (Sh.dflt shPlS)).length : Int)) > 4 := of_decide_eq_true c0
        rw [hsum] at this
        exact decide_eq_false (by omega)
      rw [joinRN_no (by rw [base]; exact okSums_no k c)]
      conv => whnf
      exact ⟨_, _, rfl, .inl rfl, rfl⟩
    have c : okSum s.2.1 t.2.1 n = true := by
      have : ¬ IntKind.i64.wrap (((s.2.1.getD n (Sh.dflt shPlS)).length : Int) + ((t.2.1.getD n (Sh.dflt shPlS)).length : Int)) > 4 := of_decide_eq_false c0
      rw [hsum] at this
      exact decide_eq_true (by omega)
    conv => whnf
    refine ⟨⟨Int.natCast_nonneg _, Int.ofNat_lt.2 k⟩, ?_⟩
    conv => whnf
    refine ⟨_, s_l9Wide_ok _ 0 (lenAt t.2.1 n) hx (by omega) hlb, (by first | exact (fun _ => rfl) | exact (fun h => Bool.noConfusion h)), ?_⟩
    conv => whnf
    refine ⟨⟨Int.natCast_nonneg _, Int.ofNat_lt.2 k2⟩, ?_⟩
    conv => whnf
    refine ⟨_, s_l9Wide_ok _ (lenAt s.2.1 n) 0 hy hla (by omega), (by first | exact (fun _ => rfl) | exact (fun h => Bool.noConfusion h)), ?_⟩
    conv => whnf
    refine ⟨(by show ((wideL 0 (lenAt t.2.1 n) (s.2.1.getD n (Sh.dflt shPlS))).length + (wideL (lenAt s.2.1 n) 0 (t.2.1.getD n (Sh.dflt shPlS))).length) * 32 ≤ _ ∧ (wideL 0 (lenAt t.2.1 n) (s.2.1.getD n (Sh.dflt shPlS))).length + (wideL (lenAt s.2.1 n) 0 (t.2.1.getD n (Sh.dflt shPlS))).length ≤ _; rw [wideL_len, wideL_len]; exact ⟨by omega, by unfold maxLen; omega⟩), ?_⟩
    conv => whnf
    refine ⟨⟨room_snoc (by omega) (by decide), len_snoc (by omega)⟩, ?_⟩
    conv => whnf
    refine ⟨⟨Int.natCast_nonneg _, Int.ofNat_lt.2 k⟩, ?_⟩
    conv => whnf
    refine ⟨⟨Int.natCast_nonneg _, Int.ofNat_lt.2 k2⟩, ?_⟩
    conv => whnf
    refine ⟨(_, _, _, _), ?_, ⟨n + 1, wrap_succ k (by unfold Short; omega), by omega, rfl, rfl, (jLays_succ _ _ n).symm, by rw [okSums_succ, hok, c]; rfl⟩, ?_⟩
    · refine st_eq ?_
      conv => whnf
      exact ⟨rfl⟩
    · rw [wrap_succ k (by unfold Short; omega)]; simp; omega
  · have k : n = s.2.1.length := by
      have := of_decide_eq_false k0
      have this : ¬ ((n : Int) < ((s.2.1.length : Nat) : Int)) := this
      omega
    rw [joinRN_yes (by rw [base, ← k]; exact hok), ← k]
    conv => whnf
    exact ⟨_, _, rfl, .inl rfl, rfl⟩

end Go.Proofs.Ytcpepepdinkioaa.Ev
