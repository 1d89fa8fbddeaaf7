/- Valid nets, copies of nets, nets with turned gates. -/
import Derived.Test.YtcpepepdinkioaaFnNA
namespace Go.Proofs.Ytcpepepdinkioaa.Ev
open Go
set_option linter.unusedVariables false
set_option linter.unusedSimpArgs false
set_option maxRecDepth 100000
set_option exponentiation.threshold 100000
set_option maxHeartbeats 1000000

/-! ### Turned planes -/

def turnedP (p : Plane) : Plane := (p.1.map negS, IntKind.i64.wrap (1 - p.2.1), ())
def turnP (p : Plane) : Plane × Bool × Unit := if isPlane p && isPlane (turnedP p) then (turnedP p, true, ()) else (zeroPlane, false, ())
theorem turnP_no {p : Plane} (h : (isPlane p && isPlane (turnedP p)) = false) : turnP p = (zeroPlane, false, ()) := by unfold turnP; rw [h]; rfl
theorem turnP_yes {p : Plane} (h : (isPlane p && isPlane (turnedP p)) = true) : turnP p = (turnedP p, true, ()) := by unfold turnP; rw [h]; rfl
def oPlB : Ow := .pr shPlane.full .fz

theorem i_TurnPlane_ok (p : Plane) (hp : p.1.length ≤ 1048576) : orc.pc n_i_TurnPlane [.d shPlane p] ⟨shPlB, oPlB, turnP p⟩ := by
  refine p_i_TurnPlane true rfl rfl ?_
  conv => whnf
  refine ⟨_, i_IsPlane_ok _ hp, (by first | exact (fun _ => rfl) | exact (fun h => Bool.noConfusion h)), ?_⟩
  conv => whnf
  refine cond_intro (fun q0 => ?_) (fun q0 => ?_)
  · have q : isPlane p = false := not_true q0
    rw [turnP_no (by rw [q]; rfl)]
    conv => whnf
    exact ⟨_, _, rfl, .inl rfl, rfl⟩
  have q : isPlane p = true := not_false q0
  conv => whnf
  refine loop_ups (X := Int × List Int) (fun (i, x) => [⟨0, 18, false, .d tI i⟩, ⟨0, 4, true, .pair .unit (.pair (.own tI .fz x) (.pair (.d tI (IntKind.i64.wrap (1 - p.2.1))) .unit))⟩]) (fun (i, _) => p.1.length - i.toNat) (fun (i, x) => ∃ n : Nat, i = n ∧ x = (p.1.take n).map negS ∧ n ≤ p.1.length) (0, []) ?_ ⟨0, rfl, rfl, by omega⟩ ?_
  · refine st_eq ?_
    conv => whnf
    exact ⟨rfl⟩
  rintro ⟨_, _⟩ ⟨n, rfl, rfl, hn⟩
  conv => whnf
  refine cond_intro (fun h => ?_) (fun h => ?_)
  · have h : n < p.1.length := by simpa using h
    conv => whnf
    refine ⟨⟨Int.natCast_nonneg _, Int.ofNat_lt.2 h⟩, ?_⟩
    conv => whnf
    refine ⟨⟨room_snoc (by simp; omega) (by decide), len_snoc (by simp; omega)⟩, ?_⟩
    conv => whnf
    refine ⟨(_, _), rfl, ⟨n + 1, wrap_succ h (by unfold Short; omega), ?_, by omega⟩, ?_⟩
    · rw [map_take_snoc _ _ h tI.dflt]; rfl
    · rw [wrap_succ h (by unfold Short; omega)]; simp; omega
  · have h : ¬ n < p.1.length := by simpa using h
    obtain rfl : n = p.1.length := by omega
    rw [List.take_length]
    conv => whnf
    refine ⟨_, i_IsPlane_ok (turnedP p) (by simpa [turnedP] using hp), (by first | exact (fun _ => rfl) | exact (fun h => Bool.noConfusion h)), ?_⟩
    conv => whnf
    refine cond_intro (fun r0 => ?_) (fun r0 => ?_)
    · have r : isPlane (turnedP p) = false := not_true r0
      rw [turnP_no (by rw [r]; simp)]
      conv => whnf
      exact ⟨_, _, rfl, .inl rfl, rfl⟩
    · have r : isPlane (turnedP p) = true := not_false r0
      rw [turnP_yes (by rw [q, r]; rfl)]
      conv => whnf
      exact ⟨_, _, rfl, .inl rfl, rfl⟩

theorem s_l2KeptPlane_yes {st : St} (hst : 0 < st.length) {q : Pl} {x : List Int} {b : Int} (g : Holds st q tI .fz x) (hx : x.length ≤ 1048576) (h : isPlane (x, b, ()) = true) :
    orc.ic n_s_l2KeptPlane [.pair (.vw q tI) (.pair (.d tI b) .unit)] st (.pair (.pair (.vw q tI) (.pair (.d tI b) .unit)) (.pair (.d .bool true) .unit)) st := by
  refine p_s_l2KeptPlane true hst rfl rfl ?_
  conv => whnf
  refine g _ ?_
  conv => whnf
  refine ⟨_, s_l2Plane_ok (x, b, ()) hx, (by first | exact (fun _ => rfl) | exact (fun h => Bool.noConfusion h)), ?_⟩
  conv => whnf
  refine cond_f (show (!isPlane (x, b, ())) = false by rw [h]; rfl) ?_
  conv => whnf
  exact ⟨_, rfl, rfl, rfl⟩
theorem s_l2KeptPlane_no {st : St} (hst : 0 < st.length) {q : Pl} {x : List Int} {b : Int} (g : Holds st q tI .fz x) (hx : x.length ≤ 1048576) (h : isPlane (x, b, ()) = false) :
    orc.ic n_s_l2KeptPlane [.pair (.vw q tI) (.pair (.d tI b) .unit)] st (.pair (.pair (.own tI .fz []) (.pair (.d tI 0) .unit)) (.pair (.d .bool false) .unit)) st := by
  refine p_s_l2KeptPlane true hst rfl rfl ?_
  conv => whnf
  refine g _ ?_
  conv => whnf
  refine ⟨_, s_l2Plane_ok (x, b, ()) hx, (by first | exact (fun _ => rfl) | exact (fun h => Bool.noConfusion h)), ?_⟩
  conv => whnf
  refine cond_t (show (!isPlane (x, b, ())) = true by rw [h]; rfl) ?_
  conv => whnf
  exact ⟨_, rfl, rfl, rfl⟩

theorem s_TurnPlane_ok (p : Plane) (hp : p.1.length ≤ 1048576) : orc.pc n_s_TurnPlane [.d shPlane p] ⟨shPlB, oPlB, turnP p⟩ := by
  refine p_s_TurnPlane true rfl rfl ?_
  conv => whnf
  refine ⟨_, s_l2Plane_ok _ hp, (by first | exact (fun _ => rfl) | exact (fun h => Bool.noConfusion h)), ?_⟩
  conv => whnf
  refine cond_intro (fun q0 => ?_) (fun q0 => ?_)
  · have q : isPlane p = false := not_true q0
    rw [turnP_no (by rw [q]; rfl)]
    conv => whnf
    exact ⟨_, _, rfl, .inl rfl, rfl⟩
  have q : isPlane p = true := not_false q0
  have hl : (p.1.map negS).length ≤ 1048576 := by simpa using hp
  conv => whnf
  refine ⟨_, s_l2Minus_ok _ hp, (by first | exact (fun _ => rfl) | exact (fun h => Bool.noConfusion h)), ?_⟩
  conv => whnf
  cases r : isPlane (turnedP p) with
  | false =>
    rw [turnP_no (by rw [r]; simp)]
    refine ⟨_, _, s_l2KeptPlane_no (st := _ :: _) (Nat.succ_pos _) (x := p.1.map negS) (fun K h => h) hl r, ?_⟩
    conv => whnf
    exact ⟨_, _, rfl, .inl rfl, rfl⟩
  | true =>
    rw [turnP_yes (by rw [q, r]; rfl)]
    refine ⟨_, _, s_l2KeptPlane_yes (st := _ :: _) (Nat.succ_pos _) (x := p.1.map negS) (fun K h => h) hl r, ?_⟩
    conv => whnf
    exact ⟨_, _, rfl, .inl rfl, rfl⟩

/-! ### Valid nets -/

def okGate (w : Int) (p : Plane) : Bool := isPlane p && !((p.1.length : Int) != w)
def okLayer (w : Int) (x : List Plane) : Bool := inB x.length 1 4 && x.all (okGate w)
def okLayers : Int → List (List Plane) → Bool
  | _, [] => true
  | w, x :: r => okLayer w x && okLayers x.length r
def isNet (t : Net) : Bool := inB t.1 1 4 && (inB t.2.1.length 1 6 && okLayers t.1 t.2.1)

theorem okGate_no1 {w : Int} {p : Plane} (h : isPlane p = false) : okGate w p = false := by unfold okGate; rw [h]; rfl
theorem okGate_no2 {w : Int} {p : Plane} (h : ((p.1.length : Int) != w) = true) : okGate w p = false := by unfold okGate; rw [h]; simp
theorem okGate_yes {w : Int} {p : Plane} (h : isPlane p = true) (g : ((p.1.length : Int) != w) = false) : okGate w p = true := by unfold okGate; rw [h, g]; rfl
theorem all_drop_no {α : Type} {f : α → Bool} {l : List α} {n : Nat} {d : α} (h : n < l.length) (hd : f (l.getD n d) = false) : (l.drop n).all f = false := by rw [drop_getD l h d]; simp only [List.all_cons, hd, Bool.false_and]
theorem all_drop_yes {α : Type} {f : α → Bool} {l : List α} {n : Nat} {d : α} (h : n < l.length) (hd : f (l.getD n d) = true) : (l.drop n).all f = (l.drop (n + 1)).all f := by rw [drop_getD l h d]; simp only [List.all_cons, hd, Bool.true_and]

theorem i_IsNet_ok (t : Net) (ht : FitPP t.2.1) : orc.pc n_i_IsNet [.d shNet t] ⟨.bool, .fz, isNet t⟩ := by
  have htn := ht.n
  refine p_i_IsNet true rfl rfl ?_
  conv => whnf
  refine ⟨_, i_within_ok _ _ _, (by first | exact (fun _ => rfl) | exact (fun h => Bool.noConfusion h)), ?_⟩
  conv => whnf
  refine cond_intro (fun q0 => ?_) (fun q0 => ?_)
  · have q : inB t.1 1 4 = true := by simpa using q0
    conv => whnf
    repeat ((first | refine cond_t q0 ?_ | refine cond_f (hT q0) ?_ | refine cond_t (gT q0) ?_); conv => whnf)
    refine ⟨_, i_within_ok _ _ _, (by first | exact (fun _ => rfl) | exact (fun h => Bool.noConfusion h)), ?_⟩
    conv => whnf
    repeat ((first | refine cond_t q0 ?_ | refine cond_f (hT q0) ?_ | refine cond_t (gT q0) ?_); conv => whnf)
    refine cond_intro (fun r0 => ?_) (fun r0 => ?_)
    · have r : inB t.2.1.length 1 6 = false := not_true r0
      rw [show isNet t = false by unfold isNet; rw [q, r]; rfl]
      conv => whnf
      exact ⟨_, _, rfl, .inl rfl, rfl⟩
    have r : inB t.2.1.length 1 6 = true := not_false r0
    have base : isNet t = okLayers t.1 t.2.1 := by unfold isNet; rw [q, r]; rfl
    conv => whnf
    refine loop_ups (X := Int × Int) (fun (i, w) => [⟨0, 24, false, .d tI i⟩, ⟨0, 3, false, .d tI w⟩]) (fun (i, _) => t.2.1.length - i.toNat) (fun (i, w) => ∃ n : Nat, i = n ∧ n ≤ t.2.1.length ∧ isNet t = okLayers w (t.2.1.drop n)) (0, t.1) ?_ ⟨0, rfl, by omega, base⟩ ?_
    · refine st_eq ?_
      conv => whnf
      exact ⟨rfl⟩
    rintro ⟨_, w⟩ ⟨n, rfl, hn, hi⟩
    conv => whnf
    refine cond_intro (fun g0 => ?_) (fun g0 => ?_)
    · have g : n < t.2.1.length := by have := of_decide_eq_true g0; exact Int.ofNat_lt.1 this
      rw [drop_getD t.2.1 g (Sh.dflt shPlS)] at hi
      have hx := ht.at g (Sh.dflt shPlS)
      have hxn := hx.n
      conv => whnf
      refine ⟨⟨Int.natCast_nonneg _, Int.ofNat_lt.2 g⟩, ?_⟩
      conv => whnf
      refine ⟨_, i_within_ok _ _ _, (by first | exact (fun _ => rfl) | exact (fun h => Bool.noConfusion h)), ?_⟩
      conv => whnf
      refine cond_intro (fun v0 => ?_) (fun v0 => ?_)
      · have v : inB (t.2.1.getD n (Sh.dflt shPlS)).length 1 4 = false := not_true v0
        rw [show isNet t = false by rw [hi]; simp only [okLayers, okLayer, v, Bool.false_and]]
        conv => whnf
        exact ⟨_, _, rfl, .inl rfl, rfl⟩
      have v : inB (t.2.1.getD n (Sh.dflt shPlS)).length 1 4 = true := not_false v0
      conv => whnf
      refine loop_ups (X := Int) (fun i => [⟨0, 34, false, .d tI i⟩]) (fun i => (t.2.1.getD n (Sh.dflt shPlS)).length - i.toNat) (fun i => ∃ m : Nat, i = m ∧ m ≤ (t.2.1.getD n (Sh.dflt shPlS)).length ∧ (t.2.1.getD n (Sh.dflt shPlS)).all (okGate w) = ((t.2.1.getD n (Sh.dflt shPlS)).drop m).all (okGate w)) 0 ?_ ⟨0, rfl, by omega, rfl⟩ ?_
      · refine st_eq ?_
        conv => whnf
        exact ⟨rfl⟩
      rintro _ ⟨m, rfl, hm, hj⟩
      conv => whnf
      refine cond_intro (fun k0 => ?_) (fun k0 => ?_)
      · have k : m < (t.2.1.getD n (Sh.dflt shPlS)).length := by have := of_decide_eq_true k0; exact Int.ofNat_lt.1 this
        conv => whnf
        refine ⟨⟨Int.natCast_nonneg _, Int.ofNat_lt.2 k⟩, ?_⟩
        conv => whnf
        refine ⟨_, i_IsPlane_ok _ (hx.at k _), (by first | exact (fun _ => rfl) | exact (fun h => Bool.noConfusion h)), ?_⟩
        conv => whnf
        refine cond_intro (fun y0 => ?_) (fun y0 => ?_)
        · have y : isPlane ((t.2.1.getD n (Sh.dflt shPlS)).getD m shPlane.dflt) = true := by
            have : (!isPlane ((t.2.1.getD n (Sh.dflt shPlS)).getD m shPlane.dflt)) = false := by simpa using y0
            exact not_false this
          conv => whnf
          repeat ((first | refine cond_t y0 ?_ | refine cond_f (hT y0) ?_ | refine cond_t (gT y0) ?_); conv => whnf)
          refine cond_intro (fun z0 => ?_) (fun z0 => ?_)
          · have e : isNet t = false := by rw [hi]; simp only [okLayers, okLayer]; rw [hj, all_drop_no k (okGate_no2 z0)]; simp
            rw [e]
            conv => whnf
            exact ⟨_, _, rfl, .inl rfl, rfl⟩
          · rw [all_drop_yes k (okGate_yes y z0)] at hj
            conv => whnf
            refine ⟨_, rfl, ⟨m + 1, wrap_succ k (by unfold Short; omega), by omega, hj⟩, ?_⟩
            rw [wrap_succ k (by unfold Short; omega)]; simp only [Int.toNat_natCast]; omega
        · have y : isPlane ((t.2.1.getD n (Sh.dflt shPlS)).getD m shPlane.dflt) = false := by
            have : (!isPlane ((t.2.1.getD n (Sh.dflt shPlS)).getD m shPlane.dflt)) = true := by simpa using y0
            exact not_true this
          have e : isNet t = false := by rw [hi]; simp only [okLayers, okLayer]; rw [hj, all_drop_no k (okGate_no1 y)]; simp
          rw [e]
          conv => whnf
          repeat ((first | refine cond_f y0 ?_ | refine cond_t (hF y0) ?_ | refine cond_f (gF y0) ?_); conv => whnf)
          exact ⟨_, _, rfl, .inl rfl, rfl⟩
      · have k : m = (t.2.1.getD n (Sh.dflt shPlS)).length := by have := of_decide_eq_false k0; have this : ¬ ((m : Int) < ((t.2.1.getD n (Sh.dflt shPlS)).length : Int)) := this; omega
        rw [k, List.drop_length] at hj
        have hj : (t.2.1.getD n (Sh.dflt shPlS)).all (okGate w) = true := hj
        conv => whnf
        refine ⟨(_, _), rfl, ⟨n + 1, wrap_succ g (by unfold Short; omega), by omega, ?_⟩, ?_⟩
        · show isNet t = okLayers ((t.2.1.getD n (Sh.dflt shPlS)).length : Int) _
          rw [hi]; simp only [okLayers, okLayer, v, hj, Bool.true_and]
        · rw [wrap_succ g (by unfold Short; omega)]; simp; omega
    · have g : ¬ n < t.2.1.length := by have := of_decide_eq_false g0; omega
      have e : isNet t = true := by rw [hi, drop_len g]; rfl
      rw [e]
      conv => whnf
      exact ⟨_, _, rfl, .inl rfl, rfl⟩
  · have q : inB t.1 1 4 = false := by simpa using q0
    rw [show isNet t = false by unfold isNet; rw [q]; rfl]
    conv => whnf
    repeat ((first | refine cond_f q0 ?_ | refine cond_t (hF q0) ?_ | refine cond_f (gF q0) ?_); conv => whnf)
    exact ⟨_, _, rfl, .inl rfl, rfl⟩

end Go.Proofs.Ytcpepepdinkioaa.Ev
