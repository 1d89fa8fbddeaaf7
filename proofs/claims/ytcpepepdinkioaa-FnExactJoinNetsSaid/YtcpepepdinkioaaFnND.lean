/- Nets: the net that gives the other numbers. -/
import Derived.Test.YtcpepepdinkioaaFnNC
namespace Go.Proofs.Ytcpepepdinkioaa.Ev
open Go
set_option linter.unusedVariables false
set_option linter.unusedSimpArgs false
set_option maxRecDepth 100000
set_option exponentiation.threshold 100000

abbrev shNetB : Sh := .pair shNet (.pair .bool .unit)
abbrev oNet : Ow := .pr .fz (.pr (.ow (.ow oPl)) .fz)
def oNetB : Ow := .pr oNet .fz
abbrev zNet : Net := (0, [], ())
def okT (p : Plane) : Bool := isPlane p && isPlane (turnedP p)
def lastL (t : Net) : List Plane := t.2.1.getD (t.2.1.length - 1) (Sh.dflt shPlS)
def negN (t : Net) : Net := (t.1, t.2.1.set (t.2.1.length - 1) ((lastL t).map turnedP), ())
def okNeg (t : Net) : Bool := isNet t && (lastL t).all okT
def negR (t : Net) : shNetB.den := if okNeg t = true then (negN t, true, ()) else (zNet, false, ())
theorem negR_yes {t : Net} (h : okNeg t = true) : negR t = (negN t, true, ()) := by unfold negR; rw [if_pos h]
theorem negR_no {t : Net} (h : okNeg t = false) : negR t = (zNet, false, ()) := by unfold negR; rw [h]; rfl

theorem net_len {t : Net} (h : isNet t = true) : 1 ≤ t.2.1.length ∧ t.2.1.length ≤ 6 := by
  unfold isNet at h
  simp only [Bool.and_eq_true, inB, decide_eq_true_eq] at h
  omega

theorem set_same {α : Type} {l : List α} {n : Nat} {d : α} (h : n < l.length) : l.set n (l.getD n d) = l := by
  rw [List.getD_eq_getElem?_getD, List.getElem?_eq_getElem h]; simp

theorem s_NegateNet_ok (t : Net) (ht : FitPP t.2.1) : orc.pc n_s_NegateNet [.d shNet t] ⟨shNetB, oNetB, negR t⟩ := by
  refine p_s_NegateNet true rfl rfl ?_
  conv => whnf
  refine ⟨_, s_l9Good_ok t ht, (by first | exact (fun _ => rfl) | exact (fun h => Bool.noConfusion h)), ?_⟩
  conv => whnf
  refine cond_intro (fun q0 => ?_) (fun q0 => ?_)
  · have q : isNet t = false := not_true q0
    rw [negR_no (by unfold okNeg; rw [q]; rfl)]
    conv => whnf
    exact ⟨_, _, rfl, .inl rfl, rfl⟩
  have q : isNet t = true := not_false q0
  obtain ⟨n1, n6⟩ := net_len q
  have hll : t.2.1.length - 1 < t.2.1.length := by omega
  have hw : IntKind.i64.wrap ((t.2.1.length : Int) - 1) = ((t.2.1.length - 1 : Nat) : Int) := by rw [wrap_in (by omega) (by omega)]; omega
  have hx := ht.at hll (Sh.dflt shPlS)
  have hxn : (lastL t).length ≤ 1048576 := hx.n
  conv => whnf
  refine ⟨_, s_l9Own_ok t ht, (by first | exact (fun _ => rfl) | exact (fun h => Bool.noConfusion h)), ?_⟩
  conv => whnf
  rw [hw]
  refine ⟨⟨Int.natCast_nonneg _, Int.ofNat_lt.2 hll⟩, ?_⟩
  conv => whnf
  refine ⟨hll, ?_⟩
  conv => whnf
  refine loop_ups (X := Int × List (List Plane)) (fun (k, L) => [⟨0, 6, false, .d tI k⟩, ⟨0, 4, true, .pair .unit (.pair (.d tI t.1) (.pair (.own shPlS (.ow oPl) L) (.d .unit t.2.2)))⟩]) (fun (k, _) => (lastL t).length - k.toNat) (fun (k, L) => ∃ m : Nat, k = m ∧ m ≤ (lastL t).length ∧ L = t.2.1.set (t.2.1.length - 1) (((lastL t).take m).map turnedP ++ (lastL t).drop m) ∧ ((lastL t).take m).all okT = true) (0, t.2.1) ?_ ⟨0, rfl, by omega, (set_same hll).symm, rfl⟩ ?_
  · refine st_eq ?_
    conv => whnf
    exact ⟨rfl⟩
  rintro ⟨_, L⟩ ⟨m, rfl, hm, hL, hall⟩
  have hLl : L.length = t.2.1.length := by rw [hL]; simp
  have hLg : L.getD (t.2.1.length - 1) (Sh.dflt shPlS) = ((lastL t).take m).map turnedP ++ (lastL t).drop m := by
    rw [hL, List.getD_eq_getElem?_getD, List.getElem?_set_self hll]; rfl
  have hcl : (((lastL t).take m).map turnedP ++ (lastL t).drop m).length = (lastL t).length := by simp; omega
  conv => whnf
  refine ⟨(by rw [hLl]; exact hll), ?_⟩
  conv => whnf
  rw [show List.getD L (((t.2.1.length - 1 : Nat) : Int).toNat) (Sh.dflt shPlS) = ((lastL t).take m).map turnedP ++ (lastL t).drop m from hLg, hcl]
  refine cond_intro (fun k0 => ?_) (fun k0 => ?_)
  · have k : m < (lastL t).length := by have := of_decide_eq_true k0; omega
    conv => whnf
    have hp : ((lastL t).getD m shPlane.dflt).1.length ≤ 1048576 := hx.at k _
    have hcg : (((lastL t).take m).map turnedP ++ (lastL t).drop m).getD m shPlane.dflt = (lastL t).getD m shPlane.dflt := by
      rw [List.getD_eq_getElem?_getD, List.getElem?_append_right (by simp; omega)]
      simp only [List.length_map, List.length_take, List.getElem?_drop, Nat.min_eq_left hm, Nat.sub_self, Nat.add_zero, ← List.getD_eq_getElem?_getD]
    refine ⟨(by rw [hLl]; exact hll), ?_⟩
    conv => whnf
    rw [show List.getD L (((t.2.1.length - 1 : Nat) : Int).toNat) (Sh.dflt shPlS) = ((lastL t).take m).map turnedP ++ (lastL t).drop m from hLg]
    refine ⟨⟨Int.natCast_nonneg _, by rw [hcl]; exact Int.ofNat_lt.2 k⟩, ?_⟩
    conv => whnf
    refine ⟨(by rw [hLl]; exact hll), ?_⟩
    conv => whnf
    rw [show List.getD L (((t.2.1.length - 1 : Nat) : Int).toNat) (Sh.dflt shPlS) = ((lastL t).take m).map turnedP ++ (lastL t).drop m from hLg]
    refine ⟨(by rw [hcl]; exact k), ?_⟩
    conv => whnf
    rw [show List.getD (((lastL t).take m).map turnedP ++ (lastL t).drop m) ((m : Nat) : Int).toNat (Sh.dflt shPlane) = (lastL t).getD m shPlane.dflt from hcg]
    refine ⟨(by rw [hLl]; exact hll), ?_⟩
    conv => whnf
    rw [show List.getD L (((t.2.1.length - 1 : Nat) : Int).toNat) (Sh.dflt shPlS) = ((lastL t).take m).map turnedP ++ (lastL t).drop m from hLg]
    refine ⟨(by rw [hcl]; exact k), ?_⟩
    conv => whnf
    rw [show List.getD (((lastL t).take m).map turnedP ++ (lastL t).drop m) ((m : Nat) : Int).toNat (Sh.dflt shPlane) = (lastL t).getD m shPlane.dflt from hcg]
    have c := s_TurnPlane_ok ((lastL t).getD m shPlane.dflt) hp
    cases r : okT ((lastL t).getD m shPlane.dflt) with
    | false =>
      rw [turnP_no r] at c
      have hno : okNeg t = false := by
        unfold okNeg
        have : (lastL t).all okT = false := by
          rw [Bool.eq_false_iff]; intro e
          have := List.all_eq_true.1 e _ (getD_mem k shPlane.dflt)
          rw [r] at this; cases this
        rw [this, Bool.and_false]
      rw [negR_no hno]
      refine ⟨_, c, (by first | exact (fun _ => rfl) | exact (fun h => Bool.noConfusion h)), ?_⟩
      conv => whnf
      exact ⟨_, _, rfl, .inl rfl, rfl⟩
    | true =>
      rw [turnP_yes r] at c
      refine ⟨_, c, (by first | exact (fun _ => rfl) | exact (fun h => Bool.noConfusion h)), ?_⟩
      conv => whnf
      refine ⟨(by rw [hLl]; exact hll), ?_⟩
      conv => whnf
      rw [show List.getD L (((t.2.1.length - 1 : Nat) : Int).toNat) (Sh.dflt shPlS) = ((lastL t).take m).map turnedP ++ (lastL t).drop m from hLg]
      refine ⟨⟨Int.natCast_nonneg _, by rw [hcl]; exact Int.ofNat_lt.2 k⟩, ?_⟩
      conv => whnf
      refine ⟨(by rw [hLl]; exact hll), ?_⟩
      conv => whnf
      rw [show List.getD L (((t.2.1.length - 1 : Nat) : Int).toNat) (Sh.dflt shPlS) = ((lastL t).take m).map turnedP ++ (lastL t).drop m from hLg]
      refine ⟨(by rw [hcl]; exact k), ?_⟩
      conv => whnf
      have hset : (((lastL t).take m).map turnedP ++ (lastL t).drop m).set m (turnedP ((lastL t).getD m shPlane.dflt)) = ((lastL t).take (m + 1)).map turnedP ++ (lastL t).drop (m + 1) := by
        rw [drop_getD (lastL t) k shPlane.dflt, take_getD (lastL t) k shPlane.dflt, List.map_append, set_at (by simp; omega)]
        simp
      refine ⟨(IntKind.i64.wrap ((m : Int) + 1), L.set (t.2.1.length - 1) ((((lastL t).take m).map turnedP ++ (lastL t).drop m).set m (turnedP ((lastL t).getD m shPlane.dflt)))), ?_, ⟨m + 1, wrap_succ k (by unfold Short; omega), by omega, ?_, ?_⟩, ?_⟩
      · refine st_eq ?_
        conv => whnf
        exact ⟨rfl⟩
      · show L.set (t.2.1.length - 1) ((((lastL t).take m).map turnedP ++ (lastL t).drop m).set m (turnedP ((lastL t).getD m shPlane.dflt))) = _
        rw [hset, hL, List.set_set]
      · rw [take_getD (lastL t) k shPlane.dflt, List.all_append, hall]
        show (true && (okT ((lastL t).getD m shPlane.dflt) && true)) = true
        rw [r]; rfl
      · rw [wrap_succ k (by unfold Short; omega)]; simp only [Int.toNat_natCast]; omega
  · have k : m = (lastL t).length := by have := of_decide_eq_false k0; omega
    rw [k, List.take_length, List.drop_length, List.append_nil] at hL
    rw [k, List.take_length] at hall
    rw [negR_yes (by unfold okNeg; rw [q, hall]; rfl)]
    conv => whnf
    exact ⟨_, _, rfl, .inl rfl, fin1 (by rw [hL]; rfl)⟩

end Go.Proofs.Ytcpepepdinkioaa.Ev
