/- Nets: the net that gives the other numbers, as the program makes it. -/
import Derived.Test.YtcpepepdinkioaaFnND
namespace Go.Proofs.Ytcpepepdinkioaa.Ev
open Go
set_option linter.unusedVariables false
set_option linter.unusedSimpArgs false
set_option maxRecDepth 100000
set_option exponentiation.threshold 100000

/-- The layer 'n' of the other net. -/
def negL (t : Net) (n : Nat) : List Plane := if n < t.2.1.length - 1 then t.2.1.getD n (Sh.dflt shPlS) else (lastL t).map turnedP
theorem neg_take {t : Net} {n : Nat} (h : n < t.2.1.length) : (negN t).2.1.take (n + 1) = (negN t).2.1.take n ++ [negL t n] := by
  have hl : n < (negN t).2.1.length := by simpa [negN] using h
  rw [take_getD (negN t).2.1 hl (Sh.dflt shPlS)]
  congr 2
  unfold negL negN
  show List.getD (t.2.1.set (t.2.1.length - 1) ((lastL t).map turnedP)) n _ = _
  split
  · rename_i g
    rw [List.getD_eq_getElem?_getD, List.getElem?_set_ne (by omega), ← List.getD_eq_getElem?_getD]
  · rename_i g
    obtain rfl : n = t.2.1.length - 1 := by omega
    rw [List.getD_eq_getElem?_getD, List.getElem?_set_self h]; rfl

theorem i_NegateNet_ok (t : Net) (ht : FitPP t.2.1) : orc.pc n_i_NegateNet [.d shNet t] ⟨shNetB, oNetB, negR t⟩ := by
  refine p_i_NegateNet true rfl rfl ?_
  conv => whnf
  refine ⟨_, i_IsNet_ok t ht, (by first | exact (fun _ => rfl) | exact (fun h => Bool.noConfusion h)), ?_⟩
  conv => whnf
  refine cond_intro (fun q0 => ?_) (fun q0 => ?_)
  · have q : isNet t = false := not_true q0
    rw [negR_no (by unfold okNeg; rw [q]; rfl)]
    conv => whnf
    exact ⟨_, _, rfl, .inl rfl, rfl⟩
  have q : isNet t = true := not_false q0
  obtain ⟨n1, n6⟩ := net_len q
  have hll : t.2.1.length - 1 < t.2.1.length := by omega
  have hw : IntKind.i64.wrap ((t.2.1.length : Int) - 1) = ((t.2.1.length - 1 : Nat) : Int) := by rw [wrap_in (by omega) (by omega)]; omega
  have hNl : (negN t).2.1.length = t.2.1.length := by simp [negN]
  conv => whnf
  refine loop_ups (X := Int × List (List Plane)) (fun (i, o) => [⟨0, 22, false, .d tI i⟩, ⟨0, 4, true, .pair .unit (.pair (.d tI t.1) (.pair (.own shPlS (.ow oPl) o) .unit))⟩]) (fun (i, _) => t.2.1.length - i.toNat) (fun (i, o) => ∃ n : Nat, i = n ∧ n ≤ t.2.1.length ∧ o = (negN t).2.1.take n ∧ (n = t.2.1.length → (lastL t).all okT = true)) (0, []) ?_ ⟨0, rfl, by omega, by simp, by omega⟩ ?_
  · refine st_eq ?_
    conv => whnf
    exact ⟨rfl⟩
  rintro ⟨_, _⟩ ⟨n, rfl, hm, rfl, hall⟩
  have hlt : ((negN t).2.1.take n).length = n := by rw [List.length_take, hNl]; omega
  conv => whnf
  refine cond_intro (fun g0 => ?_) (fun g0 => ?_)
  · have g : n < t.2.1.length := by have := of_decide_eq_true g0; exact Int.ofNat_lt.1 this
    have hx := ht.at g (Sh.dflt shPlS)
    have hxn := hx.n
    conv => whnf
    refine ⟨⟨Int.natCast_nonneg _, Int.ofNat_lt.2 g⟩, ?_⟩
    conv => whnf
    refine ⟨_, i_own_ok _ hx, (by first | exact (fun _ => rfl) | exact (fun h => Bool.noConfusion h)), ?_⟩
    conv => whnf
    refine loop_ups (X := Int × List Plane) (fun (i, o) => [⟨0, 31, false, .d tI i⟩, ⟨0, 7, false, .own shPlane oPl o⟩]) (fun (i, _) => (t.2.1.getD n (Sh.dflt shPlS)).length - i.toNat) (fun (i, o) => ∃ m : Nat, i = m ∧ m ≤ (t.2.1.getD n (Sh.dflt shPlS)).length ∧ (n < t.2.1.length - 1 → o = t.2.1.getD n (Sh.dflt shPlS)) ∧ (¬ n < t.2.1.length - 1 → o = ((t.2.1.getD n (Sh.dflt shPlS)).take m).map turnedP ++ (t.2.1.getD n (Sh.dflt shPlS)).drop m ∧ ((t.2.1.getD n (Sh.dflt shPlS)).take m).all okT = true)) (0, t.2.1.getD n (Sh.dflt shPlS)) ?_ ⟨0, rfl, by omega, fun _ => rfl, fun _ => ⟨by simp, rfl⟩⟩ ?_
    · refine st_eq ?_
      conv => whnf
      exact ⟨rfl⟩
    rintro ⟨_, C⟩ ⟨m, rfl, hmm, hc1, hc2⟩
    conv => whnf
    refine cond_intro (fun k0 => ?_) (fun k0 => ?_)
    · have k : m < (t.2.1.getD n (Sh.dflt shPlS)).length := by have := of_decide_eq_true k0; exact Int.ofNat_lt.1 this
      have hp : ((t.2.1.getD n (Sh.dflt shPlS)).getD m shPlane.dflt).1.length ≤ 1048576 := hx.at k _
      conv => whnf
      refine ⟨⟨Int.natCast_nonneg _, Int.ofNat_lt.2 k⟩, ?_⟩
      conv => whnf
      rw [hw]
      refine cond_intro (fun v0 => ?_) (fun v0 => ?_)
      · have v : n < t.2.1.length - 1 := by have := of_decide_eq_true v0; exact Int.ofNat_lt.1 this
        conv => whnf
        refine ⟨(_, C), rfl, ⟨m + 1, wrap_succ k (by unfold Short; omega), by omega, hc1, fun e => absurd v e⟩, ?_⟩
        rw [wrap_succ k (by unfold Short; omega)]; simp only [Int.toNat_natCast]; omega
      · have v : ¬ n < t.2.1.length - 1 := by
          have := of_decide_eq_false v0
          have this : ¬ ((n : Int) < ((t.2.1.length - 1 : Nat) : Int)) := this
          omega
        have hn : n = t.2.1.length - 1 := by omega
        have eL : t.2.1.getD n (Sh.dflt shPlS) = lastL t := by rw [hn]; rfl
        rw [eL] at k hp hc2 hxn
        obtain ⟨hC, hCa⟩ := hc2 v
        have hcl : C.length = (lastL t).length := by rw [hC]; simp; omega
        have c := i_TurnPlane_ok ((lastL t).getD m shPlane.dflt) hp
        conv => whnf
        rw [show List.getD t.2.1 ((n : Nat) : Int).toNat (Sh.dflt shPlS) = lastL t from eL]
        cases r : okT ((lastL t).getD m shPlane.dflt) with
        | false =>
          rw [turnP_no r] at c
          have hno : okNeg t = false := by
            unfold okNeg
            have : (lastL t).all okT = false := by
              rw [Bool.eq_false_iff]; intro e
              have := List.all_eq_true.1 e _ (getD_mem k shPlane.dflt)
              rw [r] at this; cases this
            rw [this, Bool.and_false]
          rw [negR_no hno]
          refine ⟨_, c, (by first | exact (fun _ => rfl) | exact (fun h => Bool.noConfusion h)), ?_⟩
          conv => whnf
          exact ⟨_, _, rfl, .inl rfl, rfl⟩
        | true =>
          rw [turnP_yes r] at c
          refine ⟨_, c, (by first | exact (fun _ => rfl) | exact (fun h => Bool.noConfusion h)), ?_⟩
          conv => whnf
          refine ⟨⟨Int.natCast_nonneg _, by rw [hcl]; exact Int.ofNat_lt.2 k⟩, ?_⟩
          conv => whnf
          refine ⟨(by rw [hcl]; exact k), ?_⟩
          conv => whnf
          have hset : C.set m (turnedP ((lastL t).getD m shPlane.dflt)) = ((lastL t).take (m + 1)).map turnedP ++ (lastL t).drop (m + 1) := by
            rw [hC, drop_getD (lastL t) k shPlane.dflt, take_getD (lastL t) k shPlane.dflt, List.map_append, set_at (by simp; omega)]
            simp
          refine ⟨(_, C.set m (turnedP ((lastL t).getD m shPlane.dflt))), ?_, ⟨m + 1, wrap_succ k (by unfold Short; omega), by rw [eL]; omega, fun e => absurd e v, fun _ => ⟨by rw [eL]; exact hset, ?_⟩⟩, ?_⟩
          · refine st_eq ?_
            conv => whnf
            exact ⟨rfl⟩
          · rw [eL, take_getD (lastL t) k shPlane.dflt, List.all_append, hCa]
            show (true && (okT ((lastL t).getD m shPlane.dflt) && true)) = true
            rw [r]; rfl
          · rw [wrap_succ k (by unfold Short; omega)]; rw [eL]; simp only [Int.toNat_natCast]; omega
    · have k : m = (t.2.1.getD n (Sh.dflt shPlS)).length := by
        have := of_decide_eq_false k0
        have this : ¬ ((m : Int) < ((t.2.1.getD n (Sh.dflt shPlS)).length : Int)) := this
        omega
      have hC : C = negL t n ∧ (n + 1 = t.2.1.length → (lastL t).all okT = true) := by
        unfold negL
        by_cases v : n < t.2.1.length - 1
        · rw [if_pos v]; exact ⟨hc1 v, fun e => by omega⟩
        · rw [if_neg v]
          obtain rfl : n = t.2.1.length - 1 := by omega
          obtain ⟨h1, h2⟩ := hc2 v
          rw [k, List.take_length, List.drop_length, List.append_nil] at h1
          rw [k, List.take_length] at h2
          exact ⟨h1, fun _ => h2⟩
      obtain ⟨rfl, hC2⟩ := hC
      conv => whnf
      refine ⟨⟨room_snoc (by omega) (by decide), len_snoc (by omega)⟩, ?_⟩
      conv => whnf
      refine ⟨(_, _), rfl, ⟨n + 1, wrap_succ g (by unfold Short; omega), by omega, ?_, hC2⟩, ?_⟩
      · exact (neg_take g).symm
      · rw [wrap_succ g (by unfold Short; omega)]; simp; omega
  · have g : n = t.2.1.length := by
      have := of_decide_eq_false g0
      have this : ¬ ((n : Int) < ((t.2.1.length : Nat) : Int)) := this
      omega
    have ha := hall g
    rw [negR_yes (by unfold okNeg; rw [q, ha]; rfl)]
    conv => whnf
    exact ⟨_, _, rfl, .inl rfl, fin1 (by rw [List.take_of_length_le (by omega)]; rfl)⟩

end Go.Proofs.Ytcpepepdinkioaa.Ev
