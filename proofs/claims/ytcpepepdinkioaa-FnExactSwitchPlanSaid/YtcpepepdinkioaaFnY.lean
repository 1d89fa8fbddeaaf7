/- Tables of the fewest wrong days, by experts first. -/
import Derived.Test.YtcpepepdinkioaaFnX
namespace Go.Proofs.Ytcpepepdinkioaa.Ev
open Go
set_option linter.unusedVariables false
set_option linter.unusedSimpArgs false
set_option maxRecDepth 100000
set_option exponentiation.threshold 100000
set_option maxHeartbeats 2000000

def colS (p : Sample) (m K i : Nat) : List Int := (List.range (K + 1)).map fun l => cP p m l i
def dayS (p : Sample) (K d : Nat) : List (List Int) := (List.range p.1.length).map (colS p (p.2.1.length - d) K)
def colTo (p : Sample) (m K i n : Nat) : List Int := ((List.range n).map fun l => cP p m l i) ++ List.replicate (K + 1 - n) 0
theorem colTo_length {p : Sample} {m K i n : Nat} (h : n ≤ K + 1) : (colTo p m K i n).length = K + 1 := by simp [colTo]; omega
theorem colTo_set {p : Sample} {m K i n : Nat} (h : n < K + 1) : (colTo p m K i n).set n (cP p m n i) = colTo p m K i (n + 1) := by
  unfold colTo
  have e : K + 1 - n = (K + 1 - (n + 1)) + 1 := by omega
  rw [e, List.replicate_succ, set_at (by simp), List.range_succ, List.map_append, List.append_assoc]; rfl
theorem colTo_all (p : Sample) (m K i : Nat) : colTo p m K i (K + 1) = colS p m K i := by simp [colTo, colS]
theorem colTo_zero {p : Sample} {K i n : Nat} (h : n ≤ K + 1) : colTo p 0 K i n = colS p 0 K i := by
  refine List.ext_getElem (by rw [colTo_length h]; simp [colS]) ?_
  intro j h1 h2
  have e : colS p 0 K i = (List.range (K + 1)).map fun l => (0 : Int) := rfl
  have e2 : colTo p 0 K i n = ((List.range n).map fun l => (0 : Int)) ++ List.replicate (K + 1 - n) 0 := rfl
  simp only [e, e2, List.getElem_map]
  by_cases hj : j < n
  · rw [List.getElem_append_left (by simpa using hj)]; simp
  · rw [List.getElem_append_right (by simp; omega)]; simp

theorem col_no {p : Sample} {m m' K l i e : Nat} {v : Int} (hm : m = m' + 1) (hl : l < K + 1) (hv : v = bP p m' l i) (he : p.2.1.length - m = e) (hw : wP p i e = false) : (colTo p m K i l).set l v = colTo p m K i (l + 1) := by
  subst hm
  rw [← colTo_set hl, cP_succ, he, hw, hv]; simp
theorem col_yes {p : Sample} {m m' K l i e : Nat} {v : Int} (hmm : m = m' + 1) (hl : l < K + 1) (hm : m' ≤ 16) (hv : v = bP p m' l i) (he : p.2.1.length - m = e) (hw : wP p i e = true) : (colTo p m K i l).set l (IntKind.i64.wrap (v + 1)) = colTo p m K i (l + 1) := by
  subst hmm
  have h1 := cP_bd (p := p) (m' + 1) l i
  rw [cP_succ, he, hw] at h1
  simp only [cond_true] at h1
  rw [hv, wrap_in (by omega) (by omega), ← colTo_set hl, cP_succ, he, hw]; rfl

theorem s_l1Least_ok (a b : Int) : orc.pc n_s_l1Least [.d tI a, .d tI b] ⟨tI, .fz, least a b⟩ := by
  refine p_s_l1Least true rfl rfl ?_
  conv => whnf
  refine cond_intro (fun h => ?_) (fun h => ?_)
  · have h : a < b := of_decide_eq_true h
    rw [show least a b = a from if_pos h]
    conv => whnf
    exact ⟨_, _, rfl, .inl rfl, rfl⟩
  · have h : ¬ a < b := of_decide_eq_false h
    rw [show least a b = b from if_neg h]
    conv => whnf
    exact ⟨_, _, rfl, .inl rfl, rfl⟩

theorem bnot_true {b : Bool} (h : (b == true) = false) : b = false := by cases b <;> simp at h ⊢
theorem s_l11Switch_ok (p : Sample) (hv : isPanel p = true) (hp : FitS p) (K : Nat) (hK : K ≤ 16) :
    orc.pc n_s_l11Switch [.d shSample p, .d tI (K : Int)] ⟨.sl tISS, .ow (.ow (.ow .fz)), (List.range (p.2.1.length + 1)).map (dayS p K)⟩ := by
  obtain ⟨hD, hN1, hN⟩ := panel_len hv
  have hw1 : IntKind.i64.wrap ((p.2.1.length : Int) + 1) = ((p.2.1.length + 1 : Nat) : Int) := wrap_nat (by omega)
  have hw2 : IntKind.i64.wrap ((K : Int) + 1) = ((K + 1 : Nat) : Int) := wrap_nat (by omega)
  refine p_s_l11Switch true rfl rfl ?_
  conv => whnf
  rw [hw1]
  refine ⟨room_make (Int.natCast_nonneg _) (by omega) (by decide), ?_⟩
  conv => whnf
  refine loop_ups (X := Int × List (List (List Int))) (fun (day, x) => [⟨0, 8, false, .d tI day⟩, ⟨0, 7, false, .own tISS (.ow (.ow .fz)) x⟩]) (fun (day, _) => (day + 1).toNat)
    (fun (day, x) => ∃ d : Nat, day = (d : Int) - 1 ∧ d ≤ p.2.1.length + 1 ∧ x = hdT (dayS p K) p.2.1.length d) ((p.2.1.length : Int), List.replicate (p.2.1.length + 1) []) ?_ ⟨p.2.1.length + 1, by omega, Nat.le_refl _, (hdT_top _ _).symm⟩ ?_
  · refine st_eq ?_
    conv => whnf
    exact ⟨rfl⟩
  rintro ⟨_, _⟩ ⟨d, rfl, hd, rfl⟩
  cases d with
  | zero =>
    rw [hdT_zero]
    conv => whnf
    exact ⟨_, _, rfl, .inl rfl, fin1 (rfl)⟩
  | succ e =>
    have e1 : ((e + 1 : Nat) : Int) - 1 = (e : Int) := by omega
    rw [e1, hdT_mid (dayS p K) p.2.1.length (by omega)]
    conv => whnf
    refine loop_ups (X := Int × List (List (List Int))) (fun (i, x) => [⟨0, 9, false, .d tI i⟩, ⟨0, 7, false, .own tISS (.ow (.ow .fz)) x⟩]) (fun (i, _) => p.1.length - i.toNat)
      (fun (i, x) => ∃ n : Nat, i = n ∧ n ≤ p.1.length ∧ x = midT (dayS p K) p.2.1.length e ((List.range n).map (colS p (p.2.1.length - e) K))) (0, midT (dayS p K) p.2.1.length e []) ?_ ⟨0, rfl, by omega, rfl⟩ ?_
    · refine st_eq ?_
      conv => whnf
      exact ⟨rfl⟩
    rintro ⟨_, _⟩ ⟨i, rfl, hi, rfl⟩
    conv => whnf
    refine cond_intro (fun h => ?_) (fun h => ?_)
    · have hh : i < p.1.length := by have := of_decide_eq_true h; omega
      conv => whnf
      rw [hw2]
      refine ⟨room_make (Int.natCast_nonneg _) (by omega) (by decide), ?_⟩
      conv => whnf
      have g0 : (midT (dayS p K) p.2.1.length e ((List.range i).map (colS p (p.2.1.length - e) K))).length = p.2.1.length + 1 := midT_length _ _ (by omega) _
      have g1 : (midT (dayS p K) p.2.1.length e ((List.range i).map (colS p (p.2.1.length - e) K))).getD e tISS.dflt = (List.range i).map (colS p (p.2.1.length - e) K) := midT_get _ _ _ _
      have g2 : ((midT (dayS p K) p.2.1.length e ((List.range i).map (colS p (p.2.1.length - e) K))).getD e tISS.dflt).length = i := by rw [g1]; simp
      have g5 : ((midT (dayS p K) p.2.1.length e ((List.range i).map (colS p (p.2.1.length - e) K))).getD e tISS.dflt).length ≤ 1048577 := by omega
      refine loop_ups (X := Int × List Int) (fun (l, x) => [⟨0, 11, false, .d tI l⟩, ⟨0, 10, false, .own tI .fz x⟩]) (fun (l, _) => K + 1 - l.toNat)
        (fun (l, x) => ∃ n : Nat, l = n ∧ n ≤ K + 1 ∧ x = colTo p (p.2.1.length - e) K i n) (0, List.replicate (K + 1) 0) ?_ ⟨0, rfl, by omega, by simp [colTo]⟩ ?_
      · refine st_eq ?_
        conv => whnf
        exact ⟨rfl⟩
      rintro ⟨_, _⟩ ⟨l, rfl, hl, rfl⟩
      have f1 : e < (midT (dayS p K) p.2.1.length e ((List.range i).map (colS p (p.2.1.length - e) K))).length := by omega
      have i1 : 0 ≤ (e : Int) ∧ (e : Int) < (midT (dayS p K) p.2.1.length e ((List.range i).map (colS p (p.2.1.length - e) K))).length := ⟨Int.natCast_nonneg _, Int.ofNat_lt.2 f1⟩
      conv => whnf
      refine cond_intro (fun a0 => ?_) (fun a0 => ?_)
      · have a : l < K + 1 := by have := of_decide_eq_true (eq_of_beq a0); omega
        conv => whnf
        refine cond_intro (fun b0 => ?_) (fun b0 => ?_)
        · have b : e < p.2.1.length := by have := of_decide_eq_true b0; omega
          have hw3 : IntKind.i64.wrap ((e : Int) + 1) = ((e + 1 : Nat) : Int) := wrap_nat (by omega)
          have te : (IntKind.i64.wrap ((e : Int) + 1)).toNat = e + 1 := by rw [hw3]; rfl
          have hM : ((midT (dayS p K) p.2.1.length e ((List.range i).map (colS p (p.2.1.length - e) K))).getD (IntKind.i64.wrap ((e : Int) + 1)).toNat tISS.dflt) = dayS p K (e + 1) := by rw [te]; exact midT_next _ _ b _ _
          have hlen : ((midT (dayS p K) p.2.1.length e ((List.range i).map (colS p (p.2.1.length - e) K))).getD (IntKind.i64.wrap ((e : Int) + 1)).toNat tISS.dflt).length = p.1.length := by rw [hM]; simp [dayS]
          have hcol : ∀ j, j < p.1.length → ((midT (dayS p K) p.2.1.length e ((List.range i).map (colS p (p.2.1.length - e) K))).getD (IntKind.i64.wrap ((e : Int) + 1)).toNat tISS.dflt).getD j tIS.dflt = colS p (p.2.1.length - (e + 1)) K j := by intro j hj; rw [hM]; exact getD_range_map hj _
          have hcl : ∀ j, j < p.1.length → (((midT (dayS p K) p.2.1.length e ((List.range i).map (colS p (p.2.1.length - e) K))).getD (IntKind.i64.wrap ((e : Int) + 1)).toNat tISS.dflt).getD j tIS.dflt).length = K + 1 := by intro j hj; rw [hcol j hj]; simp [colS]
          have hval : ∀ j k, j < p.1.length → k < K + 1 → (((midT (dayS p K) p.2.1.length e ((List.range i).map (colS p (p.2.1.length - e) K))).getD (IntKind.i64.wrap ((e : Int) + 1)).toNat tISS.dflt).getD j tIS.dflt).getD k tI.dflt = cP p (p.2.1.length - (e + 1)) k j := by intro j k hj hk; rw [hcol j hj]; exact getD_range_map hk _
          have i1w : 0 ≤ (IntKind.i64.wrap ((e : Int) + 1)) ∧ (IntKind.i64.wrap ((e : Int) + 1)) < (midT (dayS p K) p.2.1.length e ((List.range i).map (colS p (p.2.1.length - e) K))).length := by rw [hw3, g0]; omega
          have f1w : (IntKind.i64.wrap ((e : Int) + 1)).toNat < (midT (dayS p K) p.2.1.length e ((List.range i).map (colS p (p.2.1.length - e) K))).length := by rw [te, g0]; omega
          have f2w : ∀ j, j < p.1.length → j < ((midT (dayS p K) p.2.1.length e ((List.range i).map (colS p (p.2.1.length - e) K))).getD (IntKind.i64.wrap ((e : Int) + 1)).toNat tISS.dflt).length := fun j hj => by rw [hlen]; exact hj
          have i2w : ∀ j, j < p.1.length → 0 ≤ (j : Int) ∧ (j : Int) < ((midT (dayS p K) p.2.1.length e ((List.range i).map (colS p (p.2.1.length - e) K))).getD (IntKind.i64.wrap ((e : Int) + 1)).toNat tISS.dflt).length := fun j hj => ⟨Int.natCast_nonneg _, Int.ofNat_lt.2 (f2w j hj)⟩
          have f3w : l < (((midT (dayS p K) p.2.1.length e ((List.range i).map (colS p (p.2.1.length - e) K))).getD (IntKind.i64.wrap ((e : Int) + 1)).toNat tISS.dflt).getD i tIS.dflt).length := by rw [hcl i hh]; exact a
          have i3w : 0 ≤ (l : Int) ∧ (l : Int) < (((midT (dayS p K) p.2.1.length e ((List.range i).map (colS p (p.2.1.length - e) K))).getD (IntKind.i64.wrap ((e : Int) + 1)).toNat tISS.dflt).getD i tIS.dflt).length := ⟨Int.natCast_nonneg _, Int.ofNat_lt.2 f3w⟩
          have hm' : p.2.1.length - e = (p.2.1.length - (e + 1)) + 1 := by omega
          conv => whnf
          refine ⟨i1w, ?_⟩
          conv => whnf
          refine ⟨f1w, ?_⟩
          conv => whnf
          refine ⟨f1w, ?_⟩
          conv => whnf
          refine ⟨i2w i hh, ?_⟩
          conv => whnf
          refine ⟨f1w, ?_⟩
          conv => whnf
          refine ⟨f2w i hh, ?_⟩
          conv => whnf
          refine ⟨f1w, ?_⟩
          conv => whnf
          refine ⟨f2w i hh, ?_⟩
          conv => whnf
          refine ⟨i3w, ?_⟩
          conv => whnf
          refine ⟨f1w, ?_⟩
          conv => whnf
          refine ⟨f2w i hh, ?_⟩
          conv => whnf
          refine ⟨f3w, ?_⟩
          conv => whnf
          have hF := colTo_length (p := p) (m := p.2.1.length - e) (i := i) hl
          have r2 : l < (colTo p (p.2.1.length - e) K i l).length := by omega
          have r1 : 0 ≤ (l : Int) ∧ (l : Int) < (colTo p (p.2.1.length - e) K i l).length := ⟨Int.natCast_nonneg _, Int.ofNat_lt.2 r2⟩
          have hsl := (say_in hv hh b).1
          refine loop_ups (X := Int × Int) (fun (j, v) => [⟨0, 13, false, .d tI j⟩, ⟨0, 12, false, .d tI v⟩]) (fun (j, _) => p.1.length - j.toNat)
            (fun (j, v) => ∃ n : Nat, j = n ∧ n ≤ p.1.length ∧ (l = 0 → n = 0) ∧ v = mn (cP p (p.2.1.length - (e + 1)) (l - 1)) n (cP p (p.2.1.length - (e + 1)) l i)) (0, (((midT (dayS p K) p.2.1.length e ((List.range i).map (colS p (p.2.1.length - e) K))).getD (IntKind.i64.wrap ((e : Int) + 1)).toNat tISS.dflt).getD i tIS.dflt).getD l tI.dflt) ?_ ⟨0, rfl, by omega, fun _ => rfl, hval i l hh a⟩ ?_
          · refine st_eq ?_
            conv => whnf
            exact ⟨rfl⟩
          rintro ⟨_, _⟩ ⟨n, rfl, hn, hz, rfl⟩
          conv => whnf
          refine cond_intro (fun c0 => ?_) (fun c0 => ?_)
          · have c : n < p.1.length := by have := of_decide_eq_true (eq_of_beq c0); omega
            conv => whnf
            refine cond_intro (fun z0 => ?_) (fun z0 => ?_)
            · have z : 0 < l := by have := of_decide_eq_true z0; omega
              have tl : (IntKind.i64.wrap ((l : Int) - 1)) = ((l - 1 : Nat) : Int) := by rw [wrap_in (by omega) (by omega)]; omega
              have tl' : (IntKind.i64.wrap ((l : Int) - 1)).toNat = l - 1 := by rw [tl]; rfl
              have i4w : 0 ≤ (IntKind.i64.wrap ((l : Int) - 1)) ∧ (IntKind.i64.wrap ((l : Int) - 1)) < (((midT (dayS p K) p.2.1.length e ((List.range i).map (colS p (p.2.1.length - e) K))).getD (IntKind.i64.wrap ((e : Int) + 1)).toNat tISS.dflt).getD n tIS.dflt).length := by rw [tl, hcl n c]; omega
              have f4w : (IntKind.i64.wrap ((l : Int) - 1)).toNat < (((midT (dayS p K) p.2.1.length e ((List.range i).map (colS p (p.2.1.length - e) K))).getD (IntKind.i64.wrap ((e : Int) + 1)).toNat tISS.dflt).getD n tIS.dflt).length := by rw [tl', hcl n c]; omega
              have hv4 : (((midT (dayS p K) p.2.1.length e ((List.range i).map (colS p (p.2.1.length - e) K))).getD (IntKind.i64.wrap ((e : Int) + 1)).toNat tISS.dflt).getD n tIS.dflt).getD (IntKind.i64.wrap ((l : Int) - 1)).toNat tI.dflt = cP p (p.2.1.length - (e + 1)) (l - 1) n := by rw [tl']; exact hval n (l - 1) c (by omega)
              conv => whnf
              refine ⟨i1w, ?_⟩
              conv => whnf
              refine ⟨f1w, ?_⟩
              conv => whnf
              refine ⟨f1w, ?_⟩
              conv => whnf
              refine ⟨i2w n c, ?_⟩
              conv => whnf
              refine ⟨f1w, ?_⟩
              conv => whnf
              refine ⟨f2w n c, ?_⟩
              conv => whnf
              refine ⟨f1w, ?_⟩
              conv => whnf
              refine ⟨f2w n c, ?_⟩
              conv => whnf
              refine ⟨i4w, ?_⟩
              conv => whnf
              refine ⟨f1w, ?_⟩
              conv => whnf
              refine ⟨f2w n c, ?_⟩
              conv => whnf
              refine ⟨f4w, ?_⟩
              conv => whnf
              refine ⟨_, s_l1Least_ok _ _, (by first | exact (fun _ => rfl) | exact (fun h => Bool.noConfusion h)), ?_⟩
              conv => whnf
              refine ⟨(_, _), rfl, ⟨n + 1, wrap_succ c (by unfold Short; omega), by omega, fun h => by omega, congrArg (least (mn (cP p (p.2.1.length - (e + 1)) (l - 1)) n (cP p (p.2.1.length - (e + 1)) l i))) hv4⟩, ?_⟩
              rw [wrap_succ c (by unfold Short; omega)]; simp; omega
            · have z : l = 0 := by have := of_decide_eq_false z0; omega
              have hvb : mn (cP p (p.2.1.length - (e + 1)) (l - 1)) n (cP p (p.2.1.length - (e + 1)) l i) = bP p (p.2.1.length - (e + 1)) l i := by
                rw [hz z]; unfold bP bst; rw [z]; rfl
              conv => whnf
              refine ⟨⟨Int.natCast_nonneg _, Int.ofNat_lt.2 hh⟩, ?_⟩
              conv => whnf
              refine ⟨⟨Int.natCast_nonneg _, Int.ofNat_lt.2 hsl⟩, ?_⟩
              conv => whnf
              refine ⟨⟨Int.natCast_nonneg _, Int.ofNat_lt.2 b⟩, ?_⟩
              conv => whnf
              refine ⟨_, s_l11Wrong_ok _ _, (by first | exact (fun _ => rfl) | exact (fun h => Bool.noConfusion h)), ?_⟩
              conv => whnf
              refine cond_intro (fun w0 => ?_) (fun w0 => ?_)
              · conv => whnf
                refine ⟨r1, ?_⟩
                conv => whnf
                refine ⟨r2, ?_⟩
                conv => whnf
                refine ⟨(_, _), rfl, ⟨l + 1, wrap_succ a (by unfold Short; omega), by omega, col_yes hm' a (by omega) hvb (by omega) w0⟩, ?_⟩
                rw [wrap_succ a (by unfold Short; omega)]; simp; omega
              · conv => whnf
                refine ⟨r1, ?_⟩
                conv => whnf
                refine ⟨r2, ?_⟩
                conv => whnf
                refine ⟨(_, _), rfl, ⟨l + 1, wrap_succ a (by unfold Short; omega), by omega, col_no hm' a hvb (by omega) w0⟩, ?_⟩
                rw [wrap_succ a (by unfold Short; omega)]; simp; omega
          · have c : n = p.1.length := by have := of_decide_eq_false (bnot_true c0); omega
            have hvb : mn (cP p (p.2.1.length - (e + 1)) (l - 1)) n (cP p (p.2.1.length - (e + 1)) l i) = bP p (p.2.1.length - (e + 1)) l i := by
              have z : l ≠ 0 := fun z => by have := hz z; omega
              rw [c]; unfold bP bst; rw [show (l == 0) = false by simp [z]]; rfl
            conv => whnf
            refine ⟨⟨Int.natCast_nonneg _, Int.ofNat_lt.2 hh⟩, ?_⟩
            conv => whnf
            refine ⟨⟨Int.natCast_nonneg _, Int.ofNat_lt.2 hsl⟩, ?_⟩
            conv => whnf
            refine ⟨⟨Int.natCast_nonneg _, Int.ofNat_lt.2 b⟩, ?_⟩
            conv => whnf
            refine ⟨_, s_l11Wrong_ok _ _, (by first | exact (fun _ => rfl) | exact (fun h => Bool.noConfusion h)), ?_⟩
            conv => whnf
            refine cond_intro (fun w0 => ?_) (fun w0 => ?_)
            · conv => whnf
              refine ⟨r1, ?_⟩
              conv => whnf
              refine ⟨r2, ?_⟩
              conv => whnf
              refine ⟨(_, _), rfl, ⟨l + 1, wrap_succ a (by unfold Short; omega), by omega, col_yes hm' a (by omega) hvb (by omega) w0⟩, ?_⟩
              rw [wrap_succ a (by unfold Short; omega)]; simp; omega
            · conv => whnf
              refine ⟨r1, ?_⟩
              conv => whnf
              refine ⟨r2, ?_⟩
              conv => whnf
              refine ⟨(_, _), rfl, ⟨l + 1, wrap_succ a (by unfold Short; omega), by omega, col_no hm' a hvb (by omega) w0⟩, ?_⟩
              rw [wrap_succ a (by unfold Short; omega)]; simp; omega
        · have b : e = p.2.1.length := by have := of_decide_eq_false b0; omega
          have hrow : colTo p (p.2.1.length - e) K i l = colS p (p.2.1.length - e) K i := by rw [show p.2.1.length - e = 0 by omega]; exact colTo_zero hl
          conv => whnf
          refine ⟨i1, ?_⟩
          conv => whnf
          refine ⟨f1, ?_⟩
          conv => whnf
          refine ⟨f1, ?_⟩
          conv => whnf
          refine ⟨f1, ?_⟩
          conv => whnf
          refine ⟨⟨room_snoc g5 (by decide), len_snoc g5⟩, ?_⟩
          conv => whnf
          refine ⟨i1, ?_⟩
          conv => whnf
          refine ⟨rfl, ?_⟩
          conv => whnf
          refine ⟨(_, _), rfl, ⟨i + 1, wrap_succ hh (by unfold Short; omega), by omega, ?_⟩, ?_⟩
          · show (midT (dayS p K) p.2.1.length e ((List.range i).map (colS p (p.2.1.length - e) K))).set e ((midT (dayS p K) p.2.1.length e ((List.range i).map (colS p (p.2.1.length - e) K))).getD e tISS.dflt ++ [colTo p (p.2.1.length - e) K i l]) = _
            rw [midT_set, g1, hrow, List.range_succ, List.map_append]; rfl
          · rw [wrap_succ hh (by unfold Short; omega)]; simp; omega
      · have a : l = K + 1 := by have := of_decide_eq_false (bnot_true a0); omega
        have hrow : colTo p (p.2.1.length - e) K i l = colS p (p.2.1.length - e) K i := by rw [a]; exact colTo_all _ _ _ _
        conv => whnf
        refine ⟨i1, ?_⟩
        conv => whnf
        refine ⟨f1, ?_⟩
        conv => whnf
        refine ⟨f1, ?_⟩
        conv => whnf
        refine ⟨f1, ?_⟩
        conv => whnf
        refine ⟨⟨room_snoc g5 (by decide), len_snoc g5⟩, ?_⟩
        conv => whnf
        refine ⟨i1, ?_⟩
        conv => whnf
        refine ⟨rfl, ?_⟩
        conv => whnf
        refine ⟨(_, _), rfl, ⟨i + 1, wrap_succ hh (by unfold Short; omega), by omega, ?_⟩, ?_⟩
        · show (midT (dayS p K) p.2.1.length e ((List.range i).map (colS p (p.2.1.length - e) K))).set e ((midT (dayS p K) p.2.1.length e ((List.range i).map (colS p (p.2.1.length - e) K))).getD e tISS.dflt ++ [colTo p (p.2.1.length - e) K i l]) = _
          rw [midT_set, g1, hrow, List.range_succ, List.map_append]; rfl
        · rw [wrap_succ hh (by unfold Short; omega)]; simp; omega
    · have hh : i = p.1.length := by have := of_decide_eq_false h; omega
      subst hh
      conv => whnf
      refine ⟨(_, _), rfl, ⟨e, ?_, by omega, midT_hd (dayS p K) p.2.1.length (by omega)⟩, ?_⟩
      · rw [wrap_in (by omega) (by omega)]
      · rw [wrap_in (by omega) (by omega)]; show ((e : Int) - 1 + 1).toNat < ((e : Int) + 1).toNat; omega

end Go.Proofs.Ytcpepepdinkioaa.Ev
