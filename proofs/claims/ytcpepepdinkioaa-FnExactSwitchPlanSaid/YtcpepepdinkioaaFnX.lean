/- Tables of the fewest wrong days. -/
import Derived.Test.YtcpepepdinkioaaFnW
namespace Go.Proofs.Ytcpepepdinkioaa.Ev
open Go
set_option linter.unusedVariables false
set_option linter.unusedSimpArgs false
set_option maxRecDepth 100000
set_option exponentiation.threshold 100000
set_option maxHeartbeats 2000000

def wP (p : Sample) (i d : Nat) : Bool := wrongB ((p.1.getD i tIS.dflt).getD d tI.dflt) (p.2.1.getD d tI.dflt)
def cP (p : Sample) (m l i : Nat) : Int := cst p.1.length (wP p) p.2.1.length m l i
def rowI (p : Sample) (m l : Nat) : List Int := (List.range p.1.length).map (cP p m l)
def dayI (p : Sample) (K d : Nat) : List (List Int) := (List.range (K + 1)).map (rowI p (p.2.1.length - d))
def rowTo (p : Sample) (m l n : Nat) : List Int := (List.range n).map (cP p m l) ++ List.replicate (p.1.length - n) 0
theorem wrap_nat {n : Nat} (h : n ≤ 1099511627776) : IntKind.i64.wrap ((n : Int) + 1) = ((n + 1 : Nat) : Int) := by rw [wrap_in (by omega) (by omega)]; omega
theorem cP_bd {p : Sample} (m l i : Nat) : 0 ≤ cP p m l i ∧ cP p m l i ≤ m := cst_bd _ _ _ m l i
theorem rowTo_length {p : Sample} {m l n : Nat} (h : n ≤ p.1.length) : (rowTo p m l n).length = p.1.length := by simp [rowTo]; omega
theorem rowTo_set {p : Sample} {m l n : Nat} (h : n < p.1.length) : (rowTo p m l n).set n (cP p m l n) = rowTo p m l (n + 1) := by
  unfold rowTo
  have e : p.1.length - n = (p.1.length - (n + 1)) + 1 := by omega
  rw [e, List.replicate_succ, set_at (by simp), List.range_succ, List.map_append, List.append_assoc]; rfl

theorem rowTo_get {p : Sample} {m l n : Nat} (h : n < p.1.length) (d : Int) : (rowTo p m l n).getD n d = 0 := by
  unfold rowTo
  have e : p.1.length - n = (p.1.length - (n + 1)) + 1 := by omega
  rw [e, List.replicate_succ, getD_mid (by simp)]; rfl
theorem set_getD_self {α : Type} (l : List α) (n : Nat) (d : α) (h : n < l.length) : l.set n (l.getD n d) = l := by
  rw [List.getD_eq_getElem?_getD, List.getElem?_eq_getElem h]; simp

def bP (p : Sample) (m l i : Nat) : Int := bst p.1.length (wP p) p.2.1.length m l i
theorem cP_succ (p : Sample) (m l i : Nat) : cP p (m + 1) l i = bP p m l i + cond (wP p i (p.2.1.length - (m + 1))) 1 0 := rfl
theorem min_mn {f : Nat → Int} {N : Nat} {s r : Int} (h : ∃ b, b < N ∧ s = f b) (hle : ∀ j, j < N → s ≤ f j) : (if s < r then s else r) = mn f N r := by
  obtain ⟨b, hb, e⟩ := h
  have h1 := mn_le f r N
  have h2 := mn_le_f f r N b hb
  rcases mn_cases f r N with h3 | ⟨j, hj, h3⟩
  · split <;> omega
  · have := hle j hj
    split <;> omega
theorem rowI_min {p : Sample} (h1 : 1 ≤ p.1.length) (m l : Nat) : (∃ b, b < p.1.length ∧ (rowI p m l).getD (fmin (rowI p m l)) tI.dflt = cP p m l b) ∧ ∀ j, j < p.1.length → (rowI p m l).getD (fmin (rowI p m l)) tI.dflt ≤ cP p m l j := by
  have hlen : (rowI p m l).length = p.1.length := by simp [rowI]
  obtain ⟨f1, f2, f3⟩ := fmin_spec (l := rowI p m l) (by intro e; rw [e] at hlen; simp at hlen; omega)
  rw [hlen] at f1 f2
  refine ⟨⟨_, f1, getD_range_map f1 _⟩, fun j hj => ?_⟩
  have := f2 j hj
  rwa [show (rowI p m l).getD j tI.dflt = cP p m l j from getD_range_map hj _] at this
theorem row_no {p : Sample} {m m' l n e : Nat} {R : List Int} (hm : m = m' + 1) (hn : n < p.1.length) (hR : R = (rowTo p m l n).set n (bP p m' l n)) (he : p.2.1.length - m = e) (hw : wP p n e = false) : R = rowTo p m l (n + 1) := by
  subst hm
  rw [hR, ← rowTo_set hn, cP_succ, he, hw]; simp
theorem row_yes {p : Sample} {m m' l n e : Nat} {R : List Int} (hmm : m = m' + 1) (hn : n < p.1.length) (hm : m' ≤ 16) (hR : R = (rowTo p m l n).set n (bP p m' l n)) (he : p.2.1.length - m = e) (hw : wP p n e = true) (d : Int) :
    R.set n (IntKind.i64.wrap (R.getD n d + 1)) = rowTo p m l (n + 1) := by
  subst hmm
  have h1 := cP_bd (p := p) (m' + 1) l n
  rw [cP_succ, he, hw] at h1
  simp only [cond_true] at h1
  have hg : R.getD n d = bP p m' l n := by rw [hR, List.getD_eq_getElem?_getD]; simp [rowTo_length (Nat.le_of_lt hn), hn]
  rw [hg, wrap_in (by omega) (by omega), ← rowTo_set hn, cP_succ, he, hw, hR, List.set_set]
  rfl

theorem i_Panel_switches_ok (p : Sample) (hv : isPanel p = true) (hp : FitS p) (K : Nat) (hK : K ≤ 16) :
    orc.pc n_i_Panel_switches [.d shSample p, .d tI (K : Int)] ⟨.sl tISS, .ow (.ow (.ow .fz)), (List.range (p.2.1.length + 1)).map (dayI p K)⟩ := by
  obtain ⟨hD, hN1, hN⟩ := panel_len hv
  have hw1 : IntKind.i64.wrap ((p.2.1.length : Int) + 1) = ((p.2.1.length + 1 : Nat) : Int) := wrap_nat (by omega)
  have hw2 : IntKind.i64.wrap ((K : Int) + 1) = ((K + 1 : Nat) : Int) := wrap_nat (by omega)
  refine p_i_Panel_switches true rfl rfl ?_
  conv => whnf
  rw [hw1]
  refine ⟨room_make (Int.natCast_nonneg _) (by omega) (by decide), ?_⟩
  conv => whnf
  refine loop_ups (X := Int × List (List (List Int))) (fun (day, x) => [⟨0, 8, false, .d tI day⟩, ⟨0, 7, false, .own tISS (.ow (.ow .fz)) x⟩]) (fun (day, _) => (day + 1).toNat)
    (fun (day, x) => ∃ d : Nat, day = (d : Int) - 1 ∧ d ≤ p.2.1.length + 1 ∧ x = hdT (dayI p K) p.2.1.length d) ((p.2.1.length : Int), List.replicate (p.2.1.length + 1) []) ?_ ⟨p.2.1.length + 1, by omega, Nat.le_refl _, (hdT_top _ _).symm⟩ ?_
  · refine st_eq ?_
    conv => whnf
    exact ⟨rfl⟩
  rintro ⟨_, _⟩ ⟨d, rfl, hd, rfl⟩
  cases d with
  | zero =>
    rw [hdT_zero]
    conv => whnf
    exact ⟨_, _, rfl, .inl rfl, fin1 (rfl)⟩
  | succ e =>
    have e1 : ((e + 1 : Nat) : Int) - 1 = (e : Int) := by omega
    rw [e1, hdT_mid (dayI p K) p.2.1.length (by omega)]
    conv => whnf
    rw [hw2]
    refine loop_ups (X := Int × List (List (List Int))) (fun (l, x) => [⟨0, 28, false, .d tI l⟩, ⟨0, 7, false, .own tISS (.ow (.ow .fz)) x⟩]) (fun (l, _) => K + 1 - l.toNat)
      (fun (l, x) => ∃ n : Nat, l = n ∧ n ≤ K + 1 ∧ x = midT (dayI p K) p.2.1.length e ((List.range n).map (rowI p (p.2.1.length - e)))) (0, midT (dayI p K) p.2.1.length e []) ?_ ⟨0, rfl, by omega, rfl⟩ ?_
    · refine st_eq ?_
      conv => whnf
      exact ⟨rfl⟩
    rintro ⟨_, _⟩ ⟨l, rfl, hl, rfl⟩
    conv => whnf
    refine cond_intro (fun h => ?_) (fun h => ?_)
    · have hlK : l < K + 1 := by have := of_decide_eq_true h; omega
      conv => whnf
      refine ⟨room_make (Int.natCast_nonneg _) (by omega) (by decide), ?_⟩
      conv => whnf
      refine loop_ups (X := Int × List Int) (fun (i, x) => [⟨0, 35, false, .d tI i⟩, ⟨0, 10, false, .own tI .fz x⟩]) (fun (i, _) => p.1.length - i.toNat)
        (fun (i, x) => ∃ n : Nat, i = n ∧ n ≤ p.1.length ∧ x = rowTo p (p.2.1.length - e) l n) (0, List.replicate p.1.length 0) ?_ ⟨0, rfl, by omega, by simp [rowTo]⟩ ?_
      · refine st_eq ?_
        conv => whnf
        exact ⟨rfl⟩
      rintro ⟨_, _⟩ ⟨n, rfl, hn, rfl⟩
      conv => whnf
      refine cond_intro (fun h => ?_) (fun h => ?_)
      · have hh : n < p.1.length := by rw [List.length_replicate] at h; simpa using h
        have hF := rowTo_length (p := p) (m := p.2.1.length - e) (l := l) hn
        conv => whnf
        refine cond_intro (fun q0 => ?_) (fun q0 => ?_)
        · have q : e = p.2.1.length := by have := eq_of_beq q0; omega
          conv => whnf
          refine ⟨(_, _), rfl, ⟨n + 1, wrap_succ hh (by unfold Short; omega), by omega, ?_⟩, ?_⟩
          · have z : cP p (p.2.1.length - e) l n = (rowTo p (p.2.1.length - e) l n).getD n 0 := by rw [rowTo_get hh, show p.2.1.length - e = 0 by omega]; rfl
            rw [← rowTo_set hh, z, set_getD_self _ _ _ (by omega)]
          · rw [wrap_succ hh (by unfold Short; omega)]; simp; omega
        · have q : e < p.2.1.length := by have := ne_of_beq_false q0; omega
          have hw3 : IntKind.i64.wrap ((e : Int) + 1) = ((e + 1 : Nat) : Int) := wrap_nat (by omega)
          obtain ⟨T, hTe⟩ : ∃ T, T = midT (dayI p K) p.2.1.length e ((List.range l).map (rowI p (p.2.1.length - e))) := ⟨_, rfl⟩
          have g0 : T.length = p.2.1.length + 1 := by rw [hTe, midT_length _ _ (by omega)]
          have g1 : T.getD (e + 1) tISS.dflt = dayI p K (e + 1) := by rw [hTe]; exact midT_next _ _ q _ _
          have g2 : (T.getD (e + 1) tISS.dflt).length = K + 1 := by rw [g1]; simp [dayI]
          have g3 : ∀ j, j < K + 1 → (T.getD (e + 1) tISS.dflt).getD j tIS.dflt = rowI p (p.2.1.length - (e + 1)) j := by intro j hj; rw [g1]; exact getD_range_map hj _
          have g4 : ∀ j, j < K + 1 → ((T.getD (e + 1) tISS.dflt).getD j tIS.dflt).length = p.1.length := by intro j hj; rw [g3 j hj]; simp [rowI]
          rw [← hTe]
          have hm' : p.2.1.length - e = (p.2.1.length - (e + 1)) + 1 := by omega
          conv => whnf
          rw [hw3]
          have f1 : e + 1 < T.length := by omega
          have f2 : ∀ j, j < K + 1 → j < (T.getD (e + 1) tISS.dflt).length := fun j hj => by omega
          have f3 : ∀ j, j < K + 1 → n < ((T.getD (e + 1) tISS.dflt).getD j tIS.dflt).length := fun j hj => by rw [g4 j hj]; exact hh
          have i1 : 0 ≤ ((e + 1 : Nat) : Int) ∧ ((e + 1 : Nat) : Int) < T.length := ⟨Int.natCast_nonneg _, Int.ofNat_lt.2 f1⟩
          have i2 : ∀ j, j < K + 1 → 0 ≤ (j : Int) ∧ (j : Int) < (T.getD (e + 1) tISS.dflt).length := fun j hj => ⟨Int.natCast_nonneg _, Int.ofNat_lt.2 (f2 j hj)⟩
          have i3 : ∀ j, j < K + 1 → 0 ≤ (n : Int) ∧ (n : Int) < ((T.getD (e + 1) tISS.dflt).getD j tIS.dflt).length := fun j hj => ⟨Int.natCast_nonneg _, Int.ofNat_lt.2 (f3 j hj)⟩
          repeat ((first | refine ⟨f1, ?_⟩ | refine ⟨i1, ?_⟩ | refine ⟨f2 l hlK, ?_⟩ | refine ⟨i2 l hlK, ?_⟩ | refine ⟨f3 l hlK, ?_⟩ | refine ⟨i3 l hlK, ?_⟩); conv => whnf)
          have hs0 : ∀ v, ((rowTo p (p.2.1.length - e) l n).set n v).length = p.1.length := by intro v; rw [List.length_set]; exact hF
          have r1 : 0 ≤ (n : Int) ∧ (n : Int) < (rowTo p (p.2.1.length - e) l n).length := ⟨Int.natCast_nonneg _, Int.ofNat_lt.2 (by omega)⟩
          have r2 : n < (rowTo p (p.2.1.length - e) l n).length := by omega
          have r3 : ∀ v, 0 ≤ (n : Int) ∧ (n : Int) < ((rowTo p (p.2.1.length - e) l n).set n v).length := fun v => ⟨Int.natCast_nonneg _, Int.ofNat_lt.2 (by rw [hs0]; exact hh)⟩
          have r4 : ∀ v, n < ((rowTo p (p.2.1.length - e) l n).set n v).length := fun v => by rw [hs0]; exact hh
          have hs1 : ∀ v u, (((rowTo p (p.2.1.length - e) l n).set n v).set n u).length = p.1.length := by intro v u; rw [List.length_set, List.length_set]; exact hF
          have r5 : ∀ v u, 0 ≤ (n : Int) ∧ (n : Int) < (((rowTo p (p.2.1.length - e) l n).set n v).set n u).length := fun v u => ⟨Int.natCast_nonneg _, Int.ofNat_lt.2 (by rw [hs1]; exact hh)⟩
          have r6 : ∀ v u, n < (((rowTo p (p.2.1.length - e) l n).set n v).set n u).length := fun v u => by rw [hs1]; exact hh
          repeat ((first | refine ⟨r1, ?_⟩ | refine ⟨r2, ?_⟩); conv => whnf)
          refine cond_intro (fun z0 => ?_) (fun z0 => ?_)
          · have z : 0 < l := by have := of_decide_eq_true z0; omega
            have hw4 : IntKind.i64.wrap ((l : Int) - 1) = ((l - 1 : Nat) : Int) := by rw [wrap_in (by omega) (by omega)]; omega
            have hl1 : l - 1 < K + 1 := by omega
            conv => whnf
            refine ⟨r3 _, ?_⟩
            conv => whnf
            refine ⟨r4 _, ?_⟩
            conv => whnf
            have te : (IntKind.i64.wrap ((e : Int) + 1)).toNat = e + 1 := by rw [hw3]; rfl
            have tl : (IntKind.i64.wrap ((l : Int) - 1)).toNat = l - 1 := by rw [hw4]; rfl
            have i1w : 0 ≤ IntKind.i64.wrap ((e : Int) + 1) ∧ IntKind.i64.wrap ((e : Int) + 1) < T.length := by rw [hw3]; exact i1
            have f1w : (IntKind.i64.wrap ((e : Int) + 1)).toNat < T.length := by rw [te]; exact f1
            have i2w : 0 ≤ IntKind.i64.wrap ((l : Int) - 1) ∧ IntKind.i64.wrap ((l : Int) - 1) < (T.getD (IntKind.i64.wrap ((e : Int) + 1)).toNat tISS.dflt).length := by rw [te, hw4]; exact i2 _ hl1
            have f2w : (IntKind.i64.wrap ((l : Int) - 1)).toNat < (T.getD (IntKind.i64.wrap ((e : Int) + 1)).toNat tISS.dflt).length := by rw [te, tl]; exact f2 _ hl1
            have hL : (T.getD (IntKind.i64.wrap ((e : Int) + 1)).toNat tISS.dflt).getD (IntKind.i64.wrap ((l : Int) - 1)).toNat tIS.dflt = rowI p (p.2.1.length - (e + 1)) (l - 1) := by rw [te, tl]; exact g3 _ hl1
            refine ⟨i1w, ?_⟩
            conv => whnf
            refine ⟨f1w, ?_⟩
            conv => whnf
            refine ⟨f1w, ?_⟩
            conv => whnf
            refine ⟨i2w, ?_⟩
            conv => whnf
            refine ⟨f1w, ?_⟩
            conv => whnf
            refine ⟨f2w, ?_⟩
            conv => whnf
            refine ⟨f1w, ?_⟩
            conv => whnf
            refine ⟨f2w, ?_⟩
            conv => whnf
            refine ⟨_, slices_Min_ok _ (show List.length ((T.getD (IntKind.i64.wrap ((e : Int) + 1)).toNat tISS.dflt).getD (IntKind.i64.wrap ((l : Int) - 1)).toNat tIS.dflt) ≤ _ by rw [te, tl, g4 _ hl1]; omega) (show ((T.getD (IntKind.i64.wrap ((e : Int) + 1)).toNat tISS.dflt).getD (IntKind.i64.wrap ((l : Int) - 1)).toNat tIS.dflt) ≠ [] by rw [te, tl]; intro z; have := g4 _ hl1; rw [z] at this; simp at this; omega), (by first | exact (fun _ => rfl) | exact (fun h => Bool.noConfusion h)), ?_⟩
            conv => whnf
            refine ⟨r3 _, ?_⟩
            conv => whnf
            refine ⟨r4 _, ?_⟩
            conv => whnf
            have hb : bP p (p.2.1.length - (e + 1)) l n = mn (cP p (p.2.1.length - (e + 1)) (l - 1)) p.1.length (cP p (p.2.1.length - (e + 1)) l n) := by
              unfold bP bst; rw [show (l == 0) = false by simp; omega]; rfl
            have hR : ∀ v0 s, v0 = cP p (p.2.1.length - (e + 1)) l n → s = (rowI p (p.2.1.length - (e + 1)) (l - 1)).getD (fmin (rowI p (p.2.1.length - (e + 1)) (l - 1))) tI.dflt →
                ((rowTo p (p.2.1.length - e) l n).set n v0).set n (if s < ((rowTo p (p.2.1.length - e) l n).set n v0).getD n tI.dflt then s else ((rowTo p (p.2.1.length - e) l n).set n v0).getD n tI.dflt) = (rowTo p (p.2.1.length - e) l n).set n (bP p (p.2.1.length - (e + 1)) l n) := by
              rintro v0 s rfl rfl
              obtain ⟨m1, m2⟩ := rowI_min (p := p) hN1 (p.2.1.length - (e + 1)) (l - 1)
              have hg : ((rowTo p (p.2.1.length - e) l n).set n (cP p (p.2.1.length - (e + 1)) l n)).getD n tI.dflt = cP p (p.2.1.length - (e + 1)) l n := by rw [List.getD_eq_getElem?_getD]; simp [hF, hh]
              rw [hg, List.set_set, hb, min_mn m1 m2]
            have hv0 : ((T.getD (e + 1) tISS.dflt).getD l tIS.dflt).getD n tI.dflt = cP p (p.2.1.length - (e + 1)) l n := by rw [g3 l hlK]; exact getD_range_map hh _
            refine ⟨_, i_Panel_wrong_ok p hv hp n e hh q, (by first | exact (fun _ => rfl) | exact (fun h => Bool.noConfusion h)), ?_⟩
            conv => whnf
            refine cond_intro (fun w0 => ?_) (fun w0 => ?_)
            · conv => whnf
              refine ⟨r5 _ _, ?_⟩
              conv => whnf
              refine ⟨r6 _ _, ?_⟩
              conv => whnf
              refine ⟨r5 _ _, ?_⟩
              conv => whnf
              refine ⟨r6 _ _, ?_⟩
              conv => whnf
              refine ⟨(_, _), rfl, ⟨n + 1, wrap_succ hh (by unfold Short; omega), by omega, row_yes hm' hh (by omega) (hR _ _ hv0 (by show List.getD (List.getD (T.getD (IntKind.i64.wrap ((e : Int) + 1)).toNat tISS.dflt) (IntKind.i64.wrap ((l : Int) - 1)).toNat tIS.dflt) (fmin (List.getD (T.getD (IntKind.i64.wrap ((e : Int) + 1)).toNat tISS.dflt) (IntKind.i64.wrap ((l : Int) - 1)).toNat tIS.dflt)) tI.dflt = _; rw [hL])) (by omega) w0 _⟩, ?_⟩
              rw [wrap_succ hh (by unfold Short; omega)]; simp; omega
            · conv => whnf
              refine ⟨(_, _), rfl, ⟨n + 1, wrap_succ hh (by unfold Short; omega), by omega, row_no hm' hh (hR _ _ hv0 (by show List.getD (List.getD (T.getD (IntKind.i64.wrap ((e : Int) + 1)).toNat tISS.dflt) (IntKind.i64.wrap ((l : Int) - 1)).toNat tIS.dflt) (fmin (List.getD (T.getD (IntKind.i64.wrap ((e : Int) + 1)).toNat tISS.dflt) (IntKind.i64.wrap ((l : Int) - 1)).toNat tIS.dflt)) tI.dflt = _; rw [hL])) (by omega) w0⟩, ?_⟩
              rw [wrap_succ hh (by unfold Short; omega)]; simp; omega
          · have z : l = 0 := by have := of_decide_eq_false z0; omega
            conv => whnf
            have hb : bP p (p.2.1.length - (e + 1)) l n = cP p (p.2.1.length - (e + 1)) l n := by
              unfold bP bst; rw [z]; rfl
            have hv0 : ((T.getD (e + 1) tISS.dflt).getD l tIS.dflt).getD n tI.dflt = cP p (p.2.1.length - (e + 1)) l n := by rw [g3 l hlK]; exact getD_range_map hh _
            have hR : ∀ v0, v0 = cP p (p.2.1.length - (e + 1)) l n → (rowTo p (p.2.1.length - e) l n).set n v0 = (rowTo p (p.2.1.length - e) l n).set n (bP p (p.2.1.length - (e + 1)) l n) := by
              rintro v0 rfl; rw [hb]
            refine ⟨_, i_Panel_wrong_ok p hv hp n e hh q, (by first | exact (fun _ => rfl) | exact (fun h => Bool.noConfusion h)), ?_⟩
            conv => whnf
            refine cond_intro (fun w0 => ?_) (fun w0 => ?_)
            · conv => whnf
              refine ⟨r3 _, ?_⟩
              conv => whnf
              refine ⟨r4 _, ?_⟩
              conv => whnf
              refine ⟨r3 _, ?_⟩
              conv => whnf
              refine ⟨r4 _, ?_⟩
              conv => whnf
              refine ⟨(_, _), rfl, ⟨n + 1, wrap_succ hh (by unfold Short; omega), by omega, row_yes hm' hh (by omega) (hR _ hv0) (by omega) w0 _⟩, ?_⟩
              rw [wrap_succ hh (by unfold Short; omega)]; simp; omega
            · conv => whnf
              refine ⟨(_, _), rfl, ⟨n + 1, wrap_succ hh (by unfold Short; omega), by omega, row_no hm' hh (hR _ hv0) (by omega) w0⟩, ?_⟩
              rw [wrap_succ hh (by unfold Short; omega)]; simp; omega
      · have hh : n = p.1.length := by rw [List.length_replicate] at h; have := of_decide_eq_false h; omega
        have hrow : rowTo p (p.2.1.length - e) l n = rowI p (p.2.1.length - e) l := by rw [hh]; unfold rowTo rowI; simp
        have g0 : (midT (dayI p K) p.2.1.length e ((List.range l).map (rowI p (p.2.1.length - e)))).length = p.2.1.length + 1 := midT_length _ _ (by omega) _
        have g1 : (midT (dayI p K) p.2.1.length e ((List.range l).map (rowI p (p.2.1.length - e)))).getD e tISS.dflt = (List.range l).map (rowI p (p.2.1.length - e)) := midT_get _ _ _ _
        have g2 : ((midT (dayI p K) p.2.1.length e ((List.range l).map (rowI p (p.2.1.length - e)))).getD e tISS.dflt).length = l := by rw [g1]; simp
        have f1 : e < (midT (dayI p K) p.2.1.length e ((List.range l).map (rowI p (p.2.1.length - e)))).length := by omega
        have i1 : 0 ≤ (e : Int) ∧ (e : Int) < (midT (dayI p K) p.2.1.length e ((List.range l).map (rowI p (p.2.1.length - e)))).length := ⟨Int.natCast_nonneg _, Int.ofNat_lt.2 f1⟩
        have g5 : ((midT (dayI p K) p.2.1.length e ((List.range l).map (rowI p (p.2.1.length - e)))).getD e tISS.dflt).length ≤ 1048577 := by omega
        conv => whnf
        refine ⟨i1, ?_⟩
        conv => whnf
        refine ⟨f1, ?_⟩
        conv => whnf
        refine ⟨f1, ?_⟩
        conv => whnf
        refine ⟨f1, ?_⟩
        conv => whnf
        refine ⟨⟨room_snoc g5 (by decide), len_snoc g5⟩, ?_⟩
        conv => whnf
        refine ⟨i1, ?_⟩
        conv => whnf
        refine ⟨rfl, ?_⟩
        conv => whnf
        refine ⟨(_, _), rfl, ⟨l + 1, wrap_succ hlK (by unfold Short; omega), by omega, ?_⟩, ?_⟩
        · show (midT (dayI p K) p.2.1.length e ((List.range l).map (rowI p (p.2.1.length - e)))).set e ((midT (dayI p K) p.2.1.length e ((List.range l).map (rowI p (p.2.1.length - e)))).getD e tISS.dflt ++ [rowTo p (p.2.1.length - e) l n]) = _
          rw [midT_set, g1, hrow, List.range_succ, List.map_append]; rfl
        · rw [wrap_succ hlK (by unfold Short; omega)]; simp; omega
    · have hlK : l = K + 1 := by have := of_decide_eq_false h; omega
      subst hlK
      conv => whnf
      refine ⟨(_, _), rfl, ⟨e, ?_, by omega, midT_hd (dayI p K) p.2.1.length (by omega)⟩, ?_⟩
      · rw [wrap_in (by omega) (by omega)]
      · rw [wrap_in (by omega) (by omega)]; show ((e : Int) - 1 + 1).toNat < ((e : Int) + 1).toNat; omega

end Go.Proofs.Ytcpepepdinkioaa.Ev
