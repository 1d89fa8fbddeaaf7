/- Plans with switches. -/
import Derived.Test.YtcpepepdinkioaaFnY
namespace Go.Proofs.Ytcpepepdinkioaa.Ev
open Go
set_option linter.unusedVariables false
set_option linter.unusedSimpArgs false
set_option maxRecDepth 100000
set_option exponentiation.threshold 100000
set_option maxHeartbeats 2000000

section
variable {N : Nat} {w : Nat → Nat → Bool}
theorem can_bd {D m : Nat} {e : Option Nat} {k : Nat} {due : Int} (h : CanK N w D m e k due) : 0 ≤ due ∧ due ≤ m := by
  cases e with
  | none => obtain ⟨i, _, e⟩ := h; rw [← e]; exact cst_bd N w D m k i
  | some e =>
    obtain ⟨_, h⟩ := h
    rw [h]; unfold bst
    cases k == 0
    · exact mn_bd (cst_bd N w D m k e) N fun j _ => (cst_bd N w D m (k - 1) j).1
    · exact cst_bd N w D m 0 e
theorem fh_yes {h : Nat → Bool} {f i : Nat} (hi : h i = true) : fh h (f + 1) i = i := by simp [fh, hi]
theorem fh_no {h : Nat → Bool} {f i : Nat} (hi : h i = false) : fh h (f + 1) i = fh h f (i + 1) := by simp [fh, hi]
theorem plan_step {D m' : Nat} {e : Option Nat} {k due : Int} {n L : Nat} (hn : n < N) (hp : fh (hitK N w D (m' + 1) e k due) N 0 = fh (hitK N w D (m' + 1) e k due) (N - n) n) (hnow : nowK e k n = (L : Int)) (hc : cst N w D (m' + 1) L n = due) :
    planK N w D (m' + 1) e k due = (n : Int) :: planK N w D m' (some n) (L : Int) (due - cond (w n (D - (m' + 1))) 1 0) := by
  have hh : hitK N w D (m' + 1) e k due n = true := by
    unfold hitK
    rw [hnow]
    simp only [Int.toNat_natCast, hc, beq_self_eq_true, Bool.and_true]
    exact decide_eq_true (Int.natCast_nonneg L)
  have hpick : pickK N w D (m' + 1) e k due = n := by
    unfold pickK
    rw [hp, show N - n = (N - (n + 1)) + 1 by omega, fh_yes hh]
  simp only [planK, hpick, hnow]
theorem plan_can {D m' : Nat} {e : Option Nat} {k : Nat} {due : Int} {n L : Nat} (hn : n < N) (hnow : nowK e k n = (L : Int)) (hc : cst N w D (m' + 1) L n = due) :
    CanK N w D m' (some n) L (due - cond (w n (D - (m' + 1))) 1 0) := by
  refine ⟨hn, ?_⟩
  rw [← hc, cst_succ]; omega
theorem plan_no {D m : Nat} {e : Option Nat} {k due : Int} {n : Nat} (hn : n < N) (hp : fh (hitK N w D m e k due) N 0 = fh (hitK N w D m e k due) (N - n) n) (hno : nowK e k n < 0 ∨ cst N w D m (nowK e k n).toNat n ≠ due) :
    fh (hitK N w D m e k due) N 0 = fh (hitK N w D m e k due) (N - (n + 1)) (n + 1) := by
  have hh : hitK N w D m e k due n = false := by
    unfold hitK
    rcases hno with h | h
    · rw [decide_eq_false (by omega)]; rfl
    · rw [show (cst N w D m (nowK e k n).toNat n == due) = false by simpa using h]; simp
  rw [hp, show N - n = (N - (n + 1)) + 1 by omega, fh_no hh]
theorem plan_end {D m : Nat} {e : Option Nat} {k : Nat} {due : Int} (h : CanK N w D m e k due) (hp : fh (hitK N w D m e k due) N 0 = fh (hitK N w D m e k due) (N - N) N) : False := by
  have h1 := (pick_ok N w h).1
  unfold pickK at h1
  rw [hp, Nat.sub_self] at h1
  simp [fh] at h1
end

theorem mn_ext {f g : Nat → Int} {a : Int} : ∀ {n : Nat}, (∀ j, j < n → f j = g j) → mn f n a = mn g n a := by
  intro n
  induction n with
  | zero => intro _; rfl
  | succ n ih => intro h; simp only [mn]; rw [ih fun j hj => h j (by omega), h n (by omega)]
def due0 (p : Sample) (K : Nat) : Int := mn (cP p p.2.1.length K) p.1.length (cP p p.2.1.length K 0)
theorem due0_can {p : Sample} (h1 : 1 ≤ p.1.length) (K : Nat) : CanK p.1.length (wP p) p.2.1.length p.2.1.length none K (due0 p K) := by
  rcases mn_cases (cP p p.2.1.length K) (cP p p.2.1.length K 0) p.1.length with h | ⟨j, hj, h⟩
  · exact ⟨0, by omega, h.symm⟩
  · exact ⟨j, hj, h.symm⟩
theorem due0_min {p : Sample} (h1 : 1 ≤ p.1.length) (K : Nat) : (rowI p p.2.1.length K).getD (fmin (rowI p p.2.1.length K)) tI.dflt = due0 p K := by
  obtain ⟨m1, m2⟩ := rowI_min h1 p.2.1.length K
  unfold due0
  rw [← min_mn m1 m2]
  have := m2 0 (by omega)
  split <;> omega
def planP (p : Sample) (K : Nat) : List Int := planK p.1.length (wP p) p.2.1.length p.2.1.length none K (due0 p K)
def switchR (p : Sample) (k : Int) : List Int × Bool × Unit := if isPanel p && inB k 0 16 then (planP p k.toNat, true, ()) else ([], false, ())
theorem switchR_no {p : Sample} {k : Int} (h : (isPanel p && inB k 0 16) = false) : switchR p k = ([], false, ()) := by unfold switchR; rw [h]; rfl
theorem switchR_yes {p : Sample} {k : Int} (h : (isPanel p && inB k 0 16) = true) : switchR p k = (planP p k.toNat, true, ()) := by unfold switchR; rw [h]; rfl

theorem ne_of_bne {a b : Int} (h : (a != b) = true) : a ≠ b := by simpa using h
theorem eq_of_bne {a b : Int} (h : (a != b) = false) : a = b := by simpa using h
/-- The expert of the day before. -/
def befE (d : Nat) (out : List Int) : Option Nat := if d = 0 then none else some (out.getD (d - 1) 0).toNat

theorem befE_snoc {d : Nat} {out : List Int} (h : out.length = d) (n : Nat) : befE (d + 1) (out ++ [(n : Int)]) = some n := by
  unfold befE
  rw [if_neg (by omega)]
  have : (out ++ [(n : Int)]).getD (d + 1 - 1) 0 = n := by rw [Nat.add_sub_cancel, getD_mid h]; rfl
  rw [this]; rfl
theorem next_ok {p : Sample} {K d kk n L : Nat} {out : List Int} {due : Int} (hd : d < p.2.1.length) (hlen : out.length = d)
    (hpl : planP p K = out ++ planK p.1.length (wP p) p.2.1.length (p.2.1.length - d) (befE d out) kk due) (hn : n < p.1.length)
    (hp : fh (hitK p.1.length (wP p) p.2.1.length (p.2.1.length - d) (befE d out) kk due) p.1.length 0 = fh (hitK p.1.length (wP p) p.2.1.length (p.2.1.length - d) (befE d out) kk due) (p.1.length - n) n)
    (hnow : nowK (befE d out) kk n = (L : Int)) (hc : cP p (p.2.1.length - d) L n = due) {due' : Int} (hdue : due' = due - cond (wP p n d) 1 0) :
    CanK p.1.length (wP p) p.2.1.length (p.2.1.length - (d + 1)) (befE (d + 1) (out ++ [(n : Int)])) L due' ∧
    planP p K = (out ++ [(n : Int)]) ++ planK p.1.length (wP p) p.2.1.length (p.2.1.length - (d + 1)) (befE (d + 1) (out ++ [(n : Int)])) L due' := by
  have em : p.2.1.length - d = (p.2.1.length - (d + 1)) + 1 := by omega
  have ed : p.2.1.length - (p.2.1.length - (d + 1) + 1) = d := by omega
  rw [em] at hpl hp hc
  have h1 := plan_step hn hp hnow hc
  have h2 := plan_can (w := wP p) hn hnow hc
  rw [ed, ← hdue] at h1 h2
  rw [befE_snoc hlen]
  exact ⟨h2, by rw [hpl, h1]; simp⟩
theorem bef_zero {d : Nat} (h : d = 0) (out : List Int) (k : Int) (n : Nat) : nowK (befE d out) k n = k := by unfold befE; rw [if_pos h]; rfl
theorem bef_same {d : Nat} (h : 0 < d) {out : List Int} {n : Nat} (e : out.getD (d - 1) 0 = (n : Int)) (k : Int) : nowK (befE d out) k n = k := by unfold befE; rw [if_neg (by omega), e]; simp [nowK]
theorem bef_other {d : Nat} (h : 0 < d) {out : List Int} {n : Nat} (e0 : 0 ≤ out.getD (d - 1) 0) (e : out.getD (d - 1) 0 ≠ (n : Int)) (k : Int) : nowK (befE d out) k n = k - 1 := by
  unfold befE; rw [if_neg (by omega)]
  show (if n = _ then _ else _) = _
  rw [if_neg (by omega)]

/-- The table that the program fills: what is read of it. -/
structure TabI (p : Sample) (K : Nat) (T : List (List (List Int))) : Prop where
  i1 : ∀ d : Nat, d ≤ p.2.1.length → 0 ≤ (d : Int) ∧ (d : Int) < T.length
  f1 : ∀ d : Nat, d ≤ p.2.1.length → d < T.length
  i2 : ∀ d l : Nat, d ≤ p.2.1.length → l < K + 1 → 0 ≤ (l : Int) ∧ (l : Int) < (T.getD d tISS.dflt).length
  f2 : ∀ d l : Nat, d ≤ p.2.1.length → l < K + 1 → l < (T.getD d tISS.dflt).length
  i3 : ∀ d l n : Nat, d ≤ p.2.1.length → l < K + 1 → n < p.1.length → 0 ≤ (n : Int) ∧ (n : Int) < ((T.getD d tISS.dflt).getD l tIS.dflt).length
  f3 : ∀ d l n : Nat, d ≤ p.2.1.length → l < K + 1 → n < p.1.length → n < ((T.getD d tISS.dflt).getD l tIS.dflt).length
  row : ∀ d l : Nat, d ≤ p.2.1.length → l < K + 1 → (T.getD d tISS.dflt).getD l tIS.dflt = rowI p (p.2.1.length - d) l
  val : ∀ d l n : Nat, d ≤ p.2.1.length → l < K + 1 → n < p.1.length → ((T.getD d tISS.dflt).getD l tIS.dflt).getD n tI.dflt = cP p (p.2.1.length - d) l n
theorem tabI (p : Sample) (K : Nat) : TabI p K ((List.range (p.2.1.length + 1)).map (dayI p K)) := by
  have h0 : ((List.range (p.2.1.length + 1)).map (dayI p K)).length = p.2.1.length + 1 := by simp
  have h1 : ∀ d : Nat, d ≤ p.2.1.length → ((List.range (p.2.1.length + 1)).map (dayI p K)).getD d tISS.dflt = dayI p K d := fun d hd => getD_range_map (by omega) _
  have h2 : ∀ d : Nat, (dayI p K d).length = K + 1 := fun d => by simp [dayI]
  have h3 : ∀ d l : Nat, l < K + 1 → (dayI p K d).getD l tIS.dflt = rowI p (p.2.1.length - d) l := fun d l hl => getD_range_map hl _
  have h4 : ∀ m l : Nat, (rowI p m l).length = p.1.length := fun m l => by simp [rowI]
  refine ⟨fun d hd => ⟨Int.natCast_nonneg _, by rw [h0]; omega⟩, fun d hd => by rw [h0]; omega, fun d l hd hl => ⟨Int.natCast_nonneg _, by rw [h1 d hd, h2]; omega⟩, fun d l hd hl => by rw [h1 d hd, h2]; exact hl,
    fun d l n hd hl hn => ⟨Int.natCast_nonneg _, by rw [h1 d hd, h3 d l hl, h4]; omega⟩, fun d l n hd hl hn => by rw [h1 d hd, h3 d l hl, h4]; exact hn, fun d l hd hl => by rw [h1 d hd]; exact h3 d l hl, fun d l n hd hl hn => by rw [h1 d hd, h3 d l hl]; exact getD_range_map hn _⟩
theorem rowI_ne {p : Sample} (h1 : 1 ≤ p.1.length) (m l : Nat) : rowI p m l ≠ [] := by
  intro e
  have : (rowI p m l).length = p.1.length := by simp [rowI]
  rw [e] at this; simp at this; omega

theorem i_SwitchPlan_ok (p : Sample) (hp : FitS p) (k : Int) : orc.pc n_i_SwitchPlan [.d shSample p, .d tI k] ⟨shLB, oLB, switchR p k⟩ := by
  refine p_i_SwitchPlan true rfl rfl ?_
  conv => whnf
  refine ⟨_, i_IsPanel_ok _ hp, (by first | exact (fun _ => rfl) | exact (fun h => Bool.noConfusion h)), ?_⟩
  conv => whnf
  refine cond_intro (fun q0 => ?_) (fun q0 => ?_)
  · have hv : isPanel p = true := by simpa using q0
    obtain ⟨hD, hN1, hN⟩ := panel_len hv
    conv => whnf
    repeat ((first | refine cond_t q0 ?_ | refine cond_f (hT q0) ?_ | refine cond_t (gT q0) ?_); conv => whnf)
    refine ⟨_, i_within_ok _ _ _, (by first | exact (fun _ => rfl) | exact (fun h => Bool.noConfusion h)), ?_⟩
    conv => whnf
    repeat ((first | refine cond_t q0 ?_ | refine cond_f (hT q0) ?_ | refine cond_t (gT q0) ?_); conv => whnf)
    refine cond_intro (fun t0 => ?_) (fun t0 => ?_)
    · have t : inB k 0 16 = false := not_true t0
      rw [switchR_no (by rw [t]; simp)]
      conv => whnf
      exact ⟨_, _, rfl, .inl rfl, rfl⟩
    have t : inB k 0 16 = true := not_false t0
    obtain ⟨t1, t2⟩ : 0 ≤ k ∧ k ≤ 16 := by simpa [inB] using t
    obtain ⟨K, rfl⟩ : ∃ K : Nat, k = (K : Int) := ⟨k.toNat, by omega⟩
    have hK : K ≤ 16 := by omega
    rw [switchR_yes (by rw [hv, t]; rfl)]
    conv => whnf
    have TB := tabI p K
    have hl0 : ((((List.range (p.2.1.length + 1)).map (dayI p K)).getD 0 tISS.dflt).getD K tIS.dflt).length ≤ 1048576 := by rw [TB.row 0 K (by omega) (by omega)]; simp [rowI]; omega
    have hn0 : (((List.range (p.2.1.length + 1)).map (dayI p K)).getD 0 tISS.dflt).getD K tIS.dflt ≠ [] := by rw [TB.row 0 K (by omega) (by omega)]; exact rowI_ne hN1 _ _
    have hd0 : ((((List.range (p.2.1.length + 1)).map (dayI p K)).getD 0 tISS.dflt).getD K tIS.dflt).getD (fmin ((((List.range (p.2.1.length + 1)).map (dayI p K)).getD 0 tISS.dflt).getD K tIS.dflt)) tI.dflt = due0 p K := by rw [TB.row 0 K (by omega) (by omega)]; exact due0_min hN1 K
    have hcan0 : CanK p.1.length (wP p) p.2.1.length (p.2.1.length - 0) (befE 0 []) K (((((List.range (p.2.1.length + 1)).map (dayI p K)).getD 0 tISS.dflt).getD K tIS.dflt).getD (fmin ((((List.range (p.2.1.length + 1)).map (dayI p K)).getD 0 tISS.dflt).getD K tIS.dflt)) tI.dflt) := by rw [hd0]; exact due0_can hN1 K
    have hpl0 : planP p K = [] ++ planK p.1.length (wP p) p.2.1.length (p.2.1.length - 0) (befE 0 []) K (((((List.range (p.2.1.length + 1)).map (dayI p K)).getD 0 tISS.dflt).getD K tIS.dflt).getD (fmin ((((List.range (p.2.1.length + 1)).map (dayI p K)).getD 0 tISS.dflt).getD K tIS.dflt)) tI.dflt) := by rw [hd0]; rfl
    refine ⟨_, i_Panel_switches_ok p hv hp K hK, (by first | exact (fun _ => rfl) | exact (fun h => Bool.noConfusion h)), ?_⟩
    conv => whnf
    refine ⟨TB.i1 0 (by omega), ?_⟩
    conv => whnf
    refine ⟨TB.f1 0 (by omega), ?_⟩
    conv => whnf
    refine ⟨TB.f1 0 (by omega), ?_⟩
    conv => whnf
    refine ⟨TB.i2 0 K (by omega) (by omega), ?_⟩
    conv => whnf
    refine ⟨TB.f1 0 (by omega), ?_⟩
    conv => whnf
    refine ⟨TB.f2 0 K (by omega) (by omega), ?_⟩
    conv => whnf
    refine ⟨TB.f1 0 (by omega), ?_⟩
    conv => whnf
    refine ⟨TB.f2 0 K (by omega) (by omega), ?_⟩
    conv => whnf
    refine ⟨_, slices_Min_ok _ hl0 hn0, (by first | exact (fun _ => rfl) | exact (fun h => Bool.noConfusion h)), ?_⟩
    conv => whnf
    refine loop_ups (X := Int × Int × List Int × Int) (fun (day, k, out, due) => [⟨0, 34, false, .d tI day⟩, ⟨0, 1, false, .d tI k⟩, ⟨0, 7, false, .own tI .fz out⟩, ⟨0, 8, false, .d tI due⟩]) (fun (day, _) => p.2.1.length - day.toNat)
      (fun (day, k, out, due) => ∃ d kk : Nat, day = d ∧ k = kk ∧ d ≤ p.2.1.length ∧ kk ≤ K ∧ out.length = d ∧ CanK p.1.length (wP p) p.2.1.length (p.2.1.length - d) (befE d out) kk due ∧
        planP p K = out ++ planK p.1.length (wP p) p.2.1.length (p.2.1.length - d) (befE d out) kk due ∧ (0 < d → 0 ≤ out.getD (d - 1) 0))
      (0, K, [], ((((List.range (p.2.1.length + 1)).map (dayI p K)).getD 0 tISS.dflt).getD K tIS.dflt).getD (fmin ((((List.range (p.2.1.length + 1)).map (dayI p K)).getD 0 tISS.dflt).getD K tIS.dflt)) tI.dflt) ?_ ⟨0, K, rfl, rfl, by omega, Nat.le_refl _, rfl, hcan0, hpl0, fun h => by omega⟩ ?_
    · refine st_eq ?_
      conv => whnf
      exact ⟨rfl⟩
    rintro ⟨_, _, out, due⟩ ⟨d, kk, rfl, rfl, hd, hkk, hlen, hcan, hpl, hpos⟩
    have hbd := can_bd hcan
    conv => whnf
    refine cond_intro (fun h => ?_) (fun h => ?_)
    · have hdD : d < p.2.1.length := by have := of_decide_eq_true h; exact Int.ofNat_lt.1 this
      have hiw : 0 < d → 0 ≤ IntKind.i64.wrap ((d : Int) - 1) ∧ IntKind.i64.wrap ((d : Int) - 1) < out.length := fun h => by rw [wrap_in (by omega) (by omega)]; omega
      have hfw : 0 < d → (IntKind.i64.wrap ((d : Int) - 1)).toNat < out.length := fun h => by rw [wrap_in (by omega) (by omega)]; omega
      have hdw : 0 < d → (IntKind.i64.wrap ((d : Int) - 1)).toNat = d - 1 := fun h => by rw [wrap_in (by omega) (by omega)]; omega
      conv => whnf
      refine loop_ups (X := Int) (fun i => [⟨0, 40, false, .d tI i⟩]) (fun i => p.1.length - i.toNat)
        (fun i => ∃ n : Nat, i = n ∧ n ≤ p.1.length ∧ fh (hitK p.1.length (wP p) p.2.1.length (p.2.1.length - d) (befE d out) kk due) p.1.length 0 = fh (hitK p.1.length (wP p) p.2.1.length (p.2.1.length - d) (befE d out) kk due) (p.1.length - n) n) 0 ?_ ⟨0, rfl, by omega, rfl⟩ ?_
      · refine st_eq ?_
        conv => whnf
        exact ⟨rfl⟩
      rintro _ ⟨n, rfl, hn, hfh⟩
      conv => whnf
      refine cond_intro (fun g0 => ?_) (fun g0 => ?_)
      · have hnN : n < p.1.length := by have := of_decide_eq_true g0; exact Int.ofNat_lt.1 this
        conv => whnf
        refine cond_intro (fun d0 => ?_) (fun d0 => ?_)
        · have dd : 0 < d := by have := of_decide_eq_true (eq_of_beq d0); omega
          have e0 := hpos dd
          conv => whnf
          refine ⟨hiw dd, ?_⟩
          conv => whnf
          refine ⟨hfw dd, ?_⟩
          conv => whnf
          refine cond_intro (fun x0 => ?_) (fun x0 => ?_)
          · have x : out.getD (d - 1) 0 ≠ (n : Int) := by have := ne_of_bne x0; rw [hdw dd] at this; exact this
            have hnow := bef_other dd e0 x kk
            conv => whnf
            refine cond_intro (fun z0 => ?_) (fun z0 => ?_)
            · have z : 0 < kk := by
                have := of_decide_eq_true (eq_of_beq z0)
                rw [wrap_in (by omega) (by omega)] at this; omega
              have tlw : (IntKind.i64.wrap ((kk : Int) - 1)) = ((kk - 1 : Nat) : Int) := by rw [wrap_in (by omega) (by omega)]; omega
              have tln : (IntKind.i64.wrap ((kk : Int) - 1)).toNat = kk - 1 := by rw [tlw]; rfl
              have hnow' : nowK (befE d out) kk n = ((kk - 1 : Nat) : Int) := by rw [hnow]; omega
              have ti2 : 0 ≤ (IntKind.i64.wrap ((kk : Int) - 1)) ∧ (IntKind.i64.wrap ((kk : Int) - 1)) < (((List.range (p.2.1.length + 1)).map (dayI p K)).getD d tISS.dflt).length := by rw [tlw]; exact TB.i2 d (kk - 1) (by omega) (by omega)
              have tf2 : (IntKind.i64.wrap ((kk : Int) - 1)).toNat < (((List.range (p.2.1.length + 1)).map (dayI p K)).getD d tISS.dflt).length := by rw [tln]; exact TB.f2 d (kk - 1) (by omega) (by omega)
              have ti3 : 0 ≤ (n : Int) ∧ (n : Int) < ((((List.range (p.2.1.length + 1)).map (dayI p K)).getD d tISS.dflt).getD (IntKind.i64.wrap ((kk : Int) - 1)).toNat tIS.dflt).length := by rw [tln]; exact TB.i3 d (kk - 1) n (by omega) (by omega) hnN
              have tf3 : n < ((((List.range (p.2.1.length + 1)).map (dayI p K)).getD d tISS.dflt).getD (IntKind.i64.wrap ((kk : Int) - 1)).toNat tIS.dflt).length := by rw [tln]; exact TB.f3 d (kk - 1) n (by omega) (by omega) hnN
              have tv : ((((List.range (p.2.1.length + 1)).map (dayI p K)).getD d tISS.dflt).getD (IntKind.i64.wrap ((kk : Int) - 1)).toNat tIS.dflt).getD n tI.dflt = cP p (p.2.1.length - d) (kk - 1) n := by rw [tln]; exact TB.val d (kk - 1) n (by omega) (by omega) hnN
              conv => whnf
              refine ⟨TB.i1 d (by omega), ?_⟩
              conv => whnf
              refine ⟨TB.f1 d (by omega), ?_⟩
              conv => whnf
              refine ⟨TB.f1 d (by omega), ?_⟩
              conv => whnf
              refine ⟨ti2, ?_⟩
              conv => whnf
              refine ⟨TB.f1 d (by omega), ?_⟩
              conv => whnf
              refine ⟨tf2, ?_⟩
              conv => whnf
              refine ⟨TB.f1 d (by omega), ?_⟩
              conv => whnf
              refine ⟨tf2, ?_⟩
              conv => whnf
              refine ⟨ti3, ?_⟩
              conv => whnf
              refine ⟨TB.f1 d (by omega), ?_⟩
              conv => whnf
              refine ⟨tf2, ?_⟩
              conv => whnf
              refine ⟨tf3, ?_⟩
              conv => whnf
              refine cond_intro (fun c0 => ?_) (fun c0 => ?_)
              · have hc : cP p (p.2.1.length - d) (kk - 1) n = due := by have := eq_of_beq c0; rw [← this]; exact tv.symm
                conv => whnf
                refine ⟨⟨room_snoc (by omega) (by decide), len_snoc (by omega)⟩, ?_⟩
                conv => whnf
                refine ⟨_, i_Panel_wrong_ok p hv hp n d hnN hdD, (by first | exact (fun _ => rfl) | exact (fun h => Bool.noConfusion h)), ?_⟩
                conv => whnf
                refine cond_intro (fun w0 => ?_) (fun w0 => ?_)
                · have w1 : wP p n d = true := w0
                  have hx := next_ok (due' := due - 1) hdD hlen hpl hnN hfh hnow' hc (by rw [w1]; rfl)
                  conv => whnf
                  refine ⟨(_, _, _, _), rfl, ⟨d + 1, (kk - 1), wrap_succ hdD (by unfold Short; omega), tlw, by omega, by omega, (by show (out ++ [(n : Int)]).length = d + 1; simp [hlen]), ?_, ?_, fun _ => ?_⟩, ?_⟩
                  · show CanK _ _ _ _ _ _ (IntKind.i64.wrap (due - 1)); rw [wrap_in (by omega) (by omega)]; exact hx.1
                  · show _ = _ ++ planK _ _ _ _ _ _ (IntKind.i64.wrap (due - 1)); rw [wrap_in (by omega) (by omega)]; exact hx.2
                  · show 0 ≤ (out ++ [(n : Int)]).getD (d + 1 - 1) 0; rw [Nat.add_sub_cancel, getD_mid hlen]; exact Int.natCast_nonneg n
                  · rw [wrap_succ hdD (by unfold Short; omega)]; simp; omega
                · have w1 : wP p n d = false := w0
                  have hx := next_ok (due' := due) hdD hlen hpl hnN hfh hnow' hc (by rw [w1]; simp)
                  conv => whnf
                  refine ⟨(_, _, _, _), rfl, ⟨d + 1, (kk - 1), wrap_succ hdD (by unfold Short; omega), tlw, by omega, by omega, (by show (out ++ [(n : Int)]).length = d + 1; simp [hlen]), hx.1, hx.2, fun _ => ?_⟩, ?_⟩
                  · show 0 ≤ (out ++ [(n : Int)]).getD (d + 1 - 1) 0; rw [Nat.add_sub_cancel, getD_mid hlen]; exact Int.natCast_nonneg n
                  · rw [wrap_succ hdD (by unfold Short; omega)]; simp; omega
              · have hc : cP p (p.2.1.length - d) (kk - 1) n ≠ due := by have := ne_of_beq_false c0; intro e; exact this ((tv.symm).symm.trans e)
                conv => whnf
                refine ⟨_, rfl, ⟨n + 1, wrap_succ hnN (by unfold Short; omega), by omega, plan_no hnN hfh (.inr (by rw [hnow']; exact hc))⟩, ?_⟩
                rw [wrap_succ hnN (by unfold Short; omega)]; simp; omega
            · have z : kk = 0 := by
                have := of_decide_eq_false (bnot_true z0)
                rw [wrap_in (by omega) (by omega)] at this; omega
              conv => whnf
              refine ⟨_, rfl, ⟨n + 1, wrap_succ hnN (by unfold Short; omega), by omega, plan_no hnN hfh (.inl (by rw [hnow]; omega))⟩, ?_⟩
              rw [wrap_succ hnN (by unfold Short; omega)]; simp; omega
          · have x : out.getD (d - 1) 0 = (n : Int) := by have := eq_of_bne x0; rw [hdw dd] at this; exact this
            have hnow := bef_same dd x kk
            conv => whnf
            refine ⟨TB.i1 d (by omega), ?_⟩
            conv => whnf
            refine ⟨TB.f1 d (by omega), ?_⟩
            conv => whnf
            refine ⟨TB.f1 d (by omega), ?_⟩
            conv => whnf
            refine ⟨TB.i2 d kk (by omega) (by omega), ?_⟩
            conv => whnf
            refine ⟨TB.f1 d (by omega), ?_⟩
            conv => whnf
            refine ⟨TB.f2 d kk (by omega) (by omega), ?_⟩
            conv => whnf
            refine ⟨TB.f1 d (by omega), ?_⟩
            conv => whnf
            refine ⟨TB.f2 d kk (by omega) (by omega), ?_⟩
            conv => whnf
            refine ⟨TB.i3 d kk n (by omega) (by omega) hnN, ?_⟩
            conv => whnf
            refine ⟨TB.f1 d (by omega), ?_⟩
            conv => whnf
            refine ⟨TB.f2 d kk (by omega) (by omega), ?_⟩
            conv => whnf
            refine ⟨TB.f3 d kk n (by omega) (by omega) hnN, ?_⟩
            conv => whnf
            refine cond_intro (fun c0 => ?_) (fun c0 => ?_)
            · have hc : cP p (p.2.1.length - d) kk n = due := by have := eq_of_beq c0; rw [← this]; exact (TB.val d kk n (by omega) (by omega) hnN).symm
              conv => whnf
              refine ⟨⟨room_snoc (by omega) (by decide), len_snoc (by omega)⟩, ?_⟩
              conv => whnf
              refine ⟨_, i_Panel_wrong_ok p hv hp n d hnN hdD, (by first | exact (fun _ => rfl) | exact (fun h => Bool.noConfusion h)), ?_⟩
              conv => whnf
              refine cond_intro (fun w0 => ?_) (fun w0 => ?_)
              · have w1 : wP p n d = true := w0
                have hx := next_ok (due' := due - 1) hdD hlen hpl hnN hfh hnow hc (by rw [w1]; rfl)
                conv => whnf
                refine ⟨(_, _, _, _), rfl, ⟨d + 1, kk, wrap_succ hdD (by unfold Short; omega), rfl, by omega, by omega, (by show (out ++ [(n : Int)]).length = d + 1; simp [hlen]), ?_, ?_, fun _ => ?_⟩, ?_⟩
                · show CanK _ _ _ _ _ _ (IntKind.i64.wrap (due - 1)); rw [wrap_in (by omega) (by omega)]; exact hx.1
                · show _ = _ ++ planK _ _ _ _ _ _ (IntKind.i64.wrap (due - 1)); rw [wrap_in (by omega) (by omega)]; exact hx.2
                · show 0 ≤ (out ++ [(n : Int)]).getD (d + 1 - 1) 0; rw [Nat.add_sub_cancel, getD_mid hlen]; exact Int.natCast_nonneg n
                · rw [wrap_succ hdD (by unfold Short; omega)]; simp; omega
              · have w1 : wP p n d = false := w0
                have hx := next_ok (due' := due) hdD hlen hpl hnN hfh hnow hc (by rw [w1]; simp)
                conv => whnf
                refine ⟨(_, _, _, _), rfl, ⟨d + 1, kk, wrap_succ hdD (by unfold Short; omega), rfl, by omega, by omega, (by show (out ++ [(n : Int)]).length = d + 1; simp [hlen]), hx.1, hx.2, fun _ => ?_⟩, ?_⟩
                · show 0 ≤ (out ++ [(n : Int)]).getD (d + 1 - 1) 0; rw [Nat.add_sub_cancel, getD_mid hlen]; exact Int.natCast_nonneg n
                · rw [wrap_succ hdD (by unfold Short; omega)]; simp; omega
            · have hc : cP p (p.2.1.length - d) kk n ≠ due := by have := ne_of_beq_false c0; intro e; exact this (((TB.val d kk n (by omega) (by omega) hnN).symm).symm.trans e)
              conv => whnf
              refine ⟨_, rfl, ⟨n + 1, wrap_succ hnN (by unfold Short; omega), by omega, plan_no hnN hfh (.inr (by rw [hnow]; exact hc))⟩, ?_⟩
              rw [wrap_succ hnN (by unfold Short; omega)]; simp; omega
        · have dd : d = 0 := by have := of_decide_eq_false (bnot_true d0); omega
          have hnow := bef_zero dd out kk n
          conv => whnf
          refine ⟨TB.i1 d (by omega), ?_⟩
          conv => whnf
          refine ⟨TB.f1 d (by omega), ?_⟩
          conv => whnf
          refine ⟨TB.f1 d (by omega), ?_⟩
          conv => whnf
          refine ⟨TB.i2 d kk (by omega) (by omega), ?_⟩
          conv => whnf
          refine ⟨TB.f1 d (by omega), ?_⟩
          conv => whnf
          refine ⟨TB.f2 d kk (by omega) (by omega), ?_⟩
          conv => whnf
          refine ⟨TB.f1 d (by omega), ?_⟩
          conv => whnf
          refine ⟨TB.f2 d kk (by omega) (by omega), ?_⟩
          conv => whnf
          refine ⟨TB.i3 d kk n (by omega) (by omega) hnN, ?_⟩
          conv => whnf
          refine ⟨TB.f1 d (by omega), ?_⟩
          conv => whnf
          refine ⟨TB.f2 d kk (by omega) (by omega), ?_⟩
          conv => whnf
          refine ⟨TB.f3 d kk n (by omega) (by omega) hnN, ?_⟩
          conv => whnf
          refine cond_intro (fun c0 => ?_) (fun c0 => ?_)
          · have hc : cP p (p.2.1.length - d) kk n = due := by have := eq_of_beq c0; rw [← this]; exact (TB.val d kk n (by omega) (by omega) hnN).symm
            conv => whnf
            refine ⟨⟨room_snoc (by omega) (by decide), len_snoc (by omega)⟩, ?_⟩
            conv => whnf
            refine ⟨_, i_Panel_wrong_ok p hv hp n d hnN hdD, (by first | exact (fun _ => rfl) | exact (fun h => Bool.noConfusion h)), ?_⟩
            conv => whnf
            refine cond_intro (fun w0 => ?_) (fun w0 => ?_)
            · have w1 : wP p n d = true := w0
              have hx := next_ok (due' := due - 1) hdD hlen hpl hnN hfh hnow hc (by rw [w1]; rfl)
              conv => whnf
              refine ⟨(_, _, _, _), rfl, ⟨d + 1, kk, wrap_succ hdD (by unfold Short; omega), rfl, by omega, by omega, (by show (out ++ [(n : Int)]).length = d + 1; simp [hlen]), ?_, ?_, fun _ => ?_⟩, ?_⟩
              · show CanK _ _ _ _ _ _ (IntKind.i64.wrap (due - 1)); rw [wrap_in (by omega) (by omega)]; exact hx.1
              · show _ = _ ++ planK _ _ _ _ _ _ (IntKind.i64.wrap (due - 1)); rw [wrap_in (by omega) (by omega)]; exact hx.2
              · show 0 ≤ (out ++ [(n : Int)]).getD (d + 1 - 1) 0; rw [Nat.add_sub_cancel, getD_mid hlen]; exact Int.natCast_nonneg n
              · rw [wrap_succ hdD (by unfold Short; omega)]; simp; omega
            · have w1 : wP p n d = false := w0
              have hx := next_ok (due' := due) hdD hlen hpl hnN hfh hnow hc (by rw [w1]; simp)
              conv => whnf
              refine ⟨(_, _, _, _), rfl, ⟨d + 1, kk, wrap_succ hdD (by unfold Short; omega), rfl, by omega, by omega, (by show (out ++ [(n : Int)]).length = d + 1; simp [hlen]), hx.1, hx.2, fun _ => ?_⟩, ?_⟩
              · show 0 ≤ (out ++ [(n : Int)]).getD (d + 1 - 1) 0; rw [Nat.add_sub_cancel, getD_mid hlen]; exact Int.natCast_nonneg n
              · rw [wrap_succ hdD (by unfold Short; omega)]; simp; omega
          · have hc : cP p (p.2.1.length - d) kk n ≠ due := by have := ne_of_beq_false c0; intro e; exact this (((TB.val d kk n (by omega) (by omega) hnN).symm).symm.trans e)
            conv => whnf
            refine ⟨_, rfl, ⟨n + 1, wrap_succ hnN (by unfold Short; omega), by omega, plan_no hnN hfh (.inr (by rw [hnow]; exact hc))⟩, ?_⟩
            rw [wrap_succ hnN (by unfold Short; omega)]; simp; omega
      · have hnN : n = p.1.length := by have := of_decide_eq_false g0; omega
        subst hnN
        exact (plan_end hcan hfh).elim
    · have hdD : d = p.2.1.length := by have := of_decide_eq_false h; omega
      rw [hdD, Nat.sub_self] at hpl
      have hpl : planP p K = out := hpl.trans (List.append_nil _)
      conv => whnf
      exact ⟨_, _, rfl, .inl rfl, by show _ = (⟨shLB, oLB, (planP p K, true, ())⟩ : Pk); rw [hpl]; rfl⟩
  · have q : isPanel p = false := by simpa using q0
    rw [switchR_no (by rw [q]; rfl)]
    conv => whnf
    repeat ((first | refine cond_f q0 ?_ | refine cond_t (hF q0) ?_ | refine cond_f (gF q0) ?_); conv => whnf)
    exact ⟨_, _, rfl, .inl rfl, rfl⟩

structure TabS (p : Sample) (K : Nat) (T : List (List (List Int))) : Prop where
  i1 : ∀ d : Nat, d ≤ p.2.1.length → 0 ≤ (d : Int) ∧ (d : Int) < T.length
  f1 : ∀ d : Nat, d ≤ p.2.1.length → d < T.length
  i2 : ∀ d n : Nat, d ≤ p.2.1.length → n < p.1.length → 0 ≤ (n : Int) ∧ (n : Int) < (T.getD d tISS.dflt).length
  f2 : ∀ d n : Nat, d ≤ p.2.1.length → n < p.1.length → n < (T.getD d tISS.dflt).length
  i3 : ∀ d n l : Nat, d ≤ p.2.1.length → n < p.1.length → l < K + 1 → 0 ≤ (l : Int) ∧ (l : Int) < ((T.getD d tISS.dflt).getD n tIS.dflt).length
  f3 : ∀ d n l : Nat, d ≤ p.2.1.length → n < p.1.length → l < K + 1 → l < ((T.getD d tISS.dflt).getD n tIS.dflt).length
  len : ∀ d : Nat, d ≤ p.2.1.length → (T.getD d tISS.dflt).length = p.1.length
  val : ∀ d n l : Nat, d ≤ p.2.1.length → n < p.1.length → l < K + 1 → ((T.getD d tISS.dflt).getD n tIS.dflt).getD l tI.dflt = cP p (p.2.1.length - d) l n
theorem tabS (p : Sample) (K : Nat) : TabS p K ((List.range (p.2.1.length + 1)).map (dayS p K)) := by
  have h0 : ((List.range (p.2.1.length + 1)).map (dayS p K)).length = p.2.1.length + 1 := by simp
  have h1 : ∀ d : Nat, d ≤ p.2.1.length → ((List.range (p.2.1.length + 1)).map (dayS p K)).getD d tISS.dflt = dayS p K d := fun d hd => getD_range_map (by omega) _
  have h2 : ∀ d : Nat, (dayS p K d).length = p.1.length := fun d => by simp [dayS]
  have h3 : ∀ d n : Nat, n < p.1.length → (dayS p K d).getD n tIS.dflt = colS p (p.2.1.length - d) K n := fun d n hn => getD_range_map hn _
  have h4 : ∀ m n : Nat, (colS p m K n).length = K + 1 := fun m n => by simp [colS]
  refine ⟨fun d hd => ⟨Int.natCast_nonneg _, by rw [h0]; omega⟩, fun d hd => by rw [h0]; omega, fun d n hd hn => ⟨Int.natCast_nonneg _, by rw [h1 d hd, h2]; omega⟩, fun d n hd hn => by rw [h1 d hd, h2]; exact hn,
    fun d n l hd hn hl => ⟨Int.natCast_nonneg _, by rw [h1 d hd, h3 d n hn, h4]; omega⟩, fun d n l hd hn hl => by rw [h1 d hd, h3 d n hn, h4]; exact hl, fun d hd => by rw [h1 d hd, h2], fun d n l hd hn hl => by rw [h1 d hd, h3 d n hn]; exact getD_range_map hl _⟩

theorem s_l11Begin_ok (f : List (List Int)) (K : Nat) (h0 : 0 < f.length) (hf : f.length ≤ 1048576) (hr : ∀ n, n < f.length → K < (f.getD n tIS.dflt).length) :
    orc.pc n_s_l11Begin [.d tISS f, .d tI (K : Int)] ⟨tI, .fz, mn (fun n => (f.getD n tIS.dflt).getD K tI.dflt) f.length ((f.getD 0 tIS.dflt).getD K tI.dflt)⟩ := by
  refine p_s_l11Begin true rfl rfl ?_
  conv => whnf
  refine ⟨⟨by omega, by omega⟩, ?_⟩
  conv => whnf
  refine ⟨⟨Int.natCast_nonneg _, Int.ofNat_lt.2 (hr 0 h0)⟩, ?_⟩
  conv => whnf
  refine loop_ups (X := Int × Int) (fun (i, v) => [⟨0, 6, false, .d tI i⟩, ⟨0, 5, false, .d tI v⟩]) (fun (i, _) => f.length - i.toNat)
    (fun (i, v) => ∃ n : Nat, i = n ∧ n ≤ f.length ∧ v = mn (fun n => (f.getD n tIS.dflt).getD K tI.dflt) n ((f.getD 0 tIS.dflt).getD K tI.dflt)) (1, (f.getD 0 tIS.dflt).getD K tI.dflt) ?_ ⟨1, rfl, by omega, by simp only [mn]; unfold least; split <;> rfl⟩ ?_
  · refine st_eq ?_
    conv => whnf
    exact ⟨rfl⟩
  rintro ⟨_, _⟩ ⟨n, rfl, hn, rfl⟩
  conv => whnf
  refine cond_intro (fun h => ?_) (fun h => ?_)
  · have h : n < f.length := by simpa using h
    conv => whnf
    refine ⟨⟨Int.natCast_nonneg _, Int.ofNat_lt.2 h⟩, ?_⟩
    conv => whnf
    refine ⟨⟨Int.natCast_nonneg _, Int.ofNat_lt.2 (hr n h)⟩, ?_⟩
    conv => whnf
    refine ⟨_, s_l1Least_ok _ _, (by first | exact (fun _ => rfl) | exact (fun h => Bool.noConfusion h)), ?_⟩
    conv => whnf
    refine ⟨(_, _), rfl, ⟨n + 1, wrap_succ h (by unfold Short; omega), by omega, rfl⟩, ?_⟩
    rw [wrap_succ h (by unfold Short; omega)]; simp; omega
  · have h : ¬ n < f.length := by simpa using h
    obtain rfl : n = f.length := by omega
    conv => whnf
    exact ⟨_, _, rfl, .inl rfl, rfl⟩

theorem s_SwitchPlan_ok (p : Sample) (hp : FitS p) (k : Int) : orc.pc n_s_SwitchPlan [.d shSample p, .d tI k] ⟨shLB, oLB, switchR p k⟩ := by
  refine p_s_SwitchPlan true rfl rfl ?_
  conv => whnf
  refine ⟨_, s_l11Panel_ok _ hp, (by first | exact (fun _ => rfl) | exact (fun h => Bool.noConfusion h)), ?_⟩
  conv => whnf
  refine cond_intro (fun q0 => ?_) (fun q0 => ?_)
  · have hv : isPanel p = true := by simpa using q0
    obtain ⟨hD, hN1, hN⟩ := panel_len hv
    conv => whnf
    repeat ((first | refine cond_t q0 ?_ | refine cond_f (hT q0) ?_ | refine cond_t (gT q0) ?_); conv => whnf)
    refine ⟨_, s_l1In_ok _ _ _, (by first | exact (fun _ => rfl) | exact (fun h => Bool.noConfusion h)), ?_⟩
    conv => whnf
    repeat ((first | refine cond_t q0 ?_ | refine cond_f (hT q0) ?_ | refine cond_t (gT q0) ?_); conv => whnf)
    refine cond_intro (fun t0 => ?_) (fun t0 => ?_)
    · have t : inB k 0 16 = false := not_true t0
      rw [switchR_no (by rw [t]; simp)]
      conv => whnf
      exact ⟨_, _, rfl, .inl rfl, rfl⟩
    have t : inB k 0 16 = true := not_false t0
    obtain ⟨t1, t2⟩ : 0 ≤ k ∧ k ≤ 16 := by simpa [inB] using t
    obtain ⟨K, rfl⟩ : ∃ K : Nat, k = (K : Int) := ⟨k.toNat, by omega⟩
    have hK : K ≤ 16 := by omega
    rw [switchR_yes (by rw [hv, t]; rfl)]
    conv => whnf
    have TB := tabS p K
    have hd0 : mn (fun n => ((((List.range (p.2.1.length + 1)).map (dayS p K)).getD 0 tISS.dflt).getD n tIS.dflt).getD K tI.dflt) (((List.range (p.2.1.length + 1)).map (dayS p K)).getD 0 tISS.dflt).length (((((List.range (p.2.1.length + 1)).map (dayS p K)).getD 0 tISS.dflt).getD 0 tIS.dflt).getD K tI.dflt) = due0 p K := by
      rw [TB.len 0 (by omega), TB.val 0 0 K (by omega) (by omega) (by omega)]
      unfold due0
      exact mn_ext fun j hj => TB.val 0 j K (by omega) hj (by omega)
    have hcan0 : CanK p.1.length (wP p) p.2.1.length (p.2.1.length - 0) (befE 0 []) K (mn (fun n => ((((List.range (p.2.1.length + 1)).map (dayS p K)).getD 0 tISS.dflt).getD n tIS.dflt).getD K tI.dflt) (((List.range (p.2.1.length + 1)).map (dayS p K)).getD 0 tISS.dflt).length (((((List.range (p.2.1.length + 1)).map (dayS p K)).getD 0 tISS.dflt).getD 0 tIS.dflt).getD K tI.dflt)) := by rw [hd0]; exact due0_can hN1 K
    have hpl0 : planP p K = [] ++ planK p.1.length (wP p) p.2.1.length (p.2.1.length - 0) (befE 0 []) K (mn (fun n => ((((List.range (p.2.1.length + 1)).map (dayS p K)).getD 0 tISS.dflt).getD n tIS.dflt).getD K tI.dflt) (((List.range (p.2.1.length + 1)).map (dayS p K)).getD 0 tISS.dflt).length (((((List.range (p.2.1.length + 1)).map (dayS p K)).getD 0 tISS.dflt).getD 0 tIS.dflt).getD K tI.dflt)) := by rw [hd0]; rfl
    refine ⟨_, s_l11Switch_ok p hv hp K hK, (by first | exact (fun _ => rfl) | exact (fun h => Bool.noConfusion h)), ?_⟩
    conv => whnf
    refine ⟨TB.i1 0 (by omega), ?_⟩
    conv => whnf
    refine ⟨TB.f1 0 (by omega), ?_⟩
    conv => whnf
    refine ⟨TB.f1 0 (by omega), ?_⟩
    conv => whnf
    refine ⟨_, s_l11Begin_ok (((List.range (p.2.1.length + 1)).map (dayS p K)).getD 0 tISS.dflt) K (by rw [TB.len 0 (by omega)]; omega) (by rw [TB.len 0 (by omega)]; omega) (fun n hn => TB.f3 0 n K (by omega) (by rw [TB.len 0 (by omega)] at hn; exact hn) (by omega)), (by first | exact (fun _ => rfl) | exact (fun h => Bool.noConfusion h)), ?_⟩
    conv => whnf
    refine loop_ups (X := Int × Int × List Int × Int) (fun (day, k, out, due) => [⟨0, 10, false, .d tI day⟩, ⟨0, 9, false, .d tI k⟩, ⟨0, 6, false, .own tI .fz out⟩, ⟨0, 8, false, .d tI due⟩]) (fun (day, _) => p.2.1.length - day.toNat)
      (fun (day, k, out, due) => ∃ d kk : Nat, day = d ∧ k = kk ∧ d ≤ p.2.1.length ∧ kk ≤ K ∧ out.length = d ∧ CanK p.1.length (wP p) p.2.1.length (p.2.1.length - d) (befE d out) kk due ∧
        planP p K = out ++ planK p.1.length (wP p) p.2.1.length (p.2.1.length - d) (befE d out) kk due ∧ (0 < d → 0 ≤ out.getD (d - 1) 0))
      (0, K, [], mn (fun n => ((((List.range (p.2.1.length + 1)).map (dayS p K)).getD 0 tISS.dflt).getD n tIS.dflt).getD K tI.dflt) (((List.range (p.2.1.length + 1)).map (dayS p K)).getD 0 tISS.dflt).length (((((List.range (p.2.1.length + 1)).map (dayS p K)).getD 0 tISS.dflt).getD 0 tIS.dflt).getD K tI.dflt)) ?_ ⟨0, K, rfl, rfl, by omega, Nat.le_refl _, rfl, hcan0, hpl0, fun h => by omega⟩ ?_
    · refine st_eq ?_
      conv => whnf
      exact ⟨rfl⟩
    rintro ⟨_, _, out, due⟩ ⟨d, kk, rfl, rfl, hd, hkk, hlen, hcan, hpl, hpos⟩
    have hbd := can_bd hcan
    conv => whnf
    refine cond_intro (fun h => ?_) (fun h => ?_)
    · have hdD : d < p.2.1.length := by have := of_decide_eq_true h; exact Int.ofNat_lt.1 this
      have hiw : 0 < d → 0 ≤ IntKind.i64.wrap ((d : Int) - 1) ∧ IntKind.i64.wrap ((d : Int) - 1) < out.length := fun h => by rw [wrap_in (by omega) (by omega)]; omega
      have hfw : 0 < d → (IntKind.i64.wrap ((d : Int) - 1)).toNat < out.length := fun h => by rw [wrap_in (by omega) (by omega)]; omega
      have hdw : 0 < d → (IntKind.i64.wrap ((d : Int) - 1)).toNat = d - 1 := fun h => by rw [wrap_in (by omega) (by omega)]; omega
      conv => whnf
      refine loop_ups (X := Int) (fun i => [⟨0, 11, false, .d tI i⟩]) (fun i => p.1.length - i.toNat)
        (fun i => ∃ n : Nat, i = n ∧ n ≤ p.1.length ∧ fh (hitK p.1.length (wP p) p.2.1.length (p.2.1.length - d) (befE d out) kk due) p.1.length 0 = fh (hitK p.1.length (wP p) p.2.1.length (p.2.1.length - d) (befE d out) kk due) (p.1.length - n) n) 0 ?_ ⟨0, rfl, by omega, rfl⟩ ?_
      · refine st_eq ?_
        conv => whnf
        exact ⟨rfl⟩
      rintro _ ⟨n, rfl, hn, hfh⟩
      have hnN : n < p.1.length := by
        rcases Nat.lt_or_ge n p.1.length with h | h
        · exact h
        · have e : n = p.1.length := by omega
          subst e
          exact (plan_end hcan hfh).elim
      conv => whnf
      refine cond_intro (fun d0 => ?_) (fun d0 => ?_)
      · have dd : 0 < d := by have := of_decide_eq_true (eq_of_beq d0); omega
        have e0 := hpos dd
        conv => whnf
        refine ⟨hiw dd, ?_⟩
        conv => whnf
        refine ⟨hfw dd, ?_⟩
        conv => whnf
        refine cond_intro (fun x0 => ?_) (fun x0 => ?_)
        · have x : out.getD (d - 1) 0 ≠ (n : Int) := by have := ne_of_bne x0; rw [hdw dd] at this; exact fun e => this e.symm
          have hnow := bef_other dd e0 x kk
          conv => whnf
          refine cond_intro (fun z0 => ?_) (fun z0 => ?_)
          · have z : 0 < kk := by
              have := of_decide_eq_true (eq_of_beq z0)
              rw [wrap_in (by omega) (by omega)] at this; omega
            have tlw : (IntKind.i64.wrap ((kk : Int) - 1)) = ((kk - 1 : Nat) : Int) := by rw [wrap_in (by omega) (by omega)]; omega
            have tln : (IntKind.i64.wrap ((kk : Int) - 1)).toNat = kk - 1 := by rw [tlw]; rfl
            have hnow' : nowK (befE d out) kk n = ((kk - 1 : Nat) : Int) := by rw [hnow]; omega
            have ti3 : 0 ≤ (IntKind.i64.wrap ((kk : Int) - 1)) ∧ (IntKind.i64.wrap ((kk : Int) - 1)) < ((((List.range (p.2.1.length + 1)).map (dayS p K)).getD d tISS.dflt).getD n tIS.dflt).length := by rw [tlw]; exact TB.i3 d n (kk - 1) (by omega) hnN (by omega)
            have tf3 : (IntKind.i64.wrap ((kk : Int) - 1)).toNat < ((((List.range (p.2.1.length + 1)).map (dayS p K)).getD d tISS.dflt).getD n tIS.dflt).length := by rw [tln]; exact TB.f3 d n (kk - 1) (by omega) hnN (by omega)
            have tv : ((((List.range (p.2.1.length + 1)).map (dayS p K)).getD d tISS.dflt).getD n tIS.dflt).getD (IntKind.i64.wrap ((kk : Int) - 1)).toNat tI.dflt = cP p (p.2.1.length - d) (kk - 1) n := by rw [tln]; exact TB.val d n (kk - 1) (by omega) hnN (by omega)
            conv => whnf
            refine ⟨TB.i1 d (by omega), ?_⟩
            conv => whnf
            refine ⟨TB.f1 d (by omega), ?_⟩
            conv => whnf
            refine ⟨TB.f1 d (by omega), ?_⟩
            conv => whnf
            refine ⟨TB.i2 d n (by omega) hnN, ?_⟩
            conv => whnf
            refine ⟨TB.f1 d (by omega), ?_⟩
            conv => whnf
            refine ⟨TB.f2 d n (by omega) hnN, ?_⟩
            conv => whnf
            refine ⟨TB.f1 d (by omega), ?_⟩
            conv => whnf
            refine ⟨TB.f2 d n (by omega) hnN, ?_⟩
            conv => whnf
            refine ⟨ti3, ?_⟩
            conv => whnf
            refine ⟨TB.f1 d (by omega), ?_⟩
            conv => whnf
            refine ⟨TB.f2 d n (by omega) hnN, ?_⟩
            conv => whnf
            refine ⟨tf3, ?_⟩
            conv => whnf
            refine cond_intro (fun c0 => ?_) (fun c0 => ?_)
            · have hc : cP p (p.2.1.length - d) (kk - 1) n = due := by have := eq_of_beq c0; rw [← this]; exact tv.symm
              have hsl := (say_in hv hnN hdD).1
              conv => whnf
              refine ⟨⟨room_snoc (by omega) (by decide), len_snoc (by omega)⟩, ?_⟩
              conv => whnf
              refine ⟨⟨Int.natCast_nonneg _, Int.ofNat_lt.2 hnN⟩, ?_⟩
              conv => whnf
              refine ⟨⟨Int.natCast_nonneg _, Int.ofNat_lt.2 hsl⟩, ?_⟩
              conv => whnf
              refine ⟨⟨Int.natCast_nonneg _, Int.ofNat_lt.2 hdD⟩, ?_⟩
              conv => whnf
              refine ⟨_, s_l11Wrong_ok _ _, (by first | exact (fun _ => rfl) | exact (fun h => Bool.noConfusion h)), ?_⟩
              conv => whnf
              refine cond_intro (fun w0 => ?_) (fun w0 => ?_)
              · have w1 : wP p n d = true := w0
                have hx := next_ok (due' := due - 1) hdD hlen hpl hnN hfh hnow' hc (by rw [w1]; rfl)
                conv => whnf
                refine ⟨(_, _, _, _), rfl, ⟨d + 1, (kk - 1), wrap_succ hdD (by unfold Short; omega), tlw, by omega, by omega, (by show (out ++ [(n : Int)]).length = d + 1; simp [hlen]), ?_, ?_, fun _ => ?_⟩, ?_⟩
                · show CanK _ _ _ _ _ _ (IntKind.i64.wrap (due - 1)); rw [wrap_in (by omega) (by omega)]; exact hx.1
                · show _ = _ ++ planK _ _ _ _ _ _ (IntKind.i64.wrap (due - 1)); rw [wrap_in (by omega) (by omega)]; exact hx.2
                · show 0 ≤ (out ++ [(n : Int)]).getD (d + 1 - 1) 0; rw [Nat.add_sub_cancel, getD_mid hlen]; exact Int.natCast_nonneg n
                · rw [wrap_succ hdD (by unfold Short; omega)]; simp; omega
              · have w1 : wP p n d = false := w0
                have hx := next_ok (due' := due) hdD hlen hpl hnN hfh hnow' hc (by rw [w1]; simp)
                conv => whnf
                refine ⟨(_, _, _, _), rfl, ⟨d + 1, (kk - 1), wrap_succ hdD (by unfold Short; omega), tlw, by omega, by omega, (by show (out ++ [(n : Int)]).length = d + 1; simp [hlen]), hx.1, hx.2, fun _ => ?_⟩, ?_⟩
                · show 0 ≤ (out ++ [(n : Int)]).getD (d + 1 - 1) 0; rw [Nat.add_sub_cancel, getD_mid hlen]; exact Int.natCast_nonneg n
                · rw [wrap_succ hdD (by unfold Short; omega)]; simp; omega
            · have hc : cP p (p.2.1.length - d) (kk - 1) n ≠ due := by have := ne_of_beq_false c0; intro e; exact this ((tv.symm).symm.trans e)
              conv => whnf
              refine ⟨_, rfl, ⟨n + 1, wrap_succ hnN (by unfold Short; omega), by omega, plan_no hnN hfh (.inr (by rw [hnow']; exact hc))⟩, ?_⟩
              rw [wrap_succ hnN (by unfold Short; omega)]; simp; omega
          · have z : kk = 0 := by
              have := of_decide_eq_false (bnot_true z0)
              rw [wrap_in (by omega) (by omega)] at this; omega
            conv => whnf
            refine ⟨_, rfl, ⟨n + 1, wrap_succ hnN (by unfold Short; omega), by omega, plan_no hnN hfh (.inl (by rw [hnow]; omega))⟩, ?_⟩
            rw [wrap_succ hnN (by unfold Short; omega)]; simp; omega
        · have x : out.getD (d - 1) 0 = (n : Int) := by have := eq_of_bne x0; rw [hdw dd] at this; exact this.symm
          have hnow := bef_same dd x kk
          conv => whnf
          refine ⟨TB.i1 d (by omega), ?_⟩
          conv => whnf
          refine ⟨TB.f1 d (by omega), ?_⟩
          conv => whnf
          refine ⟨TB.f1 d (by omega), ?_⟩
          conv => whnf
          refine ⟨TB.i2 d n (by omega) hnN, ?_⟩
          conv => whnf
          refine ⟨TB.f1 d (by omega), ?_⟩
          conv => whnf
          refine ⟨TB.f2 d n (by omega) hnN, ?_⟩
          conv => whnf
          refine ⟨TB.f1 d (by omega), ?_⟩
          conv => whnf
          refine ⟨TB.f2 d n (by omega) hnN, ?_⟩
          conv => whnf
          refine ⟨TB.i3 d n kk (by omega) hnN (by omega), ?_⟩
          conv => whnf
          refine ⟨TB.f1 d (by omega), ?_⟩
          conv => whnf
          refine ⟨TB.f2 d n (by omega) hnN, ?_⟩
          conv => whnf
          refine ⟨TB.f3 d n kk (by omega) hnN (by omega), ?_⟩
          conv => whnf
          refine cond_intro (fun c0 => ?_) (fun c0 => ?_)
          · have hc : cP p (p.2.1.length - d) kk n = due := by have := eq_of_beq c0; rw [← this]; exact (TB.val d n kk (by omega) hnN (by omega)).symm
            have hsl := (say_in hv hnN hdD).1
            conv => whnf
            refine ⟨⟨room_snoc (by omega) (by decide), len_snoc (by omega)⟩, ?_⟩
            conv => whnf
            refine ⟨⟨Int.natCast_nonneg _, Int.ofNat_lt.2 hnN⟩, ?_⟩
            conv => whnf
            refine ⟨⟨Int.natCast_nonneg _, Int.ofNat_lt.2 hsl⟩, ?_⟩
            conv => whnf
            refine ⟨⟨Int.natCast_nonneg _, Int.ofNat_lt.2 hdD⟩, ?_⟩
            conv => whnf
            refine ⟨_, s_l11Wrong_ok _ _, (by first | exact (fun _ => rfl) | exact (fun h => Bool.noConfusion h)), ?_⟩
            conv => whnf
            refine cond_intro (fun w0 => ?_) (fun w0 => ?_)
            · have w1 : wP p n d = true := w0
              have hx := next_ok (due' := due - 1) hdD hlen hpl hnN hfh hnow hc (by rw [w1]; rfl)
              conv => whnf
              refine ⟨(_, _, _, _), rfl, ⟨d + 1, kk, wrap_succ hdD (by unfold Short; omega), rfl, by omega, by omega, (by show (out ++ [(n : Int)]).length = d + 1; simp [hlen]), ?_, ?_, fun _ => ?_⟩, ?_⟩
              · show CanK _ _ _ _ _ _ (IntKind.i64.wrap (due - 1)); rw [wrap_in (by omega) (by omega)]; exact hx.1
              · show _ = _ ++ planK _ _ _ _ _ _ (IntKind.i64.wrap (due - 1)); rw [wrap_in (by omega) (by omega)]; exact hx.2
              · show 0 ≤ (out ++ [(n : Int)]).getD (d + 1 - 1) 0; rw [Nat.add_sub_cancel, getD_mid hlen]; exact Int.natCast_nonneg n
              · rw [wrap_succ hdD (by unfold Short; omega)]; simp; omega
            · have w1 : wP p n d = false := w0
              have hx := next_ok (due' := due) hdD hlen hpl hnN hfh hnow hc (by rw [w1]; simp)
              conv => whnf
              refine ⟨(_, _, _, _), rfl, ⟨d + 1, kk, wrap_succ hdD (by unfold Short; omega), rfl, by omega, by omega, (by show (out ++ [(n : Int)]).length = d + 1; simp [hlen]), hx.1, hx.2, fun _ => ?_⟩, ?_⟩
              · show 0 ≤ (out ++ [(n : Int)]).getD (d + 1 - 1) 0; rw [Nat.add_sub_cancel, getD_mid hlen]; exact Int.natCast_nonneg n
              · rw [wrap_succ hdD (by unfold Short; omega)]; simp; omega
          · have hc : cP p (p.2.1.length - d) kk n ≠ due := by have := ne_of_beq_false c0; intro e; exact this (((TB.val d n kk (by omega) hnN (by omega)).symm).symm.trans e)
            conv => whnf
            refine ⟨_, rfl, ⟨n + 1, wrap_succ hnN (by unfold Short; omega), by omega, plan_no hnN hfh (.inr (by rw [hnow]; exact hc))⟩, ?_⟩
            rw [wrap_succ hnN (by unfold Short; omega)]; simp; omega
      · have dd : d = 0 := by have := of_decide_eq_false (bnot_true d0); omega
        have hnow := bef_zero dd out kk n
        conv => whnf
        refine ⟨TB.i1 d (by omega), ?_⟩
        conv => whnf
        refine ⟨TB.f1 d (by omega), ?_⟩
        conv => whnf
        refine ⟨TB.f1 d (by omega), ?_⟩
        conv => whnf
        refine ⟨TB.i2 d n (by omega) hnN, ?_⟩
        conv => whnf
        refine ⟨TB.f1 d (by omega), ?_⟩
        conv => whnf
        refine ⟨TB.f2 d n (by omega) hnN, ?_⟩
        conv => whnf
        refine ⟨TB.f1 d (by omega), ?_⟩
        conv => whnf
        refine ⟨TB.f2 d n (by omega) hnN, ?_⟩
        conv => whnf
        refine ⟨TB.i3 d n kk (by omega) hnN (by omega), ?_⟩
        conv => whnf
        refine ⟨TB.f1 d (by omega), ?_⟩
        conv => whnf
        refine ⟨TB.f2 d n (by omega) hnN, ?_⟩
        conv => whnf
        refine ⟨TB.f3 d n kk (by omega) hnN (by omega), ?_⟩
        conv => whnf
        refine cond_intro (fun c0 => ?_) (fun c0 => ?_)
        · have hc : cP p (p.2.1.length - d) kk n = due := by have := eq_of_beq c0; rw [← this]; exact (TB.val d n kk (by omega) hnN (by omega)).symm
          have hsl := (say_in hv hnN hdD).1
          conv => whnf
          refine ⟨⟨room_snoc (by omega) (by decide), len_snoc (by omega)⟩, ?_⟩
          conv => whnf
          refine ⟨⟨Int.natCast_nonneg _, Int.ofNat_lt.2 hnN⟩, ?_⟩
          conv => whnf
          refine ⟨⟨Int.natCast_nonneg _, Int.ofNat_lt.2 hsl⟩, ?_⟩
          conv => whnf
          refine ⟨⟨Int.natCast_nonneg _, Int.ofNat_lt.2 hdD⟩, ?_⟩
          conv => whnf
          refine ⟨_, s_l11Wrong_ok _ _, (by first | exact (fun _ => rfl) | exact (fun h => Bool.noConfusion h)), ?_⟩
          conv => whnf
          refine cond_intro (fun w0 => ?_) (fun w0 => ?_)
          · have w1 : wP p n d = true := w0
            have hx := next_ok (due' := due - 1) hdD hlen hpl hnN hfh hnow hc (by rw [w1]; rfl)
            conv => whnf
            refine ⟨(_, _, _, _), rfl, ⟨d + 1, kk, wrap_succ hdD (by unfold Short; omega), rfl, by omega, by omega, (by show (out ++ [(n : Int)]).length = d + 1; simp [hlen]), ?_, ?_, fun _ => ?_⟩, ?_⟩
            · show CanK _ _ _ _ _ _ (IntKind.i64.wrap (due - 1)); rw [wrap_in (by omega) (by omega)]; exact hx.1
            · show _ = _ ++ planK _ _ _ _ _ _ (IntKind.i64.wrap (due - 1)); rw [wrap_in (by omega) (by omega)]; exact hx.2
            · show 0 ≤ (out ++ [(n : Int)]).getD (d + 1 - 1) 0; rw [Nat.add_sub_cancel, getD_mid hlen]; exact Int.natCast_nonneg n
            · rw [wrap_succ hdD (by unfold Short; omega)]; simp; omega
          · have w1 : wP p n d = false := w0
            have hx := next_ok (due' := due) hdD hlen hpl hnN hfh hnow hc (by rw [w1]; simp)
            conv => whnf
            refine ⟨(_, _, _, _), rfl, ⟨d + 1, kk, wrap_succ hdD (by unfold Short; omega), rfl, by omega, by omega, (by show (out ++ [(n : Int)]).length = d + 1; simp [hlen]), hx.1, hx.2, fun _ => ?_⟩, ?_⟩
            · show 0 ≤ (out ++ [(n : Int)]).getD (d + 1 - 1) 0; rw [Nat.add_sub_cancel, getD_mid hlen]; exact Int.natCast_nonneg n
            · rw [wrap_succ hdD (by unfold Short; omega)]; simp; omega
        · have hc : cP p (p.2.1.length - d) kk n ≠ due := by have := ne_of_beq_false c0; intro e; exact this (((TB.val d n kk (by omega) hnN (by omega)).symm).symm.trans e)
          conv => whnf
          refine ⟨_, rfl, ⟨n + 1, wrap_succ hnN (by unfold Short; omega), by omega, plan_no hnN hfh (.inr (by rw [hnow]; exact hc))⟩, ?_⟩
          rw [wrap_succ hnN (by unfold Short; omega)]; simp; omega
    · have hdD : d = p.2.1.length := by have := of_decide_eq_false h; omega
      rw [hdD, Nat.sub_self] at hpl
      have hpl : planP p K = out := hpl.trans (List.append_nil _)
      conv => whnf
      exact ⟨_, _, rfl, .inl rfl, by show _ = (⟨shLB, oLB, (planP p K, true, ())⟩ : Pk); rw [hpl]; rfl⟩
  · have q : isPanel p = false := by simpa using q0
    rw [switchR_no (by rw [q]; rfl)]
    conv => whnf
    repeat ((first | refine cond_f q0 ?_ | refine cond_t (hF q0) ?_ | refine cond_f (gF q0) ?_); conv => whnf)
    exact ⟨_, _, rfl, .inl rfl, rfl⟩

end Go.Proofs.Ytcpepepdinkioaa.Ev
