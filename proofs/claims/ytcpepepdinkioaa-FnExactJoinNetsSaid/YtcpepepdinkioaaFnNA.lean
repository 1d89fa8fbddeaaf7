/- Lists of lists of planes, nets: equality, sizes, copies, marks. -/
import Derived.Test.YtcpepepdinkioaaFnP
namespace Go.Proofs.Ytcpepepdinkioaa.Ev
open Go
set_option linter.unusedVariables false
set_option linter.unusedSimpArgs false
set_option maxRecDepth 100000
set_option exponentiation.threshold 100000

abbrev shPlSS : Sh := .sl shPlS
abbrev shNet : Sh := .pair tI (.pair shPlSS .unit)
abbrev Net := Int × List (List Plane) × Unit
abbrev oPl : Ow := .pr (.ow .fz) .fz
def totPP : List (List Plane) → Nat
  | [] => 0
  | x :: r => totP x + totPP r
def marksPP : List (List Plane) → Int → List (List Plane)
  | [], _ => []
  | x :: r, k => marksP x k :: marksPP r (k + totP x)
structure FitPP (l : List (List Plane)) : Prop where
  n : l.length ≤ 1048576
  w : ∀ x ∈ l, FitP x
  t : totPP l ≤ 1099511627776
theorem FitPP.at {l : List (List Plane)} (h : FitPP l) {n : Nat} (hn : n < l.length) (d : List Plane) : FitP (l.getD n d) := h.w _ (getD_mem hn d)
theorem totPP_snoc (l : List (List Plane)) (x : List Plane) : totPP (l ++ [x]) = totPP l + totP x := by
  induction l with
  | nil => simp [totPP]
  | cons y l ih => simp only [List.cons_append, totPP, ih]; omega
theorem marksPP_snoc (l : List (List Plane)) (x : List Plane) : ∀ k, marksPP (l ++ [x]) k = marksPP l k ++ [marksP x (k + totPP l)] := by
  induction l with
  | nil => intro k; simp [marksPP, totPP]
  | cons y l ih =>
    intro k
    simp only [List.cons_append, marksPP, ih, totPP]
    have e : k + (totP y : Int) + (totPP l : Int) = k + ((totP y + totPP l : Nat) : Int) := by omega
    rw [e]
theorem marksPP_length (l : List (List Plane)) : ∀ k, (marksPP l k).length = l.length := by
  induction l with
  | nil => intro k; rfl
  | cons y l ih => intro k; simp [marksPP, ih]
theorem totPP_take_le (l : List (List Plane)) : ∀ n, totPP (l.take n) ≤ totPP l := by
  induction l with
  | nil => intro n; simp [totPP]
  | cons y l ih =>
    intro n
    cases n with
    | zero => simp [totPP]
    | succ n => simp [totPP]; exact ih n
theorem marksPP_getD : ∀ (l : List (List Plane)) (m : Nat) (k : Int) (d e : List Plane), m < l.length → (marksPP l k).getD m d = marksP (l.getD m e) (k + totPP (l.take m)) := by
  intro l
  induction l with
  | nil => intro m k d e h; simp at h
  | cons x l ih =>
    intro m k d e h
    cases m with
    | zero => simp [marksPP, totPP]
    | succ m =>
      have := ih m (k + totP x) d e (by simpa using h)
      simp only [marksPP, List.getD_cons_succ, this, List.take_succ_cons, totPP]
      congr 1; simp; omega
theorem marksP_getD : ∀ (l : List Plane) (m : Nat) (k : Int) (d e : Plane), m < l.length → (marksP l k).getD m d = (marks (l.getD m e).1.length (k + totP (l.take m)), k + totP (l.take m) + (l.getD m e).1.length, ()) := by
  intro l
  induction l with
  | nil => intro m k d e h; simp at h
  | cons x l ih =>
    intro m k d e h
    cases m with
    | zero => simp [marksP, totP]
    | succ m =>
      have := ih m (k + x.1.length + 1) d e (by simpa using h)
      simp only [marksP, List.getD_cons_succ, this, List.take_succ_cons, totP]
      have e : k + (x.1.length : Int) + 1 + (totP (l.take m) : Int) = k + ((x.1.length + 1 + totP (l.take m) : Nat) : Int) := by omega
      rw [e]

/-! ### Sizes -/

theorem szc_neg {n : Nat} {l : List Nat} {k : Int} (h : szL n k < 0) : szAll (n :: l) k = -1 := if_pos h
theorem szc_pos {n : Nat} {l : List Nat} {k : Int} (h : ¬ szL n k < 0) : szAll (n :: l) k = szAll l (szL n k) := if_neg h
theorem szAll_neg : ∀ {l : List Nat} {k : Int}, 0 ≤ k → szAll l k < 0 → szAll l k = -1 := by
  intro l
  induction l with
  | nil => intro k h0 h; have h : k < 0 := h; omega
  | cons n l ih =>
    intro k h0 h
    by_cases g : szL n k < 0
    · exact szc_neg g
    · rw [szc_pos g] at h ⊢; exact ih (by omega) h
theorem szAll_app {b : List Nat} : ∀ {a : List Nat} {k : Int}, 0 ≤ k → szAll (a ++ b) k = if szAll a k < 0 then -1 else szAll b (szAll a k) := by
  intro a
  induction a with
  | nil => intro k h0; exact (if_neg (by show ¬ k < 0; omega)).symm
  | cons n a ih =>
    intro k h0
    by_cases g : szL n k < 0
    · rw [List.cons_append, szc_neg g, szc_neg g]; rfl
    · rw [List.cons_append, szc_pos g, szc_pos g]; exact ih (by omega)
theorem szAll_sum : ∀ {l : List Nat} {k : Int}, 0 ≤ k → 0 ≤ szAll l k → szAll l k = k - (l.sum : Nat) := by
  intro l
  induction l with
  | nil => intro k h0 h; show k = k - ((0 : Nat) : Int); omega
  | cons n l ih =>
    intro k h0 h
    by_cases g : szL n k < 0
    · rw [szc_neg g] at h; omega
    · rw [szc_pos g] at h ⊢
      obtain ⟨_, e⟩ := szL_le (Int.not_lt.1 g)
      rw [ih (by omega) h, e]; simp; omega
def sizesP (x : List Plane) : List Nat := x.length :: x.map wid
def szPP (l : List (List Plane)) (k : Int) : Int := szAll (l.length :: l.flatMap sizesP) k
theorem totP_sum (x : List Plane) : totP x = (sizesP x).sum := by
  unfold sizesP
  induction x with
  | nil => rfl
  | cons p x ih => simp only [totP, ih, List.length_cons, List.map_cons, List.sum_cons, wid]; omega
theorem totPP_sum (l : List (List Plane)) : totPP l = (l.flatMap sizesP).sum := by
  induction l with
  | nil => rfl
  | cons x l ih => simp only [totPP, ih, List.flatMap_cons, List.sum_append, totP_sum]
theorem szPP_fit {a : List (List Plane)} {k : Int} (h0 : 0 ≤ k) (hk : k ≤ 1048576) (h : 0 ≤ szPP a k) : FitPP a ∧ szPP a k ≤ k := by
  obtain ⟨h1, h2⟩ := szAll_le h0 h
  have h3 : szPP a k = k - ((a.length :: a.flatMap sizesP).sum : Nat) := szAll_sum h0 h
  rw [List.sum_cons, ← totPP_sum] at h3
  refine ⟨⟨by have := h2 a.length (by simp); omega, fun x hx => ?_, by omega⟩, h1⟩
  have key : ∀ n ∈ sizesP x, (n : Int) ≤ k := fun n hn => h2 n (List.mem_cons_of_mem _ (List.mem_flatMap.2 ⟨x, hx, hn⟩))
  refine ⟨by have := key x.length (by simp [sizesP]); omega, fun p hp => ?_⟩
  have := key (wid p) (List.mem_cons_of_mem _ (List.mem_map_of_mem hp))
  unfold wid at this; omega

structure LimPP (l : List (List Plane)) : Prop where
  n : l.length ≤ maxL
  m : ∀ x ∈ l, x.length ≤ maxL
  w : ∀ x ∈ l, ∀ p ∈ x, p.1.length ≤ maxL
theorem lim_layers {l : List (List Plane)} (h : WfD shPlSS l) : LimPP l :=
  ⟨by have := h.2.1; unfold maxLen at this; exact this, fun x hx => (lim_planes (h.2.2 x hx)).1, fun x hx => (lim_planes (h.2.2 x hx)).2⟩

theorem l_szPlaneSS_ok (a : List (List Plane)) (k : Int) (ha : LimPP a) (h0 : 0 ≤ k) (hk : k ≤ 1048576) : orc.pc n_l_szPlaneSS [.d shPlSS a, .d tI k] ⟨tI, .fz, szPP a k⟩ := by
  refine p_l_szPlaneSS true rfl rfl ?_
  conv => whnf
  rw [wrap_sub ha.n h0 hk]
  refine cond_intro (fun h => ?_) (fun h => ?_)
  · have h : k - a.length < 0 := of_decide_eq_true h
    conv => whnf
    exact ⟨_, _, rfl, .inl rfl, fin1 (by unfold szPP szAll szL; rw [if_pos h]; rfl)⟩
  have h : ¬ k - a.length < 0 := of_decide_eq_false h
  have hal : a.length ≤ 1048576 := by omega
  have base : szPP a k = szAll (a.flatMap sizesP) (k - a.length) := by
    have e : szL a.length k = k - a.length := by unfold szL; rw [if_neg h]
    show (if szL a.length k < 0 then -1 else szAll (a.flatMap sizesP) (szL a.length k)) = _
    rw [e, if_neg h]
  conv => whnf
  refine loop_ups (X := Int × Int) (fun (i, r) => [⟨0, 5, false, .d tI i⟩, ⟨0, 1, false, .d tI r⟩]) (fun (i, _) => a.length - i.toNat) (fun (i, r) => ∃ n : Nat, i = n ∧ n ≤ a.length ∧ 0 ≤ r ∧ r ≤ 1048576 ∧ szPP a k = szAll ((a.drop n).flatMap sizesP) r) (0, k - a.length) ?_ ⟨0, rfl, by omega, by omega, by omega, base⟩ ?_
  · refine st_eq ?_
    conv => whnf
    exact ⟨rfl⟩
  rintro ⟨_, r⟩ ⟨n, rfl, hn, hr0, hr1, hi⟩
  conv => whnf
  refine cond_intro (fun g => ?_) (fun g => ?_)
  · have g : n < a.length := by simpa using g
    rw [drop_getD a g (Sh.dflt shPlS), List.flatMap_cons, szAll_app hr0] at hi
    conv => whnf
    refine ⟨⟨by omega, by omega⟩, ?_⟩
    conv => whnf
    refine ⟨_, l_szPlaneS_ok (a.getD n (Sh.dflt shPlS)) r (ha.m _ (getD_mem g _)) (ha.w _ (getD_mem g _)) hr0 hr1, (by first | exact (fun _ => rfl) | exact (fun h => Bool.noConfusion h)), ?_⟩
    conv => whnf
    refine cond_intro (fun q => ?_) (fun q => ?_)
    · have q : szAll (sizesP (a.getD n (Sh.dflt shPlS))) r < 0 := of_decide_eq_true q
      conv => whnf
      exact ⟨_, _, rfl, .inl rfl, fin1 (by rw [hi, if_pos q])⟩
    · have q : ¬ szAll (sizesP (a.getD n (Sh.dflt shPlS))) r < 0 := of_decide_eq_false q
      have q1 := (szAll_le hr0 (Int.not_lt.1 q)).1
      rw [if_neg q] at hi
      conv => whnf
      refine ⟨(_, _), rfl, ⟨n + 1, wrap_succ g (by unfold Short; omega), by omega, Int.not_lt.1 q, ?_, hi⟩, ?_⟩
      · show szAll (sizesP (a.getD n (Sh.dflt shPlS))) r ≤ _
        omega
      · rw [wrap_succ g (by unfold Short; omega)]; simp; omega
  · have g : ¬ n < a.length := by simpa using g
    conv => whnf
    exact ⟨_, _, rfl, .inl rfl, fin1 (by rw [hi, drop_len g]; rfl)⟩

/-! ### Copies, equality -/

theorem l_toPlaneSS_ok (a : List (List Plane)) (ha : FitPP a) : orc.pc n_l_toPlaneSS [.d shPlSS a] ⟨shPlSS, shPlSS.full, a⟩ := by
  have hal := ha.n
  refine p_l_toPlaneSS true rfl rfl ?_
  conv => whnf
  refine ⟨room_make (by omega) (by omega) (by decide), ?_⟩
  conv => whnf
  refine loop_ups (X := Int × List (List Plane)) (fun (i, l) => [⟨0, 4, false, .d tI i⟩, ⟨0, 3, false, .own shPlS (.ow oPl) l⟩]) (fun (i, l) => a.length - i.toNat) (fun (i, l) => ∃ n : Nat, i = n ∧ n ≤ a.length ∧ l = a.take n ++ List.replicate (a.length - n) (Sh.dflt shPlS)) (0, List.replicate a.length (Sh.dflt shPlS)) ?_ ⟨0, rfl, by omega, by simp⟩ ?_
  · refine st_eq ?_
    conv => whnf
    exact ⟨rfl⟩
  rintro ⟨_, _⟩ ⟨n, rfl, hn, rfl⟩
  have hlen : (a.take n ++ List.replicate (a.length - n) (Sh.dflt shPlS)).length = a.length := by simp; omega
  conv => whnf
  refine cond_intro (fun h => ?_) (fun h => ?_)
  · have h : n < a.length := by simpa using h
    conv => whnf
    refine ⟨⟨by omega, by omega⟩, ?_⟩
    conv => whnf
    refine ⟨_, l_toPlaneS_ok _ (ha.at h _), (by first | exact (fun _ => rfl) | exact (fun h => Bool.noConfusion h)), ?_⟩
    conv => whnf
    refine ⟨⟨by omega, by rw [hlen]; omega⟩, ?_⟩
    conv => whnf
    refine ⟨(by rw [hlen]; simpa using h), ?_⟩
    conv => whnf
    refine ⟨(_, _), rfl, ⟨n + 1, wrap_succ h (by unfold Short; omega), by omega, ?_⟩, ?_⟩
    · exact set_repl h _
    · rw [wrap_succ h (by unfold Short; omega)]; simp; omega
  · have h : ¬ n < a.length := by simpa using h
    obtain rfl : n = a.length := by omega
    conv => whnf
    exact ⟨_, _, rfl, .inl rfl, fin1 (by simp)⟩

theorem l_eqPlaneSS_ok (a b : List (List Plane)) (hal : a.length ≤ 1048576) (ha : ∀ x ∈ a, FitP x) : orc.pc n_l_eqPlaneSS [.d shPlSS a, .d shPlSS b] ⟨.bool, .fz, decide (a = b)⟩ := by
  refine p_l_eqPlaneSS true rfl rfl ?_
  conv => whnf
  refine cond_intro (fun h => ?_) (fun h => ?_)
  · have h : a.length ≠ b.length := by simp at h; omega
    conv => whnf
    exact ⟨_, _, rfl, .inl rfl, fin1 (by symm; simp only [decide_eq_false_iff_not]; intro e; exact h (by rw [e]))⟩
  have h : a.length = b.length := by simp at h; omega
  conv => whnf
  refine loop_ups (X := Int) (fun i => [⟨0, 5, false, .d tI i⟩]) (fun i => a.length - i.toNat) (fun i => ∃ n : Nat, i = n ∧ n ≤ a.length ∧ (a = b ↔ a.drop n = b.drop n)) 0 rfl ⟨0, rfl, by omega, by simp⟩ ?_
  rintro _ ⟨n, rfl, hn, hi⟩
  conv => whnf
  refine cond_intro (fun g => ?_) (fun g => ?_)
  · have h1 : n < a.length := by simpa using g
    have h2 : n < b.length := by omega
    conv => whnf
    refine ⟨⟨by omega, by omega⟩, ?_⟩
    conv => whnf
    refine ⟨⟨by omega, by omega⟩, ?_⟩
    conv => whnf
    refine ⟨_, l_eqPlaneS_ok _ _ (ha _ (getD_mem h1 _)), (by first | exact (fun _ => rfl) | exact (fun h => Bool.noConfusion h)), ?_⟩
    conv => whnf
    rw [drop_getD a h1 (Sh.dflt shPlS), drop_getD b h2 (Sh.dflt shPlS)] at hi
    refine cond_intro (fun h => ?_) (fun h => ?_)
    · have h : a.getD n (Sh.dflt shPlS) ≠ b.getD n (Sh.dflt shPlS) := by
        have h : (!decide (a.getD n (Sh.dflt shPlS) = b.getD n (Sh.dflt shPlS))) = true := h
        simpa only [Bool.not_eq_true', decide_eq_false_iff_not] using h
      conv => whnf
      exact ⟨_, _, rfl, .inl rfl, fin1 (by symm; simp only [decide_eq_false_iff_not]; rw [hi]; intro e; exact h (List.cons.inj e).1)⟩
    · have h : a.getD n (Sh.dflt shPlS) = b.getD n (Sh.dflt shPlS) := by
        have h : (!decide (a.getD n (Sh.dflt shPlS) = b.getD n (Sh.dflt shPlS))) = false := h
        simpa only [Bool.not_eq_false', decide_eq_true_eq] using h
      conv => whnf
      refine ⟨_, rfl, ⟨n + 1, wrap_succ h1 (by unfold Short; omega), by omega, by rw [hi, h]; simp⟩, ?_⟩
      rw [wrap_succ h1 (by unfold Short; omega)]; simp; omega
  · have h1 : ¬ n < a.length := by simpa using g
    conv => whnf
    exact ⟨_, _, rfl, .inl rfl, fin1 (by symm; simp only [decide_eq_true_eq]; rw [hi, drop_len h1, drop_len (by omega)])⟩

/-! ### Marks -/

theorem l_markPlaneSS_ok {q : Pl} {P : List (List Plane) → St} (O : Owns q shPlS (.ow oPl) P) (l : List (List Plane)) (k : Int) (hl : FitPP l) (h0 : 0 ≤ k) (hk : k + totPP l ≤ 1152921504606846976) :
    orc.ic n_l_markPlaneSS [.vw q shPlS, .d tI k] (P l) (.d tI (k + totPP l)) (P (marksPP l k)) := by
  have hll := hl.1
  refine p_l_markPlaneSS true (O.pos _) rfl rfl ?_
  conv => whnf
  refine loop_upt (X := Int × Int × List (List Plane)) (fun (i, k', _) => [⟨0, 5, false, .d tI i⟩, ⟨0, 1, false, .d tI k'⟩]) (fun (_, _, l') => P l') (fun (i, _, _) => l.length - i.toNat) (fun (i, k', l') => ∃ n : Nat, i = (n : Int) ∧ k' = k + totPP (l.take n) ∧ l' = marksPP (l.take n) k ++ l.drop n ∧ n ≤ l.length) (0, k, l) rfl ⟨0, by simp [marksPP, totPP]⟩ ?_
  rintro ⟨_, _, _⟩ ⟨n, rfl, rfl, rfl, hn⟩
  have hml : (marksPP (l.take n) k).length = n := by simp [marksPP_length]; omega
  have hlen : (marksPP (l.take n) k ++ l.drop n).length = l.length := by simp [hml]; omega
  conv => whnf
  refine O.get _ _ ?_
  conv => whnf
  refine cond_intro (fun h => ?_) (fun h => ?_)
  · have h : n < l.length := by simpa [hlen] using h
    conv => whnf
    refine O.get _ _ ?_
    conv => whnf
    refine ⟨⟨by omega, by rw [hlen]; omega⟩, ?_⟩
    conv => whnf
    refine O.look _ _ _ (by rw [hlen]; simpa using h) ?_
    conv => whnf
    have hx := hl.at h (Sh.dflt shPlS)
    have ht : totPP (l.take (n + 1)) = totPP (l.take n) + totP (l.getD n (Sh.dflt shPlS)) := by rw [take_getD l h (Sh.dflt shPlS), totPP_snoc]
    have ht' := totPP_take_le l (n + 1)
    have hat : marksPP (l.take n) k ++ l.drop n = (marksPP (l.take n) k ++ l.drop n).set n (l.getD n (Sh.dflt shPlS)) := by rw [drop_getD l h (Sh.dflt shPlS), set_at hml]
    have hc := fun f => l_markPlaneS_ok ((O.lift f).inside (inside_sl shPlane oPl) (l := marksPP (l.take n) k ++ l.drop n) (i := n) (by rw [hlen]; exact h)) (l.getD n (Sh.dflt shPlS)) (k + totPP (l.take n)) hx (by omega) (by omega)
    simp only [← hat] at hc
    refine ⟨_, _, hc _, ?_⟩
    conv => whnf
    refine ⟨(_, _, _), rfl, ⟨n + 1, wrap_succ h (by unfold Short; omega), ?_, ?_, by omega⟩, ?_⟩
    · rw [ht]; simp; omega
    · rw [drop_getD l h (Sh.dflt shPlS), set_at hml, take_getD l h (Sh.dflt shPlS), marksPP_snoc]; simp
    · rw [wrap_succ h (by unfold Short; omega)]; simp; omega
  · have h : ¬ n < l.length := by simpa [hlen] using h
    obtain rfl : n = l.length := by omega
    conv => whnf
    refine ⟨_, rfl, ?_, ?_⟩
    · simp
    · show P _ = _
      rw [List.drop_length, List.append_nil, List.take_length]

theorem l_heldPlaneS_ok (l : List Plane) (k : Int) (hl : FitP l) (h0 : 0 ≤ k) (hk : k + totP l ≤ 1152921504606846976) :
    orc.pc n_l_heldPlaneS [.d shPlS (marksP l k), .d tI k] ⟨tI, .fz, k + totP l⟩ := by
  have hlen := marksP_length l k
  have hll := hl.n
  refine p_l_heldPlaneS true rfl rfl ?_
  conv => whnf
  refine loop_ups (X := Int × Int) (fun (i, k') => [⟨0, 5, false, .d tI i⟩, ⟨0, 1, false, .d tI k'⟩]) (fun (i, _) => l.length - i.toNat) (fun (i, k') => ∃ n : Nat, i = (n : Int) ∧ k' = k + totP (l.take n) ∧ n ≤ l.length) (0, k) rfl ⟨0, by simp [totP]⟩ ?_
  rintro ⟨_, _⟩ ⟨n, rfl, rfl, hn⟩
  conv => whnf
  refine cond_intro (fun h => ?_) (fun h => ?_)
  · have h : n < l.length := by simpa [hlen] using h
    have ht : totP (l.take (n + 1)) = totP (l.take n) + ((l.getD n shPlane.dflt).1.length + 1) := by rw [take_getD l h shPlane.dflt, totP_snoc]
    have ht' := totP_take_le l (n + 1)
    have hg := marksP_getD l n k shPlane.dflt shPlane.dflt h
    have hc := l_heldIntS_ok (l.getD n shPlane.dflt).1.length (k + totP (l.take n)) (hl.at h _) (by omega) (by omega)
    have hc' : orc.pc n_l_heldIntS [.d tIS ((marksP l k).getD n shPlane.dflt).1, .d tI (k + totP (l.take n))] ⟨tI, .fz, k + totP (l.take n) + (l.getD n shPlane.dflt).1.length⟩ := by rw [hg]; exact hc
    conv => whnf
    refine ⟨⟨Int.natCast_nonneg _, by rw [hlen]; exact Int.ofNat_lt.2 h⟩, ?_⟩
    conv => whnf
    refine ⟨_, hc', (by first | exact (fun _ => rfl) | exact (fun h => Bool.noConfusion h)), ?_⟩
    conv => whnf
    have hq : ¬ ((k + totP (l.take n) + (l.getD n shPlane.dflt).1.length : Int) < 0) := by omega
    refine cond_f (decide_eq_false hq) ?_
    conv => whnf
    refine ⟨⟨Int.natCast_nonneg _, by rw [hlen]; exact Int.ofNat_lt.2 h⟩, ?_⟩
    conv => whnf
    refine cond_f ?_ ?_
    · show (((marksP l k).getD n shPlane.dflt).2.1 != (k + totP (l.take n) + (l.getD n shPlane.dflt).1.length : Int)) = false
      rw [hg]; simp
    conv => whnf
    refine ⟨(_, _), rfl, ⟨n + 1, wrap_succ h (by unfold Short; omega), ?_, by omega⟩, ?_⟩
    · show IntKind.i64.wrap (k + totP (l.take n) + (l.getD n shPlane.dflt).1.length + 1) = _
      rw [wrap_in (by omega) (by omega), ht]; omega
    · rw [wrap_succ h (by unfold Short; omega)]; simp; omega
  · have h : ¬ n < l.length := by simpa [hlen] using h
    obtain rfl : n = l.length := by omega
    conv => whnf
    refine ⟨_, _, rfl, .inl rfl, fin1 ?_⟩
    simp

theorem l_heldPlaneSS_ok (l : List (List Plane)) (k : Int) (hl : FitPP l) (h0 : 0 ≤ k) (hk : k + totPP l ≤ 1152921504606846976) :
    orc.pc n_l_heldPlaneSS [.d shPlSS (marksPP l k), .d tI k] ⟨tI, .fz, k + totPP l⟩ := by
  have hlen := marksPP_length l k
  have hll := hl.1
  refine p_l_heldPlaneSS true rfl rfl ?_
  conv => whnf
  refine loop_ups (X := Int × Int) (fun (i, k') => [⟨0, 5, false, .d tI i⟩, ⟨0, 1, false, .d tI k'⟩]) (fun (i, _) => l.length - i.toNat) (fun (i, k') => ∃ n : Nat, i = (n : Int) ∧ k' = k + totPP (l.take n) ∧ n ≤ l.length) (0, k) rfl ⟨0, by simp [totPP]⟩ ?_
  rintro ⟨_, _⟩ ⟨n, rfl, rfl, hn⟩
  conv => whnf
  refine cond_intro (fun h => ?_) (fun h => ?_)
  · have h : n < l.length := by simpa [hlen] using h
    have ht : totPP (l.take (n + 1)) = totPP (l.take n) + totP (l.getD n (Sh.dflt shPlS)) := by rw [take_getD l h (Sh.dflt shPlS), totPP_snoc]
    have ht' := totPP_take_le l (n + 1)
    have hc := l_heldPlaneS_ok (l.getD n (Sh.dflt shPlS)) (k + totPP (l.take n)) (hl.at h _) (by omega) (by omega)
    rw [← marksPP_getD l n k (Sh.dflt shPlS) (Sh.dflt shPlS) h] at hc
    conv => whnf
    refine ⟨⟨Int.natCast_nonneg _, by rw [hlen]; exact Int.ofNat_lt.2 h⟩, ?_⟩
    conv => whnf
    refine ⟨_, hc, (by first | exact (fun _ => rfl) | exact (fun h => Bool.noConfusion h)), ?_⟩
    conv => whnf
    have hq : ¬ ((k + totPP (l.take n) + totP (l.getD n (Sh.dflt shPlS)) : Int) < 0) := by omega
    refine cond_f (decide_eq_false hq) ?_
    conv => whnf
    refine ⟨(_, _), rfl, ⟨n + 1, wrap_succ h (by unfold Short; omega), ?_, by omega⟩, ?_⟩
    · show k + totPP (l.take n) + totP (l.getD n (Sh.dflt shPlS)) = _
      rw [ht]; omega
    · rw [wrap_succ h (by unfold Short; omega)]; simp; omega
  · have h : ¬ n < l.length := by simpa [hlen] using h
    obtain rfl : n = l.length := by omega
    conv => whnf
    refine ⟨_, _, rfl, .inl rfl, fin1 ?_⟩
    simp

/-! ### Nets -/

theorem l_szNet_ok (t : Net) (k : Int) (ht : LimPP t.2.1) (h0 : 0 ≤ k) (hk : k ≤ 1048576) : orc.pc n_l_szNet [.d shNet t, .d tI k] ⟨tI, .fz, szPP t.2.1 k⟩ := by
  refine p_l_szNet true rfl rfl ?_
  conv => whnf
  refine ⟨_, l_szPlaneSS_ok _ _ ht h0 hk, (by first | exact (fun _ => rfl) | exact (fun h => Bool.noConfusion h)), ?_⟩
  conv => whnf
  refine cond_intro (fun h => ?_) (fun h => ?_)
  · have h : szPP t.2.1 k < 0 := of_decide_eq_true h
    have e : szPP t.2.1 k = -1 := szAll_neg h0 h
    conv => whnf
    exact ⟨_, _, rfl, .inl rfl, fin1 (by rw [e])⟩
  · conv => whnf
    exact ⟨_, _, rfl, .inl rfl, fin1 (rfl)⟩
theorem l_toNet_ok (t : Net) (ht : FitPP t.2.1) : orc.pc n_l_toNet [.d shNet t] ⟨shNet, shNet.full, t⟩ := by
  refine p_l_toNet true rfl rfl ?_
  conv => whnf
  refine ⟨_, l_toPlaneSS_ok _ ht, (by first | exact (fun _ => rfl) | exact (fun h => Bool.noConfusion h)), ?_⟩
  conv => whnf
  exact ⟨_, _, rfl, .inl rfl, rfl⟩
theorem l_eqNet_ok (a b : Net) (hal : a.2.1.length ≤ 1048576) (ha : ∀ x ∈ a.2.1, FitP x) : orc.pc n_l_eqNet [.d shNet a, .d shNet b] ⟨.bool, .fz, decide (a = b)⟩ := by
  refine p_l_eqNet true rfl rfl ?_
  conv => whnf
  refine cond_intro (fun h => ?_) (fun g => ?_)
  · have h : a.1 ≠ b.1 := by simpa using h
    conv => whnf
    exact ⟨_, _, rfl, .inl rfl, fin1 (by symm; simp only [decide_eq_false_iff_not]; intro e; exact h (by rw [e]))⟩
  have g : a.1 = b.1 := by simpa using g
  conv => whnf
  refine ⟨_, l_eqPlaneSS_ok _ _ hal ha, (by first | exact (fun _ => rfl) | exact (fun h => Bool.noConfusion h)), ?_⟩
  conv => whnf
  refine cond_intro (fun h => ?_) (fun h => ?_)
  · have h : a.2.1 ≠ b.2.1 := by
      have h : (!decide (a.2.1 = b.2.1)) = true := h
      simpa only [Bool.not_eq_true', decide_eq_false_iff_not] using h
    conv => whnf
    exact ⟨_, _, rfl, .inl rfl, fin1 (by symm; simp only [decide_eq_false_iff_not]; intro e; exact h (by rw [e]))⟩
  · have h : a.2.1 = b.2.1 := by
      have h : (!decide (a.2.1 = b.2.1)) = false := h
      simpa only [Bool.not_eq_false', decide_eq_true_eq] using h
    conv => whnf
    exact ⟨_, _, rfl, .inl rfl, fin1 (by symm; simp only [decide_eq_true_eq]; exact Prod.ext g (Prod.ext h rfl))⟩
def boxNet (n : Int) (x : List (List Plane)) (u : Unit) : AV := .pair .unit (.pair (.d tI n) (.pair (.own shPlS (.ow oPl) x) (.d .unit u)))
theorem l_markNet_ok {q : Pl} {P : List (List Plane) → St} (O : Owns q shPlS (.ow oPl) P) (n : Int) (x : List (List Plane)) (u : Unit) (k : Int) (hx : FitPP x) (h0 : 0 ≤ k) (hk : k + totPP x ≤ 1152921504606846976) :
    orc.ic n_l_markNet [.pair (.d tI n) (.pair (.vw q shPlS) (.d .unit u)), .d tI k] (P x) (.d tI (k + totPP x)) (P (marksPP x k)) := by
  refine p_l_markNet true (O.pos _) rfl rfl ?_
  conv => whnf
  refine ⟨_, _, l_markPlaneSS_ok (O.lift _) x k hx h0 hk, ?_⟩
  conv => whnf
  exact ⟨_, rfl, rfl, rfl⟩
theorem l_markNet_at {st : St} {s : Nat} {sl : Slot} (n : Int) (x : List (List Plane)) (u : Unit) (hg : st.get 0 s = some sl) (hf : sl.fb = true) (hb : sl.b = boxNet n x u) (k : Int)
    (hx : FitPP x) (h0 : 0 ≤ k) (hk : k + totPP x ≤ 1152921504606846976) :
    orc.ic n_l_markNet [.pair (.d tI n) (.pair (.vw ⟨⟨0, s, true⟩, [.l, .r 1, .r 0]⟩ shPlS) (.d .unit u)), .d tI k] st (.d tI (k + totPP x)) (st.upd 0 s true (boxNet n (marksPP x k) u)) := by
  have h := l_markNet_ok (P := fun x => st.upd 0 s true (boxNet n x u))
    (owns_box hg hf (e := shPlS) (o := .ow oPl) (mk := fun x => boxNet n x u) (ps := [.r 0, .r 1, .l]) rfl (fun _ => rfl) (fun _ _ => rfl)) n x u k hx h0 hk
  rw [← hb, upd_self hg] at h
  exact h
theorem l_heldNet_ok (n : Int) (x : List (List Plane)) (u : Unit) (k : Int) (hx : FitPP x) (h0 : 0 ≤ k) (hk : k + totPP x ≤ 1152921504606846976) : orc.pc n_l_heldNet [.d shNet (n, marksPP x k, u), .d tI k] ⟨tI, .fz, k + totPP x⟩ := by
  refine p_l_heldNet true rfl rfl ?_
  conv => whnf
  refine ⟨_, l_heldPlaneSS_ok x k hx h0 hk, (by first | exact (fun _ => rfl) | exact (fun h => Bool.noConfusion h)), ?_⟩
  conv => whnf
  have hq : ¬ ((k + totPP x : Int) < 0) := by omega
  refine cond_f (decide_eq_false hq) ?_
  conv => whnf
  exact ⟨_, _, rfl, .inl rfl, fin1 (rfl)⟩

end Go.Proofs.Ytcpepepdinkioaa.Ev
