/- Panels of experts. -/
import Derived.Test.YtcpepepdinkioaaFnJ
namespace Go.Proofs.Ytcpepepdinkioaa.Ev
open Go
set_option linter.unusedVariables false
set_option linter.unusedSimpArgs false
set_option maxRecDepth 100000
set_option exponentiation.threshold 100000

theorem l_eqPanel_ok (a b : Sample) (ha : FitS a) : orc.pc n_l_eqPanel [.d shSample a, .d shSample b] ⟨.bool, .fz, decide (a = b)⟩ := by
  refine p_l_eqPanel true rfl rfl ?_
  conv => whnf
  refine ⟨_, l_eqIntSS_ok _ _ ha.p, (by first | exact (fun _ => rfl) | exact (fun h => Bool.noConfusion h)), ?_⟩
  conv => whnf
  refine cond_intro (fun h => ?_) (fun g => ?_)
  · have h : a.1 ≠ b.1 := by simpa using h
    conv => whnf
    exact ⟨_, _, rfl, .inl rfl, fin1 (by symm; simp only [decide_eq_false_iff_not]; intro e; exact h (by rw [e]))⟩
  have g : a.1 = b.1 := by simpa using g
  conv => whnf
  refine ⟨_, l_eqIntS_ok _ _ ha.l, (by first | exact (fun _ => rfl) | exact (fun h => Bool.noConfusion h)), ?_⟩
  conv => whnf
  refine cond_intro (fun h => ?_) (fun h => ?_)
  · have h : a.2.1 ≠ b.2.1 := by simpa using h
    conv => whnf
    exact ⟨_, _, rfl, .inl rfl, fin1 (by symm; simp only [decide_eq_false_iff_not]; intro e; exact h (by rw [e]))⟩
  · have h : a.2.1 = b.2.1 := by simpa using h
    conv => whnf
    exact ⟨_, _, rfl, .inl rfl, fin1 (by symm; simp only [decide_eq_true_eq]; exact Prod.ext g (Prod.ext h rfl))⟩

theorem l_markPanel_ok {q1 q2 : Pl} {P : List (List Int) → List Int → St} (O1 : ∀ y, Owns q1 tIS (.ow .fz) (fun x => P x y)) (O2 : ∀ x, Owns q2 tI .fz (P x)) (x : List (List Int)) (y : List Int) (u : Unit) (k : Int) (hx : Fit2 x) (hy : y.length ≤ 1048576) (h0 : 0 ≤ k) (hk : k + tot x ≤ 1152921504606846976) :
    orc.ic n_l_markPanel [.pair (.vw q1 tIS) (.pair (.vw q2 tI) (.d .unit u)), .d tI k] (P x y) (.d tI (k + tot x + y.length)) (P (marksS x k) (marks y.length (k + tot x))) := by
  refine p_l_markPanel true ((O2 _).pos _) rfl rfl ?_
  conv => whnf
  refine ⟨_, _, l_markIntSS_ok ((O1 y).lift _) x k hx h0 hk, ?_⟩
  conv => whnf
  refine ⟨_, _, l_markIntS_ok ((O2 _).lift _) y (k + tot x) hy (by omega) hk, ?_⟩
  conv => whnf
  exact ⟨_, rfl, rfl, rfl⟩

theorem l_markPanel_at {st : St} {s : Nat} {sl : Slot} (x : List (List Int)) (y : List Int) (u : Unit) (hg : st.get 0 s = some sl) (hf : sl.fb = true) (hb : sl.b = boxSample x y u) (k : Int)
    (hx : Fit2 x) (hy : y.length ≤ 1048576) (h0 : 0 ≤ k) (hk : k + tot x ≤ 1152921504606846976) :
    orc.ic n_l_markPanel [.pair (.vw ⟨⟨0, s, true⟩, [.l, .r 0]⟩ tIS) (.pair (.vw ⟨⟨0, s, true⟩, [.l, .r 1, .r 0]⟩ tI) (.d .unit u)), .d tI k] st (.d tI (k + tot x + y.length))
      (st.upd 0 s true (boxSample (marksS x k) (marks y.length (k + tot x)) u)) := by
  have h := l_markPanel_ok (P := fun x y => st.upd 0 s true (boxSample x y u))
    (fun y => owns_box hg hf (e := tIS) (o := .ow .fz) (mk := fun x => boxSample x y u) (ps := [.r 0, .l]) rfl (fun _ => rfl) (fun _ _ => rfl))
    (fun x => owns_box hg hf (e := tI) (o := .fz) (mk := fun y => boxSample x y u) (ps := [.r 0, .r 1, .l]) rfl (fun _ => rfl) (fun _ _ => rfl)) x y u k hx hy h0 hk
  rw [← hb, upd_self hg] at h
  exact h

theorem l_heldPanel_ok (x : List (List Int)) (m : Nat) (u : Unit) (k : Int) (hx : Fit2 x) (hy : m ≤ 1048576) (h0 : 0 ≤ k) (hk : k + tot x ≤ 1152921504606846976) :
    orc.pc n_l_heldPanel [.d shSample (marksS x k, marks m (k + tot x), u), .d tI k] ⟨tI, .fz, k + tot x + m⟩ := by
  refine p_l_heldPanel true rfl rfl ?_
  conv => whnf
  refine ⟨_, l_heldIntSS_ok x k hx h0 hk, (by first | exact (fun _ => rfl) | exact (fun h => Bool.noConfusion h)), ?_⟩
  conv => whnf
  refine cond_f (by simp; omega) ?_
  conv => whnf
  refine ⟨_, l_heldIntS_ok m (k + tot x) hy (by omega) hk, (by first | exact (fun _ => rfl) | exact (fun h => Bool.noConfusion h)), ?_⟩
  conv => whnf
  refine cond_f (by simp; omega) ?_
  conv => whnf
  exact ⟨_, _, rfl, .inl rfl, rfl⟩

theorem l_szPanel_ok (s : Sample) (k : Int) (hs : LimS s) (h0 : 0 ≤ k) (hk : k ≤ 1048576) : orc.pc n_l_szPanel [.d shSample s, .d tI k] ⟨tI, .fz, szSa s k⟩ := by
  refine p_l_szPanel true rfl rfl ?_
  conv => whnf
  refine ⟨_, l_szIntSS_ok _ _ hs.p hs.q h0 hk, (by first | exact (fun _ => rfl) | exact (fun h => Bool.noConfusion h)), ?_⟩
  conv => whnf
  refine cond_intro (fun h => ?_) (fun h => ?_)
  · have h : szSS s.1 k < 0 := of_decide_eq_true h
    conv => whnf
    exact ⟨_, _, rfl, .inl rfl, fin1 (by unfold szSa sz2; rw [if_pos h])⟩
  have h : ¬ szSS s.1 k < 0 := of_decide_eq_false h
  obtain ⟨_, hle⟩ := szSS_fit h0 hk (Int.not_lt.1 h)
  conv => whnf
  refine ⟨_, l_szIntS_ok _ _ hs.l (Int.not_lt.1 h) (Int.le_trans hle hk), (by first | exact (fun _ => rfl) | exact (fun h => Bool.noConfusion h)), ?_⟩
  conv => whnf
  refine cond_intro (fun g => ?_) (fun g => ?_)
  · have g : szL s.2.1.length (szSS s.1 k) < 0 := of_decide_eq_true g
    conv => whnf
    exact ⟨_, _, rfl, .inl rfl, fin1 (by unfold szSa sz2; rw [if_neg h, if_pos g])⟩
  · have g : ¬ szL s.2.1.length (szSS s.1 k) < 0 := of_decide_eq_false g
    conv => whnf
    exact ⟨_, _, rfl, .inl rfl, fin1 (by unfold szSa sz2; rw [if_neg h, if_neg g])⟩

theorem l_toPanel_ok (s : Sample) (hs : FitS s) : orc.pc n_l_toPanel [.d shSample s] ⟨shSample, shSample.full, s⟩ := by
  refine p_l_toPanel true rfl rfl ?_
  conv => whnf
  refine ⟨_, l_toIntSS_ok _ hs.p, (by first | exact (fun _ => rfl) | exact (fun h => Bool.noConfusion h)), ?_⟩
  conv => whnf
  refine ⟨_, l_toIntS_ok _ hs.l, (by first | exact (fun _ => rfl) | exact (fun h => Bool.noConfusion h)), ?_⟩
  conv => whnf
  exact ⟨_, _, rfl, .inl rfl, rfl⟩

theorem i_areLabels_ok (l : List Int) (hl : l.length ≤ 1048576) : orc.pc n_i_areLabels [.d tIS l] ⟨.bool, .fz, l.all isLabel⟩ := by
  refine p_i_areLabels true rfl rfl ?_
  conv => whnf
  refine loop_ups (X := Int) (fun i => [⟨0, 7, false, .d tI i⟩]) (fun i => l.length - i.toNat) (fun i => ∃ n : Nat, i = n ∧ n ≤ l.length ∧ l.all isLabel = (l.drop n).all isLabel) 0 ?_ ⟨0, rfl, by omega, rfl⟩ ?_
  · refine st_eq ?_
    conv => whnf
    exact ⟨rfl⟩
  rintro _ ⟨n, rfl, hn, hi⟩
  conv => whnf
  refine cond_intro (fun h => ?_) (fun h => ?_)
  · have h : n < l.length := by simpa using h
    rw [all_drop _ l h tI.dflt] at hi
    conv => whnf
    refine ⟨⟨by omega, by omega⟩, ?_⟩
    conv => whnf
    refine ⟨_, i_isLabel_ok _, (by first | exact (fun _ => rfl) | exact (fun h => Bool.noConfusion h)), ?_⟩
    conv => whnf
    refine cond_intro (fun g => ?_) (fun g => ?_)
    · have g : isLabel (l.getD n tI.dflt) = false := by simpa using g
      conv => whnf
      exact ⟨_, _, rfl, .inl rfl, fin1 (by rw [hi, g]; rfl)⟩
    · have g : isLabel (l.getD n tI.dflt) = true := by simpa using g
      conv => whnf
      refine ⟨_, rfl, ⟨n + 1, wrap_succ h (by unfold Short; omega), by omega, by rw [hi, g]; rfl⟩, ?_⟩
      rw [wrap_succ h (by unfold Short; omega)]; simp; omega
  · have h : ¬ n < l.length := by simpa using h
    conv => whnf
    exact ⟨_, _, rfl, .inl rfl, fin1 (by rw [hi, drop_len h]; rfl)⟩

def okSay (m : Nat) (l : List Int) : Bool := l.length == m && l.all (inB · (-1) 1)
def isPanel (p : Sample) : Bool := inB p.1.length 1 8 && (decide (p.2.1.length ≤ 16) && (p.2.1.all isLabel && p.1.all (okSay p.2.1.length)))

theorem len_eq {a b : Nat} (h : (((a : Int) != (b : Int)) == false) = true) : a = b := by simp at h; omega
theorem len_ne {a b : Nat} (h : (((a : Int) != (b : Int)) == false) = false) : a ≠ b := by simp at h; omega
theorem okSay_yes {m : Nat} {l : List Int} (h : l.length = m) (g : l.all (inB · (-1) 1) = true) : okSay m l = true := by unfold okSay; rw [g, h]; simp
theorem okSay_len {m : Nat} {l : List Int} (h : l.length ≠ m) : okSay m l = false := by unfold okSay; simp [h]
theorem okSay_all {m : Nat} {l : List Int} (g : l.all (inB · (-1) 1) = false) : okSay m l = false := by unfold okSay; rw [g]; simp

theorem i_IsPanel_ok (p : Sample) (hp : FitS p) : orc.pc n_i_IsPanel [.d shSample p] ⟨.bool, .fz, isPanel p⟩ := by
  have h1 := hp.p.1
  have h2 := hp.l
  refine p_i_IsPanel true rfl rfl ?_
  conv => whnf
  refine ⟨_, i_within_ok _ _ _, (by first | exact (fun _ => rfl) | exact (fun h => Bool.noConfusion h)), ?_⟩
  conv => whnf
  refine cond_intro (fun q0 => ?_) (fun q0 => ?_)
  · have q : inB p.1.length 1 8 = true := by simpa using q0
    conv => whnf
    repeat ((first | refine cond_t q0 ?_ | refine cond_f (hT q0) ?_ | refine cond_t (gT q0) ?_); conv => whnf)
    refine cond_intro (fun r0 => ?_) (fun r0 => ?_)
    · have r : p.2.1.length ≤ 16 := by simp at r0; omega
      conv => whnf
      repeat ((first | refine cond_t q0 ?_ | refine cond_f (hT q0) ?_ | refine cond_t (gT q0) ?_ | refine cond_t r0 ?_ | refine cond_f (hT r0) ?_ | refine cond_t (gT r0) ?_); conv => whnf)
      refine ⟨_, i_areLabels_ok _ h2, (by first | exact (fun _ => rfl) | exact (fun h => Bool.noConfusion h)), ?_⟩
      conv => whnf
      repeat ((first | refine cond_t q0 ?_ | refine cond_f (hT q0) ?_ | refine cond_t (gT q0) ?_ | refine cond_t r0 ?_ | refine cond_f (hT r0) ?_ | refine cond_t (gT r0) ?_); conv => whnf)
      refine cond_intro (fun t0 => ?_) (fun t0 => ?_)
      · have t : p.2.1.all isLabel = false := by simpa using t0
        conv => whnf
        exact ⟨_, _, rfl, .inl rfl, fin1 (by unfold isPanel; rw [q, t]; simp)⟩
      have t : p.2.1.all isLabel = true := by simpa using t0
      have base : isPanel p = p.1.all (okSay p.2.1.length) := by unfold isPanel; rw [q, t]; simp [r]
      conv => whnf
      refine loop_ups (X := Int) (fun i => [⟨0, 25, false, .d tI i⟩]) (fun i => p.1.length - i.toNat) (fun i => ∃ n : Nat, i = n ∧ n ≤ p.1.length ∧ isPanel p = (p.1.drop n).all (okSay p.2.1.length)) 0 ?_ ⟨0, rfl, by omega, by rw [base]; rfl⟩ ?_
      · refine st_eq ?_
        conv => whnf
        exact ⟨rfl⟩
      rintro _ ⟨n, rfl, hn, hi⟩
      conv => whnf
      refine cond_intro (fun k => ?_) (fun k => ?_)
      · have k : n < p.1.length := by simpa using k
        rw [all_drop _ p.1 k tIS.dflt] at hi
        conv => whnf
        refine ⟨⟨by omega, by omega⟩, ?_⟩
        conv => whnf
        refine cond_intro (fun u0 => ?_) (fun u0 => ?_)
        · have u : (p.1.getD n tIS.dflt).length = p.2.1.length := len_eq u0
          conv => whnf
          repeat ((first | refine cond_t u0 ?_ | refine cond_f (hT u0) ?_ | refine cond_t (gT u0) ?_); conv => whnf)
          refine ⟨_, i_allWithin_ok _ _ _ (hp.p.at k _), (by first | exact (fun _ => rfl) | exact (fun h => Bool.noConfusion h)), ?_⟩
          conv => whnf
          repeat ((first | refine cond_t u0 ?_ | refine cond_f (hT u0) ?_ | refine cond_t (gT u0) ?_); conv => whnf)
          refine cond_intro (fun v0 => ?_) (fun v0 => ?_)
          · have v : (p.1.getD n tIS.dflt).all (inB · (-1) 1) = false := by simpa using v0
            conv => whnf
            exact ⟨_, _, rfl, .inl rfl, fin1 (by rw [hi, okSay_all v]; rfl)⟩
          · have v : (p.1.getD n tIS.dflt).all (inB · (-1) 1) = true := by simpa using v0
            conv => whnf
            refine ⟨_, rfl, ⟨n + 1, wrap_succ k (by unfold Short; omega), by omega, by rw [hi, okSay_yes u v]; rfl⟩, ?_⟩
            rw [wrap_succ k (by unfold Short; omega)]; simp; omega
        · have u : (p.1.getD n tIS.dflt).length ≠ p.2.1.length := len_ne u0
          conv => whnf
          repeat ((first | refine cond_f u0 ?_ | refine cond_t (hF u0) ?_ | refine cond_f (gF u0) ?_); conv => whnf)
          exact ⟨_, _, rfl, .inl rfl, fin1 (by rw [hi, okSay_len u]; rfl)⟩
      · have k : ¬ n < p.1.length := by simpa using k
        conv => whnf
        exact ⟨_, _, rfl, .inl rfl, fin1 (by rw [hi, drop_len k]; rfl)⟩
    · have r : ¬ p.2.1.length ≤ 16 := by simp at r0; omega
      conv => whnf
      repeat ((first | refine cond_t q0 ?_ | refine cond_f (hT q0) ?_ | refine cond_t (gT q0) ?_ | refine cond_f r0 ?_ | refine cond_t (hF r0) ?_ | refine cond_f (gF r0) ?_); conv => whnf)
      exact ⟨_, _, rfl, .inl rfl, fin1 (by unfold isPanel; simp [r])⟩
  · have q : inB p.1.length 1 8 = false := by simpa using q0
    conv => whnf
    repeat ((first | refine cond_f q0 ?_ | refine cond_t (hF q0) ?_ | refine cond_f (gF q0) ?_); conv => whnf)
    exact ⟨_, _, rfl, .inl rfl, fin1 (by unfold isPanel; rw [q]; rfl)⟩

theorem s_l11Says_ok (l : List Int) (m : Nat) (hl : l.length ≤ 1048576) : orc.pc n_s_l11Says [.d tIS l, .d tI (m : Int)] ⟨.bool, .fz, okSay m l⟩ := by
  refine p_s_l11Says true rfl rfl ?_
  conv => whnf
  refine loop_ups (X := Int) (fun i => [⟨0, 5, false, .d tI i⟩]) (fun i => l.length - i.toNat) (fun i => ∃ n : Nat, i = n ∧ n ≤ l.length ∧ l.all (inB · (-1) 1) = (l.drop n).all (inB · (-1) 1)) 0 ?_ ⟨0, rfl, by omega, rfl⟩ ?_
  · refine st_eq ?_
    conv => whnf
    exact ⟨rfl⟩
  rintro _ ⟨n, rfl, hn, hi⟩
  conv => whnf
  refine cond_intro (fun h => ?_) (fun h => ?_)
  · have h : n < l.length := by simpa using h
    rw [all_drop _ l h tI.dflt] at hi
    conv => whnf
    refine ⟨⟨by omega, by omega⟩, ?_⟩
    conv => whnf
    refine ⟨_, s_l1In_ok _ _ _, (by first | exact (fun _ => rfl) | exact (fun h => Bool.noConfusion h)), ?_⟩
    conv => whnf
    refine cond_intro (fun g => ?_) (fun g => ?_)
    · have g : inB (l.getD n tI.dflt) (-1) 1 = false := by simpa using g
      conv => whnf
      exact ⟨_, _, rfl, .inl rfl, fin1 (by rw [okSay, hi, g]; simp)⟩
    · have g : inB (l.getD n tI.dflt) (-1) 1 = true := by simpa using g
      conv => whnf
      refine ⟨_, rfl, ⟨n + 1, wrap_succ h (by unfold Short; omega), by omega, by rw [hi, g]; rfl⟩, ?_⟩
      rw [wrap_succ h (by unfold Short; omega)]; simp; omega
  · have h : ¬ n < l.length := by simpa using h
    conv => whnf
    exact ⟨_, _, rfl, .inl rfl, fin1 (by rw [okSay, hi, drop_len h]; rw [Bool.eq_iff_iff]; simp; omega)⟩

theorem s_l11Panel_ok (p : Sample) (hp : FitS p) : orc.pc n_s_l11Panel [.d shSample p] ⟨.bool, .fz, isPanel p⟩ := by
  have h1 := hp.p.1
  have h2 := hp.l
  refine p_s_l11Panel true rfl rfl ?_
  conv => whnf
  refine loop_ups (X := Int) (fun i => [⟨0, 3, false, .d tI i⟩]) (fun i => p.1.length - i.toNat) (fun i => ∃ n : Nat, i = n ∧ n ≤ p.1.length ∧ p.1.all (okSay p.2.1.length) = (p.1.drop n).all (okSay p.2.1.length)) 0 ?_ ⟨0, rfl, by omega, rfl⟩ ?_
  · refine st_eq ?_
    conv => whnf
    exact ⟨rfl⟩
  rintro _ ⟨n, rfl, hn, hi⟩
  conv => whnf
  refine cond_intro (fun k => ?_) (fun k => ?_)
  · have k : n < p.1.length := by simpa using k
    rw [all_drop _ p.1 k tIS.dflt] at hi
    conv => whnf
    refine ⟨⟨by omega, by omega⟩, ?_⟩
    conv => whnf
    refine ⟨_, s_l11Says_ok (p.1.getD n tIS.dflt) p.2.1.length (hp.p.at k _), (by first | exact (fun _ => rfl) | exact (fun h => Bool.noConfusion h)), ?_⟩
    conv => whnf
    refine cond_intro (fun u0 => ?_) (fun u0 => ?_)
    · have u : okSay p.2.1.length (p.1.getD n tIS.dflt) = false := by simpa using u0
      conv => whnf
      exact ⟨_, _, rfl, .inl rfl, fin1 (by unfold isPanel; rw [hi, u]; simp)⟩
    · have u : okSay p.2.1.length (p.1.getD n tIS.dflt) = true := by simpa using u0
      conv => whnf
      refine ⟨_, rfl, ⟨n + 1, wrap_succ k (by unfold Short; omega), by omega, by rw [hi, u]; rfl⟩, ?_⟩
      rw [wrap_succ k (by unfold Short; omega)]; simp; omega
  · have k : ¬ n < p.1.length := by simpa using k
    have all : p.1.all (okSay p.2.1.length) = true := by rw [hi, drop_len k]; rfl
    have base : isPanel p = (inB p.1.length 1 8 && (decide (p.2.1.length ≤ 16) && p.2.1.all isLabel)) := by unfold isPanel; rw [all]; simp
    conv => whnf
    refine ⟨_, s_l1In_ok _ _ _, (by first | exact (fun _ => rfl) | exact (fun h => Bool.noConfusion h)), ?_⟩
    conv => whnf
    refine cond_intro (fun q0 => ?_) (fun q0 => ?_)
    · have q : inB p.1.length 1 8 = true := by simpa using q0
      conv => whnf
      repeat ((first | refine cond_t q0 ?_ | refine cond_f (hT q0) ?_ | refine cond_t (gT q0) ?_); conv => whnf)
      refine cond_intro (fun r0 => ?_) (fun r0 => ?_)
      · have r : p.2.1.length ≤ 16 := by simp at r0; omega
        conv => whnf
        repeat ((first | refine cond_t q0 ?_ | refine cond_f (hT q0) ?_ | refine cond_t (gT q0) ?_ | refine cond_t r0 ?_ | refine cond_f (hT r0) ?_ | refine cond_t (gT r0) ?_); conv => whnf)
        refine ⟨_, s_l2Labels_ok _ h2, (by first | exact (fun _ => rfl) | exact (fun h => Bool.noConfusion h)), ?_⟩
        conv => whnf
        repeat ((first | refine cond_t q0 ?_ | refine cond_f (hT q0) ?_ | refine cond_t (gT q0) ?_ | refine cond_t r0 ?_ | refine cond_f (hT r0) ?_ | refine cond_t (gT r0) ?_); conv => whnf)
        exact ⟨_, _, rfl, .inl rfl, fin1 (by rw [base, q]; simp [r])⟩
      · have r : ¬ p.2.1.length ≤ 16 := by simp at r0; omega
        conv => whnf
        repeat ((first | refine cond_t q0 ?_ | refine cond_f (hT q0) ?_ | refine cond_t (gT q0) ?_ | refine cond_f r0 ?_ | refine cond_t (hF r0) ?_ | refine cond_f (gF r0) ?_); conv => whnf)
        exact ⟨_, _, rfl, .inl rfl, fin1 (by rw [base, q]; simp [r])⟩
    · have q : inB p.1.length 1 8 = false := by simpa using q0
      conv => whnf
      repeat ((first | refine cond_f q0 ?_ | refine cond_t (hF q0) ?_ | refine cond_f (gF q0) ?_); conv => whnf)
      exact ⟨_, _, rfl, .inl rfl, fin1 (by rw [base, q]; rfl)⟩

end Go.Proofs.Ytcpepepdinkioaa.Ev
