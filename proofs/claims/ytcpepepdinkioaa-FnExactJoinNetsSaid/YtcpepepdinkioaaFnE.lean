/- Sizes of arguments, and the arguments as the program's own values. -/
import Derived.Test.YtcpepepdinkioaaFnD
namespace Go.Proofs.Ytcpepepdinkioaa.Ev
open Go
set_option linter.unusedVariables false
set_option linter.unusedSimpArgs false
set_option maxRecDepth 100000
set_option exponentiation.threshold 100000

abbrev maxL : Nat := 9223372036854775807

def szL (n : Nat) (k : Int) : Int := if k - n < 0 then -1 else k - n

theorem szL_le {n : Nat} {k : Int} (h : 0 ≤ szL n k) : (n : Int) ≤ k ∧ szL n k = k - n := by
  unfold szL at h ⊢; split at h
  · omega
  · rename_i g; rw [if_neg g]; omega

theorem wrap_sub {n : Nat} {k : Int} (hn : n ≤ maxL) (h0 : 0 ≤ k) (hk : k ≤ 1048576) : IntKind.i64.wrap (k - n) = k - n := by
  unfold maxL at hn; exact wrap_in (by omega) (by omega)

theorem l_szIntS_ok (a : List Int) (k : Int) (ha : a.length ≤ maxL) (h0 : 0 ≤ k) (hk : k ≤ 1048576) : orc.pc n_l_szIntS [.d tIS a, .d tI k] ⟨tI, .fz, szL a.length k⟩ := by
  refine p_l_szIntS true rfl rfl ?_
  conv => whnf
  rw [wrap_sub ha h0 hk]
  refine cond_intro (fun h => ?_) (fun h => ?_)
  · have h : k - a.length < 0 := of_decide_eq_true h
    conv => whnf
    exact ⟨_, _, rfl, .inl rfl, fin1 (by unfold szL; rw [if_pos h])⟩
  · have h : ¬ k - a.length < 0 := of_decide_eq_false h
    conv => whnf
    exact ⟨_, _, rfl, .inl rfl, fin1 (by unfold szL; rw [if_neg h])⟩

/-- Sizes, one behind the other; -1 from the first that does not fit. -/
def szAll : List Nat → Int → Int
  | [], k => k
  | n :: r, k => if szL n k < 0 then -1 else szAll r (szL n k)

theorem szAll_le : ∀ {l : List Nat} {k : Int}, 0 ≤ k → 0 ≤ szAll l k → szAll l k ≤ k ∧ ∀ n ∈ l, (n : Int) ≤ k := by
  intro l
  induction l with
  | nil => intro k _ h; exact ⟨Int.le_refl _, fun n hn => by simp at hn⟩
  | cons n l ih =>
    intro k h0 h
    unfold szAll at h ⊢
    split at h
    · omega
    · rename_i g
      rw [if_neg g]
      obtain ⟨h1, h2⟩ := szL_le (Int.not_lt.1 g)
      obtain ⟨h3, h4⟩ := ih (Int.not_lt.1 g) h
      refine ⟨by omega, fun m hm => ?_⟩
      rcases List.mem_cons.1 hm with rfl | hm
      · exact h1
      · have := h4 m hm; omega

def szSS (l : List (List Int)) (k : Int) : Int := szAll (l.length :: l.map List.length) k

theorem l_szIntSS_ok (a : List (List Int)) (k : Int) (ha : a.length ≤ maxL) (ha' : ∀ x ∈ a, x.length ≤ maxL) (h0 : 0 ≤ k) (hk : k ≤ 1048576) : orc.pc n_l_szIntSS [.d tISS a, .d tI k] ⟨tI, .fz, szSS a k⟩ := by
  refine p_l_szIntSS true rfl rfl ?_
  conv => whnf
  rw [wrap_sub ha h0 hk]
  refine cond_intro (fun h => ?_) (fun h => ?_)
  · have h : k - a.length < 0 := of_decide_eq_true h
    conv => whnf
    exact ⟨_, _, rfl, .inl rfl, fin1 (by unfold szSS szAll szL; rw [if_pos h]; rfl)⟩
  have h : ¬ k - a.length < 0 := of_decide_eq_false h
  have hal : a.length ≤ 1048576 := by omega
  have base : szSS a k = szAll (a.map List.length) (k - a.length) := by
    have e : szL a.length k = k - a.length := by unfold szL; rw [if_neg h]
    show (if szL a.length k < 0 then -1 else szAll (a.map List.length) (szL a.length k)) = _
    rw [e, if_neg h]
  conv => whnf
  refine loop_ups (X := Int × Int) (fun (i, r) => [⟨0, 5, false, .d tI i⟩, ⟨0, 1, false, .d tI r⟩]) (fun (i, _) => a.length - i.toNat) (fun (i, r) => ∃ n : Nat, i = n ∧ n ≤ a.length ∧ 0 ≤ r ∧ r ≤ 1048576 ∧ szSS a k = szAll ((a.drop n).map List.length) r) (0, k - a.length) ?_ ⟨0, rfl, by omega, by omega, by omega, base⟩ ?_
  · refine st_eq ?_
    conv => whnf
    exact ⟨rfl⟩
  rintro ⟨_, r⟩ ⟨n, rfl, hn, hr0, hr1, hi⟩
  conv => whnf
  refine cond_intro (fun g => ?_) (fun g => ?_)
  · have g : n < a.length := by simpa using g
    rw [drop_getD a g tIS.dflt, List.map_cons, szAll] at hi
    conv => whnf
    refine ⟨⟨by omega, by omega⟩, ?_⟩
    conv => whnf
    refine ⟨_, l_szIntS_ok _ _ (ha' _ (getD_mem g _)) hr0 hr1, (by first | exact (fun _ => rfl) | exact (fun h => Bool.noConfusion h)), ?_⟩
    conv => whnf
    refine cond_intro (fun q => ?_) (fun q => ?_)
    · have q : szL (a.getD n tIS.dflt).length r < 0 := of_decide_eq_true q
      conv => whnf
      exact ⟨_, _, rfl, .inl rfl, fin1 (by rw [hi, if_pos q])⟩
    · have q : ¬ szL (a.getD n tIS.dflt).length r < 0 := of_decide_eq_false q
      obtain ⟨q1, q2⟩ := szL_le (Int.not_lt.1 q)
      rw [if_neg q] at hi
      conv => whnf
      refine ⟨(_, _), rfl, ⟨n + 1, wrap_succ g (by unfold Short; omega), by omega, Int.not_lt.1 q, ?_, hi⟩, ?_⟩
      · show szL (a.getD n tIS.dflt).length r ≤ _
        rw [q2]; omega
      · rw [wrap_succ g (by unfold Short; omega)]; simp; omega
  · have g : ¬ n < a.length := by simpa using g
    conv => whnf
    exact ⟨_, _, rfl, .inl rfl, fin1 (by rw [hi, drop_len g]; rfl)⟩

theorem szSS_fit {a : List (List Int)} {k : Int} (h0 : 0 ≤ k) (hk : k ≤ 1048576) (h : 0 ≤ szSS a k) : Fit2 a ∧ szSS a k ≤ k := by
  obtain ⟨h1, h2⟩ := szAll_le h0 h
  refine ⟨⟨by have := h2 a.length (by simp); omega, fun x hx => ?_⟩, h1⟩
  have := h2 x.length (by simp; exact .inr ⟨x, hx, rfl⟩)
  omega

def sz2 (f g : Int → Int) (k : Int) : Int := if f k < 0 then -1 else if g (f k) < 0 then -1 else g (f k)

def szSa (s : Sample) : Int → Int := sz2 (szSS s.1) (szL s.2.1.length)

structure LimS (s : Sample) : Prop where
  p : s.1.length ≤ maxL
  q : ∀ x ∈ s.1, x.length ≤ maxL
  l : s.2.1.length ≤ maxL

theorem szL_bd {n : Nat} {k : Int} (h0 : 0 ≤ k) (hk : k ≤ 1048576) : szL n k ≤ 1048576 := by unfold szL; split <;> omega

theorem l_szSample_ok (s : Sample) (k : Int) (hs : LimS s) (h0 : 0 ≤ k) (hk : k ≤ 1048576) : orc.pc n_l_szSample [.d shSample s, .d tI k] ⟨tI, .fz, szSa s k⟩ := by
  refine p_l_szSample true rfl rfl ?_
  conv => whnf
  refine ⟨_, l_szIntSS_ok _ _ hs.p hs.q h0 hk, (by first | exact (fun _ => rfl) | exact (fun h => Bool.noConfusion h)), ?_⟩
  conv => whnf
  refine cond_intro (fun h => ?_) (fun h => ?_)
  · have h : szSS s.1 k < 0 := of_decide_eq_true h
    conv => whnf
    exact ⟨_, _, rfl, .inl rfl, fin1 (by unfold szSa sz2; rw [if_pos h])⟩
  have h : ¬ szSS s.1 k < 0 := of_decide_eq_false h
  obtain ⟨_, hle⟩ := szSS_fit h0 hk (Int.not_lt.1 h)
  conv => whnf
  refine ⟨_, l_szIntS_ok _ _ hs.l (Int.not_lt.1 h) (Int.le_trans hle hk), (by first | exact (fun _ => rfl) | exact (fun h => Bool.noConfusion h)), ?_⟩
  conv => whnf
  refine cond_intro (fun g => ?_) (fun g => ?_)
  · have g : szL s.2.1.length (szSS s.1 k) < 0 := of_decide_eq_true g
    conv => whnf
    exact ⟨_, _, rfl, .inl rfl, fin1 (by unfold szSa sz2; rw [if_neg h, if_pos g])⟩
  · have g : ¬ szL s.2.1.length (szSS s.1 k) < 0 := of_decide_eq_false g
    conv => whnf
    exact ⟨_, _, rfl, .inl rfl, fin1 (by unfold szSa sz2; rw [if_neg h, if_neg g])⟩

theorem szSa_fit {s : Sample} {k : Int} (h0 : 0 ≤ k) (hk : k ≤ 1048576) (h : 0 ≤ szSa s k) : FitS s ∧ szSa s k ≤ k := by
  unfold szSa sz2 at h ⊢
  split at h
  · omega
  · rename_i g
    split at h
    · omega
    · rename_i g'
      rw [if_neg g, if_neg g']
      obtain ⟨h1, h2⟩ := szSS_fit h0 hk (Int.not_lt.1 g)
      obtain ⟨h3, h4⟩ := szL_le (Int.not_lt.1 g')
      exact ⟨⟨h1, by omega⟩, by omega⟩

theorem l_szPlane_ok (p : Plane) (k : Int) (hs : p.1.length ≤ maxL) (h0 : 0 ≤ k) (hk : k ≤ 1048576) : orc.pc n_l_szPlane [.d shPlane p, .d tI k] ⟨tI, .fz, szL p.1.length k⟩ := by
  refine p_l_szPlane true rfl rfl ?_
  conv => whnf
  refine ⟨_, l_szIntS_ok _ _ hs h0 hk, (by first | exact (fun _ => rfl) | exact (fun h => Bool.noConfusion h)), ?_⟩
  conv => whnf
  refine cond_intro (fun h => ?_) (fun h => ?_)
  · have h : szL p.1.length k < 0 := of_decide_eq_true h
    conv => whnf
    exact ⟨_, _, rfl, .inl rfl, fin1 (by have e := h; unfold szL at e ⊢; split at e <;> simp_all <;> omega)⟩
  · conv => whnf
    exact ⟨_, _, rfl, .inl rfl, fin1 (rfl)⟩

def szSc (s : School) : Int → Int := sz2 (szSa s.1) (szL s.2.1.1.length)

theorem l_szSchool_ok (s : School) (k : Int) (hs : LimS s.1) (hp : s.2.1.1.length ≤ maxL) (h0 : 0 ≤ k) (hk : k ≤ 1048576) : orc.pc n_l_szSchool [.d shSchool s, .d tI k] ⟨tI, .fz, szSc s k⟩ := by
  refine p_l_szSchool true rfl rfl ?_
  conv => whnf
  refine ⟨_, l_szSample_ok _ _ hs h0 hk, (by first | exact (fun _ => rfl) | exact (fun h => Bool.noConfusion h)), ?_⟩
  conv => whnf
  refine cond_intro (fun h => ?_) (fun h => ?_)
  · have h : szSa s.1 k < 0 := of_decide_eq_true h
    conv => whnf
    exact ⟨_, _, rfl, .inl rfl, fin1 (by unfold szSc sz2; rw [if_pos h])⟩
  have h : ¬ szSa s.1 k < 0 := of_decide_eq_false h
  obtain ⟨_, hle⟩ := szSa_fit h0 hk (Int.not_lt.1 h)
  conv => whnf
  refine ⟨_, l_szPlane_ok _ _ hp (Int.not_lt.1 h) (Int.le_trans hle hk), (by first | exact (fun _ => rfl) | exact (fun h => Bool.noConfusion h)), ?_⟩
  conv => whnf
  refine cond_intro (fun g => ?_) (fun g => ?_)
  · have g : szL s.2.1.1.length (szSa s.1 k) < 0 := of_decide_eq_true g
    conv => whnf
    exact ⟨_, _, rfl, .inl rfl, fin1 (by unfold szSc sz2; rw [if_neg h, if_pos g])⟩
  · have g : ¬ szL s.2.1.1.length (szSa s.1 k) < 0 := of_decide_eq_false g
    conv => whnf
    exact ⟨_, _, rfl, .inl rfl, fin1 (by unfold szSc sz2; rw [if_neg h, if_neg g])⟩

theorem szSc_fit {s : School} {k : Int} (h0 : 0 ≤ k) (hk : k ≤ 1048576) (h : 0 ≤ szSc s k) : FitSc s ∧ szSc s k ≤ k := by
  unfold szSc sz2 at h ⊢
  split at h
  · omega
  · rename_i g
    split at h
    · omega
    · rename_i g'
      rw [if_neg g, if_neg g']
      obtain ⟨h1, h2⟩ := szSa_fit h0 hk (Int.not_lt.1 g)
      obtain ⟨h3, h4⟩ := szL_le (Int.not_lt.1 g')
      exact ⟨⟨h1, by omega⟩, by omega⟩

/-! ### The program's own values -/

theorem set_repl {α : Type} {l : List α} {n : Nat} {d : α} (h : n < l.length) (e : α) : (l.take n ++ List.replicate (l.length - n) d).set n (l.getD n e) = l.take (n + 1) ++ List.replicate (l.length - (n + 1)) d := by
  have : l.length - n = (l.length - (n + 1)) + 1 := by omega
  rw [this, List.replicate_succ, set_at (by simp; omega), take_getD l h e]
  simp

theorem l_toIntS_ok (a : List Int) (ha : a.length ≤ 1048576) : orc.pc n_l_toIntS [.d tIS a] ⟨tIS, .ow .fz, a⟩ := by
  refine p_l_toIntS true rfl rfl ?_
  conv => whnf
  refine ⟨room_make (by omega) (by omega) (by decide), ?_⟩
  conv => whnf
  refine loop_ups (X := Int × List Int) (fun (i, l) => [⟨0, 4, false, .d tI i⟩, ⟨0, 3, false, .own tI .fz l⟩]) (fun (i, _) => a.length - i.toNat) (fun (i, l) => ∃ n : Nat, i = n ∧ n ≤ a.length ∧ l = a.take n ++ List.replicate (a.length - n) 0) (0, List.replicate a.length 0) ?_ ⟨0, rfl, by omega, by simp⟩ ?_
  · refine st_eq ?_
    conv => whnf
    exact ⟨rfl⟩
  rintro ⟨_, _⟩ ⟨n, rfl, hn, rfl⟩
  have hlen : (a.take n ++ List.replicate (a.length - n) 0).length = a.length := by simp; omega
  conv => whnf
  refine cond_intro (fun h => ?_) (fun h => ?_)
  · have h : n < a.length := by simpa using h
    conv => whnf
    refine ⟨⟨by omega, by omega⟩, ?_⟩
    conv => whnf
    refine ⟨⟨by omega, by rw [hlen]; omega⟩, ?_⟩
    conv => whnf
    refine ⟨(by rw [hlen]; simpa using h), ?_⟩
    conv => whnf
    refine ⟨(_, _), rfl, ⟨n + 1, wrap_succ h (by unfold Short; omega), by omega, ?_⟩, ?_⟩
    · exact set_repl h 0
    · rw [wrap_succ h (by unfold Short; omega)]; simp; omega
  · have h : ¬ n < a.length := by simpa using h
    obtain rfl : n = a.length := by omega
    conv => whnf
    exact ⟨_, _, rfl, .inl rfl, fin1 (by simp)⟩

theorem l_toIntSS_ok (a : List (List Int)) (ha : Fit2 a) : orc.pc n_l_toIntSS [.d tISS a] ⟨tISS, .ow (.ow .fz), a⟩ := by
  have hal := ha.1
  refine p_l_toIntSS true rfl rfl ?_
  conv => whnf
  refine ⟨room_make (by omega) (by omega) (by decide), ?_⟩
  conv => whnf
  refine loop_ups (X := Int × List (List Int)) (fun (i, l) => [⟨0, 4, false, .d tI i⟩, ⟨0, 3, false, .own tIS (.ow .fz) l⟩]) (fun (i, _) => a.length - i.toNat) (fun (i, l) => ∃ n : Nat, i = n ∧ n ≤ a.length ∧ l = a.take n ++ List.replicate (a.length - n) []) (0, List.replicate a.length []) ?_ ⟨0, rfl, by omega, by simp⟩ ?_
  · refine st_eq ?_
    conv => whnf
    exact ⟨rfl⟩
  rintro ⟨_, _⟩ ⟨n, rfl, hn, rfl⟩
  have hlen : (a.take n ++ List.replicate (a.length - n) []).length = a.length := by simp; omega
  conv => whnf
  refine cond_intro (fun h => ?_) (fun h => ?_)
  · have h : n < a.length := by simpa using h
    conv => whnf
    refine ⟨⟨by omega, by omega⟩, ?_⟩
    conv => whnf
    refine ⟨_, l_toIntS_ok _ (ha.at h _), (by first | exact (fun _ => rfl) | exact (fun h => Bool.noConfusion h)), ?_⟩
    conv => whnf
    refine ⟨⟨by omega, by rw [hlen]; omega⟩, ?_⟩
    conv => whnf
    refine ⟨(by rw [hlen]; simpa using h), ?_⟩
    conv => whnf
    refine ⟨(_, _), rfl, ⟨n + 1, wrap_succ h (by unfold Short; omega), by omega, ?_⟩, ?_⟩
    · exact set_repl h _
    · rw [wrap_succ h (by unfold Short; omega)]; simp; omega
  · have h : ¬ n < a.length := by simpa using h
    obtain rfl : n = a.length := by omega
    conv => whnf
    exact ⟨_, _, rfl, .inl rfl, fin1 (by simp)⟩

theorem l_toSample_ok (s : Sample) (hs : FitS s) : orc.pc n_l_toSample [.d shSample s] ⟨shSample, shSample.full, s⟩ := by
  refine p_l_toSample true rfl rfl ?_
  conv => whnf
  refine ⟨_, l_toIntSS_ok _ hs.p, (by first | exact (fun _ => rfl) | exact (fun h => Bool.noConfusion h)), ?_⟩
  conv => whnf
  refine ⟨_, l_toIntS_ok _ hs.l, (by first | exact (fun _ => rfl) | exact (fun h => Bool.noConfusion h)), ?_⟩
  conv => whnf
  exact ⟨_, _, rfl, .inl rfl, rfl⟩

theorem l_toPlane_ok (p : Plane) (hp : p.1.length ≤ 1048576) : orc.pc n_l_toPlane [.d shPlane p] ⟨shPlane, shPlane.full, p⟩ := by
  refine p_l_toPlane true rfl rfl ?_
  conv => whnf
  refine ⟨_, l_toIntS_ok _ hp, (by first | exact (fun _ => rfl) | exact (fun h => Bool.noConfusion h)), ?_⟩
  conv => whnf
  exact ⟨_, _, rfl, .inl rfl, rfl⟩

theorem l_toSchool_ok (s : School) (hs : FitSc s) : orc.pc n_l_toSchool [.d shSchool s] ⟨shSchool, shSchool.full, s⟩ := by
  refine p_l_toSchool true rfl rfl ?_
  conv => whnf
  refine ⟨_, l_toSample_ok _ hs.sm, (by first | exact (fun _ => rfl) | exact (fun h => Bool.noConfusion h)), ?_⟩
  conv => whnf
  refine ⟨_, l_toPlane_ok _ hs.pl, (by first | exact (fun _ => rfl) | exact (fun h => Bool.noConfusion h)), ?_⟩
  conv => whnf
  exact ⟨_, _, rfl, .inl rfl, rfl⟩


theorem lim_list {l : List Int} (h : WfD tIS l) : l.length ≤ maxL := by
  have := h.2.1; simpa [maxLen] using this
theorem lim_lists {l : List (List Int)} (h : WfD tISS l) : l.length ≤ maxL ∧ ∀ x ∈ l, x.length ≤ maxL :=
  ⟨by have := h.2.1; simpa [maxLen] using this, fun x hx => lim_list (h.2.2 x hx)⟩
theorem lim_sample {s : Sample} (h : WfD shSample s) : LimS s := ⟨(lim_lists h.1).1, (lim_lists h.1).2, lim_list h.2.1⟩

end Go.Proofs.Ytcpepepdinkioaa.Ev
