/- Lists of planes. -/
import Derived.Test.YtcpepepdinkioaaFnJ
namespace Go.Proofs.Ytcpepepdinkioaa.Ev
open Go
set_option linter.unusedVariables false
set_option linter.unusedSimpArgs false
set_option maxRecDepth 100000
set_option exponentiation.threshold 100000

abbrev shPlS : Sh := .sl shPlane
structure FitP (l : List Plane) : Prop where
  n : l.length ≤ 1048576
  w : ∀ p ∈ l, p.1.length ≤ 1048576
theorem FitP.at {l : List Plane} (h : FitP l) {n : Nat} (hn : n < l.length) (d : Plane) : (l.getD n d).1.length ≤ 1048576 := h.w _ (getD_mem hn d)

def wid (p : Plane) : Nat := p.1.length
def szPS (l : List Plane) (k : Int) : Int := szAll (l.length :: l.map wid) k

theorem l_szPlaneS_ok (a : List Plane) (k : Int) (ha : a.length ≤ maxL) (ha' : ∀ x ∈ a, x.1.length ≤ maxL) (h0 : 0 ≤ k) (hk : k ≤ 1048576) : orc.pc n_l_szPlaneS [.d shPlS a, .d tI k] ⟨tI, .fz, szPS a k⟩ := by
  refine p_l_szPlaneS true rfl rfl ?_
  conv => whnf
  rw [wrap_sub ha h0 hk]
  refine cond_intro (fun h => ?_) (fun h => ?_)
  · have h : k - a.length < 0 := of_decide_eq_true h
    conv => whnf
    exact ⟨_, _, rfl, .inl rfl, fin1 (by unfold szPS szAll szL; rw [if_pos h]; rfl)⟩
  have h : ¬ k - a.length < 0 := of_decide_eq_false h
  have hal : a.length ≤ 1048576 := by omega
  have base : szPS a k = szAll (a.map wid) (k - a.length) := by
    have e : szL a.length k = k - a.length := by unfold szL; rw [if_neg h]
    show (if szL a.length k < 0 then -1 else szAll (a.map wid) (szL a.length k)) = _
    rw [e, if_neg h]
  conv => whnf
  refine loop_ups (X := Int × Int) (fun (i, r) => [⟨0, 5, false, .d tI i⟩, ⟨0, 1, false, .d tI r⟩]) (fun (i, _) => a.length - i.toNat) (fun (i, r) => ∃ n : Nat, i = n ∧ n ≤ a.length ∧ 0 ≤ r ∧ r ≤ 1048576 ∧ szPS a k = szAll ((a.drop n).map wid) r) (0, k - a.length) ?_ ⟨0, rfl, by omega, by omega, by omega, base⟩ ?_
  · refine st_eq ?_
    conv => whnf
    exact ⟨rfl⟩
  rintro ⟨_, r⟩ ⟨n, rfl, hn, hr0, hr1, hi⟩
  conv => whnf
  refine cond_intro (fun g => ?_) (fun g => ?_)
  · have g : n < a.length := by simpa using g
    rw [drop_getD a g shPlane.dflt, List.map_cons, szAll] at hi
    conv => whnf
    refine ⟨⟨by omega, by omega⟩, ?_⟩
    conv => whnf
    refine ⟨_, l_szPlane_ok _ _ (ha' _ (getD_mem g _)) hr0 hr1, (by first | exact (fun _ => rfl) | exact (fun h => Bool.noConfusion h)), ?_⟩
    conv => whnf
    refine cond_intro (fun q => ?_) (fun q => ?_)
    · have q : szL (wid (a.getD n shPlane.dflt)) r < 0 := of_decide_eq_true q
      conv => whnf
      exact ⟨_, _, rfl, .inl rfl, fin1 (by rw [hi, if_pos q])⟩
    · have q : ¬ szL (wid (a.getD n shPlane.dflt)) r < 0 := of_decide_eq_false q
      obtain ⟨q1, q2⟩ := szL_le (Int.not_lt.1 q)
      rw [if_neg q] at hi
      conv => whnf
      refine ⟨(_, _), rfl, ⟨n + 1, wrap_succ g (by unfold Short; omega), by omega, Int.not_lt.1 q, ?_, hi⟩, ?_⟩
      · show szL (wid (a.getD n shPlane.dflt)) r ≤ _
        rw [q2]; omega
      · rw [wrap_succ g (by unfold Short; omega)]; simp; omega
  · have g : ¬ n < a.length := by simpa using g
    conv => whnf
    exact ⟨_, _, rfl, .inl rfl, fin1 (by rw [hi, drop_len g]; rfl)⟩

theorem szPS_fit {a : List Plane} {k : Int} (h0 : 0 ≤ k) (hk : k ≤ 1048576) (h : 0 ≤ szPS a k) : FitP a ∧ szPS a k ≤ k := by
  obtain ⟨h1, h2⟩ := szAll_le h0 h
  refine ⟨⟨by have := h2 a.length (by simp); omega, fun x hx => ?_⟩, h1⟩
  have := h2 (wid x) (List.mem_cons_of_mem _ (List.mem_map_of_mem hx))
  unfold wid at this
  omega

theorem lim_planes {l : List Plane} (h : WfD shPlS l) : l.length ≤ maxL ∧ ∀ x ∈ l, x.1.length ≤ maxL :=
  ⟨by have := h.2.1; unfold maxLen at this; exact this, fun x hx => lim_list (h.2.2 x hx).1⟩

theorem l_toPlaneS_ok (a : List Plane) (ha : FitP a) : orc.pc n_l_toPlaneS [.d shPlS a] ⟨shPlS, shPlS.full, a⟩ := by
  have hal := ha.n
  refine p_l_toPlaneS true rfl rfl ?_
  conv => whnf
  refine ⟨room_make (by omega) (by omega) (by decide), ?_⟩
  conv => whnf
  refine loop_ups (X := Int × List Plane) (fun (i, l) => [⟨0, 4, false, .d tI i⟩, ⟨0, 3, false, .own shPlane (.pr (.ow .fz) .fz) l⟩]) (fun (i, _) => a.length - i.toNat) (fun (i, l) => ∃ n : Nat, i = n ∧ n ≤ a.length ∧ l = a.take n ++ List.replicate (a.length - n) shPlane.dflt) (0, List.replicate a.length shPlane.dflt) ?_ ⟨0, rfl, by omega, by simp⟩ ?_
  · refine st_eq ?_
    conv => whnf
    exact ⟨rfl⟩
  rintro ⟨_, _⟩ ⟨n, rfl, hn, rfl⟩
  have hlen : (a.take n ++ List.replicate (a.length - n) shPlane.dflt).length = a.length := by simp; omega
  conv => whnf
  refine cond_intro (fun h => ?_) (fun h => ?_)
  · have h : n < a.length := by simpa using h
    conv => whnf
    refine ⟨⟨by omega, by omega⟩, ?_⟩
    conv => whnf
    refine ⟨_, l_toPlane_ok _ (ha.at h _), (by first | exact (fun _ => rfl) | exact (fun h => Bool.noConfusion h)), ?_⟩
    conv => whnf
    refine ⟨⟨by omega, by rw [hlen]; omega⟩, ?_⟩
    conv => whnf
    refine ⟨(by rw [hlen]; simpa using h), ?_⟩
    conv => whnf
    refine ⟨(_, _), rfl, ⟨n + 1, wrap_succ h (by unfold Short; omega), by omega, ?_⟩, ?_⟩
    · exact set_repl h _
    · rw [wrap_succ h (by unfold Short; omega)]; simp; omega
  · have h : ¬ n < a.length := by simpa using h
    obtain rfl : n = a.length := by omega
    conv => whnf
    exact ⟨_, _, rfl, .inl rfl, fin1 (by simp)⟩

theorem l_eqPlaneS_ok (a b : List Plane) (ha : FitP a) : orc.pc n_l_eqPlaneS [.d shPlS a, .d shPlS b] ⟨.bool, .fz, decide (a = b)⟩ := by
  have hal := ha.n
  refine p_l_eqPlaneS true rfl rfl ?_
  conv => whnf
  refine cond_intro (fun h => ?_) (fun h => ?_)
  · have h : a.length ≠ b.length := by simp at h; omega
    conv => whnf
    exact ⟨_, _, rfl, .inl rfl, fin1 (by symm; simp only [decide_eq_false_iff_not]; intro e; exact h (by rw [e]))⟩
  have h : a.length = b.length := by simp at h; omega
  conv => whnf
  refine loop_ups (X := Int) (fun i => [⟨0, 5, false, .d tI i⟩]) (fun i => a.length - i.toNat) (fun i => ∃ n : Nat, i = n ∧ n ≤ a.length ∧ (a = b ↔ a.drop n = b.drop n)) 0 rfl ⟨0, rfl, by omega, by simp⟩ ?_
  rintro _ ⟨n, rfl, hn, hi⟩
  conv => whnf
  refine cond_intro (fun g => ?_) (fun g => ?_)
  · have h1 : n < a.length := by simpa using g
    have h2 : n < b.length := by omega
    conv => whnf
    refine ⟨⟨by omega, by omega⟩, ?_⟩
    conv => whnf
    refine ⟨⟨by omega, by omega⟩, ?_⟩
    conv => whnf
    refine ⟨_, l_eqPlane_ok _ _ (ha.at h1 _), (by first | exact (fun _ => rfl) | exact (fun h => Bool.noConfusion h)), ?_⟩
    conv => whnf
    rw [drop_getD a h1 shPlane.dflt, drop_getD b h2 shPlane.dflt] at hi
    refine cond_intro (fun h => ?_) (fun h => ?_)
    · have h : a.getD n shPlane.dflt ≠ b.getD n shPlane.dflt := by
        have h : (!decide (a.getD n shPlane.dflt = b.getD n shPlane.dflt)) = true := h
        simpa only [Bool.not_eq_true', decide_eq_false_iff_not] using h
      conv => whnf
      exact ⟨_, _, rfl, .inl rfl, fin1 (by symm; simp only [decide_eq_false_iff_not]; rw [hi]; intro e; exact h (List.cons.inj e).1)⟩
    · have h : a.getD n shPlane.dflt = b.getD n shPlane.dflt := by
        have h : (!decide (a.getD n shPlane.dflt = b.getD n shPlane.dflt)) = false := h
        simpa only [Bool.not_eq_false', decide_eq_true_eq] using h
      conv => whnf
      refine ⟨_, rfl, ⟨n + 1, wrap_succ h1 (by unfold Short; omega), by omega, by rw [hi, h]; simp⟩, ?_⟩
      rw [wrap_succ h1 (by unfold Short; omega)]; simp; omega
  · have h1 : ¬ n < a.length := by simpa using g
    conv => whnf
    exact ⟨_, _, rfl, .inl rfl, fin1 (by symm; simp only [decide_eq_true_eq]; rw [hi, drop_len h1, drop_len (by omega)])⟩

/-! ### Marks -/

def totP : List Plane → Nat
  | [] => 0
  | p :: r => p.1.length + 1 + totP r
def marksP : List Plane → Int → List Plane
  | [], _ => []
  | p :: r, k => (marks p.1.length k, k + p.1.length, ()) :: marksP r (k + p.1.length + 1)
theorem totP_snoc (l : List Plane) (x : Plane) : totP (l ++ [x]) = totP l + (x.1.length + 1) := by
  induction l with
  | nil => simp [totP]
  | cons y l ih => simp only [List.cons_append, totP, ih]; omega
theorem marksP_snoc (l : List Plane) (x : Plane) : ∀ k, marksP (l ++ [x]) k = marksP l k ++ [(marks x.1.length (k + totP l), k + totP l + x.1.length, ())] := by
  induction l with
  | nil => intro k; simp [marksP, totP]
  | cons y l ih =>
    intro k
    simp only [List.cons_append, marksP, ih, totP]
    have e : k + (y.1.length : Int) + 1 + (totP l : Int) = k + ((y.1.length + 1 + totP l : Nat) : Int) := by omega
    rw [e]
theorem marksP_length (l : List Plane) : ∀ k, (marksP l k).length = l.length := by
  induction l with
  | nil => intro k; rfl
  | cons y l ih => intro k; simp [marksP, ih]
theorem totP_take_le (l : List Plane) : ∀ n, totP (l.take n) ≤ totP l := by
  induction l with
  | nil => intro n; simp [totP]
  | cons y l ih =>
    intro n
    cases n with
    | zero => simp [totP]
    | succ n => simp [totP]; exact ih n
theorem totP_le (l : List Plane) (h : ∀ x ∈ l, x.1.length ≤ 1048576) : totP l ≤ l.length * 1048577 := by
  induction l with
  | nil => simp [totP]
  | cons x l ih =>
    have h1 := h x (by simp)
    have h2 := ih fun y hy => h y (by simp [hy])
    simp only [totP, List.length_cons, Nat.succ_mul]
    omega
theorem totP_bd {l : List Plane} (h : FitP l) : totP l ≤ 1099512676352 := by
  have := totP_le l h.w
  have : l.length * 1048577 ≤ 1048576 * 1048577 := Nat.mul_le_mul_right _ h.n
  omega

theorem inside_pl (b : Int × Unit) : Inside shPlane (.pr (.ow .fz) .fz) [.l] tI .fz (fun w => (w, b)) where
  part := fun x => rfl
  upd := fun x x' => ⟨rfl, rfl⟩
  size := by show 0 < 2; decide

theorem Owns.okIn {q : Pl} {e : Sh} {o : Ow} {P : List e.den → St} (O : Owns q e o P) (k : Nat) (ps : List Stp) {i z : Nat} {u : AV} (hu : u.isBad = false) (hz : (u.size == 0) = false) :
    ((⟨⟨k, q.r.s, q.r.bx⟩, ps ++ .ix i z :: q.p⟩ : Pl).badPlace || !(⟨⟨k, q.r.s, q.r.bx⟩, ps ++ .ix i z :: q.p⟩ : Pl).mem || u.isBad || u.size == 0) = false := by
  have hb : (if q.r.bx = true then (Stp.ix i z :: q.p).getLast? != some (Stp.r 0) else (Stp.ix i z :: q.p).isEmpty) = false := O.bad i z
  have h1 : (⟨⟨k, q.r.s, q.r.bx⟩, ps ++ .ix i z :: q.p⟩ : Pl).badPlace = false := by
    show (if q.r.bx = true then (ps ++ Stp.ix i z :: q.p).getLast? != some (Stp.r 0) else (ps ++ Stp.ix i z :: q.p).isEmpty) = false
    by_cases hbx : q.r.bx = true
    · rw [if_pos hbx] at hb ⊢
      have e1 : (ps ++ Stp.ix i z :: q.p).getLast? = (Stp.ix i z :: q.p).getLast? := by rw [List.getLast?_append]; simp [List.getLast?_cons]
      rw [e1]; exact hb
    · rw [if_neg hbx]; cases ps <;> rfl
  have h2 : (⟨⟨k, q.r.s, q.r.bx⟩, ps ++ .ix i z :: q.p⟩ : Pl).mem = true := by simp [Pl.mem, ixIn, Stp.isIx]
  rw [h1, h2, hu, hz]; rfl

theorem l_markPlaneS_ok {q : Pl} {P : List Plane → St} (O : Owns q shPlane (.pr (.ow .fz) .fz) P) (l : List Plane) (k : Int) (hl : FitP l) (h0 : 0 ≤ k) (hk : k + totP l ≤ 1152921504606846976) :
    orc.ic n_l_markPlaneS [.vw q shPlane, .d tI k] (P l) (.d tI (k + totP l)) (P (marksP l k)) := by
  have hll := hl.n
  refine p_l_markPlaneS true (O.pos _) rfl rfl ?_
  conv => whnf
  refine loop_upt (X := Int × Int × List Plane) (fun (i, k', _) => [⟨0, 5, false, .d tI i⟩, ⟨0, 1, false, .d tI k'⟩]) (fun (_, _, l') => P l') (fun (i, _, _) => l.length - i.toNat) (fun (i, k', l') => ∃ n : Nat, i = (n : Int) ∧ k' = k + totP (l.take n) ∧ l' = marksP (l.take n) k ++ l.drop n ∧ n ≤ l.length) (0, k, l) rfl ⟨0, by simp [marksP, totP]⟩ ?_
  rintro ⟨_, _, _⟩ ⟨n, rfl, rfl, rfl, hn⟩
  have hml : (marksP (l.take n) k).length = n := by simp [marksP_length]; omega
  have hlen : (marksP (l.take n) k ++ l.drop n).length = l.length := by simp [hml]; omega
  conv => whnf
  refine O.get _ _ ?_
  conv => whnf
  refine cond_intro (fun h => ?_) (fun h => ?_)
  · have h : n < l.length := by simpa [hlen] using h
    have hx := hl.at h shPlane.dflt
    have ht : totP (l.take (n + 1)) = totP (l.take n) + ((l.getD n shPlane.dflt).1.length + 1) := by rw [take_getD l h shPlane.dflt, totP_snoc]
    have ht' := totP_take_le l (n + 1)
    have hat : marksP (l.take n) k ++ l.drop n = (marksP (l.take n) k ++ l.drop n).set n ((l.getD n shPlane.dflt).1, (l.getD n shPlane.dflt).2) := by rw [drop_getD l h shPlane.dflt, set_at hml]
    have hlt : n < (marksP (l.take n) k ++ l.drop n).length := by rw [hlen]; exact h
    have hv := (O.inside (inside_pl (l.getD n shPlane.dflt).2) (l := marksP (l.take n) k ++ l.drop n) (i := n) hlt).view (l.getD n shPlane.dflt).1
    have hc := fun f => l_markIntS_ok ((O.lift f).inside (inside_pl (l.getD n shPlane.dflt).2) (l := marksP (l.take n) k ++ l.drop n) (i := n) hlt) (l.getD n shPlane.dflt).1 (k + totP (l.take n)) hx (by omega) (by omega)
    simp only [← hat] at hc hv
    conv => whnf
    refine O.get _ _ ?_
    conv => whnf
    refine ⟨⟨by omega, by rw [hlen]; omega⟩, ?_⟩
    conv => whnf
    refine O.look _ _ _ (by rw [hlen]; simpa using h) ?_
    conv => whnf
    refine hv _ ?_
    conv => whnf
    refine ⟨_, _, hc _, ?_⟩
    conv => whnf
    refine O.get _ _ ?_
    conv => whnf
    have hlt1 : n < ((marksP (l.take n) k ++ l.drop n).set n (marks (l.getD n shPlane.dflt).1.length (k + totP (l.take n)), (l.getD n shPlane.dflt).2)).length := by rw [List.length_set]; exact hlt
    have hg1 : ((marksP (l.take n) k ++ l.drop n).set n (marks (l.getD n shPlane.dflt).1.length (k + totP (l.take n)), (l.getD n shPlane.dflt).2)).getD n shPlane.dflt = (marks (l.getD n shPlane.dflt).1.length (k + totP (l.take n)), (l.getD n shPlane.dflt).2) := by
      rw [List.getD_eq_getElem?_getD, List.getElem?_set_self hlt]; rfl
    refine ⟨⟨by omega, Int.ofNat_lt.2 hlt1⟩, ?_⟩
    conv => whnf
    refine O.look _ _ _ hlt1 ?_
    conv => whnf
    refine cond_f (O.okIn _ [.l, .r 1] rfl rfl) ?_
    conv => whnf
    refine O.putIn (ps := [.r 1, .l]) (b' := .pair (.own tI .fz (marks (l.getD n shPlane.dflt).1.length (k + totP (l.take n)))) (.pair (.d tI (k + totP (l.take n) + (l.getD n shPlane.dflt).1.length)) (.d .unit ()))) (w := (marks (l.getD n shPlane.dflt).1.length (k + totP (l.take n)), k + totP (l.take n) + (l.getD n shPlane.dflt).1.length, ())) hlt1 (by rw [hg1]; rfl) rfl rfl ?_
    conv => whnf
    refine ⟨(_, _, _), rfl, ⟨n + 1, wrap_succ h (by unfold Short; omega), ?_, ?_, by omega⟩, ?_⟩
    · show IntKind.i64.wrap (k + totP (l.take n) + (l.getD n shPlane.dflt).1.length + 1) = _
      rw [wrap_in (by omega) (by omega), ht]; omega
    · rw [List.set_set, drop_getD l h shPlane.dflt, set_at hml, take_getD l h shPlane.dflt, marksP_snoc]; simp
    · rw [wrap_succ h (by unfold Short; omega)]; simp; omega
  · have h : ¬ n < l.length := by simpa [hlen] using h
    obtain rfl : n = l.length := by omega
    conv => whnf
    refine ⟨_, rfl, ?_, ?_⟩
    · simp
    · show P _ = _
      rw [List.drop_length, List.append_nil, List.take_length]

end Go.Proofs.Ytcpepepdinkioaa.Ev
