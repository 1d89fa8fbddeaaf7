/- Valid logs. -/
import Derived.Test.YthgjpoeneihmnaaDoorFnSH
namespace Go.Proofs.YthgjpoeneihmnaaDoor.Ev
open Go
set_option linter.unusedVariables false
set_option linter.unusedSimpArgs false
set_option maxRecDepth 100000
set_option exponentiation.threshold 100000

def ixOf : List Int → Int → Int → Int
  | [], _, _ => -1
  | a :: l, x, i => if x = a then i else ixOf l x (i + 1)
theorem ixOf_nonneg (x : Int) : ∀ (l : List Int) (i : Int), 0 ≤ i → (0 ≤ ixOf l x i ↔ x ∈ l) := by
  intro l
  induction l with
  | nil => intro i hi; simp [ixOf]
  | cons a l ih =>
    intro i hi
    simp only [ixOf, List.mem_cons]
    by_cases h : x = a
    · simp [h]; exact hi
    · simp only [if_neg h, h, false_or]; exact ih (i + 1) (by omega)

theorem slices_IndexAll_ok (l : List Int) (x : Int) (hl : l.length ≤ 1048576) : orc.pc n_slices_Index [.d tIS l, .d tI x] ⟨tI, .fz, ixOf l x 0⟩ := by
  refine p_slices_Index true rfl rfl ?_
  conv => whnf
  refine loop_ups (X := Int) (fun i => [⟨0, 8, false, .d tI i⟩]) (fun i => l.length - i.toNat) (fun i => ∃ n : Nat, i = n ∧ n ≤ l.length ∧ ixOf l x 0 = ixOf (l.drop n) x n) 0 ?_ ⟨0, rfl, by omega, by simp⟩ ?_
  · refine st_eq ?_
    conv => whnf
    exact ⟨rfl⟩
  rintro _ ⟨n, rfl, hn, hi⟩
  conv => whnf
  refine cond_intro (fun h => ?_) (fun h => ?_)
  · have h : n < l.length := by simpa using h
    rw [drop_getD l h tI.dflt] at hi
    conv => whnf
    refine ⟨⟨by omega, by omega⟩, ?_⟩
    conv => whnf
    refine cond_intro (fun g => ?_) (fun g => ?_)
    · have g : x = l.getD n tI.dflt := eq_of_beq g
      conv => whnf
      exact ⟨_, _, rfl, .inl rfl, fin1 (by rw [hi]; simp only [ixOf, if_pos g])⟩
    · have g : ¬ x = l.getD n tI.dflt := ne_of_beq_false g
      conv => whnf
      refine ⟨_, rfl, ⟨n + 1, wrap_succ h (by unfold Short; omega), by omega, by rw [hi]; simp only [ixOf, if_neg g]; simp⟩, ?_⟩
      rw [wrap_succ h (by unfold Short; omega)]; simp; omega
  · have h : ¬ n < l.length := by simpa using h
    conv => whnf
    exact ⟨_, _, rfl, .inl rfl, fin1 (by rw [hi, drop_len h]; rfl)⟩

theorem slices_Contains_ok (l : List Int) (x : Int) (hl : l.length ≤ 1048576) : orc.pc n_slices_Contains [.d tIS l, .d tI x] ⟨.bool, .fz, decide (x ∈ l)⟩ := by
  refine p_slices_Contains true rfl rfl ?_
  conv => whnf
  refine ⟨_, slices_IndexAll_ok l x hl, (by first | exact (fun _ => rfl) | exact (fun h => Bool.noConfusion h)), ?_⟩
  conv => whnf
  exact ⟨_, _, rfl, .inl rfl, fin1 (by simp only [ge_iff_le, decide_eq_decide]; exact ixOf_nonneg x l 0 (by omega))⟩

/-! ### Where a text's own part ends -/

theorem bef_in {D P : Txt} (h : (10 : UInt8) ∈ D) : bef 10 (D ++ P) = bef 10 D ∧ aft 10 (D ++ P) = aft 10 D ++ P := by
  have e := bef_aft h
  have hn := not_mem_bef 10 D
  have e2 : D ++ P = bef 10 D ++ 10 :: (aft 10 D ++ P) := by
    have : D ++ P = (bef 10 D ++ 10 :: aft 10 D) ++ P := congrArg (· ++ P) e
    rw [this]; simp
  exact ⟨by rw [e2]; exact bef_app hn, by rw [e2]; exact aft_app hn⟩
theorem bef_ge {P : Txt} : ∀ {D : Txt}, (10 : UInt8) ∉ D → D.length ≤ (bef 10 (D ++ P)).length := by
  intro D
  induction D with
  | nil => intro _; simp
  | cons b D ih =>
    intro h
    have hb : ¬ b = 10 := fun e => h (by simp [e])
    simp only [List.cons_append, bef, if_neg hb, List.length_cons]
    have := ih (fun e => h ((mem_ne hb).2 e))
    omega
theorem ends_ge : ∀ (d : List (Rec × Nat)) (a : Nat) (x : Int), x ∈ endsOf d a → (a : Int) ≤ x := by
  intro d
  induction d with
  | nil => intro a x h; simp [endsOf] at h; omega
  | cons y d ih =>
    intro a x h
    simp only [endsOf, List.mem_cons] at h
    rcases h with h | h
    · omega
    · have := ih _ _ h; omega
theorem scan_split {P : Txt} : ∀ (f k : Nat) (D : Txt) (a : Nat), (((a + D.length : Nat) : Int) ∈ endsOf (scan f k (D ++ P)) a ↔ tot1 (scan f k D) = D.length) := by
  intro f
  induction f with
  | zero =>
    intro k D a
    simp only [scan, endsOf, tot1, List.map_nil, List.sum_nil, List.mem_singleton]
    omega
  | succ f ih =>
    intro k D a
    cases hD : D with
    | nil =>
      rw [scan_no (f := f + 1) (k := k) (s := []) (by simp)]
      have : (a : Int) ∈ endsOf (scan (f + 1) k ([] ++ P)) a := by
        cases scan (f + 1) k ([] ++ P) <;> simp [endsOf]
      simp only [List.length_nil, Nat.add_zero]
      exact ⟨fun _ => rfl, fun _ => this⟩
    | cons b D0 =>
      have hpos : 0 < (b :: D0).length := by simp
      rw [← hD] at hpos ⊢
      by_cases hm : (10 : UInt8) ∈ D
      · obtain ⟨e1, e2⟩ := bef_in (P := P) hm
        have hm2 : (10 : UInt8) ∈ D ++ P := List.mem_append_left _ hm
        have hlen := congrArg List.length (bef_aft hm)
        simp only [List.length_append, List.length_cons] at hlen
        cases q : dec k (bef 10 D) with
        | none =>
          rw [scan_none q, scan_none (by rw [e1]; exact q)]
          simp only [endsOf, tot1, List.map_nil, List.sum_nil, List.mem_singleton]
          constructor <;> intro h <;> omega
        | some e =>
          rw [scan_some hm q, scan_some hm2 (by rw [e1]; exact q), e1, e2]
          have := ih (k + 1) (aft 10 D) (a + ((bef 10 D).length + 1))
          simp only [endsOf, List.mem_cons, tot1, List.map_cons, List.sum_cons] at this ⊢
          have e3 : a + ((bef 10 D).length + 1) + (aft 10 D).length = a + D.length := by omega
          rw [e3] at this
          have e4 : ¬ ((a + D.length : Nat) : Int) = (a : Int) := by omega
          simp only [e4, false_or, this]
          omega
      · rw [scan_no (f := f + 1) (k := k) (s := D) hm]
        have hge := bef_ge (P := P) hm
        have : tot1 ([] : List (Rec × Nat)) = 0 := rfl
        rw [this]
        refine ⟨fun h => ?_, fun h => by omega⟩
        exfalso
        by_cases hm2 : (10 : UInt8) ∈ D ++ P
        · cases q : dec k (bef 10 (D ++ P)) with
          | none =>
            rw [scan_none q] at h
            simp [endsOf] at h; omega
          | some e =>
            rw [scan_some hm2 q] at h
            simp only [endsOf, List.mem_cons] at h
            rcases h with h | h
            · omega
            · have := ends_ge _ _ _ h
              omega
        · rw [scan_no hm2] at h
          simp [endsOf] at h; omega

/-! ### Valid logs -/

abbrev shLog : Sh := .pair .str (.pair .str (.pair tI .unit))
abbrev LogD := Txt × Txt × Int
def logD (l : LogD) : shLog.den := (mk l.1, mk l.2.1, l.2.2, ())
def validL (l : LogD) : Bool := decide (l.1.length + l.2.1.length ≤ 30000) && (decide (tot1 (openR (l.1 ++ l.2.1)) = l.1.length + l.2.1.length) && (decide (l.2.2 = (openR (l.1 ++ l.2.1)).length) && decide (tot1 (openR l.1) = l.1.length)))

theorem i_IsValidLog_ok (l : LogD) (h1 : l.1.length ≤ 1048576) (h2 : l.2.1.length ≤ 1048576) : orc.pc n_i_IsValidLog [.d shLog (logD l)] ⟨.bool, .fz, validL l⟩ := by
  have hw : IntKind.i64.wrap (((mk l.1).size : Int) + ((mk l.2.1).size : Int)) = ((l.1.length + l.2.1.length : Nat) : Int) := by
    rw [mk_size, mk_size, wrap_in (by omega) (by omega)]; simp
  have hk := scan_split (P := l.2.1) 60 0 l.1 0
  rw [Nat.zero_add] at hk
  refine p_i_IsValidLog true rfl rfl ?_
  conv => whnf
  rw [show IntKind.i64.wrap (((logD l).1.size : Int) + ((logD l).2.1.size : Int)) = ((l.1.length + l.2.1.length : Nat) : Int) from hw]
  refine cond_intro (fun g0 => ?_) (fun g0 => ?_)
  · have g : ¬ l.1.length + l.2.1.length ≤ 30000 := by
      have := of_decide_eq_true g0
      omega
    conv => whnf
    exact ⟨_, _, rfl, .inl rfl, fin1 (by unfold validL; rw [decide_eq_false g]; rfl)⟩
  · have g : l.1.length + l.2.1.length ≤ 30000 := by
      have := of_decide_eq_false g0
      omega
    have hrl : (recsD (openR (l.1 ++ l.2.1))).length = (openR (l.1 ++ l.2.1)).length := by simp [recsD]
    have hel := endsOf_len (openR (l.1 ++ l.2.1)) 0
    have hlast := endsOf_last (openR (l.1 ++ l.2.1)) 0
    have h60 := scan_len 60 0 (l.1 ++ l.2.1)
    have h60 : (openR (l.1 ++ l.2.1)).length ≤ 60 := h60
    rw [Nat.zero_add] at hlast
    conv => whnf
    refine ⟨(sz_le (a := l.1) (b := l.2.1) (by omega)), ?_⟩
    conv => whnf
    rw [show (logD l).1 ++ (logD l).2.1 = mk (l.1 ++ l.2.1) from mk_app _ _]
    refine ⟨_, i_readRecords_ok (l.1 ++ l.2.1) (by rw [List.length_append]; omega), (by first | exact (fun _ => rfl) | exact (fun h => Bool.noConfusion h)), ?_⟩
    conv => whnf
    rw [hrl]
    refine ⟨⟨Int.natCast_nonneg _, (by show _ < (((endsOf (openR (l.1 ++ l.2.1)) 0).length : Nat) : Int); rw [hel]; omega)⟩, ?_⟩
    conv => whnf
    refine ⟨(by show (openR (l.1 ++ l.2.1)).length < (endsOf (openR (l.1 ++ l.2.1)) 0).length; omega), ?_⟩
    conv => whnf
    rw [show (List.getD (endsOf (openR (l.1 ++ l.2.1)) 0) (((openR (l.1 ++ l.2.1)).length : Nat) : Int).toNat tI.dflt) = ((tot1 (openR (l.1 ++ l.2.1)) : Nat) : Int) from hlast]
    rw [show IntKind.i64.wrap (((logD l).1.size : Int) + ((logD l).2.1.size : Int)) = ((l.1.length + l.2.1.length : Nat) : Int) from hw]
    refine cond_intro (fun t0 => ?_) (fun t0 => ?_)
    · have t : tot1 (openR (l.1 ++ l.2.1)) = l.1.length + l.2.1.length := by
        have := eq_of_beq (gT t0)
        omega
      conv => whnf
      repeat ((first | refine cond_t t0 ?_ | refine cond_f (hT t0) ?_ | refine cond_t (gT t0) ?_); conv => whnf)
      rw [hrl]
      refine cond_intro (fun u0 => ?_) (fun u0 => ?_)
      · have u : l.2.2 = (openR (l.1 ++ l.2.1)).length := eq_of_beq (gT u0)
        conv => whnf
        repeat ((first | refine cond_t t0 ?_ | refine cond_f (hT t0) ?_ | refine cond_t (gT t0) ?_ | refine cond_t u0 ?_ | refine cond_f (hT u0) ?_ | refine cond_t (gT u0) ?_); conv => whnf)
        refine ⟨_, slices_Contains_ok (endsOf (openR (l.1 ++ l.2.1)) 0) (l.1.length : Int) (by omega), (by first | exact (fun _ => rfl) | exact (fun h => Bool.noConfusion h)), ?_⟩
        conv => whnf
        repeat ((first | refine cond_t t0 ?_ | refine cond_f (hT t0) ?_ | refine cond_t (gT t0) ?_ | refine cond_t u0 ?_ | refine cond_f (hT u0) ?_ | refine cond_t (gT u0) ?_); conv => whnf)
        exact ⟨_, _, rfl, .inl rfl, fin1 (by unfold validL; rw [decide_eq_true g, decide_eq_true t, decide_eq_true u]; exact decide_eq_decide.2 hk)⟩
      · have u : ¬ l.2.2 = (openR (l.1 ++ l.2.1)).length := by
          have := gF u0
          exact ne_of_beq_false this
        conv => whnf
        repeat ((first | refine cond_t t0 ?_ | refine cond_f (hT t0) ?_ | refine cond_t (gT t0) ?_ | refine cond_f u0 ?_ | refine cond_t (hF u0) ?_ | refine cond_f (gF u0) ?_); conv => whnf)
        exact ⟨_, _, rfl, .inl rfl, fin1 (by unfold validL; rw [decide_eq_false u]; simp)⟩
    · have t : ¬ tot1 (openR (l.1 ++ l.2.1)) = l.1.length + l.2.1.length := by
        have := ne_of_beq_false (gF t0)
        omega
      conv => whnf
      repeat ((first | refine cond_f t0 ?_ | refine cond_t (hF t0) ?_ | refine cond_f (gF t0) ?_); conv => whnf)
      exact ⟨_, _, rfl, .inl rfl, fin1 (by unfold validL; rw [decide_eq_false t]; simp)⟩

theorem eq_dec {a b : Nat} {c : Int} (h : a = b) : (((a : Nat) : Int) == c) = decide (c = (b : Int)) := by
  subst h
  by_cases e : c = (a : Int)
  · rw [e]; simp
  · rw [decide_eq_false e, beq_eq_false_iff_ne]; exact fun g => e g.symm

theorem s_l12Valid_ok (l : LogD) (h1 : l.1.length ≤ 1048576) (h2 : l.2.1.length ≤ 1048576) : orc.pc n_s_l12Valid [.d shLog (logD l)] ⟨.bool, .fz, validL l⟩ := by
  have hw : IntKind.i64.wrap (((mk l.1).size : Int) + ((mk l.2.1).size : Int)) = ((l.1.length + l.2.1.length : Nat) : Int) := by
    rw [mk_size, mk_size, wrap_in (by omega) (by omega)]; simp
  refine p_s_l12Valid true rfl rfl ?_
  conv => whnf
  rw [show IntKind.i64.wrap (((logD l).1.size : Int) + ((logD l).2.1.size : Int)) = ((l.1.length + l.2.1.length : Nat) : Int) from hw]
  refine cond_intro (fun g0 => ?_) (fun g0 => ?_)
  · have g : ¬ l.1.length + l.2.1.length ≤ 30000 := by
      have := of_decide_eq_true g0
      omega
    conv => whnf
    exact ⟨_, _, rfl, .inl rfl, fin1 (by unfold validL; rw [decide_eq_false g]; rfl)⟩
  · have g : l.1.length + l.2.1.length ≤ 30000 := by
      have := of_decide_eq_false g0
      omega
    have hrl : (recsD (openR (l.1 ++ l.2.1))).length = (openR (l.1 ++ l.2.1)).length := by simp [recsD]
    conv => whnf
    refine ⟨(sz_le (a := l.1) (b := l.2.1) (by omega)), ?_⟩
    conv => whnf
    rw [show (logD l).1 ++ (logD l).2.1 = mk (l.1 ++ l.2.1) from mk_app _ _]
    refine ⟨_, s_l12Open_ok (l.1 ++ l.2.1) (by rw [List.length_append]; omega), (by first | exact (fun _ => rfl) | exact (fun h => Bool.noConfusion h)), ?_⟩
    conv => whnf
    refine ⟨_, s_l12Open_ok l.1 (by omega), (by first | exact (fun _ => rfl) | exact (fun h => Bool.noConfusion h)), ?_⟩
    conv => whnf
    rw [show IntKind.i64.wrap (((logD l).1.size : Int) + ((logD l).2.1.size : Int)) = ((l.1.length + l.2.1.length : Nat) : Int) from hw]
    refine cond_intro (fun t0 => ?_) (fun t0 => ?_)
    · have t : tot1 (openR (l.1 ++ l.2.1)) = l.1.length + l.2.1.length := by
        have := eq_of_beq (gT t0)
        have this : ((tot1 (openR (l.1 ++ l.2.1)) : Nat) : Int) = ((l.1.length + l.2.1.length : Nat) : Int) := this
        omega
      conv => whnf
      repeat ((first | refine cond_t t0 ?_ | refine cond_f (hT t0) ?_ | refine cond_t (gT t0) ?_); conv => whnf)
      refine cond_intro (fun u0 => ?_) (fun u0 => ?_)
      · have u : tot1 (openR l.1) = l.1.length := by
          have := eq_of_beq (gT u0)
          have this : ((tot1 (openR l.1) : Nat) : Int) = ((l.1.length : Nat) : Int) := this
          omega
        conv => whnf
        repeat ((first | refine cond_t t0 ?_ | refine cond_f (hT t0) ?_ | refine cond_t (gT t0) ?_ | refine cond_t u0 ?_ | refine cond_f (hT u0) ?_ | refine cond_t (gT u0) ?_); conv => whnf)
        exact ⟨_, _, rfl, .inl rfl, fin1 (by unfold validL; rw [decide_eq_true g, decide_eq_true t, decide_eq_true u, Bool.and_true]; exact eq_dec hrl)⟩
      · have u : ¬ tot1 (openR l.1) = l.1.length := by
          have := ne_of_beq_false (gF u0)
          intro e; apply this
          show ((tot1 (openR l.1) : Nat) : Int) = ((l.1.length : Nat) : Int)
          omega
        conv => whnf
        repeat ((first | refine cond_t t0 ?_ | refine cond_f (hT t0) ?_ | refine cond_t (gT t0) ?_ | refine cond_f u0 ?_ | refine cond_t (hF u0) ?_ | refine cond_f (gF u0) ?_); conv => whnf)
        exact ⟨_, _, rfl, .inl rfl, fin1 (by unfold validL; rw [decide_eq_false u]; simp)⟩
    · have t : ¬ tot1 (openR (l.1 ++ l.2.1)) = l.1.length + l.2.1.length := by
        have := ne_of_beq_false (gF t0)
        intro e; apply this
        show ((tot1 (openR (l.1 ++ l.2.1)) : Nat) : Int) = ((l.1.length + l.2.1.length : Nat) : Int)
        omega
      conv => whnf
      repeat ((first | refine cond_f t0 ?_ | refine cond_t (hF t0) ?_ | refine cond_f (gF t0) ?_); conv => whnf)
      exact ⟨_, _, rfl, .inl rfl, fin1 (by unfold validL; rw [decide_eq_false t]; simp)⟩

end Go.Proofs.YthgjpoeneihmnaaDoor.Ev
