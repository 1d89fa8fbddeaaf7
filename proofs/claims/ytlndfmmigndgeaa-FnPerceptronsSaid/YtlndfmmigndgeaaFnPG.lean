/- Runs of a sample, step by step. Plain facts. -/
import Derived.Test.YtlndfmmigndgeaaFnPF
namespace Go.Proofs.Ytlndfmmigndgeaa.Ev
open Go
set_option linter.unusedVariables false
set_option linter.unusedSimpArgs false
set_option maxRecDepth 100000
set_option exponentiation.threshold 100000

/-- What holds of a run's planes and its trace. -/
structure RunI (s : Sample) (ps : List Plane) (tr : List Int) : Prop where
  t : TrP s tr (lastP ps)
  ne : 0 < ps.length
  ok : ∀ p ∈ ps, isPlane p = true ∧ p.1.length = (s.1.getD 0 tIS.dflt).length
  ix : ∀ t ∈ tr, 0 ≤ t ∧ t < s.1.length
  len : ps.length = tr.length + 1

theorem runI0 {s : Sample} (S : Smp s) : RunI s [plane0 s] [] :=
  ⟨trP0 S, by simp, fun p hp => by rw [List.mem_singleton.1 hp]; exact ⟨(trP0 S).ok, (trP0 S).len⟩, fun t ht => by simp at ht, rfl⟩

theorem oneS_I {s : Sample} (S : Smp s) {n : Nat} (hn : n < s.1.length) {st st' : RS} (I : RunI s st.1 st.2.1) (h : oneS s n st = some st') :
    RunI s st'.1 st'.2.1 ∧ lastP st'.1 = nextP (lastP st.1) (s.1.getD n tIS.dflt) (lab s n) ∧
    ((side (lastP st.1) (s.1.getD n tIS.dflt) = lab s n ∧ st' = st) ∨ (side (lastP st.1) (s.1.getD n tIS.dflt) ≠ lab s n ∧ st'.2.1 = st.2.1 ++ [(n : Int)] ∧ st'.2.2 = st.2.2 + 1)) := by
  unfold oneS at h
  by_cases hp : isPlane (nextP (lastP st.1) (s.1.getD n tIS.dflt) (s.2.1.getD n 0)) = true
  · rw [if_pos hp] at h
    by_cases hs : side (lastP st.1) (s.1.getD n tIS.dflt) = s.2.1.getD n 0
    · rw [if_pos hs] at h
      simp only [Option.some.injEq] at h
      subst h
      exact ⟨I, by unfold nextP lab; rw [if_pos hs], .inl ⟨hs, rfl⟩⟩
    · rw [if_neg hs] at h
      simp only [Option.some.injEq] at h
      subst h
      have e : nextP (lastP st.1) (s.1.getD n tIS.dflt) (s.2.1.getD n 0) = stepTo (lastP st.1) (s.1.getD n tIS.dflt) (lab s n) := by unfold nextP lab; rw [if_neg hs]
      have e2 : nextP (lastP st.1) (s.1.getD n tIS.dflt) (lab s n) = stepTo (lastP st.1) (s.1.getD n tIS.dflt) (lab s n) := e
      rw [e] at hp
      have T := trP_step S I.t hn hp
      have hlast : lastP (st.1 ++ [stepTo (lastP st.1) (s.1.getD n tIS.dflt) (s.2.1.getD n 0)]) = stepTo (lastP st.1) (s.1.getD n tIS.dflt) (lab s n) := lastP_snoc _ _
      refine ⟨⟨?_, by simp, fun p hp' => ?_, fun t ht => ?_, ?_⟩, ?_, .inr ⟨hs, rfl, rfl⟩⟩
      · show TrP s _ (lastP (st.1 ++ [stepTo (lastP st.1) (s.1.getD n tIS.dflt) (s.2.1.getD n 0)]))
        rw [hlast]; exact T
      · rcases List.mem_append.1 hp' with hm | hm
        · exact I.ok p hm
        · rw [List.mem_singleton.1 hm]; exact ⟨hp, T.len⟩
      · rcases List.mem_append.1 ht with hm | hm
        · exact I.ix t hm
        · rw [List.mem_singleton.1 hm]; omega
      · show (st.1 ++ [_]).length = (st.2.1 ++ [_]).length + 1
        rw [List.length_append, List.length_append, I.len]; rfl
      · rw [e2]; exact hlast
  · rw [if_neg hp] at h; cases h

theorem ptsR_I {s : Sample} (S : Smp s) : ∀ {k n : Nat} {st st' : RS}, n + k = s.1.length → RunI s st.1 st.2.1 → ptsR s k n st = some st' →
    RunI s st'.1 st'.2.1 ∧ (∃ e, st'.2.1 = st.2.1 ++ e) ∧ st'.2.2 + st.2.1.length = st.2.2 + st'.2.1.length ∧
    (st'.2.2 = st.2.2 → st' = st ∧ ∀ i, n ≤ i → i < s.1.length → side (lastP st.1) (s.1.getD i tIS.dflt) = lab s i) := by
  intro k
  induction k with
  | zero =>
    intro n st st' hn I h
    simp only [ptsR, Option.some.injEq] at h
    subst h
    exact ⟨I, ⟨[], by simp⟩, by omega, fun _ => ⟨rfl, fun i h1 h2 => by omega⟩⟩
  | succ k ih =>
    intro n st st' hn I h
    cases h1 : oneS s n st with
    | none => rw [ptsR_none h1] at h; cases h
    | some st1 =>
      rw [ptsR_some h1] at h
      obtain ⟨I1, _, hc⟩ := oneS_I S (show n < s.1.length by omega) I h1
      obtain ⟨I2, ⟨e, he⟩, hk, hz⟩ := ih (show n + 1 + k = s.1.length by omega) I1 h
      rcases hc with ⟨hs, rfl⟩ | ⟨hs, ht, hk1⟩
      · refine ⟨I2, ⟨e, he⟩, hk, fun e0 => ?_⟩
        obtain ⟨z1, z2⟩ := hz e0
        refine ⟨z1, fun i h2 h3 => ?_⟩
        by_cases hi : i = n
        · subst hi; exact hs
        · exact z2 i (by omega) h3
      · have hl : st1.2.1.length = st.2.1.length + 1 := by rw [ht]; simp
        have hmono : st1.2.1.length ≤ st'.2.1.length := by rw [he]; simp
        refine ⟨I2, ⟨[(n : Int)] ++ e, by rw [he, ht]; simp⟩, by omega, fun e0 => ?_⟩
        omega

/-- Behind some rounds. -/
structure RdI (s : Sample) (st : RT) : Prop where
  i : RunI s st.1 st.2.1
  sum : sL (fun t => t) st.2.2 = st.2.1.length
  nn : ∀ t ∈ st.2.2, 0 ≤ t

theorem round_I {s : Sample} (S : Smp s) {st : RT} (I : RdI s st) {st' : RS} (h : ptsR s s.1.length 0 (st.1, st.2.1, 0) = some st') :
    RdI s (st'.1, st'.2.1, st.2.2 ++ [(st'.2.2 : Int)]) ∧ (∃ e, st'.2.1 = st.2.1 ++ e) ∧ (st'.2.2 = 0 → ∀ i, i < s.1.length → side (lastP st'.1) (s.1.getD i tIS.dflt) = lab s i) := by
  obtain ⟨I1, he, hk, hz⟩ := ptsR_I S (st := (st.1, st.2.1, 0)) (by omega) I.i h
  refine ⟨⟨I1, ?_, fun t ht => ?_⟩, he, fun e0 i hi => ?_⟩
  · show sL (fun t => t) (st.2.2 ++ [(st'.2.2 : Int)]) = _
    rw [sL_snoc, I.sum]
    have hk : st'.2.2 + st.2.1.length = 0 + st'.2.1.length := hk
    show (st.2.1.length : Int) + (st'.2.2 : Int) = (st'.2.1.length : Int)
    omega
  · rcases List.mem_append.1 ht with hm | hm
    · exact I.nn t hm
    · rw [List.mem_singleton.1 hm]; omega
  · obtain ⟨z1, z2⟩ := hz e0
    rw [z1]
    exact z2 i (by omega) hi

theorem rdsR_I {s : Sample} (S : Smp s) : ∀ {k : Nat} {st fin : RT}, RdI s st → rdsR s k st = some fin →
    RdI s fin ∧ (∃ e, fin.2.1 = st.2.1 ++ e) ∧ st.2.2.length ≤ fin.2.2.length ∧ fin.2.2.length ≤ st.2.2.length + k ∧ (0 < k → st.2.2.length < fin.2.2.length) ∧
    (st.2.2.length < fin.2.2.length → fin.2.2.getD (fin.2.2.length - 1) 0 = 0 → ∀ i, i < s.1.length → side (lastP fin.1) (s.1.getD i tIS.dflt) = lab s i) := by
  intro k
  induction k with
  | zero =>
    intro st fin I h
    simp only [rdsR, Option.some.injEq] at h
    subst h
    exact ⟨I, ⟨[], by simp⟩, Nat.le_refl _, by omega, fun h => by omega, fun h => by omega⟩
  | succ k ih =>
    intro st fin I h
    cases h1 : ptsR s s.1.length 0 (st.1, st.2.1, 0) with
    | none => rw [rdsR_none h1] at h; cases h
    | some st1 =>
      obtain ⟨I1, ⟨e1, he1⟩, hz⟩ := round_I S I h1
      have hlen : (st.2.2 ++ [(st1.2.2 : Int)]).length = st.2.2.length + 1 := by simp
      have hgl : ∀ (x : Int), (st.2.2 ++ [x]).getD ((st.2.2 ++ [x]).length - 1) 0 = x := fun x => by
        rw [List.getD_eq_getElem?_getD]; simp
      by_cases h0 : st1.2.2 = 0
      · rw [rdsR_end h1 h0] at h
        simp only [Option.some.injEq] at h
        subst h
        exact ⟨I1, ⟨e1, he1⟩, by show _ ≤ (st.2.2 ++ [_]).length; rw [hlen]; omega, by show (st.2.2 ++ [_]).length ≤ _; rw [hlen]; omega, fun _ => by show _ < (st.2.2 ++ [_]).length; rw [hlen]; omega, fun _ _ => hz h0⟩
      · rw [rdsR_more h1 h0] at h
        obtain ⟨I2, ⟨e2, he2⟩, l1, l2, l3, hlast⟩ := ih I1 h
        have l1 : st.2.2.length + 1 ≤ fin.2.2.length := by rw [← hlen]; exact l1
        have l2 : fin.2.2.length ≤ st.2.2.length + 1 + k := by rw [← hlen]; exact l2
        refine ⟨I2, ⟨e1 ++ e2, by rw [he2]; show st1.2.1 ++ e2 = _; rw [he1]; simp⟩, by omega, by omega, fun _ => by omega, fun _ hz0 => ?_⟩
        by_cases hk : k = 0
        · subst hk
          simp only [rdsR, Option.some.injEq] at h
          subst h
          exfalso
          have hz0 : (st.2.2 ++ [(st1.2.2 : Int)]).getD ((st.2.2 ++ [(st1.2.2 : Int)]).length - 1) 0 = 0 := hz0
          rw [hgl] at hz0; omega
        · exact hlast (l3 (by omega)) hz0

structure FinI (s : Sample) (R : Nat) (fin : RT) : Prop where
  i : RdI s fin
  l1 : 1 ≤ fin.2.2.length
  l2 : fin.2.2.length ≤ R
  fits : fin.2.2.getD (fin.2.2.length - 1) 0 = 0 → ∀ i, i < s.1.length → side (lastP fin.1) (s.1.getD i tIS.dflt) = lab s i
theorem rdI0 {s : Sample} (S : Smp s) : RdI s ([plane0 s], [], []) := ⟨runI0 S, rfl, fun t ht => by simp at ht⟩
theorem fin_of {s : Sample} (S : Smp s) {R : Nat} (hR : 0 < R) {fin : RT} (h : rdsR s R ([plane0 s], [], []) = some fin) : FinI s R fin := by
  obtain ⟨h1, h2, h3, h4, h5, h6⟩ := rdsR_I S (rdI0 S) h
  have h5 : 0 < fin.2.2.length := h5 hR
  have h4 : fin.2.2.length ≤ 0 + R := h4
  exact ⟨h1, by omega, by omega, h6 h5⟩

/-- The steps again: behind j rounds. -/
structure Rep (s : Sample) (R : Nat) (fin : RT) (j : Nat) (ps : List Plane) (tr rs : List Int) : Prop where
  i : RdI s (ps, tr, rs)
  len : rs.length = j
  pre : ∃ e, fin.2.1 = tr ++ e
  go : (j < fin.2.2.length ∧ rdsR s (R - j) (ps, tr, rs) = some fin) ∨ (j = fin.2.2.length ∧ ps = fin.1 ∧ tr = fin.2.1)
theorem rep0 {s : Sample} (S : Smp s) {R : Nat} (hR : 0 < R) {fin : RT} (h : rdsR s R ([plane0 s], [], []) = some fin) : Rep s R fin 0 [plane0 s] [] [] :=
  ⟨rdI0 S, rfl, ⟨fin.2.1, rfl⟩, .inl ⟨(fin_of S hR h).l1, h⟩⟩
theorem Rep.step {s : Sample} (S : Smp s) {R : Nat} {fin : RT} {j : Nat} {ps : List Plane} {tr rs : List Int} (hR : fin.2.2.length ≤ R) (I : Rep s R fin j ps tr rs) (hj : j < fin.2.2.length) :
    ∃ st', ptsR s s.1.length 0 (ps, tr, 0) = some st' ∧ (∃ e, fin.2.1 = st'.2.1 ++ e) ∧ Rep s R fin (j + 1) st'.1 st'.2.1 (rs ++ [(st'.2.2 : Int)]) := by
  rcases I.go with ⟨_, h⟩ | ⟨h, _⟩
  · rw [show R - j = (R - (j + 1)) + 1 by omega] at h
    cases h1 : ptsR s s.1.length 0 (ps, tr, 0) with
    | none => rw [rdsR_none (st := (ps, tr, rs)) h1] at h; cases h
    | some st' =>
      obtain ⟨I1, ⟨e1, he1⟩, _⟩ := round_I S I.i h1
      have hlen : (rs ++ [(st'.2.2 : Int)]).length = j + 1 := by rw [List.length_append, I.len]; rfl
      by_cases h0 : st'.2.2 = 0
      · rw [rdsR_end (st := (ps, tr, rs)) h1 h0] at h
        simp only [Option.some.injEq] at h
        subst h
        exact ⟨st', rfl, ⟨[], by simp⟩, I1, hlen, ⟨[], by simp⟩, .inr ⟨hlen.symm, rfl, rfl⟩⟩
      · rw [rdsR_more (st := (ps, tr, rs)) h1 h0] at h
        obtain ⟨_, ⟨e2, he2⟩, l1, l2, l3, _⟩ := rdsR_I S I1 h
        refine ⟨st', rfl, ⟨e2, he2⟩, I1, hlen, ⟨e2, he2⟩, ?_⟩
        have l1 : (rs ++ [(st'.2.2 : Int)]).length ≤ fin.2.2.length := l1
        by_cases hl : j + 1 < fin.2.2.length
        · exact .inl ⟨hl, h⟩
        · have hk : R - (j + 1) = 0 := by
            refine Nat.eq_zero_of_not_pos fun hk => ?_
            have l3 : (rs ++ [(st'.2.2 : Int)]).length < fin.2.2.length := l3 hk
            omega
          rw [hk] at h
          simp only [rdsR, Option.some.injEq] at h
          subst h
          exact .inr ⟨hlen.symm, rfl, rfl⟩
  · omega

/-- Within a round. -/
theorem pts_step {s : Sample} (S : Smp s) {n : Nat} (hn : n < s.1.length) {st st' : RS} {fin : List Int} (I : RunI s st.1 st.2.1) (h : ptsR s (s.1.length - n) n st = some st') (hp : ∃ e, fin = st'.2.1 ++ e) :
    ∃ st1, ptsR s (s.1.length - (n + 1)) (n + 1) st1 = some st' ∧ RunI s st1.1 st1.2.1 ∧ lastP st1.1 = nextP (lastP st.1) (s.1.getD n tIS.dflt) (lab s n) ∧
    ((side (lastP st.1) (s.1.getD n tIS.dflt) = lab s n ∧ st1.2.1.length = st.2.1.length) ∨
     (side (lastP st.1) (s.1.getD n tIS.dflt) ≠ lab s n ∧ st1.2.1.length = st.2.1.length + 1 ∧ st.2.1.length < fin.length ∧ fin.getD st.2.1.length 0 = (n : Int))) := by
  rw [show s.1.length - n = (s.1.length - (n + 1)) + 1 by omega] at h
  cases h1 : oneS s n st with
  | none => rw [ptsR_none h1] at h; cases h
  | some st1 =>
    rw [ptsR_some h1] at h
    obtain ⟨I1, hl, hc⟩ := oneS_I S hn I h1
    obtain ⟨_, ⟨e2, he2⟩, _, _⟩ := ptsR_I S (show n + 1 + (s.1.length - (n + 1)) = s.1.length by omega) I1 h
    refine ⟨st1, h, I1, hl, ?_⟩
    rcases hc with ⟨hs, rfl⟩ | ⟨hs, ht, _⟩
    · exact .inl ⟨hs, rfl⟩
    · obtain ⟨e, rfl⟩ := hp
      refine .inr ⟨hs, by rw [ht]; simp, ?_, ?_⟩
      · rw [he2, ht]; simp
      · rw [he2, ht, List.append_assoc, List.append_assoc, List.getD_eq_getElem?_getD]
        simp
end Go.Proofs.Ytlndfmmigndgeaa.Ev
