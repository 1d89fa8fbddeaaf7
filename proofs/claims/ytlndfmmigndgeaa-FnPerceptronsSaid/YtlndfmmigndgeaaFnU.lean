/- Runs of a sample. -/
import Derived.Test.YtlndfmmigndgeaaFnJ
namespace Go.Proofs.Ytlndfmmigndgeaa.Ev
open Go
set_option linter.unusedVariables false
set_option linter.unusedSimpArgs false
set_option maxRecDepth 100000
set_option exponentiation.threshold 100000
set_option maxHeartbeats 2000000

abbrev shRun : Sh := .pair (.sl shPlane) (.pair tIS (.pair tIS .unit))
abbrev Run := List Plane × List Int × List Int × Unit
abbrev shRunB : Sh := .pair shRun (.pair .bool .unit)
def oRunB : Ow := .pr (.pr (.ow .fz) (.pr (.ow .fz) (.pr (.ow .fz) .fz))) .fz

def lastP (ps : List Plane) : Plane := ps.getD (ps.length - 1) shPlane.dflt
abbrev RS := List Plane × List Int × Nat
def oneS (s : Sample) (n : Nat) (st : RS) : Option RS :=
  if isPlane (nextP (lastP st.1) (s.1.getD n tIS.dflt) (s.2.1.getD n 0)) then
    some (if side (lastP st.1) (s.1.getD n tIS.dflt) = s.2.1.getD n 0 then st else (st.1 ++ [stepTo (lastP st.1) (s.1.getD n tIS.dflt) (s.2.1.getD n 0)], st.2.1 ++ [(n : Int)], st.2.2 + 1))
  else none
def ptsR (s : Sample) : Nat → Nat → RS → Option RS
  | 0, _, st => some st
  | k + 1, n, st => match oneS s n st with
    | some st' => ptsR s k (n + 1) st'
    | none => none
abbrev RT := List Plane × List Int × List Int
def rdsR (s : Sample) : Nat → RT → Option RT
  | 0, st => some st
  | k + 1, st => match ptsR s s.1.length 0 (st.1, st.2.1, 0) with
    | none => none
    | some st' => if st'.2.2 = 0 then some (st'.1, st'.2.1, st.2.2 ++ [(st'.2.2 : Int)]) else rdsR s k (st'.1, st'.2.1, st.2.2 ++ [(st'.2.2 : Int)])
def okRun (s : Sample) (r : Int) : Bool := isSample s && (!(s.1.length == 0) && inB r 1 12)
def plane0 (s : Sample) : Plane := (List.replicate (s.1.getD 0 tIS.dflt).length 0, 0, ())
def runO (s : Sample) (r : Int) : Option RT := if okRun s r then rdsR s r.toNat ([plane0 s], [], []) else none
def runR (s : Sample) (r : Int) : Run × Bool × Unit := match runO s r with
  | some st => ((st.1, st.2.1, st.2.2, ()), true, ())
  | none => (([], [], [], ()), false, ())
theorem runR_no {s : Sample} {r : Int} (h : runO s r = none) : runR s r = (([], [], [], ()), false, ()) := by unfold runR; rw [h]
theorem runR_yes {s : Sample} {r : Int} {st : RT} (h : runO s r = some st) : runR s r = ((st.1, st.2.1, st.2.2, ()), true, ()) := by unfold runR; rw [h]

theorem oneS_bad {s : Sample} {n : Nat} {st : RS} (h : isPlane (nextP (lastP st.1) (s.1.getD n tIS.dflt) (s.2.1.getD n 0)) = false) : oneS s n st = none := by unfold oneS; rw [h]; rfl
theorem oneS_same {s : Sample} {n : Nat} {st : RS} (h : isPlane (lastP st.1) = true) (hs : side (lastP st.1) (s.1.getD n tIS.dflt) = s.2.1.getD n 0) : oneS s n st = some st := by
  unfold oneS nextP; simp only [if_pos hs]; rw [h]; rfl
theorem oneS_step {s : Sample} {n : Nat} {st : RS} (hs : side (lastP st.1) (s.1.getD n tIS.dflt) ≠ s.2.1.getD n 0) (h : isPlane (stepTo (lastP st.1) (s.1.getD n tIS.dflt) (s.2.1.getD n 0)) = true) :
    oneS s n st = some (st.1 ++ [stepTo (lastP st.1) (s.1.getD n tIS.dflt) (s.2.1.getD n 0)], st.2.1 ++ [(n : Int)], st.2.2 + 1) := by
  unfold oneS nextP; simp only [if_neg hs]; rw [h]; rfl
theorem ptsR_none {s : Sample} {k n : Nat} {st : RS} (h : oneS s n st = none) : ptsR s (k + 1) n st = none := by simp only [ptsR, h]
theorem ptsR_some {s : Sample} {k n : Nat} {st st' : RS} (h : oneS s n st = some st') : ptsR s (k + 1) n st = ptsR s k (n + 1) st' := by simp only [ptsR, h]
theorem rdsR_none {s : Sample} {k : Nat} {st : RT} (h : ptsR s s.1.length 0 (st.1, st.2.1, 0) = none) : rdsR s (k + 1) st = none := by simp only [rdsR, h]
theorem rdsR_end {s : Sample} {k : Nat} {st : RT} {st' : RS} (h : ptsR s s.1.length 0 (st.1, st.2.1, 0) = some st') (h0 : st'.2.2 = 0) : rdsR s (k + 1) st = some (st'.1, st'.2.1, st.2.2 ++ [(st'.2.2 : Int)]) := by simp only [rdsR, h, if_pos h0]
theorem rdsR_more {s : Sample} {k : Nat} {st : RT} {st' : RS} (h : ptsR s s.1.length 0 (st.1, st.2.1, 0) = some st') (h0 : st'.2.2 ≠ 0) : rdsR s (k + 1) st = rdsR s k (st'.1, st'.2.1, st.2.2 ++ [(st'.2.2 : Int)]) := by simp only [rdsR, h, if_neg h0]

/-- What holds of a run's planes and trace. -/
structure Good (s : Sample) (b : Nat) (ps : List Plane) (tr : List Int) : Prop where
  ne : 0 < ps.length
  w : ∀ p ∈ ps, p.1.length = (s.1.getD 0 tIS.dflt).length
  n : ps.length ≤ b + 1
  t : tr.length ≤ b
  i : ∀ x ∈ tr, 0 ≤ x ∧ x < s.1.length

theorem Good.last {s : Sample} {b : Nat} {ps : List Plane} {tr : List Int} (g : Good s b ps tr) : (lastP ps).1.length = (s.1.getD 0 tIS.dflt).length := by
  have h := g.ne
  exact g.w _ (getD_mem (by omega) _)
theorem lastP_snoc (ps : List Plane) (p : Plane) : lastP (ps ++ [p]) = p := by
  unfold lastP
  simp [List.getD_eq_getElem?_getD]
theorem Good.le {s : Sample} {b c : Nat} {ps : List Plane} {tr : List Int} (g : Good s b ps tr) (h : b ≤ c) : Good s c ps tr :=
  ⟨g.ne, g.w, by have := g.n; omega, by have := g.t; omega, g.i⟩
theorem Good.step {s : Sample} {b : Nat} {ps : List Plane} {tr : List Int} (g : Good s b ps tr) {n : Nat} (hn : n < s.1.length) (x : List Int) (l : Int) : Good s (b + 1) (ps ++ [stepTo (lastP ps) x l]) (tr ++ [(n : Int)]) := by
  have h1 := g.n
  have h2 := g.t
  refine ⟨by simp, ?_, by simp; omega, by simp; omega, ?_⟩
  · intro p hp
    rcases List.mem_append.1 hp with hp | hp
    · exact g.w p hp
    · have : p = stepTo (lastP ps) x l := by simpa using hp
      subst this
      show (addW _ _ _).length = _
      rw [addW_length]; exact g.last
  · intro t ht
    rcases List.mem_append.1 ht with ht | ht
    · exact g.i t ht
    · have : t = (n : Int) := by simpa using ht
      subst this
      omega

/-- Samples with points: what is known of them. -/
structure RunS (s : Sample) : Prop where
  few : s.1.length ≤ 16
  pos : 0 < s.1.length
  lab : s.2.1.length = s.1.length
  w : ∀ n, n < s.1.length → (s.1.getD n tIS.dflt).length = (s.1.getD 0 tIS.dflt).length
  small : (s.1.getD 0 tIS.dflt).length ≤ 4
theorem runS_of {s : Sample} (h : isSample s = true) (h0 : s.1.length ≠ 0) : RunS s := by
  unfold isSample at h
  simp only [Bool.and_eq_true, decide_eq_true_eq] at h
  obtain ⟨⟨h1, h2⟩, h3, _⟩ := h
  have key : ∀ n, n < s.1.length → (s.1.getD n tIS.dflt).length = fstLen s ∧ (s.1.getD n tIS.dflt).length ≤ 4 := by
    intro n hn
    have := List.all_eq_true.1 h3 _ (getD_mem hn tIS.dflt)
    simp only [okPt, isPoint, inB, Bool.and_eq_true, decide_eq_true_eq, beq_iff_eq] at this
    omega
  have hp : 0 < s.1.length := by omega
  exact ⟨h1, hp, eq_of_beq h2, fun n hn => by rw [(key n hn).1, (key 0 hp).1], (key 0 hp).2⟩

theorem good0 (s : Sample) : Good s 0 [plane0 s] [] := ⟨by simp, by simp [plane0], by simp, by simp, by simp⟩

theorem i_runOf_ok (s : Sample) (r : Int) (hs : FitS s) : orc.pc n_i_runOf [.d shSample s, .d tI r] ⟨shRunB, oRunB, runR s r⟩ := by
  refine p_i_runOf false rfl rfl ?_
  conv => whnf
  refine ⟨_, i_IsSample_ok _ hs, (by first | exact (fun _ => rfl) | exact (fun h => Bool.noConfusion h)), ?_⟩
  conv => whnf
  refine cond_intro (fun q0 => ?_) (fun q0 => ?_)
  · have q : isSample s = true := by simpa using q0
    conv => whnf
    repeat ((first | refine cond_t q0 ?_ | refine cond_f (hT q0) ?_ | refine cond_t (gT q0) ?_); conv => whnf)
    refine cond_intro (fun r0 => ?_) (fun r0 => ?_)
    · have hr : s.1.length ≠ 0 := by simp at r0; intro e; exact r0 (by simpa using e)
      have S := runS_of q hr
      conv => whnf
      repeat ((first | refine cond_t q0 ?_ | refine cond_f (hT q0) ?_ | refine cond_t (gT q0) ?_ | refine cond_t r0 ?_ | refine cond_f (hT r0) ?_ | refine cond_t (gT r0) ?_); conv => whnf)
      refine ⟨_, i_within_ok _ _ _, (by first | exact (fun _ => rfl) | exact (fun h => Bool.noConfusion h)), ?_⟩
      conv => whnf
      repeat ((first | refine cond_t q0 ?_ | refine cond_f (hT q0) ?_ | refine cond_t (gT q0) ?_ | refine cond_t r0 ?_ | refine cond_f (hT r0) ?_ | refine cond_t (gT r0) ?_); conv => whnf)
      refine cond_intro (fun t0 => ?_) (fun t0 => ?_)
      · have t : inB r 1 12 = false := not_true t0
        rw [runR_no (by unfold runO okRun; rw [t]; simp)]
        conv => whnf
        exact ⟨_, _, rfl, .inl rfl, rfl⟩
      have t : inB r 1 12 = true := not_false t0
      obtain ⟨t1, t2⟩ : 1 ≤ r ∧ r ≤ 12 := by simpa [inB] using t
      obtain ⟨R, rfl⟩ : ∃ R : Nat, r = (R : Int) := ⟨r.toNat, by omega⟩
      have hR : R ≤ 12 := by omega
      have hrun : runO s R = rdsR s R ([plane0 s], [], []) := by
        unfold runO okRun
        rw [q, t]
        simp [hr]
      have fewp := S.few
      have posp := S.pos
      conv => whnf
      refine ⟨⟨by omega, by omega⟩, ?_⟩
      conv => whnf
      refine ⟨room_make (Int.natCast_nonneg _) (Int.ofNat_le.2 (Nat.le_trans S.small (by decide : (4 : Nat) ≤ 1048577))) (by decide), ?_⟩
      conv => whnf
      refine loop_ups (X := Int × Plane × List Plane × List Int × List Int) (fun (j, p, ps, tr, rs) => [⟨0, 39, false, .d tI j⟩, ⟨0, 6, true, .pair .unit (.d shPlane p)⟩, ⟨0, 7, true, .pair .unit (.pair (.own shPlane .fz ps) (.pair (.own tI .fz tr) (.pair (.own tI .fz rs) .unit)))⟩]) (fun (j, _) => R - j.toNat)
        (fun (j, p, ps, tr, rs) => ∃ n : Nat, j = n ∧ p = lastP ps ∧ n ≤ R ∧ Good s (16 * n) ps tr ∧ rs.length ≤ n ∧ runO s R = rdsR s (R - n) (ps, tr, rs)) (0, plane0 s, [plane0 s], [], []) ?_ ⟨0, rfl, rfl, by omega, good0 s, Nat.le_refl _, hrun⟩ ?_
      · refine st_eq ?_
        conv => whnf
        exact ⟨rfl⟩
      rintro ⟨_, p, ps, tr, rs⟩ ⟨j, rfl, rfl, hj, g, hrs, hi⟩
      conv => whnf
      refine cond_intro (fun v0 => ?_) (fun v0 => ?_)
      · have v : j < R := by simpa using v0
        have ej : R - j = (R - (j + 1)) + 1 := by omega
        rw [ej] at hi
        conv => whnf
        refine loop_ups (X := Int × Int × Plane × List Plane × List Int) (fun (i, m, p, ps, tr) => [⟨0, 44, false, .d tI i⟩, ⟨0, 8, false, .d tI m⟩, ⟨0, 6, true, .pair .unit (.d shPlane p)⟩, ⟨0, 7, true, .pair .unit (.pair (.own shPlane .fz ps) (.pair (.own tI .fz tr) (.pair (.own tI .fz rs) .unit)))⟩]) (fun (i, _) => s.1.length - i.toNat)
          (fun (i, m, p, ps', tr') => ∃ n k : Nat, i = n ∧ m = k ∧ p = lastP ps' ∧ n ≤ s.1.length ∧ k ≤ n ∧ Good s (16 * j + n) ps' tr' ∧ ptsR s s.1.length 0 (ps, tr, 0) = ptsR s (s.1.length - n) n (ps', tr', k)) (0, 0, lastP ps, ps, tr) ?_ ⟨0, 0, rfl, rfl, rfl, by omega, Nat.le_refl _, g, rfl⟩ ?_
        · refine st_eq ?_
          conv => whnf
          exact ⟨rfl⟩
        rintro ⟨_, _, p, ps', tr'⟩ ⟨n, k, rfl, rfl, rfl, hn, hk, g', hi'⟩
        have gl := g'.last
        have gn := g'.n
        have gt := g'.t
        conv => whnf
        refine cond_intro (fun h => ?_) (fun h => ?_)
        · have h : n < s.1.length := by simpa using h
          have en : s.1.length - n = (s.1.length - (n + 1)) + 1 := by omega
          rw [en] at hi'
          have hx : (s.1.getD n tIS.dflt).length = (lastP ps').1.length := by rw [S.w n h, gl]
          have hpl : (lastP ps').1.length ≤ 1048576 := by rw [gl]; exact Nat.le_trans S.small (by decide)
          conv => whnf
          refine ⟨⟨Int.natCast_nonneg _, Int.ofNat_lt.2 h⟩, ?_⟩
          conv => whnf
          refine ⟨⟨Int.natCast_nonneg _, Int.ofNat_lt.2 (by rw [S.lab]; exact h)⟩, ?_⟩
          conv => whnf
          by_cases hsd : side (lastP ps') (s.1.getD n tIS.dflt) = s.2.1.getD n 0
          · refine ⟨_, i_Plane_step_no (lastP ps') _ _ hpl hx hsd, (by first | exact (fun _ => rfl) | exact (fun h => Bool.noConfusion h)), ?_⟩
            conv => whnf
            refine ⟨_, i_IsPlane_ok (lastP ps') hpl, (by first | exact (fun _ => rfl) | exact (fun h => Bool.noConfusion h)), ?_⟩
            conv => whnf
            refine cond_intro (fun y0 => ?_) (fun y0 => ?_)
            · have y : isPlane (lastP ps') = false := not_true y0
              rw [runR_no (hi.trans (rdsR_none (hi'.trans (ptsR_none (oneS_bad (by unfold nextP; simp only [if_pos hsd]; exact y))))))]
              conv => whnf
              exact ⟨_, _, rfl, .inl rfl, rfl⟩
            · have y : isPlane (lastP ps') = true := not_false y0
              conv => whnf
              refine ⟨(_, _, _, _, _), rfl, ⟨n + 1, k, wrap_succ h (by unfold Short; omega), rfl, rfl, by omega, by omega, g'.le (by omega), hi'.trans (ptsR_some (oneS_same y hsd))⟩, ?_⟩
              rw [wrap_succ h (by unfold Short; omega)]; simp; omega
          · refine ⟨_, i_Plane_step_yes (lastP ps') _ _ hpl hx hsd, (by first | exact (fun _ => rfl) | exact (fun h => Bool.noConfusion h)), ?_⟩
            conv => whnf
            refine ⟨_, i_IsPlane_ok (stepTo (lastP ps') _ _) (show (addW _ _ _).length ≤ 1048576 by rw [addW_length]; exact hpl), (by first | exact (fun _ => rfl) | exact (fun h => Bool.noConfusion h)), ?_⟩
            conv => whnf
            refine cond_intro (fun y0 => ?_) (fun y0 => ?_)
            · have y : isPlane (stepTo (lastP ps') (s.1.getD n tIS.dflt) (s.2.1.getD n 0)) = false := not_true y0
              rw [runR_no (hi.trans (rdsR_none (hi'.trans (ptsR_none (oneS_bad (by unfold nextP; simp only [if_neg hsd]; exact y))))))]
              conv => whnf
              exact ⟨_, _, rfl, .inl rfl, rfl⟩
            · have y : isPlane (stepTo (lastP ps') (s.1.getD n tIS.dflt) (s.2.1.getD n 0)) = true := not_false y0
              conv => whnf
              refine ⟨⟨room_snoc (by omega) (by decide), len_snoc (by omega)⟩, ?_⟩
              conv => whnf
              refine ⟨⟨room_snoc (by omega) (by decide), len_snoc (by omega)⟩, ?_⟩
              conv => whnf
              refine ⟨(_, _, _, _, _), rfl, ⟨n + 1, k + 1, wrap_succ h (by unfold Short; omega), wrap_succ (show k < s.1.length by omega) (by unfold Short; omega), (lastP_snoc _ _).symm, by omega, by omega, (g'.step h _ _).le (by omega), hi'.trans (ptsR_some (oneS_step hsd y))⟩, ?_⟩
              rw [wrap_succ h (by unfold Short; omega)]; simp; omega
        · have h : ¬ n < s.1.length := by simpa using h
          have en : n = s.1.length := by omega
          rw [en, Nat.sub_self] at hi'
          have hi' : ptsR s s.1.length 0 (ps, tr, 0) = some (ps', tr', k) := hi'
          conv => whnf
          refine ⟨⟨room_snoc (by omega) (by decide), len_snoc (by omega)⟩, ?_⟩
          conv => whnf
          refine cond_intro (fun z0 => ?_) (fun z0 => ?_)
          · have z : k = 0 := by simpa using z0
            rw [runR_yes (hi.trans (rdsR_end (st := (ps, tr, rs)) (st' := (ps', tr', k)) hi' z))]
            conv => whnf
            exact ⟨_, _, rfl, .inl rfl, rfl⟩
          · have z : k ≠ 0 := by simpa using z0
            conv => whnf
            refine ⟨(_, _, _, _, _), rfl, ⟨j + 1, wrap_succ v (by unfold Short; omega), rfl, by omega, g'.le (by omega), (by show (rs ++ [(k : Int)]).length ≤ j + 1; simp; omega), (show runO s R = rdsR s (R - (j + 1)) (ps', tr', rs ++ [(k : Int)]) from hi.trans (rdsR_more (k := R - (j + 1)) (st := (ps, tr, rs)) (st' := (ps', tr', k)) hi' z))⟩, ?_⟩
            rw [wrap_succ v (by unfold Short; omega)]; simp; omega
      · have v : ¬ j < R := by simpa using v0
        have ej : R - j = 0 := by omega
        rw [ej] at hi
        rw [runR_yes (hi.trans rfl)]
        conv => whnf
        exact ⟨_, _, rfl, .inl rfl, rfl⟩
    · have hr : s.1.length = 0 := by simp at r0; simp [r0]
      rw [runR_no (by unfold runO okRun; rw [hr]; simp)]
      conv => whnf
      repeat ((first | refine cond_t q0 ?_ | refine cond_f (hT q0) ?_ | refine cond_t (gT q0) ?_ | refine cond_f r0 ?_ | refine cond_t (hF r0) ?_ | refine cond_f (gF r0) ?_); conv => whnf)
      exact ⟨_, _, rfl, .inl rfl, rfl⟩
  · have q : isSample s = false := by simpa using q0
    rw [runR_no (by unfold runO okRun; rw [q]; rfl)]
    conv => whnf
    repeat ((first | refine cond_f q0 ?_ | refine cond_t (hF q0) ?_ | refine cond_f (gF q0) ?_); conv => whnf)
    exact ⟨_, _, rfl, .inl rfl, rfl⟩

theorem s_l3Made_ok (s : Sample) (r : Int) (hs : FitS s) : orc.pc n_s_l3Made [.d shSample s, .d tI r] ⟨shRunB, oRunB, runR s r⟩ := by
  refine p_s_l3Made false rfl rfl ?_
  conv => whnf
  refine ⟨_, s_l2Sample_ok _ hs, (by first | exact (fun _ => rfl) | exact (fun h => Bool.noConfusion h)), ?_⟩
  conv => whnf
  refine cond_intro (fun q0 => ?_) (fun q0 => ?_)
  · have q : isSample s = true := by simpa using q0
    conv => whnf
    repeat ((first | refine cond_t q0 ?_ | refine cond_f (hT q0) ?_ | refine cond_t (gT q0) ?_); conv => whnf)
    refine cond_intro (fun r0 => ?_) (fun r0 => ?_)
    · have hr : s.1.length ≠ 0 := by simp at r0; intro e; exact r0 (by simpa using e)
      have S := runS_of q hr
      conv => whnf
      repeat ((first | refine cond_t q0 ?_ | refine cond_f (hT q0) ?_ | refine cond_t (gT q0) ?_ | refine cond_t r0 ?_ | refine cond_f (hT r0) ?_ | refine cond_t (gT r0) ?_); conv => whnf)
      refine ⟨_, s_l1In_ok _ _ _, (by first | exact (fun _ => rfl) | exact (fun h => Bool.noConfusion h)), ?_⟩
      conv => whnf
      repeat ((first | refine cond_t q0 ?_ | refine cond_f (hT q0) ?_ | refine cond_t (gT q0) ?_ | refine cond_t r0 ?_ | refine cond_f (hT r0) ?_ | refine cond_t (gT r0) ?_); conv => whnf)
      refine cond_intro (fun t0 => ?_) (fun t0 => ?_)
      · have t : inB r 1 12 = false := not_true t0
        rw [runR_no (by unfold runO okRun; rw [t]; simp)]
        conv => whnf
        exact ⟨_, _, rfl, .inl rfl, rfl⟩
      have t : inB r 1 12 = true := not_false t0
      obtain ⟨t1, t2⟩ : 1 ≤ r ∧ r ≤ 12 := by simpa [inB] using t
      obtain ⟨R, rfl⟩ : ∃ R : Nat, r = (R : Int) := ⟨r.toNat, by omega⟩
      have hR : R ≤ 12 := by omega
      have hrun : runO s R = rdsR s R ([plane0 s], [], []) := by
        unfold runO okRun
        rw [q, t]
        simp [hr]
      have fewp := S.few
      have posp := S.pos
      conv => whnf
      refine ⟨⟨by omega, by omega⟩, ?_⟩
      conv => whnf
      refine ⟨room_make (Int.natCast_nonneg _) (Int.ofNat_le.2 (Nat.le_trans S.small (by decide : (4 : Nat) ≤ 1048577))) (by decide), ?_⟩
      conv => whnf
      refine loop_ups (X := Int × List Plane × List Int × List Int) (fun (j, ps, tr, rs) => [⟨0, 7, false, .d tI j⟩, ⟨0, 6, true, .pair .unit (.pair (.own shPlane .fz ps) (.pair (.own tI .fz tr) (.pair (.own tI .fz rs) .unit)))⟩]) (fun (j, _) => R - j.toNat)
        (fun (j, ps, tr, rs) => ∃ n : Nat, j = n ∧ n ≤ R ∧ Good s (16 * n) ps tr ∧ rs.length ≤ n ∧ runO s R = rdsR s (R - n) (ps, tr, rs)) (0, [plane0 s], [], []) ?_ ⟨0, rfl, by omega, good0 s, Nat.le_refl _, hrun⟩ ?_
      · refine st_eq ?_
        conv => whnf
        exact ⟨rfl⟩
      rintro ⟨_, ps, tr, rs⟩ ⟨j, rfl, hj, g, hrs, hi⟩
      conv => whnf
      refine cond_intro (fun v0 => ?_) (fun v0 => ?_)
      · have v : j < R := by simpa using v0
        have ej : R - j = (R - (j + 1)) + 1 := by omega
        rw [ej] at hi
        conv => whnf
        refine loop_ups (X := Int × Int × List Plane × List Int) (fun (i, m, ps, tr) => [⟨0, 9, false, .d tI i⟩, ⟨0, 8, false, .d tI m⟩, ⟨0, 6, true, .pair .unit (.pair (.own shPlane .fz ps) (.pair (.own tI .fz tr) (.pair (.own tI .fz rs) .unit)))⟩]) (fun (i, _) => s.1.length - i.toNat)
          (fun (i, m, ps', tr') => ∃ n k : Nat, i = n ∧ m = k ∧ n ≤ s.1.length ∧ k ≤ n ∧ Good s (16 * j + n) ps' tr' ∧ ptsR s s.1.length 0 (ps, tr, 0) = ptsR s (s.1.length - n) n (ps', tr', k)) (0, 0, ps, tr) ?_ ⟨0, 0, rfl, rfl, by omega, Nat.le_refl _, g, rfl⟩ ?_
        · refine st_eq ?_
          conv => whnf
          exact ⟨rfl⟩
        rintro ⟨_, _, ps', tr'⟩ ⟨n, k, rfl, rfl, hn, hk, g', hi'⟩
        have gl := g'.last
        have gn := g'.n
        have gt := g'.t
        have gp := g'.ne
        conv => whnf
        refine cond_intro (fun h => ?_) (fun h => ?_)
        · have h : n < s.1.length := by simpa using h
          have en : s.1.length - n = (s.1.length - (n + 1)) + 1 := by omega
          rw [en] at hi'
          have hx : (s.1.getD n tIS.dflt).length = (lastP ps').1.length := by rw [S.w n h, gl]
          have hpl : (lastP ps').1.length ≤ 1048576 := by rw [gl]; exact Nat.le_trans S.small (by decide)
          have hw : IntKind.i64.wrap ((ps'.length : Int) - 1) = ((ps'.length - 1 : Nat) : Int) := by rw [wrap_in (by omega) (by omega)]; omega
          conv => whnf
          rw [hw]
          refine ⟨⟨Int.natCast_nonneg _, Int.ofNat_lt.2 (by omega)⟩, ?_⟩
          conv => whnf
          refine ⟨(show ps'.length - 1 < ps'.length by omega), ?_⟩
          conv => whnf
          refine ⟨⟨Int.natCast_nonneg _, Int.ofNat_lt.2 h⟩, ?_⟩
          conv => whnf
          refine ⟨⟨Int.natCast_nonneg _, Int.ofNat_lt.2 (by rw [S.lab]; exact h)⟩, ?_⟩
          conv => whnf
          by_cases hsd : side (lastP ps') (s.1.getD n tIS.dflt) = s.2.1.getD n 0
          · refine ⟨_, s_l3Step_no (lastP ps') _ _ hpl hx hsd, (by first | exact (fun _ => rfl) | exact (fun h => Bool.noConfusion h)), ?_⟩
            conv => whnf
            refine ⟨_, s_l2Plane_ok (lastP ps') hpl, (by first | exact (fun _ => rfl) | exact (fun h => Bool.noConfusion h)), ?_⟩
            conv => whnf
            refine cond_intro (fun y0 => ?_) (fun y0 => ?_)
            · have y : isPlane (lastP ps') = false := not_true y0
              rw [runR_no (hi.trans (rdsR_none (hi'.trans (ptsR_none (oneS_bad (by unfold nextP; simp only [if_pos hsd]; exact y))))))]
              conv => whnf
              exact ⟨_, _, rfl, .inl rfl, rfl⟩
            · have y : isPlane (lastP ps') = true := not_false y0
              conv => whnf
              refine ⟨(_, _, _, _), rfl, ⟨n + 1, k, wrap_succ h (by unfold Short; omega), rfl, by omega, by omega, g'.le (by omega), hi'.trans (ptsR_some (oneS_same y hsd))⟩, ?_⟩
              rw [wrap_succ h (by unfold Short; omega)]; simp; omega
          · refine ⟨_, s_l3Step_yes (lastP ps') _ _ hpl hx hsd, (by first | exact (fun _ => rfl) | exact (fun h => Bool.noConfusion h)), ?_⟩
            conv => whnf
            refine ⟨_, s_l2Plane_ok (stepTo (lastP ps') _ _) (show (addW _ _ _).length ≤ 1048576 by rw [addW_length]; exact hpl), (by first | exact (fun _ => rfl) | exact (fun h => Bool.noConfusion h)), ?_⟩
            conv => whnf
            refine cond_intro (fun y0 => ?_) (fun y0 => ?_)
            · have y : isPlane (stepTo (lastP ps') (s.1.getD n tIS.dflt) (s.2.1.getD n 0)) = false := not_true y0
              rw [runR_no (hi.trans (rdsR_none (hi'.trans (ptsR_none (oneS_bad (by unfold nextP; simp only [if_neg hsd]; exact y))))))]
              conv => whnf
              exact ⟨_, _, rfl, .inl rfl, rfl⟩
            · have y : isPlane (stepTo (lastP ps') (s.1.getD n tIS.dflt) (s.2.1.getD n 0)) = true := not_false y0
              conv => whnf
              refine ⟨⟨room_snoc (by omega) (by decide), len_snoc (by omega)⟩, ?_⟩
              conv => whnf
              refine ⟨⟨room_snoc (by omega) (by decide), len_snoc (by omega)⟩, ?_⟩
              conv => whnf
              refine ⟨(_, _, _, _), rfl, ⟨n + 1, k + 1, wrap_succ h (by unfold Short; omega), wrap_succ (show k < s.1.length by omega) (by unfold Short; omega), by omega, by omega, (g'.step h _ _).le (by omega), hi'.trans (ptsR_some (oneS_step hsd y))⟩, ?_⟩
              rw [wrap_succ h (by unfold Short; omega)]; simp; omega
        · have h : ¬ n < s.1.length := by simpa using h
          have en : n = s.1.length := by omega
          rw [en, Nat.sub_self] at hi'
          have hi' : ptsR s s.1.length 0 (ps, tr, 0) = some (ps', tr', k) := hi'
          conv => whnf
          refine ⟨⟨room_snoc (by omega) (by decide), len_snoc (by omega)⟩, ?_⟩
          conv => whnf
          refine cond_intro (fun z0 => ?_) (fun z0 => ?_)
          · have z : k = 0 := by simpa using z0
            rw [runR_yes (hi.trans (rdsR_end (st := (ps, tr, rs)) (st' := (ps', tr', k)) hi' z))]
            conv => whnf
            exact ⟨_, _, rfl, .inl rfl, rfl⟩
          · have z : k ≠ 0 := by simpa using z0
            conv => whnf
            refine ⟨(_, _, _, _), rfl, ⟨j + 1, wrap_succ v (by unfold Short; omega), by omega, g'.le (by omega), (by show (rs ++ [(k : Int)]).length ≤ j + 1; simp; omega), (show runO s R = rdsR s (R - (j + 1)) (ps', tr', rs ++ [(k : Int)]) from hi.trans (rdsR_more (k := R - (j + 1)) (st := (ps, tr, rs)) (st' := (ps', tr', k)) hi' z))⟩, ?_⟩
            rw [wrap_succ v (by unfold Short; omega)]; simp; omega
      · have v : ¬ j < R := by simpa using v0
        have ej : R - j = 0 := by omega
        rw [ej] at hi
        rw [runR_yes (hi.trans rfl)]
        conv => whnf
        exact ⟨_, _, rfl, .inl rfl, rfl⟩
    · have hr : s.1.length = 0 := by simp at r0; simp [r0]
      rw [runR_no (by unfold runO okRun; rw [hr]; simp)]
      conv => whnf
      repeat ((first | refine cond_t q0 ?_ | refine cond_f (hT q0) ?_ | refine cond_t (gT q0) ?_ | refine cond_f r0 ?_ | refine cond_t (hF r0) ?_ | refine cond_f (gF r0) ?_); conv => whnf)
      exact ⟨_, _, rfl, .inl rfl, rfl⟩
  · have q : isSample s = false := by simpa using q0
    rw [runR_no (by unfold runO okRun; rw [q]; rfl)]
    conv => whnf
    repeat ((first | refine cond_f q0 ?_ | refine cond_t (hF q0) ?_ | refine cond_f (gF q0) ?_); conv => whnf)
    exact ⟨_, _, rfl, .inl rfl, rfl⟩

end Go.Proofs.Ytlndfmmigndgeaa.Ev
