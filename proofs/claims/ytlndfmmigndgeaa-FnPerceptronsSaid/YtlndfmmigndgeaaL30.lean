/- The law FnPerceptrons: for every code it returns true. -/
import Derived.Test.YtlndfmmigndgeaaFnPT
namespace Go.Proofs.Ytlndfmmigndgeaa.Ev
open Go
set_option linter.unusedVariables false
set_option linter.unusedSimpArgs false
set_option maxRecDepth 100000
set_option exponentiation.threshold 100000
set_option maxHeartbeats 8000000

theorem sc7 (x : List Int) (y : Int) : (!(decide (x = x) && (y == y))) = false := by simp
theorem sc8 (x : List Int) (y : Int) : ((!(decide (x = x) && (y == y))) == false) = true := by simp
theorem sc9 (x : Bool) : (x != x) = false := by cases x <;> rfl
theorem sc10 (x : Bool) : ((x != x) == false) = true := by cases x <;> rfl

theorem l_FnPerceptrons_ok (code : List Int) (hw : WfD tB code) : orc.pc n_l_FnPerceptrons [.d tB code] truePk := by
  refine p_l_FnPerceptrons true rfl rfl ?_
  conv => whnf
  refine ⟨_, l_vBig_ok code, (by first | exact (fun _ => rfl) | exact (fun h => Bool.noConfusion h)), ?_⟩
  conv => whnf
  refine cond_intro (fun h => ?_) (fun h => ?_)
  · conv => whnf
    exact ⟨_, _, rfl, .inl rfl, rfl⟩
  have h65 : code.length ≤ 65536 := by have := of_decide_eq_false h; omega
  have hc : IsCode code := isCode_of hw (of_decide_eq_false h)
  obtain ⟨s, r, hs, hd⟩ := s_DrawRunPerceptron_ok hc
  obtain ⟨u, l, ⟨hu, hl⟩, hd2⟩ := s_DrawPlaneOfCounts_ok (isCode_cut hc h65)
  have c8 := i_PlaneOfCounts_ok u l hu hl
  have c9 := s_PlaneOfCounts_ok u l hu hl
  have hpl : (pcR u l).1.1.length ≤ 1048576 := by
    unfold pcR
    split
    · rename_i hb
      have hb : isPlane (pcTo u l u.1.length) = true := by simp only [Bool.and_eq_true] at hb; exact hb.2
      show (pcTo u l u.1.length).1.length ≤ 1048576
      simp only [isPlane, inB, Bool.and_eq_true, decide_eq_true_eq] at hb
      omega
    · simp [zeroP]
  have cv := l_vCut_ok code 1 h65 (by omega)
  conv => whnf
  refine ⟨_, hd, (by first | exact (fun _ => rfl) | exact (fun h => Bool.noConfusion h)), ?_⟩
  conv => whnf
  cases q : runO s r with
  | none =>
    have c0 := i_RunPerceptron_no s r hs q
    have c1 := s_RunPerceptron_no s r hs q
    have c2 := i_PerceptronTrace_ok s r hs
    have c3 := s_PerceptronTrace_ok s r hs
    have c4 := i_DualCounts_ok s r hs
    have c5 := s_DualCounts_ok s r hs
    rw [traceR_no q] at c2 c3
    rw [dualR_no q] at c4 c5
    have c6 := i_PocketPlane_no s r hs q
    have c7 := s_PocketPlane_no s r hs q
    refine ⟨_, c0, (by first | exact (fun _ => rfl) | exact (fun h => Bool.noConfusion h)), ?_⟩
    conv => whnf
    refine ⟨_, c1, (by first | exact (fun _ => rfl) | exact (fun h => Bool.noConfusion h)), ?_⟩
    conv => whnf
    refine ⟨_, c2, (by first | exact (fun _ => rfl) | exact (fun h => Bool.noConfusion h)), ?_⟩
    conv => whnf
    refine ⟨_, c3, (by first | exact (fun _ => rfl) | exact (fun h => Bool.noConfusion h)), ?_⟩
    conv => whnf
    refine ⟨_, c4, (by first | exact (fun _ => rfl) | exact (fun h => Bool.noConfusion h)), ?_⟩
    conv => whnf
    refine ⟨_, c5, (by first | exact (fun _ => rfl) | exact (fun h => Bool.noConfusion h)), ?_⟩
    conv => whnf
    refine ⟨_, c6, (by first | exact (fun _ => rfl) | exact (fun h => Bool.noConfusion h)), ?_⟩
    conv => whnf
    refine ⟨_, c7, (by first | exact (fun _ => rfl) | exact (fun h => Bool.noConfusion h)), ?_⟩
    conv => whnf
    refine ⟨_, cv, (by first | exact (fun _ => rfl) | exact (fun h => Bool.noConfusion h)), ?_⟩
    conv => whnf
    refine ⟨_, hd2, (by first | exact (fun _ => rfl) | exact (fun h => Bool.noConfusion h)), ?_⟩
    conv => whnf
    refine ⟨_, c8, (by first | exact (fun _ => rfl) | exact (fun h => Bool.noConfusion h)), ?_⟩
    conv => whnf
    refine ⟨_, c9, (by first | exact (fun _ => rfl) | exact (fun h => Bool.noConfusion h)), ?_⟩
    conv => whnf
    repeat ((first | refine cond_f (sc1 _) ?_ | refine cond_t (sc2 _) ?_ | refine cond_f (sc3 _) ?_ | refine cond_t (sc4 _) ?_ | refine cond_f (sc5 _) ?_ | refine cond_t (sc6 _) ?_ | refine cond_f (sc7 _ _) ?_ | refine cond_t (sc8 _ _) ?_ | refine cond_f (sc9 _) ?_ | refine cond_t (sc10 _) ?_); conv => whnf)
    refine ⟨_, l_vPlane_ok _ _ (by show (0 : Nat) ≤ 1048576; decide), (by first | exact (fun _ => rfl) | exact (fun h => Bool.noConfusion h)), ?_⟩
    conv => whnf
    repeat ((first | refine cond_f (sc1 _) ?_ | refine cond_t (sc2 _) ?_ | refine cond_f (sc3 _) ?_ | refine cond_t (sc4 _) ?_ | refine cond_f (sc5 _) ?_ | refine cond_t (sc6 _) ?_ | refine cond_f (sc7 _ _) ?_ | refine cond_t (sc8 _ _) ?_ | refine cond_f (sc9 _) ?_ | refine cond_t (sc10 _) ?_); conv => whnf)
    refine ⟨_, l_vInts_ok _ _ (by show (0 : Nat) ≤ 1048576; decide), (by first | exact (fun _ => rfl) | exact (fun h => Bool.noConfusion h)), ?_⟩
    conv => whnf
    repeat ((first | refine cond_f (sc1 _) ?_ | refine cond_t (sc2 _) ?_ | refine cond_f (sc3 _) ?_ | refine cond_t (sc4 _) ?_ | refine cond_f (sc5 _) ?_ | refine cond_t (sc6 _) ?_ | refine cond_f (sc7 _ _) ?_ | refine cond_t (sc8 _ _) ?_ | refine cond_f (sc9 _) ?_ | refine cond_t (sc10 _) ?_); conv => whnf)
    refine ⟨_, l_vInts_ok _ _ (by show (0 : Nat) ≤ 1048576; decide), (by first | exact (fun _ => rfl) | exact (fun h => Bool.noConfusion h)), ?_⟩
    conv => whnf
    repeat ((first | refine cond_f (sc1 _) ?_ | refine cond_t (sc2 _) ?_ | refine cond_f (sc3 _) ?_ | refine cond_t (sc4 _) ?_ | refine cond_f (sc5 _) ?_ | refine cond_t (sc6 _) ?_ | refine cond_f (sc7 _ _) ?_ | refine cond_t (sc8 _ _) ?_ | refine cond_f (sc9 _) ?_ | refine cond_t (sc10 _) ?_); conv => whnf)
    refine ⟨_, l_vInts_ok _ _ (by show (0 : Nat) ≤ 1048576; decide), (by first | exact (fun _ => rfl) | exact (fun h => Bool.noConfusion h)), ?_⟩
    conv => whnf
    repeat ((first | refine cond_f (sc1 _) ?_ | refine cond_t (sc2 _) ?_ | refine cond_f (sc3 _) ?_ | refine cond_t (sc4 _) ?_ | refine cond_f (sc5 _) ?_ | refine cond_t (sc6 _) ?_ | refine cond_f (sc7 _ _) ?_ | refine cond_t (sc8 _ _) ?_ | refine cond_f (sc9 _) ?_ | refine cond_t (sc10 _) ?_); conv => whnf)
    refine ⟨_, l_vPlane_ok _ _ (by show (0 : Nat) ≤ 1048576; decide), (by first | exact (fun _ => rfl) | exact (fun h => Bool.noConfusion h)), ?_⟩
    conv => whnf
    repeat ((first | refine cond_f (sc1 _) ?_ | refine cond_t (sc2 _) ?_ | refine cond_f (sc3 _) ?_ | refine cond_t (sc4 _) ?_ | refine cond_f (sc5 _) ?_ | refine cond_t (sc6 _) ?_ | refine cond_f (sc7 _ _) ?_ | refine cond_t (sc8 _ _) ?_ | refine cond_f (sc9 _) ?_ | refine cond_t (sc10 _) ?_); conv => whnf)
    refine ⟨_, l_vPlane_ok _ _ hpl, (by first | exact (fun _ => rfl) | exact (fun h => Bool.noConfusion h)), ?_⟩
    conv => whnf
    repeat ((first | refine cond_f (sc1 _) ?_ | refine cond_t (sc2 _) ?_ | refine cond_f (sc3 _) ?_ | refine cond_t (sc4 _) ?_ | refine cond_f (sc5 _) ?_ | refine cond_t (sc6 _) ?_ | refine cond_f (sc7 _ _) ?_ | refine cond_t (sc8 _ _) ?_ | refine cond_f (sc9 _) ?_ | refine cond_t (sc10 _) ?_); conv => whnf)
    exact ⟨_, _, rfl, .inl rfl, rfl⟩
  | some st =>
    have F := rf_of q
    have ht := F.t
    have hsm := F.S.run.small
    have few := F.S.run.few
    have hp1 : (lastP st.1).1.length ≤ 1048576 := by rw [F.f.i.i.t.len]; omega
    have hpk : (st.1.getD (pk st.1 s st.1.length) shPlane.dflt).1.length ≤ 1048576 := (F.fits (pk_lt F.f.i.i.ne _ (Nat.le_refl _))).w
    have hm1 : st.2.2.length ≤ 1048576 := by have := F.f.l2; have := F.R2; omega
    have ht1 : st.2.1.length ≤ 1048576 := by omega
    have hcl : (cnt s.1.length st.2.1 st.2.1.length).length ≤ 1048576 := by rw [F.cnt.len]; omega
    have c0 := i_RunPerceptron_yes s r hs q
    have c1 := s_RunPerceptron_yes s r hs q
    have c2 := i_PerceptronTrace_ok s r hs
    have c3 := s_PerceptronTrace_ok s r hs
    have c4 := i_DualCounts_ok s r hs
    have c5 := s_DualCounts_ok s r hs
    rw [traceR_yes q] at c2 c3
    rw [dualR_yes q] at c4 c5
    have c6 := i_PocketPlane_yes s r hs q (fun n hn => F.fits hn)
    have c7 := s_PocketPlane_yes s r hs q (fun n hn => F.fits hn)
    refine ⟨_, c0, (by first | exact (fun _ => rfl) | exact (fun h => Bool.noConfusion h)), ?_⟩
    conv => whnf
    refine ⟨_, c1, (by first | exact (fun _ => rfl) | exact (fun h => Bool.noConfusion h)), ?_⟩
    conv => whnf
    refine ⟨_, c2, (by first | exact (fun _ => rfl) | exact (fun h => Bool.noConfusion h)), ?_⟩
    conv => whnf
    refine ⟨_, c3, (by first | exact (fun _ => rfl) | exact (fun h => Bool.noConfusion h)), ?_⟩
    conv => whnf
    refine ⟨_, c4, (by first | exact (fun _ => rfl) | exact (fun h => Bool.noConfusion h)), ?_⟩
    conv => whnf
    refine ⟨_, c5, (by first | exact (fun _ => rfl) | exact (fun h => Bool.noConfusion h)), ?_⟩
    conv => whnf
    refine ⟨_, c6, (by first | exact (fun _ => rfl) | exact (fun h => Bool.noConfusion h)), ?_⟩
    conv => whnf
    refine ⟨_, c7, (by first | exact (fun _ => rfl) | exact (fun h => Bool.noConfusion h)), ?_⟩
    conv => whnf
    refine ⟨_, cv, (by first | exact (fun _ => rfl) | exact (fun h => Bool.noConfusion h)), ?_⟩
    conv => whnf
    refine ⟨_, hd2, (by first | exact (fun _ => rfl) | exact (fun h => Bool.noConfusion h)), ?_⟩
    conv => whnf
    refine ⟨_, c8, (by first | exact (fun _ => rfl) | exact (fun h => Bool.noConfusion h)), ?_⟩
    conv => whnf
    refine ⟨_, c9, (by first | exact (fun _ => rfl) | exact (fun h => Bool.noConfusion h)), ?_⟩
    conv => whnf
    repeat ((first | refine cond_f (sc1 _) ?_ | refine cond_t (sc2 _) ?_ | refine cond_f (sc3 _) ?_ | refine cond_t (sc4 _) ?_ | refine cond_f (sc5 _) ?_ | refine cond_t (sc6 _) ?_ | refine cond_f (sc7 _ _) ?_ | refine cond_t (sc8 _ _) ?_ | refine cond_f (sc9 _) ?_ | refine cond_t (sc10 _) ?_); conv => whnf)
    refine ⟨_, l_vPlane_ok _ _ hp1, (by first | exact (fun _ => rfl) | exact (fun h => Bool.noConfusion h)), ?_⟩
    conv => whnf
    repeat ((first | refine cond_f (sc1 _) ?_ | refine cond_t (sc2 _) ?_ | refine cond_f (sc3 _) ?_ | refine cond_t (sc4 _) ?_ | refine cond_f (sc5 _) ?_ | refine cond_t (sc6 _) ?_ | refine cond_f (sc7 _ _) ?_ | refine cond_t (sc8 _ _) ?_ | refine cond_f (sc9 _) ?_ | refine cond_t (sc10 _) ?_); conv => whnf)
    refine ⟨_, l_vInts_ok _ _ hm1, (by first | exact (fun _ => rfl) | exact (fun h => Bool.noConfusion h)), ?_⟩
    conv => whnf
    repeat ((first | refine cond_f (sc1 _) ?_ | refine cond_t (sc2 _) ?_ | refine cond_f (sc3 _) ?_ | refine cond_t (sc4 _) ?_ | refine cond_f (sc5 _) ?_ | refine cond_t (sc6 _) ?_ | refine cond_f (sc7 _ _) ?_ | refine cond_t (sc8 _ _) ?_ | refine cond_f (sc9 _) ?_ | refine cond_t (sc10 _) ?_); conv => whnf)
    refine ⟨_, l_vInts_ok _ _ ht1, (by first | exact (fun _ => rfl) | exact (fun h => Bool.noConfusion h)), ?_⟩
    conv => whnf
    repeat ((first | refine cond_f (sc1 _) ?_ | refine cond_t (sc2 _) ?_ | refine cond_f (sc3 _) ?_ | refine cond_t (sc4 _) ?_ | refine cond_f (sc5 _) ?_ | refine cond_t (sc6 _) ?_ | refine cond_f (sc7 _ _) ?_ | refine cond_t (sc8 _ _) ?_ | refine cond_f (sc9 _) ?_ | refine cond_t (sc10 _) ?_); conv => whnf)
    refine ⟨_, l_vInts_ok _ _ hcl, (by first | exact (fun _ => rfl) | exact (fun h => Bool.noConfusion h)), ?_⟩
    conv => whnf
    repeat ((first | refine cond_f (sc1 _) ?_ | refine cond_t (sc2 _) ?_ | refine cond_f (sc3 _) ?_ | refine cond_t (sc4 _) ?_ | refine cond_f (sc5 _) ?_ | refine cond_t (sc6 _) ?_ | refine cond_f (sc7 _ _) ?_ | refine cond_t (sc8 _ _) ?_ | refine cond_f (sc9 _) ?_ | refine cond_t (sc10 _) ?_); conv => whnf)
    refine ⟨_, l_vPlane_ok _ _ hpk, (by first | exact (fun _ => rfl) | exact (fun h => Bool.noConfusion h)), ?_⟩
    conv => whnf
    repeat ((first | refine cond_f (sc1 _) ?_ | refine cond_t (sc2 _) ?_ | refine cond_f (sc3 _) ?_ | refine cond_t (sc4 _) ?_ | refine cond_f (sc5 _) ?_ | refine cond_t (sc6 _) ?_ | refine cond_f (sc7 _ _) ?_ | refine cond_t (sc8 _ _) ?_ | refine cond_f (sc9 _) ?_ | refine cond_t (sc10 _) ?_); conv => whnf)
    refine ⟨_, l_vPlane_ok _ _ hpl, (by first | exact (fun _ => rfl) | exact (fun h => Bool.noConfusion h)), ?_⟩
    conv => whnf
    repeat ((first | refine cond_f (sc1 _) ?_ | refine cond_t (sc2 _) ?_ | refine cond_f (sc3 _) ?_ | refine cond_t (sc4 _) ?_ | refine cond_f (sc5 _) ?_ | refine cond_t (sc6 _) ?_ | refine cond_f (sc7 _ _) ?_ | refine cond_t (sc8 _ _) ?_ | refine cond_f (sc9 _) ?_ | refine cond_t (sc10 _) ?_); conv => whnf)
    have c10 := i_PlaneOfCounts_ok s (cnt s.1.length st.2.1 st.2.1.length) hs hcl
    rw [F.told] at c10
    have a1 : (sI (cnt s.1.length st.2.1 st.2.1.length) != (st.2.1.length : Int)) = false := by rw [F.sumC]; simp
    have a1' : ((sI (cnt s.1.length st.2.1 st.2.1.length) != (st.2.1.length : Int)) == false) = true := by rw [a1]; rfl
    have a2 : (sI st.2.2 != (st.2.1.length : Int)) = false := by rw [F.sumM]; simp
    have a2' : ((sI st.2.2 != (st.2.1.length : Int)) == false) = true := by rw [a2]; rfl
    refine ⟨_, c10, (by first | exact (fun _ => rfl) | exact (fun h => Bool.noConfusion h)), ?_⟩
    conv => whnf
    repeat ((first | refine cond_f (sc1 _) ?_ | refine cond_t (sc2 _) ?_ | refine cond_f (sc3 _) ?_ | refine cond_t (sc4 _) ?_ | refine cond_f (sc5 _) ?_ | refine cond_t (sc6 _) ?_ | refine cond_f (sc7 _ _) ?_ | refine cond_t (sc8 _ _) ?_ | refine cond_f (sc9 _) ?_ | refine cond_t (sc10 _) ?_); conv => whnf)
    refine ⟨_, l_vPlane_ok _ _ hp1, (by first | exact (fun _ => rfl) | exact (fun h => Bool.noConfusion h)), ?_⟩
    conv => whnf
    repeat ((first | refine cond_f (sc1 _) ?_ | refine cond_t (sc2 _) ?_ | refine cond_f (sc3 _) ?_ | refine cond_t (sc4 _) ?_ | refine cond_f (sc5 _) ?_ | refine cond_t (sc6 _) ?_ | refine cond_f (sc7 _ _) ?_ | refine cond_t (sc8 _ _) ?_ | refine cond_f (sc9 _) ?_ | refine cond_t (sc10 _) ?_); conv => whnf)
    refine ⟨_, l_vAdd_ok _ hcl F.boundC, (by first | exact (fun _ => rfl) | exact (fun h => Bool.noConfusion h)), ?_⟩
    conv => whnf
    repeat ((first | refine cond_t a1' ?_ | refine cond_f (hT a1') ?_ | refine cond_t (gT a1') ?_); conv => whnf)
    refine ⟨_, l_vAdd_ok _ hm1 F.boundM, (by first | exact (fun _ => rfl) | exact (fun h => Bool.noConfusion h)), ?_⟩
    conv => whnf
    repeat ((first | refine cond_t a2' ?_ | refine cond_f (hT a2') ?_ | refine cond_t (gT a2') ?_); conv => whnf)
    refine ⟨_, i_MistakesOf_yes s (lastP st.1) hs (F.fits F.last) (F.suits F.last), (by first | exact (fun _ => rfl) | exact (fun h => Bool.noConfusion h)), ?_⟩
    conv => whnf
    refine ⟨_, i_MistakesOf_yes s (st.1.getD (pk st.1 s st.1.length) shPlane.dflt) hs (F.fits (pk_lt F.f.i.i.ne _ (Nat.le_refl _))) (F.suits (pk_lt F.f.i.i.ne _ (Nat.le_refl _))), (by first | exact (fun _ => rfl) | exact (fun h => Bool.noConfusion h)), ?_⟩
    conv => whnf
    refine ⟨_, i_FitsSample_yes s (lastP st.1) hs (F.fits F.last) (F.suits F.last), (by first | exact (fun _ => rfl) | exact (fun h => Bool.noConfusion h)), ?_⟩
    conv => whnf
    have b1 : decide (((misTo (st.1.getD (pk st.1 s st.1.length) shPlane.dflt) s s.1.length).length : Int) > ((misTo (lastP st.1) s s.1.length).length : Int)) = false := decide_eq_false (by have := F.pocket; omega)
    have b1' : (decide (((misTo (st.1.getD (pk st.1 s st.1.length) shPlane.dflt) s s.1.length).length : Int) > ((misTo (lastP st.1) s s.1.length).length : Int)) == false) = true := by rw [b1]; rfl
    have hL := F.f.l1
    have hL2 := F.f.l2
    have hR2 := F.R2
    have hwl : IntKind.i64.wrap ((st.2.2.length : Int) - 1) = ((st.2.2.length - 1 : Nat) : Int) := by rw [wrap_in (by omega) (by omega)]; omega
    have hix : 0 ≤ IntKind.i64.wrap ((st.2.2.length : Int) - 1) ∧ IntKind.i64.wrap ((st.2.2.length : Int) - 1) < (st.2.2.length : Int) := by rw [hwl]; omega
    have hixn : (IntKind.i64.wrap ((st.2.2.length : Int) - 1)).toNat < st.2.2.length := by rw [hwl]; show st.2.2.length - 1 < _; omega
    repeat ((first | refine cond_t b1' ?_ | refine cond_f (hT b1') ?_ | refine cond_t (gT b1') ?_); conv => whnf)
    refine ⟨hix, ?_⟩
    conv => whnf
    repeat ((first | refine cond_t b1' ?_ | refine cond_f (hT b1') ?_ | refine cond_t (gT b1') ?_); conv => whnf)
    refine ⟨hixn, ?_⟩
    conv => whnf
    repeat ((first | refine cond_t b1' ?_ | refine cond_f (hT b1') ?_ | refine cond_t (gT b1') ?_); conv => whnf)
    refine cond_intro (fun z0 => ?_) (fun z0 => ?_)
    · have z : st.2.2.getD (st.2.2.length - 1) 0 = 0 := by
        have := eq_of_beq (gT z0)
        rw [hwl] at this
        exact this
      have e0 : misTo (lastP st.1) s s.1.length = [] := misTo_nil _ (F.f.fits z)
      have e1 : (!((((misTo (lastP st.1) s s.1.length).length : Nat) : Int) == 0)) = false := by rw [e0]; rfl
      conv => whnf
      repeat ((first | refine cond_t z0 ?_ | refine cond_f (hT z0) ?_ | refine cond_t (gT z0) ?_ | refine cond_f e1 ?_ | refine cond_t (hF e1) ?_ | refine cond_f (gF e1) ?_ | refine cond_t b1' ?_ | refine cond_f (hT b1') ?_ | refine cond_t (gT b1') ?_); conv => whnf)
      refine ⟨⟨by omega, by have := F.n0; show (0 : Int) < (s.1.length : Int); omega⟩, ?_⟩
      conv => whnf
      refine ⟨room_make (Int.natCast_nonneg _) (Int.ofNat_le.2 (Nat.le_trans F.S.run.small (by decide : (4 : Nat) ≤ 1048577))) (by decide), ?_⟩
      conv => whnf
      refine loop_ups (X := Int × Int × Plane) (fun (j, at', p) => [⟨0, 39, false, .d tI j⟩, ⟨0, 38, false, .d tI at'⟩, ⟨0, 37, true, .pair .unit (.d shPlane p)⟩]) (fun (j, _, _) => st.2.2.length - j.toNat)
        (fun (j, at', p) => ∃ (n : Nat) (ps : List Plane) (tr rs : List Int), j = n ∧ n ≤ st.2.2.length ∧ at' = tr.length ∧ p = lastP ps ∧ Rep s r.toNat st n ps tr rs) (0, 0, plane0 s) ?_ ⟨0, [plane0 s], [], [], rfl, by omega, rfl, rfl, rep0 F.S F.R1 F.run⟩ ?_
      · refine st_eq ?_
        conv => whnf
        exact ⟨rfl⟩
      rintro ⟨_, _, _⟩ ⟨j, ps, tr, rs, rfl, hj, rfl, rfl, I⟩
      conv => whnf
      refine cond_intro (fun g => ?_) (fun g => ?_)
      · have g : j < st.2.2.length := by have := of_decide_eq_true g; exact Int.ofNat_lt.1 this
        obtain ⟨st', hst', hpre, I'⟩ := I.step F.S hL2 g
        conv => whnf
        refine loop_ups (X := Int × Int × Plane) (fun (i, at', p) => [⟨0, 40, false, .d tI i⟩, ⟨0, 38, false, .d tI at'⟩, ⟨0, 37, true, .pair .unit (.d shPlane p)⟩]) (fun (i, _, _) => s.1.length - i.toNat)
          (fun (i, at', p) => ∃ (n : Nat) (x : RS), i = n ∧ n ≤ s.1.length ∧ at' = x.2.1.length ∧ p = lastP x.1 ∧ RunI s x.1 x.2.1 ∧ ptsR s (s.1.length - n) n x = some st') (0, (tr.length : Int), lastP ps) ?_ ⟨0, (ps, tr, 0), rfl, by omega, rfl, rfl, I.i.i, hst'⟩ ?_
        · refine st_eq ?_
          conv => whnf
          exact ⟨rfl⟩
        rintro ⟨_, _, _⟩ ⟨n, x, rfl, hn, rfl, rfl, J, hx⟩
        conv => whnf
        refine cond_intro (fun k => ?_) (fun k => ?_)
        · have k : n < s.1.length := by have := of_decide_eq_true k; exact Int.ofNat_lt.1 this
          obtain ⟨x1, hx1, J1, hl1, hcase⟩ := pts_step F.S k J hx hpre
          have hok : isPlane (nextP (lastP x.1) (s.1.getD n tIS.dflt) (lab s n)) = true := by rw [← hl1]; exact J1.t.ok
          have eS := step_eq F.S k J.t.ok J.t.len hok
          have hxl : (lastP x.1).1.length ≤ 1048576 := by rw [J.t.len]; omega
          have hpt : (s.1.getD n tIS.dflt).length ≤ 1048576 := by rw [F.S.run.w n k]; omega
          have cS := i_StepPerceptron_ok (lastP x.1) (s.1.getD n tIS.dflt) (lab s n) hxl hpt
          rw [eS] at cS
          conv => whnf
          refine ⟨⟨Int.natCast_nonneg _, Int.ofNat_lt.2 k⟩, ?_⟩
          conv => whnf
          refine ⟨⟨Int.natCast_nonneg _, Int.ofNat_lt.2 (by rw [F.S.run.lab]; exact k)⟩, ?_⟩
          conv => whnf
          refine ⟨_, cS, (by first | exact (fun _ => rfl) | exact (fun h => Bool.noConfusion h)), ?_⟩
          conv => whnf
          rcases hcase with ⟨hsd, hlen⟩ | ⟨hsd, hlen, hlt, hget⟩
          · have d0 : (!(side (lastP x.1) (s.1.getD n tIS.dflt) == lab s n)) = false := by rw [hsd]; simp
            have d1 : ((!(side (lastP x.1) (s.1.getD n tIS.dflt) == lab s n)) == true) = false := by rw [d0]; rfl
            repeat ((first | refine cond_f d0 ?_ | refine cond_t (hF d0) ?_ | refine cond_f (gF d0) ?_ | refine cond_f d1 ?_ | refine cond_t (hF d1) ?_ | refine cond_f (gF d1) ?_); conv => whnf)
            refine ⟨(_, _, _), rfl, ⟨n + 1, x1, wrap_succ k (by unfold Short; omega), by omega, by rw [hlen], hl1.symm, J1, hx1⟩, ?_⟩
            rw [wrap_succ k (by unfold Short; omega)]; simp; omega
          · have d0 : (!(side (lastP x.1) (s.1.getD n tIS.dflt) == lab s n)) = true := by
              have : (side (lastP x.1) (s.1.getD n tIS.dflt) == lab s n) = false := beq_eq_false_iff_ne.2 hsd
              rw [this]; rfl
            have d1 : ((!(side (lastP x.1) (s.1.getD n tIS.dflt) == lab s n)) == true) = true := by rw [d0]; rfl
            have f0 : decide ((x.2.1.length : Int) ≥ (st.2.1.length : Int)) = false := decide_eq_false (by omega)
            have f1 : (decide ((x.2.1.length : Int) ≥ (st.2.1.length : Int)) == false) = true := by rw [f0]; rfl
            have h0 : (st.2.1.getD x.2.1.length tI.dflt != (n : Int)) = false := by
              have : st.2.1.getD x.2.1.length tI.dflt = (n : Int) := hget
              rw [this]; simp
            repeat ((first | refine cond_t d0 ?_ | refine cond_f (hT d0) ?_ | refine cond_t (gT d0) ?_ | refine cond_t d1 ?_ | refine cond_f (hT d1) ?_ | refine cond_t (gT d1) ?_ | refine cond_f f0 ?_ | refine cond_t (hF f0) ?_ | refine cond_f (gF f0) ?_ | refine cond_t f1 ?_ | refine cond_f (hT f1) ?_ | refine cond_t (gT f1) ?_); conv => whnf)
            refine ⟨⟨Int.natCast_nonneg _, Int.ofNat_lt.2 hlt⟩, ?_⟩
            conv => whnf
            repeat ((first | refine cond_t d0 ?_ | refine cond_f (hT d0) ?_ | refine cond_t (gT d0) ?_ | refine cond_t d1 ?_ | refine cond_f (hT d1) ?_ | refine cond_t (gT d1) ?_ | refine cond_f f0 ?_ | refine cond_t (hF f0) ?_ | refine cond_f (gF f0) ?_ | refine cond_t f1 ?_ | refine cond_f (hT f1) ?_ | refine cond_t (gT f1) ?_); conv => whnf)
            refine ⟨hlt, ?_⟩
            conv => whnf
            repeat ((first | refine cond_t d0 ?_ | refine cond_f (hT d0) ?_ | refine cond_t (gT d0) ?_ | refine cond_t d1 ?_ | refine cond_f (hT d1) ?_ | refine cond_t (gT d1) ?_ | refine cond_f f0 ?_ | refine cond_t (hF f0) ?_ | refine cond_f (gF f0) ?_ | refine cond_t f1 ?_ | refine cond_f (hT f1) ?_ | refine cond_t (gT f1) ?_ | refine cond_f h0 ?_ | refine cond_t (hF h0) ?_ | refine cond_f (gF h0) ?_); conv => whnf)
            refine ⟨(_, _, _), rfl, ⟨n + 1, x1, wrap_succ k (by unfold Short; omega), by omega, ?_, hl1.symm, J1, hx1⟩, ?_⟩
            · rw [hlen]; exact wrap_succ hlt (by unfold Short; omega)
            · rw [wrap_succ k (by unfold Short; omega)]; simp; omega
        · have k : n = s.1.length := by have : ¬ n < s.1.length := fun e => of_decide_eq_false k (Int.ofNat_lt.2 e); omega
          subst k
          rw [Nat.sub_self] at hx
          have hx : some x = some st' := hx
          cases hx
          conv => whnf
          refine ⟨(_, _, _), rfl, ⟨j + 1, st'.1, st'.2.1, _, wrap_succ g (by unfold Short; omega), by omega, rfl, rfl, I'⟩, ?_⟩
          rw [wrap_succ g (by unfold Short; omega)]; simp; omega
      · have g : j = st.2.2.length := by have : ¬ j < st.2.2.length := fun e => of_decide_eq_false g (Int.ofNat_lt.2 e); omega
        rcases I.go with ⟨h1, _⟩ | ⟨_, rfl, rfl⟩
        · omega
        have y0 : ((st.2.1.length : Int) == (st.2.1.length : Int)) = true := by simp
        have y1 : (((st.2.1.length : Int) == (st.2.1.length : Int)) == true) = true := by simp
        conv => whnf
        repeat ((first | refine cond_t y0 ?_ | refine cond_f (hT y0) ?_ | refine cond_t (gT y0) ?_ | refine cond_t y1 ?_ | refine cond_f (hT y1) ?_ | refine cond_t (gT y1) ?_); conv => whnf)
        refine ⟨_, l_vPlane_ok _ _ hp1, (by first | exact (fun _ => rfl) | exact (fun h => Bool.noConfusion h)), ?_⟩
        conv => whnf
        repeat ((first | refine cond_t y0 ?_ | refine cond_f (hT y0) ?_ | refine cond_t (gT y0) ?_ | refine cond_t y1 ?_ | refine cond_f (hT y1) ?_ | refine cond_t (gT y1) ?_); conv => whnf)
        exact ⟨_, _, rfl, .inl rfl, fin1 (by simp)⟩
    · conv => whnf
      repeat ((first | refine cond_f z0 ?_ | refine cond_t (hF z0) ?_ | refine cond_f (gF z0) ?_ | refine cond_t b1' ?_ | refine cond_f (hT b1') ?_ | refine cond_t (gT b1') ?_); conv => whnf)
      refine ⟨⟨by omega, by have := F.n0; show (0 : Int) < (s.1.length : Int); omega⟩, ?_⟩
      conv => whnf
      refine ⟨room_make (Int.natCast_nonneg _) (Int.ofNat_le.2 (Nat.le_trans F.S.run.small (by decide : (4 : Nat) ≤ 1048577))) (by decide), ?_⟩
      conv => whnf
      refine loop_ups (X := Int × Int × Plane) (fun (j, at', p) => [⟨0, 39, false, .d tI j⟩, ⟨0, 38, false, .d tI at'⟩, ⟨0, 37, true, .pair .unit (.d shPlane p)⟩]) (fun (j, _, _) => st.2.2.length - j.toNat)
        (fun (j, at', p) => ∃ (n : Nat) (ps : List Plane) (tr rs : List Int), j = n ∧ n ≤ st.2.2.length ∧ at' = tr.length ∧ p = lastP ps ∧ Rep s r.toNat st n ps tr rs) (0, 0, plane0 s) ?_ ⟨0, [plane0 s], [], [], rfl, by omega, rfl, rfl, rep0 F.S F.R1 F.run⟩ ?_
      · refine st_eq ?_
        conv => whnf
        exact ⟨rfl⟩
      rintro ⟨_, _, _⟩ ⟨j, ps, tr, rs, rfl, hj, rfl, rfl, I⟩
      conv => whnf
      refine cond_intro (fun g => ?_) (fun g => ?_)
      · have g : j < st.2.2.length := by have := of_decide_eq_true g; exact Int.ofNat_lt.1 this
        obtain ⟨st', hst', hpre, I'⟩ := I.step F.S hL2 g
        conv => whnf
        refine loop_ups (X := Int × Int × Plane) (fun (i, at', p) => [⟨0, 40, false, .d tI i⟩, ⟨0, 38, false, .d tI at'⟩, ⟨0, 37, true, .pair .unit (.d shPlane p)⟩]) (fun (i, _, _) => s.1.length - i.toNat)
          (fun (i, at', p) => ∃ (n : Nat) (x : RS), i = n ∧ n ≤ s.1.length ∧ at' = x.2.1.length ∧ p = lastP x.1 ∧ RunI s x.1 x.2.1 ∧ ptsR s (s.1.length - n) n x = some st') (0, (tr.length : Int), lastP ps) ?_ ⟨0, (ps, tr, 0), rfl, by omega, rfl, rfl, I.i.i, hst'⟩ ?_
        · refine st_eq ?_
          conv => whnf
          exact ⟨rfl⟩
        rintro ⟨_, _, _⟩ ⟨n, x, rfl, hn, rfl, rfl, J, hx⟩
        conv => whnf
        refine cond_intro (fun k => ?_) (fun k => ?_)
        · have k : n < s.1.length := by have := of_decide_eq_true k; exact Int.ofNat_lt.1 this
          obtain ⟨x1, hx1, J1, hl1, hcase⟩ := pts_step F.S k J hx hpre
          have hok : isPlane (nextP (lastP x.1) (s.1.getD n tIS.dflt) (lab s n)) = true := by rw [← hl1]; exact J1.t.ok
          have eS := step_eq F.S k J.t.ok J.t.len hok
          have hxl : (lastP x.1).1.length ≤ 1048576 := by rw [J.t.len]; omega
          have hpt : (s.1.getD n tIS.dflt).length ≤ 1048576 := by rw [F.S.run.w n k]; omega
          have cS := i_StepPerceptron_ok (lastP x.1) (s.1.getD n tIS.dflt) (lab s n) hxl hpt
          rw [eS] at cS
          conv => whnf
          refine ⟨⟨Int.natCast_nonneg _, Int.ofNat_lt.2 k⟩, ?_⟩
          conv => whnf
          refine ⟨⟨Int.natCast_nonneg _, Int.ofNat_lt.2 (by rw [F.S.run.lab]; exact k)⟩, ?_⟩
          conv => whnf
          refine ⟨_, cS, (by first | exact (fun _ => rfl) | exact (fun h => Bool.noConfusion h)), ?_⟩
          conv => whnf
          rcases hcase with ⟨hsd, hlen⟩ | ⟨hsd, hlen, hlt, hget⟩
          · have d0 : (!(side (lastP x.1) (s.1.getD n tIS.dflt) == lab s n)) = false := by rw [hsd]; simp
            have d1 : ((!(side (lastP x.1) (s.1.getD n tIS.dflt) == lab s n)) == true) = false := by rw [d0]; rfl
            repeat ((first | refine cond_f d0 ?_ | refine cond_t (hF d0) ?_ | refine cond_f (gF d0) ?_ | refine cond_f d1 ?_ | refine cond_t (hF d1) ?_ | refine cond_f (gF d1) ?_); conv => whnf)
            refine ⟨(_, _, _), rfl, ⟨n + 1, x1, wrap_succ k (by unfold Short; omega), by omega, by rw [hlen], hl1.symm, J1, hx1⟩, ?_⟩
            rw [wrap_succ k (by unfold Short; omega)]; simp; omega
          · have d0 : (!(side (lastP x.1) (s.1.getD n tIS.dflt) == lab s n)) = true := by
              have : (side (lastP x.1) (s.1.getD n tIS.dflt) == lab s n) = false := beq_eq_false_iff_ne.2 hsd
              rw [this]; rfl
            have d1 : ((!(side (lastP x.1) (s.1.getD n tIS.dflt) == lab s n)) == true) = true := by rw [d0]; rfl
            have f0 : decide ((x.2.1.length : Int) ≥ (st.2.1.length : Int)) = false := decide_eq_false (by omega)
            have f1 : (decide ((x.2.1.length : Int) ≥ (st.2.1.length : Int)) == false) = true := by rw [f0]; rfl
            have h0 : (st.2.1.getD x.2.1.length tI.dflt != (n : Int)) = false := by
              have : st.2.1.getD x.2.1.length tI.dflt = (n : Int) := hget
              rw [this]; simp
            repeat ((first | refine cond_t d0 ?_ | refine cond_f (hT d0) ?_ | refine cond_t (gT d0) ?_ | refine cond_t d1 ?_ | refine cond_f (hT d1) ?_ | refine cond_t (gT d1) ?_ | refine cond_f f0 ?_ | refine cond_t (hF f0) ?_ | refine cond_f (gF f0) ?_ | refine cond_t f1 ?_ | refine cond_f (hT f1) ?_ | refine cond_t (gT f1) ?_); conv => whnf)
            refine ⟨⟨Int.natCast_nonneg _, Int.ofNat_lt.2 hlt⟩, ?_⟩
            conv => whnf
            repeat ((first | refine cond_t d0 ?_ | refine cond_f (hT d0) ?_ | refine cond_t (gT d0) ?_ | refine cond_t d1 ?_ | refine cond_f (hT d1) ?_ | refine cond_t (gT d1) ?_ | refine cond_f f0 ?_ | refine cond_t (hF f0) ?_ | refine cond_f (gF f0) ?_ | refine cond_t f1 ?_ | refine cond_f (hT f1) ?_ | refine cond_t (gT f1) ?_); conv => whnf)
            refine ⟨hlt, ?_⟩
            conv => whnf
            repeat ((first | refine cond_t d0 ?_ | refine cond_f (hT d0) ?_ | refine cond_t (gT d0) ?_ | refine cond_t d1 ?_ | refine cond_f (hT d1) ?_ | refine cond_t (gT d1) ?_ | refine cond_f f0 ?_ | refine cond_t (hF f0) ?_ | refine cond_f (gF f0) ?_ | refine cond_t f1 ?_ | refine cond_f (hT f1) ?_ | refine cond_t (gT f1) ?_ | refine cond_f h0 ?_ | refine cond_t (hF h0) ?_ | refine cond_f (gF h0) ?_); conv => whnf)
            refine ⟨(_, _, _), rfl, ⟨n + 1, x1, wrap_succ k (by unfold Short; omega), by omega, ?_, hl1.symm, J1, hx1⟩, ?_⟩
            · rw [hlen]; exact wrap_succ hlt (by unfold Short; omega)
            · rw [wrap_succ k (by unfold Short; omega)]; simp; omega
        · have k : n = s.1.length := by have : ¬ n < s.1.length := fun e => of_decide_eq_false k (Int.ofNat_lt.2 e); omega
          subst k
          rw [Nat.sub_self] at hx
          have hx : some x = some st' := hx
          cases hx
          conv => whnf
          refine ⟨(_, _, _), rfl, ⟨j + 1, st'.1, st'.2.1, _, wrap_succ g (by unfold Short; omega), by omega, rfl, rfl, I'⟩, ?_⟩
          rw [wrap_succ g (by unfold Short; omega)]; simp; omega
      · have g : j = st.2.2.length := by have : ¬ j < st.2.2.length := fun e => of_decide_eq_false g (Int.ofNat_lt.2 e); omega
        rcases I.go with ⟨h1, _⟩ | ⟨_, rfl, rfl⟩
        · omega
        have y0 : ((st.2.1.length : Int) == (st.2.1.length : Int)) = true := by simp
        have y1 : (((st.2.1.length : Int) == (st.2.1.length : Int)) == true) = true := by simp
        conv => whnf
        repeat ((first | refine cond_t y0 ?_ | refine cond_f (hT y0) ?_ | refine cond_t (gT y0) ?_ | refine cond_t y1 ?_ | refine cond_f (hT y1) ?_ | refine cond_t (gT y1) ?_); conv => whnf)
        refine ⟨_, l_vPlane_ok _ _ hp1, (by first | exact (fun _ => rfl) | exact (fun h => Bool.noConfusion h)), ?_⟩
        conv => whnf
        repeat ((first | refine cond_t y0 ?_ | refine cond_f (hT y0) ?_ | refine cond_t (gT y0) ?_ | refine cond_t y1 ?_ | refine cond_f (hT y1) ?_ | refine cond_t (gT y1) ?_); conv => whnf)
        exact ⟨_, _, rfl, .inl rfl, fin1 (by simp)⟩

end Go.Proofs.Ytlndfmmigndgeaa.Ev
