/- Draws: methods of the cursor, by the place where it lies. -/
import Derived.Test.YtlndfmmigndgeaaFnPY
import Derived.Test.YtlndfmmigndgeaaFnG
namespace Go.Proofs.Ytlndfmmigndgeaa.Ev
open Go
set_option linter.unusedVariables false
set_option linter.unusedSimpArgs false
set_option maxRecDepth 100000
set_option exponentiation.threshold 100000
set_option maxHeartbeats 2000000

theorem someSample_0_7 {code : List Int} (hc : IsCode code) {n : Nat} (hn : n ≤ 1152921504606700000) {b : AV} (hb : Tail code n b) (d : Nat) (hd : d ≤ 8) (most : Int) {P : AV → St} (C : Cur 0 7 P) :
    ∃ r u, (∃ p : Sample, r = avSample p ∧ (FitS p ∧ p.1.length ≤ 17 ∧ (∀ x ∈ p.1, x.length ≤ d + 1) ∧ p.2.1.length ≤ 18) ∧ Tail code (n + 1000) u) ∧ orc.ic n_s_l1Cur_someSample [.ptr (plCur 0 7), .d tI (d : Int), .d tI most] (P b) r (P u) := by
  suffices H : ∃ r s, (∃ (p : Sample) (u : AV), r = avSample p ∧ s = P u ∧ (p.1.length ≤ 17 ∧ (∀ x ∈ p.1, x.length ≤ d + 1) ∧ p.2.1.length ≤ 18) ∧ Tail code (n + 1000) u) ∧ orc.ic n_s_l1Cur_someSample [.ptr (plCur 0 7), .d tI (d : Int), .d tI most] (P b) r s by
    obtain ⟨r, s, ⟨p, u, rfl, rfl, ⟨h1, h2, h3⟩, h4⟩, h⟩ := H
    exact ⟨_, u, ⟨p, rfl, ⟨⟨⟨by omega, fun x hx => by have := h2 x hx; omega⟩, by omega⟩, h1, h2, h3⟩, h4⟩, h⟩
  refine ex_inl (fun r s h => p_s_l1Cur_someSample true (C.pos _) rfl rfl h) ?_
  obtain ⟨n0, u1, c1, m1, t1⟩ := among_1_7 hc (by omega) hb ⟨⟨0, 16, false⟩, []⟩ [4, 6, 3, 5, 2, 8, 1, 0, 12, 16] (by simp)
  have hn0 : 0 ≤ n0 ∧ n0 ≤ 16 := by simp at m1; omega
  have hle : least n0 most ≤ 16 := by unfold least; split <;> omega
  conv => whnf
  refine ⟨_, _, c1 _ (C.lift _) (by intro _; exact rfl), ?_⟩
  conv => whnf
  refine ⟨_, s_l1Least_ok _ _, (by first | exact (fun _ => rfl) | exact (fun h => Bool.noConfusion h)), ?_⟩
  conv => whnf
  refine ic_lift (P := P) (b := u1) (plane_1_7 hc (by omega) t1 d hd (C.lift _)) ?_
  rintro _ u2 ⟨w, bd, rfl, hw, t2⟩
  obtain ⟨fits, u3, c3, t3⟩ := one_1_7 hc (by omega) t2 3
  conv => whnf
  refine ⟨_, _, c3 _ (C.lift _), ?_⟩
  conv => whnf
  refine loop_upt (X := Int × List (List Int) × List Int × AV) (fun (i, ps, ls, u) => [⟨0, 11, false, .d tI i⟩, ⟨0, 7, true, .pair .unit (.pair (.own tIS (.ow .fz) ps) (.pair (.own tI .fz ls) .unit))⟩]) (fun (_, _, _, u) => P u) (fun (i, _, _, _) => (least n0 most - i).toNat)
    (fun (i, ps, ls, u) => ∃ m : Nat, i = m ∧ m ≤ 16 ∧ ((m : Int) ≤ least n0 most ∨ m = 0) ∧ ps.length = m ∧ ls.length = m ∧ (∀ x ∈ ps, x.length ≤ d + 1) ∧ Tail code (n + 50 + 42 * m) u) (0, [], [], u3) ?_ ⟨0, rfl, by omega, .inr rfl, rfl, rfl, by simp, t3.le (by omega)⟩ ?_
  · refine st_eq ?_
    conv => whnf
    exact ⟨rfl⟩
  rintro ⟨_, ps, ls, u⟩ ⟨m, rfl, hm, hm', hps, hls, hrow, t4⟩
  conv => whnf
  refine cond_intro (fun h => ?_) (fun h => ?_)
  · have h : (m : Int) < least n0 most := of_decide_eq_true h
    conv => whnf
    refine ic_lift (P := P) (b := u) (point_1_7 hc (by omega) t4 d hd (C.lift _)) ?_
    rintro _ u5 ⟨x, rfl, hx, t5⟩
    obtain ⟨r6, u6, c6, b6, t6⟩ := pick_1_7 hc (by omega) t5 2
    have fin : ∀ (l : List Int), l.length = m + 1 → ∃ m' : Nat, IntKind.i64.wrap ((m : Int) + 1) = m' ∧ m' ≤ 16 ∧ ((m' : Int) ≤ least n0 most ∨ m' = 0) ∧ (ps ++ [x]).length = m' ∧ l.length = m' ∧ (∀ y ∈ ps ++ [x], y.length ≤ d + 1) ∧ Tail code (n + 50 + 42 * m') u6 := fun l hl => by
      refine ⟨m + 1, wrap_succ (show m < 17 by omega) (by unfold Short; omega), by omega, .inl (by omega), by simp [hps], hl, fun y hy => ?_, t6.le (by omega)⟩
      rcases List.mem_append.1 hy with hy | hy
      · exact hrow y hy
      · rw [List.mem_singleton.1 hy]; exact hx
    have dec : (least n0 most - IntKind.i64.wrap ((m : Int) + 1)).toNat < (least n0 most - (m : Int)).toNat := by
      rw [wrap_succ (show m < 17 by omega) (by unfold Short; omega)]; omega
    conv => whnf
    refine ⟨_, _, c6 _ (C.lift _), ?_⟩
    cases fits with
    | true =>
      conv => whnf
      refine ⟨⟨room_snoc (by omega) (by decide), len_snoc (by omega)⟩, ?_⟩
      conv => whnf
      refine ⟨⟨room_snoc (by omega) (by decide), len_snoc (by omega)⟩, ?_⟩
      conv => whnf
      refine ⟨(_, _, _, _), rfl, fin _ (by rw [List.length_append, hls]; rfl), dec⟩
    | false =>
      conv => whnf
      refine ⟨_, s_l2One_ok (w, bd, ()) x (show w.length ≤ 1048576 by omega) (by omega), (by first | exact (fun _ => rfl) | exact (fun h => Bool.noConfusion h)), ?_⟩
      conv => whnf
      refine cond_intro (fun h => ?_) (fun h => ?_)
      · have hmx : w.length ≤ x.length := Nat.le_of_eq (meets_len (p := (w, bd, ())) h).symm
        conv => whnf
        refine ⟨_, s_l2Side_ok (w, bd, ()) x (show w.length ≤ 1048576 by omega) hmx, (by first | exact (fun _ => rfl) | exact (fun h => Bool.noConfusion h)), ?_⟩
        conv => whnf
        refine ⟨⟨room_snoc (by omega) (by decide), len_snoc (by omega)⟩, ?_⟩
        conv => whnf
        refine ⟨⟨room_snoc (by omega) (by decide), len_snoc (by omega)⟩, ?_⟩
        conv => whnf
        refine ⟨(_, _, _, _), rfl, fin _ (by rw [List.length_append, hls]; rfl), dec⟩
      · conv => whnf
        refine ⟨⟨room_snoc (by omega) (by decide), len_snoc (by omega)⟩, ?_⟩
        conv => whnf
        refine ⟨⟨room_snoc (by omega) (by decide), len_snoc (by omega)⟩, ?_⟩
        conv => whnf
        refine ⟨(_, _, _, _), rfl, fin _ (by rw [List.length_append, hls]; rfl), dec⟩
  have h : ¬ (m : Int) < least n0 most := of_decide_eq_false h
  have hLm : least n0 most ≤ m := by omega
  conv => whnf
  cases hz : decide (least n0 most > 1) with
  | true =>
    have q0 : (decide (least n0 most > 1) == true) = true := by rw [hz]; rfl
    have hm2 : 1 < m := by have := of_decide_eq_true hz; omega
    obtain ⟨r7, u7, c7, t7⟩ := one_1_7 hc (by omega) t4 10
    repeat ((first | refine cond_f (sc1 _) ?_ | refine cond_t (sc2 _) ?_ | refine cond_t q0 ?_ | refine cond_f (hT q0) ?_ | refine cond_t (gT q0) ?_); conv => whnf)
    refine ⟨_, _, c7 _ (C.lift _), ?_⟩
    conv => whnf
    repeat ((first | refine cond_f (sc1 _) ?_ | refine cond_t (sc2 _) ?_ | refine cond_t q0 ?_ | refine cond_f (hT q0) ?_ | refine cond_t (gT q0) ?_); conv => whnf)
    cases r7 with
    | true =>
      have hx1 : (ps.getD 1 tIS.dflt).length ≤ 1048576 := by have := hrow _ (getD_mem (show 1 < ps.length by omega) tIS.dflt); omega
      conv => whnf
      refine ⟨⟨by decide, by rw [hps]; omega⟩, ?_⟩
      conv => whnf
      refine ⟨(show (1 : Int).toNat < ps.length by rw [hps]; exact hm2), ?_⟩
      conv => whnf
      refine ⟨(show (1 : Int).toNat < ps.length by rw [hps]; exact hm2), ?_⟩
      conv => whnf
      refine ⟨_, s_l1Own_ok _ hx1, (by first | exact (fun _ => rfl) | exact (fun h => Bool.noConfusion h)), ?_⟩
      conv => whnf
      refine ⟨⟨by decide, by rw [hps]; omega⟩, ?_⟩
      conv => whnf
      refine ⟨(show (0 : Int).toNat < ps.length by rw [hps]; show 0 < m; omega), ?_⟩
      conv => whnf
      have hrow2 : ∀ x ∈ ps.set 0 (ps.getD 1 tIS.dflt), x.length ≤ d + 1 := fun x hx => by
        rcases List.mem_or_eq_of_mem_set hx with hx | rfl
        · exact hrow x hx
        · exact hrow _ (getD_mem (show 1 < ps.length by omega) tIS.dflt)
      have hps2 : (ps.set 0 (ps.getD 1 tIS.dflt)).length = m := by rw [List.length_set]; exact hps
      obtain ⟨sw, u8, c8, b8, t8⟩ := pick_1_7 hc (by omega) t7 50
      conv => whnf
      refine ⟨_, _, c8 _ (C.lift _), ?_⟩
      conv => whnf
      refine cond_intro (fun h => ?_) (fun h => ?_)
      · conv => whnf
        refine ⟨⟨room_snoc (by omega) (by decide), len_snoc (by omega)⟩, ?_⟩
        conv => whnf
        exact ⟨_, rfl, ((ps.set 0 (ps.getD 1 tIS.dflt)), _, ()), _, rfl, rfl, ⟨by show List.length ((ps.set 0 (ps.getD 1 tIS.dflt))) ≤ 17; omega, hrow2, by show List.length (_ ++ _) ≤ 18; rw [List.length_append]; show ls.length + 1 ≤ 18; omega⟩, t8.le (by omega)⟩
      conv => whnf
      refine cond_intro (fun h => ?_) (fun h => ?_)
      · conv => whnf
        refine cond_intro (fun h => ?_) (fun h => ?_)
        · have hm0 : 0 < least n0 most := of_decide_eq_true h
          obtain ⟨r9, u9, c9, b9, t9⟩ := pick_1_7 hc (by omega) t8 (least n0 most)
          obtain ⟨r10, u10, c10, m10, t10⟩ := among_1_7 hc (by omega) t9 ⟨⟨0, 92, false⟩, []⟩ [0, 2, -2, 1] (by simp)
          have b0 : r9 < least n0 most := b9.2.1 (by omega)
          have b1 := b9.1
          conv => whnf
          refine ⟨_, _, _, c9.drawn (t8.reg t9) (C.lift _) _, ?_⟩
          conv => whnf
          refine ⟨_, _, _, c10.drawn (t9.reg t10) (C.lift _) (by intro _; exact rfl) _, ?_⟩
          conv => whnf
          refine ⟨⟨b1, by rw [hls]; omega⟩, ?_⟩
          conv => whnf
          refine ⟨(by rw [hls]; omega), ?_⟩
          conv => whnf
          exact ⟨_, rfl, ((ps.set 0 (ps.getD 1 tIS.dflt)), _, ()), _, rfl, rfl, ⟨by show List.length ((ps.set 0 (ps.getD 1 tIS.dflt))) ≤ 17; omega, hrow2, by show List.length (ls.set _ _) ≤ 18; rw [List.length_set]; omega⟩, t10.le (by omega)⟩
        · conv => whnf
          exact ⟨_, rfl, ((ps.set 0 (ps.getD 1 tIS.dflt)), ls, ()), _, rfl, rfl, ⟨by show List.length ((ps.set 0 (ps.getD 1 tIS.dflt))) ≤ 17; omega, hrow2, by show ls.length ≤ 18; omega⟩, t8.le (by omega)⟩
      conv => whnf
      refine cond_intro (fun h => ?_) (fun h => ?_)
      · refine loop_upt (X := List (List Int) × List Int) (fun (ps, ls) => [⟨0, 7, true, .pair .unit (.pair (.own tIS (.ow .fz) ps) (.pair (.own tI .fz ls) .unit))⟩]) (fun _ => P u8) (fun (ps, _) => 17 - ps.length)
          (fun (ps, ls) => ps.length ≤ 17 ∧ ls.length = ps.length ∧ ∀ x ∈ ps, x.length ≤ d + 1) ((ps.set 0 (ps.getD 1 tIS.dflt)), ls) ?_ ⟨by omega, by omega, hrow2⟩ ?_
        · refine st_eq ?_
          conv => whnf
          exact ⟨rfl⟩
        rintro ⟨ps', ls'⟩ ⟨hp17, hl17, hr17⟩
        conv => whnf
        refine cond_intro (fun h => ?_) (fun h => ?_)
        · have h : ps'.length < 17 := by have := of_decide_eq_true h; exact Int.ofNat_lt.1 this
          conv => whnf
          refine ⟨room_make (Int.natCast_nonneg _) (by omega) (by decide), ?_⟩
          conv => whnf
          refine ⟨⟨room_snoc (by omega) (by decide), len_snoc (by omega)⟩, ?_⟩
          conv => whnf
          refine ⟨⟨room_snoc (by omega) (by decide), len_snoc (by omega)⟩, ?_⟩
          conv => whnf
          have hln : (ps' ++ [List.replicate d (0 : Int)]).length = ps'.length + 1 := by simp
          refine ⟨(_, _), rfl, ⟨?_, ?_, ?_⟩, ?_⟩
          · show (ps' ++ [List.replicate d (0 : Int)]).length ≤ 17
            omega
          · rw [List.length_append, hl17]; exact hln.symm
          · intro x hx
            rcases List.mem_append.1 hx with hx | hx
            · exact hr17 x hx
            · have hx : x = List.replicate d (0 : Int) := List.mem_singleton.1 hx
              rw [hx, List.length_replicate]; omega
          · show 17 - (ps' ++ [List.replicate d (0 : Int)]).length < 17 - ps'.length
            omega
        · conv => whnf
          exact ⟨_, rfl, (ps', ls', ()), _, rfl, rfl, ⟨hp17, hr17, by show ls'.length ≤ 18; omega⟩, t8.le (by omega)⟩
      · conv => whnf
        exact ⟨_, rfl, ((ps.set 0 (ps.getD 1 tIS.dflt)), ls, ()), _, rfl, rfl, ⟨by show List.length ((ps.set 0 (ps.getD 1 tIS.dflt))) ≤ 17; omega, hrow2, by show ls.length ≤ 18; omega⟩, t8.le (by omega)⟩
    | false =>
      obtain ⟨sw, u8, c8, b8, t8⟩ := pick_1_7 hc (by omega) t7 50
      conv => whnf
      refine ⟨_, _, c8 _ (C.lift _), ?_⟩
      conv => whnf
      refine cond_intro (fun h => ?_) (fun h => ?_)
      · conv => whnf
        refine ⟨⟨room_snoc (by omega) (by decide), len_snoc (by omega)⟩, ?_⟩
        conv => whnf
        exact ⟨_, rfl, (ps, _, ()), _, rfl, rfl, ⟨by show List.length (ps) ≤ 17; omega, hrow, by show List.length (_ ++ _) ≤ 18; rw [List.length_append]; show ls.length + 1 ≤ 18; omega⟩, t8.le (by omega)⟩
      conv => whnf
      refine cond_intro (fun h => ?_) (fun h => ?_)
      · conv => whnf
        refine cond_intro (fun h => ?_) (fun h => ?_)
        · have hm0 : 0 < least n0 most := of_decide_eq_true h
          obtain ⟨r9, u9, c9, b9, t9⟩ := pick_1_7 hc (by omega) t8 (least n0 most)
          obtain ⟨r10, u10, c10, m10, t10⟩ := among_1_7 hc (by omega) t9 ⟨⟨0, 92, false⟩, []⟩ [0, 2, -2, 1] (by simp)
          have b0 : r9 < least n0 most := b9.2.1 (by omega)
          have b1 := b9.1
          conv => whnf
          refine ⟨_, _, _, c9.drawn (t8.reg t9) (C.lift _) _, ?_⟩
          conv => whnf
          refine ⟨_, _, _, c10.drawn (t9.reg t10) (C.lift _) (by intro _; exact rfl) _, ?_⟩
          conv => whnf
          refine ⟨⟨b1, by rw [hls]; omega⟩, ?_⟩
          conv => whnf
          refine ⟨(by rw [hls]; omega), ?_⟩
          conv => whnf
          exact ⟨_, rfl, (ps, _, ()), _, rfl, rfl, ⟨by show List.length (ps) ≤ 17; omega, hrow, by show List.length (ls.set _ _) ≤ 18; rw [List.length_set]; omega⟩, t10.le (by omega)⟩
        · conv => whnf
          exact ⟨_, rfl, (ps, ls, ()), _, rfl, rfl, ⟨by show List.length (ps) ≤ 17; omega, hrow, by show ls.length ≤ 18; omega⟩, t8.le (by omega)⟩
      conv => whnf
      refine cond_intro (fun h => ?_) (fun h => ?_)
      · refine loop_upt (X := List (List Int) × List Int) (fun (ps, ls) => [⟨0, 7, true, .pair .unit (.pair (.own tIS (.ow .fz) ps) (.pair (.own tI .fz ls) .unit))⟩]) (fun _ => P u8) (fun (ps, _) => 17 - ps.length)
          (fun (ps, ls) => ps.length ≤ 17 ∧ ls.length = ps.length ∧ ∀ x ∈ ps, x.length ≤ d + 1) (ps, ls) ?_ ⟨by omega, by omega, hrow⟩ ?_
        · refine st_eq ?_
          conv => whnf
          exact ⟨rfl⟩
        rintro ⟨ps', ls'⟩ ⟨hp17, hl17, hr17⟩
        conv => whnf
        refine cond_intro (fun h => ?_) (fun h => ?_)
        · have h : ps'.length < 17 := by have := of_decide_eq_true h; exact Int.ofNat_lt.1 this
          conv => whnf
          refine ⟨room_make (Int.natCast_nonneg _) (by omega) (by decide), ?_⟩
          conv => whnf
          refine ⟨⟨room_snoc (by omega) (by decide), len_snoc (by omega)⟩, ?_⟩
          conv => whnf
          refine ⟨⟨room_snoc (by omega) (by decide), len_snoc (by omega)⟩, ?_⟩
          conv => whnf
          have hln : (ps' ++ [List.replicate d (0 : Int)]).length = ps'.length + 1 := by simp
          refine ⟨(_, _), rfl, ⟨?_, ?_, ?_⟩, ?_⟩
          · show (ps' ++ [List.replicate d (0 : Int)]).length ≤ 17
            omega
          · rw [List.length_append, hl17]; exact hln.symm
          · intro x hx
            rcases List.mem_append.1 hx with hx | hx
            · exact hr17 x hx
            · have hx : x = List.replicate d (0 : Int) := List.mem_singleton.1 hx
              rw [hx, List.length_replicate]; omega
          · show 17 - (ps' ++ [List.replicate d (0 : Int)]).length < 17 - ps'.length
            omega
        · conv => whnf
          exact ⟨_, rfl, (ps', ls', ()), _, rfl, rfl, ⟨hp17, hr17, by show ls'.length ≤ 18; omega⟩, t8.le (by omega)⟩
      · conv => whnf
        exact ⟨_, rfl, (ps, ls, ()), _, rfl, rfl, ⟨by show List.length (ps) ≤ 17; omega, hrow, by show ls.length ≤ 18; omega⟩, t8.le (by omega)⟩
  | false =>
    have q0 : (decide (least n0 most > 1) == true) = false := by rw [hz]; rfl
    repeat ((first | refine cond_f (sc1 _) ?_ | refine cond_t (sc2 _) ?_ | refine cond_f q0 ?_ | refine cond_t (hF q0) ?_ | refine cond_f (gF q0) ?_); conv => whnf)
    obtain ⟨sw, u8, c8, b8, t8⟩ := pick_1_7 hc (by omega) t4 50
    conv => whnf
    refine ⟨_, _, c8 _ (C.lift _), ?_⟩
    conv => whnf
    refine cond_intro (fun h => ?_) (fun h => ?_)
    · conv => whnf
      refine ⟨⟨room_snoc (by omega) (by decide), len_snoc (by omega)⟩, ?_⟩
      conv => whnf
      exact ⟨_, rfl, (ps, _, ()), _, rfl, rfl, ⟨by show List.length (ps) ≤ 17; omega, hrow, by show List.length (_ ++ _) ≤ 18; rw [List.length_append]; show ls.length + 1 ≤ 18; omega⟩, t8.le (by omega)⟩
    conv => whnf
    refine cond_intro (fun h => ?_) (fun h => ?_)
    · conv => whnf
      refine cond_intro (fun h => ?_) (fun h => ?_)
      · have hm0 : 0 < least n0 most := of_decide_eq_true h
        obtain ⟨r9, u9, c9, b9, t9⟩ := pick_1_7 hc (by omega) t8 (least n0 most)
        obtain ⟨r10, u10, c10, m10, t10⟩ := among_1_7 hc (by omega) t9 ⟨⟨0, 92, false⟩, []⟩ [0, 2, -2, 1] (by simp)
        have b0 : r9 < least n0 most := b9.2.1 (by omega)
        have b1 := b9.1
        conv => whnf
        refine ⟨_, _, _, c9.drawn (t8.reg t9) (C.lift _) _, ?_⟩
        conv => whnf
        refine ⟨_, _, _, c10.drawn (t9.reg t10) (C.lift _) (by intro _; exact rfl) _, ?_⟩
        conv => whnf
        refine ⟨⟨b1, by rw [hls]; omega⟩, ?_⟩
        conv => whnf
        refine ⟨(by rw [hls]; omega), ?_⟩
        conv => whnf
        exact ⟨_, rfl, (ps, _, ()), _, rfl, rfl, ⟨by show List.length (ps) ≤ 17; omega, hrow, by show List.length (ls.set _ _) ≤ 18; rw [List.length_set]; omega⟩, t10.le (by omega)⟩
      · conv => whnf
        exact ⟨_, rfl, (ps, ls, ()), _, rfl, rfl, ⟨by show List.length (ps) ≤ 17; omega, hrow, by show ls.length ≤ 18; omega⟩, t8.le (by omega)⟩
    conv => whnf
    refine cond_intro (fun h => ?_) (fun h => ?_)
    · refine loop_upt (X := List (List Int) × List Int) (fun (ps, ls) => [⟨0, 7, true, .pair .unit (.pair (.own tIS (.ow .fz) ps) (.pair (.own tI .fz ls) .unit))⟩]) (fun _ => P u8) (fun (ps, _) => 17 - ps.length)
        (fun (ps, ls) => ps.length ≤ 17 ∧ ls.length = ps.length ∧ ∀ x ∈ ps, x.length ≤ d + 1) (ps, ls) ?_ ⟨by omega, by omega, hrow⟩ ?_
      · refine st_eq ?_
        conv => whnf
        exact ⟨rfl⟩
      rintro ⟨ps', ls'⟩ ⟨hp17, hl17, hr17⟩
      conv => whnf
      refine cond_intro (fun h => ?_) (fun h => ?_)
      · have h : ps'.length < 17 := by have := of_decide_eq_true h; exact Int.ofNat_lt.1 this
        conv => whnf
        refine ⟨room_make (Int.natCast_nonneg _) (by omega) (by decide), ?_⟩
        conv => whnf
        refine ⟨⟨room_snoc (by omega) (by decide), len_snoc (by omega)⟩, ?_⟩
        conv => whnf
        refine ⟨⟨room_snoc (by omega) (by decide), len_snoc (by omega)⟩, ?_⟩
        conv => whnf
        have hln : (ps' ++ [List.replicate d (0 : Int)]).length = ps'.length + 1 := by simp
        refine ⟨(_, _), rfl, ⟨?_, ?_, ?_⟩, ?_⟩
        · show (ps' ++ [List.replicate d (0 : Int)]).length ≤ 17
          omega
        · rw [List.length_append, hl17]; exact hln.symm
        · intro x hx
          rcases List.mem_append.1 hx with hx | hx
          · exact hr17 x hx
          · have hx : x = List.replicate d (0 : Int) := List.mem_singleton.1 hx
            rw [hx, List.length_replicate]; omega
        · show 17 - (ps' ++ [List.replicate d (0 : Int)]).length < 17 - ps'.length
          omega
      · conv => whnf
        exact ⟨_, rfl, (ps', ls', ()), _, rfl, rfl, ⟨hp17, hr17, by show ls'.length ≤ 18; omega⟩, t8.le (by omega)⟩
    · conv => whnf
      exact ⟨_, rfl, (ps, ls, ()), _, rfl, rfl, ⟨by show List.length (ps) ≤ 17; omega, hrow, by show ls.length ≤ 18; omega⟩, t8.le (by omega)⟩


end Go.Proofs.Ytlndfmmigndgeaa.Ev
