/- Draws: methods of the cursor, by the place where it lies. -/
import Derived.Test.YtlndfmmigndgeaaFnPZ
import Derived.Test.YtlndfmmigndgeaaFnJ
import Derived.Test.YtlndfmmigndgeaaFnPL
namespace Go.Proofs.Ytlndfmmigndgeaa.Ev
open Go
set_option linter.unusedVariables false
set_option linter.unusedSimpArgs false
set_option maxRecDepth 100000
set_option exponentiation.threshold 100000
set_option maxHeartbeats 2000000

theorem panel_0_6 {code : List Int} (hc : IsCode code) {n : Nat} (hn : n ≤ 1152921504606800000) {b : AV} (hb : Tail code n b) {P : AV → St} (C : Cur 0 6 P) :
    ∃ r u, (∃ p : Sample, r = avSample p ∧ FitS p ∧ Tail code (n + 4000) u) ∧ orc.ic n_s_l1Cur_panel [.ptr (plCur 0 6), .d tI 8] (P b) r (P u) := by
  suffices H : ∃ r s, (∃ (p : Sample) (u : AV), r = avSample p ∧ s = P u ∧ FitS p ∧ Tail code (n + 4000) u) ∧ orc.ic n_s_l1Cur_panel [.ptr (plCur 0 6), .d tI 8] (P b) r s by
    obtain ⟨r, s, ⟨p, u, rfl, rfl, h1, h2⟩, h⟩ := H
    exact ⟨_, u, ⟨p, rfl, h1, h2⟩, h⟩
  refine ex_inl (fun r s h => p_s_l1Cur_panel true (C.pos _) rfl rfl h) ?_
  obtain ⟨n0, u1, c1, m1, t1⟩ := among_1_6 hc (by omega) hb ⟨⟨0, 16, false⟩, []⟩ [5, 8, 3, 1, 0, 10, 16] (by simp)
  obtain ⟨silent, u2, c2, t2⟩ := one_1_6 hc (by omega) t1 3
  obtain ⟨N, rfl, hN⟩ : ∃ N : Nat, n0 = N ∧ N ≤ 16 := ⟨n0.toNat, by simp at m1; omega, by simp at m1; omega⟩
  conv => whnf
  refine ⟨_, _, c1 _ (C.lift _) (fun _ => rfl), ?_⟩
  conv => whnf
  refine ⟨_, _, c2 _ (C.lift _), ?_⟩
  conv => whnf
  refine loop_upt (X := Int × List Int × AV) (fun (d, tr, u) => [⟨0, 8, false, .d tI d⟩, ⟨0, 5, true, .pair .unit (.pair (.own tIS (.ow .fz) []) (.pair (.own tI .fz tr) .unit))⟩]) (fun (_, _, u) => P u) (fun (d, _, _) => N - d.toNat)
    (fun (d, tr, u) => ∃ m : Nat, d = m ∧ m ≤ N ∧ tr.length = m ∧ Tail code (n + 4 + 2 * m) u) (0, [], u2) ?_ ⟨0, rfl, by omega, rfl, t2.le (by omega)⟩ ?_
  · refine st_eq ?_
    conv => whnf
    exact ⟨rfl⟩
  rintro ⟨_, tr, u⟩ ⟨m, rfl, hm, htr, t3⟩
  conv => whnf
  refine cond_intro (fun h => ?_) (fun h => ?_)
  · have h : m < N := by simpa using h
    obtain ⟨r3, u3, c3, b3, t4⟩ := pick_1_6 hc (by omega) t3 2
    conv => whnf
    refine ⟨_, _, _, c3.drawn (t3.reg t4) (C.lift _) _, ?_⟩
    conv => whnf
    refine ⟨⟨room_snoc (by omega) (by decide), len_snoc (by omega)⟩, ?_⟩
    conv => whnf
    refine ⟨(_, _, _), rfl, ⟨m + 1, wrap_succ h (by unfold Short; omega), by omega, (List.length_append ..).trans (by rw [htr]; rfl), t4.le (by omega)⟩, ?_⟩
    rw [wrap_succ h (by unfold Short; omega)]; simp; omega
  have h : m = N := by have := of_decide_eq_false h; omega
  subst h
  obtain ⟨k0, u3, c3, m3, t4⟩ := among_1_6 hc (by omega) t3 ⟨⟨0, 35, false⟩, []⟩ [3, 4, 2, 1, 5, 8] (by simp)
  have hk0 : 1 ≤ k0 ∧ k0 ≤ 8 := by simp at m3; omega
  have hle : least k0 8 = k0 := by unfold least; split <;> omega
  conv => whnf
  refine ⟨_, _, c3 _ (C.lift _) (fun _ => rfl), ?_⟩
  conv => whnf
  refine ⟨_, s_l1Least_ok _ _, (by first | exact (fun _ => rfl) | exact (fun h => Bool.noConfusion h)), ?_⟩
  conv => whnf
  rw [hle]
  refine loop_upt (X := Int × List (List Int) × AV) (fun (k, l, u) => [⟨0, 9, false, .d tI k⟩, ⟨0, 5, true, .pair .unit (.pair (.own tIS (.ow .fz) l) (.pair (.own tI .fz tr) .unit))⟩]) (fun (_, _, u) => P u) (fun (k, _, _) => k.toNat)
    (fun (k, l, u) => 0 ≤ k ∧ l.length + k.toNat = k0.toNat ∧ (∀ x ∈ l, x.length = m) ∧ Tail code (n + 40 + 200 * l.length) u) (k0, [], u3) ?_ ⟨by omega, by simp, by simp, t4.le (by omega)⟩ ?_
  · refine st_eq ?_
    conv => whnf
    exact ⟨rfl⟩
  rintro ⟨k, l, u⟩ ⟨hk, hlk, hrows, t5⟩
  conv => whnf
  refine cond_intro (fun h => ?_) (fun h => ?_)
  · have h : 0 < k := by simpa using h
    obtain ⟨good, u5, c5, t6⟩ := one_1_6 hc (by omega) t5 3
    conv => whnf
    refine ⟨_, _, c5 _ (C.lift _), ?_⟩
    conv => whnf
    refine loop_upt (X := Int × List Int × AV) (fun (d, row, u) => [⟨0, 12, false, .d tI d⟩, ⟨0, 10, false, .own tI .fz row⟩]) (fun (_, _, u) => P u) (fun (d, _, _) => m - d.toNat)
      (fun (d, row, u) => ∃ e : Nat, d = e ∧ e ≤ m ∧ row.length = e ∧ Tail code (n + 44 + 200 * l.length + 6 * e) u) (0, [], u5) ?_ ⟨0, rfl, by omega, rfl, t6.le (by omega)⟩ ?_
    · refine st_eq ?_
      conv => whnf
      exact ⟨rfl⟩
    rintro ⟨_, row, u⟩ ⟨e, rfl, he, hrow, t7⟩
    conv => whnf
    refine cond_intro (fun h => ?_) (fun h => ?_)
    · have h : e < m := by simpa using h
      obtain ⟨r8, u8, c8, b8, t8⟩ := pick_1_6 hc (by omega) t7 2
      conv => whnf
      refine ⟨_, _, c8 _ (C.lift _), ?_⟩
      cases good with
      | false =>
        cases silent with
        | false =>
          conv => whnf
          refine ⟨⟨room_snoc (by omega) (by decide), len_snoc (by omega)⟩, ?_⟩
          conv => whnf
          refine ⟨(_, _, _), rfl, ⟨e + 1, wrap_succ h (by unfold Short; omega), by omega, (List.length_append ..).trans (by rw [hrow]; rfl), t8.le (by omega)⟩, ?_⟩
          rw [wrap_succ h (by unfold Short; omega)]; simp; omega
        | true =>
          obtain ⟨r10, u10, c10, t10⟩ := one_1_6 hc (by omega) t8 4
          conv => whnf
          refine ⟨_, _, c10 _ (C.lift _), ?_⟩
          cases r10 with
          | false =>
            conv => whnf
            refine ⟨⟨room_snoc (by omega) (by decide), len_snoc (by omega)⟩, ?_⟩
            conv => whnf
            refine ⟨(_, _, _), rfl, ⟨e + 1, wrap_succ h (by unfold Short; omega), by omega, (List.length_append ..).trans (by rw [hrow]; rfl), t10.le (by omega)⟩, ?_⟩
            rw [wrap_succ h (by unfold Short; omega)]; simp; omega
          | true =>
            conv => whnf
            refine ⟨⟨room_snoc (by omega) (by decide), len_snoc (by omega)⟩, ?_⟩
            conv => whnf
            refine ⟨(_, _, _), rfl, ⟨e + 1, wrap_succ h (by unfold Short; omega), by omega, (List.length_append ..).trans (by rw [hrow]; rfl), t10.le (by omega)⟩, ?_⟩
            rw [wrap_succ h (by unfold Short; omega)]; simp; omega
      | true =>
        obtain ⟨r9, u9, c9, t9⟩ := one_1_6 hc (by omega) t8 6
        conv => whnf
        refine ⟨_, _, c9 _ (C.lift _), ?_⟩
        cases r9 with
        | true =>
          cases silent with
          | false =>
            conv => whnf
            refine ⟨⟨room_snoc (by omega) (by decide), len_snoc (by omega)⟩, ?_⟩
            conv => whnf
            refine ⟨(_, _, _), rfl, ⟨e + 1, wrap_succ h (by unfold Short; omega), by omega, (List.length_append ..).trans (by rw [hrow]; rfl), t9.le (by omega)⟩, ?_⟩
            rw [wrap_succ h (by unfold Short; omega)]; simp; omega
          | true =>
            obtain ⟨r10, u10, c10, t10⟩ := one_1_6 hc (by omega) t9 4
            conv => whnf
            refine ⟨_, _, c10 _ (C.lift _), ?_⟩
            cases r10 with
            | false =>
              conv => whnf
              refine ⟨⟨room_snoc (by omega) (by decide), len_snoc (by omega)⟩, ?_⟩
              conv => whnf
              refine ⟨(_, _, _), rfl, ⟨e + 1, wrap_succ h (by unfold Short; omega), by omega, (List.length_append ..).trans (by rw [hrow]; rfl), t10.le (by omega)⟩, ?_⟩
              rw [wrap_succ h (by unfold Short; omega)]; simp; omega
            | true =>
              conv => whnf
              refine ⟨⟨room_snoc (by omega) (by decide), len_snoc (by omega)⟩, ?_⟩
              conv => whnf
              refine ⟨(_, _, _), rfl, ⟨e + 1, wrap_succ h (by unfold Short; omega), by omega, (List.length_append ..).trans (by rw [hrow]; rfl), t10.le (by omega)⟩, ?_⟩
              rw [wrap_succ h (by unfold Short; omega)]; simp; omega
        | false =>
          conv => whnf
          refine ⟨⟨Int.natCast_nonneg _, by rw [htr]; omega⟩, ?_⟩
          conv => whnf
          refine ⟨(by omega), ?_⟩
          conv => whnf
          cases silent with
          | false =>
            conv => whnf
            refine ⟨⟨room_snoc (by omega) (by decide), len_snoc (by omega)⟩, ?_⟩
            conv => whnf
            refine ⟨(_, _, _), rfl, ⟨e + 1, wrap_succ h (by unfold Short; omega), by omega, (List.length_append ..).trans (by rw [hrow]; rfl), t9.le (by omega)⟩, ?_⟩
            rw [wrap_succ h (by unfold Short; omega)]; simp; omega
          | true =>
            obtain ⟨r10, u10, c10, t10⟩ := one_1_6 hc (by omega) t9 4
            conv => whnf
            refine ⟨_, _, c10 _ (C.lift _), ?_⟩
            cases r10 with
            | false =>
              conv => whnf
              refine ⟨⟨room_snoc (by omega) (by decide), len_snoc (by omega)⟩, ?_⟩
              conv => whnf
              refine ⟨(_, _, _), rfl, ⟨e + 1, wrap_succ h (by unfold Short; omega), by omega, (List.length_append ..).trans (by rw [hrow]; rfl), t10.le (by omega)⟩, ?_⟩
              rw [wrap_succ h (by unfold Short; omega)]; simp; omega
            | true =>
              conv => whnf
              refine ⟨⟨room_snoc (by omega) (by decide), len_snoc (by omega)⟩, ?_⟩
              conv => whnf
              refine ⟨(_, _, _), rfl, ⟨e + 1, wrap_succ h (by unfold Short; omega), by omega, (List.length_append ..).trans (by rw [hrow]; rfl), t10.le (by omega)⟩, ?_⟩
              rw [wrap_succ h (by unfold Short; omega)]; simp; omega
    · have h : e = m := by have := of_decide_eq_false h; omega
      subst h
      conv => whnf
      refine ⟨⟨room_snoc (by omega) (by decide), len_snoc (by omega)⟩, ?_⟩
      conv => whnf
      have hw : IntKind.i64.wrap (k - 1) = k - 1 := wrap_in (by omega) (by omega)
      have hln : (l ++ [row]).length = l.length + 1 := by simp
      refine ⟨(_, _, _), rfl, ⟨by rw [hw]; omega, ?_, ?_, t7.le ?_⟩, ?_⟩
      · show (l ++ [row]).length + _ = _
        rw [hw, hln]; omega
      · intro x hx
        rcases List.mem_append.1 hx with hx | hx
        · exact hrows x hx
        · have hx : x = row := List.mem_singleton.1 hx
          rw [hx, hrow]
      · show _ ≤ n + 40 + 200 * (l ++ [row]).length
        rw [hln]; omega
      · rw [hw]; show (k - 1).toNat < k.toNat; omega
  have h : ¬ 0 < k := by simpa using h
  have hl8 : l.length ≤ 8 := by omega
  have hl1 : 1 ≤ l.length := by omega
  have fitl : ∀ (l' : List (List Int)), l'.length ≤ 9 → (∀ x ∈ l', x.length ≤ 17) → ∀ tr' : List Int, tr'.length ≤ 17 → FitS (l', tr', ()) := fun l' h1 h2 tr' h3 =>
    ⟨⟨by show l'.length ≤ 1048576; omega, fun x hx => by have := h2 x hx; omega⟩, by show tr'.length ≤ 1048576; omega⟩
  have hr17 : ∀ x ∈ l, x.length ≤ 17 := fun x hx => by have := hrows x hx; omega
  obtain ⟨sw, u11, c11, b11, t11⟩ := pick_1_6 hc (by omega) t5 40
  conv => whnf
  refine ⟨_, _, c11 _ (C.lift _), ?_⟩
  conv => whnf
  refine cond_intro (fun h => ?_) (fun h => ?_)
  · conv => whnf
    refine ⟨⟨room_snoc (by omega) (by decide), len_snoc (by omega)⟩, ?_⟩
    conv => whnf
    exact ⟨_, rfl, (l, _, ()), _, rfl, rfl, fitl _ (by omega) hr17 _ (by rw [List.length_append]; show tr.length + 1 ≤ 17; omega), t11.le (by omega)⟩
  conv => whnf
  refine cond_intro (fun h => ?_) (fun h => ?_)
  · conv => whnf
    refine cond_intro (fun h => ?_) (fun h => ?_)
    · obtain ⟨r12, u12, c12, b12, t12⟩ := pick_1_6 hc (by omega) t11 (m : Int)
      obtain ⟨r13, u13, c13, m13, t13⟩ := among_1_6 hc (by omega) t12 ⟨⟨0, 102, false⟩, []⟩ [2, -2, 0] (by simp)
      have b0 : r12 < (m : Int) := by have h := of_decide_eq_true h; exact b12.2.1 (by omega)
      have b1 := b12.1
      have hg : (l.getD 0 tIS.dflt).length = m := hrows _ (getD_mem (by omega) _)
      conv => whnf
      refine ⟨⟨by omega, by omega⟩, ?_⟩
      conv => whnf
      refine ⟨(by omega), ?_⟩
      conv => whnf
      refine ⟨_, _, _, c12.drawn (t11.reg t12) (C.lift _) _, ?_⟩
      conv => whnf
      refine ⟨_, _, _, c13.drawn (t12.reg t13) (C.lift _) (by intro _; exact rfl) _, ?_⟩
      conv => whnf
      refine ⟨(show (0 : Int).toNat < l.length by show 0 < l.length; omega), ?_⟩
      conv => whnf
      refine ⟨⟨b1, by show r12 < ((l.getD 0 tIS.dflt).length : Int); rw [hg]; exact b0⟩, ?_⟩
      conv => whnf
      refine ⟨(show (0 : Int).toNat < l.length by show 0 < l.length; omega), ?_⟩
      conv => whnf
      refine ⟨(show r12.toNat < (l.getD 0 tIS.dflt).length by rw [hg]; omega), ?_⟩
      conv => whnf
      exact ⟨_, rfl, (_, tr, ()), _, rfl, rfl, fitl _ (by show (l.set 0 _).length ≤ 9; simp; omega) (fun x hx => by
        rcases List.mem_or_eq_of_mem_set hx with hx | rfl
        · exact hr17 x hx
        · show ((l.getD 0 tIS.dflt).set _ _).length ≤ 17
          rw [List.length_set, hg]; omega) _ (by omega), t13.le (by omega)⟩
    · conv => whnf
      exact ⟨_, rfl, (l, tr, ()), _, rfl, rfl, fitl _ (by omega) hr17 _ (by omega), t11.le (by omega)⟩
  conv => whnf
  refine cond_intro (fun h => ?_) (fun h => ?_)
  · conv => whnf
    refine cond_intro (fun h => ?_) (fun h => ?_)
    · obtain ⟨r12, u12, c12, b12, t12⟩ := pick_1_6 hc (by omega) t11 (m : Int)
      obtain ⟨r13, u13, c13, m13, t13⟩ := among_1_6 hc (by omega) t12 ⟨⟨0, 115, false⟩, []⟩ [0, 2] (by simp)
      have b0 : r12 < (m : Int) := by have h := of_decide_eq_true h; exact b12.2.1 (by omega)
      have b1 := b12.1
      conv => whnf
      refine ⟨_, _, _, c12.drawn (t11.reg t12) (C.lift _) _, ?_⟩
      conv => whnf
      refine ⟨_, _, _, c13.drawn (t12.reg t13) (C.lift _) (by intro _; exact rfl) _, ?_⟩
      conv => whnf
      refine ⟨⟨b1, by rw [htr]; exact b0⟩, ?_⟩
      conv => whnf
      refine ⟨(by rw [htr]; omega), ?_⟩
      conv => whnf
      exact ⟨_, rfl, (l, _, ()), _, rfl, rfl, fitl _ (by omega) hr17 _ (by show (tr.set _ _).length ≤ 17; rw [List.length_set]; omega), t13.le (by omega)⟩
    · conv => whnf
      exact ⟨_, rfl, (l, tr, ()), _, rfl, rfl, fitl _ (by omega) hr17 _ (by omega), t11.le (by omega)⟩
  conv => whnf
  refine cond_intro (fun h => ?_) (fun h => ?_)
  · refine loop_upt (X := List (List Int)) (fun l => [⟨0, 5, true, .pair .unit (.pair (.own tIS (.ow .fz) l) (.pair (.own tI .fz tr) .unit))⟩]) (fun _ => P u11) (fun l => 9 - l.length)
      (fun l => l.length ≤ 9 ∧ ∀ x ∈ l, x.length ≤ 17) l ?_ ⟨by omega, hr17⟩ ?_
    · refine st_eq ?_
      conv => whnf
      exact ⟨rfl⟩
    rintro l ⟨hl9, hr9⟩
    conv => whnf
    refine cond_intro (fun h => ?_) (fun h => ?_)
    · have h : l.length < 9 := by have := of_decide_eq_true h; exact Int.ofNat_lt.1 this
      conv => whnf
      refine ⟨room_make (Int.natCast_nonneg _) (by omega) (by decide), ?_⟩
      conv => whnf
      refine ⟨⟨room_snoc (by omega) (by decide), len_snoc (by omega)⟩, ?_⟩
      conv => whnf
      have hln : (l ++ [List.replicate m (0 : Int)]).length = l.length + 1 := by simp
      refine ⟨_, rfl, ⟨?_, ?_⟩, ?_⟩
      · show (l ++ [List.replicate m (0 : Int)]).length ≤ 9
        omega
      · intro x hx
        rcases List.mem_append.1 hx with hx | hx
        · exact hr9 x hx
        · have hx : x = List.replicate m (0 : Int) := List.mem_singleton.1 hx
          rw [hx, List.length_replicate]; omega
      · show 9 - (l ++ [List.replicate m (0 : Int)]).length < 9 - l.length
        omega
    · conv => whnf
      exact ⟨_, rfl, (l, tr, ()), _, rfl, rfl, fitl _ (by omega) hr9 _ (by omega), t11.le (by omega)⟩
  conv => whnf
  refine cond_intro (fun h => ?_) (fun h => ?_)
  · conv => whnf
    exact ⟨_, rfl, ([], [], ()), _, rfl, rfl, fitl _ (by simp) (by simp) _ (by simp), t11.le (by omega)⟩
  · conv => whnf
    exact ⟨_, rfl, (l, tr, ()), _, rfl, rfl, fitl _ (by omega) hr17 _ (by omega), t11.le (by omega)⟩


end Go.Proofs.Ytlndfmmigndgeaa.Ev
