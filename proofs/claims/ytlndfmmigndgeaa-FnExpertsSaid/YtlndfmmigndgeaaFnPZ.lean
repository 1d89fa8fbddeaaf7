/- Draws: methods of the cursor, by the place where it lies. -/
import Derived.Test.YtlndfmmigndgeaaFnPA
namespace Go.Proofs.Ytlndfmmigndgeaa.Ev
open Go
set_option linter.unusedVariables false
set_option linter.unusedSimpArgs false
set_option maxRecDepth 100000
set_option exponentiation.threshold 100000
set_option maxHeartbeats 2000000

theorem next_2_6 {code : List Int} (hc : IsCode code) {n : Nat} (hn : n ≤ 1152921504606846976) {b : AV} (hb : Tail code n b) :
    ∃ (r : Int) (u : AV), CC n_s_l1Cur_next 2 6 [] b u (.d tI r) ∧ (0 ≤ r ∧ r ≤ 255) ∧ Tail code (n + 1) u := by
  have hlen := hc.len
  have main : ∀ (a : Nat) (s : Int), a ≤ n → ∀ b, b = .pair .unit (.pair (.d tB code) (.pair (.d tI (a : Int)) (.pair (.d t64 s) .unit))) →
      CC n_s_l1Cur_next 2 6 [] b (.pair .unit (.pair (.d tB code) (.pair (.d tI ((a + 1 : Nat) : Int)) (.pair (.d t64 (nextS code a s)) .unit)))) (.d tI (nextR code a s)) := by
    intro a s ha b hb P C
    have hw : IntKind.i64.wrap ((a : Int) + 1) = ((a + 1 : Nat) : Int) := by rw [wrap_in (by omega) (by omega)]; omega
    refine p_s_l1Cur_next true (C.pos _) rfl rfl ?_
    subst hb
    all_goals
      conv => whnf
      repeat ((first | refine Cur.look C _ _ _ ⟨rfl, rfl, ?_⟩ | refine Cur.get C _ _ _ ?_ | refine Cur.tel C _ _ _ ?_); conv => whnf)
      refine cond_intro (fun h => ?_) (fun h => ?_)
      · have h : a < code.length := Int.ofNat_lt.1 (of_decide_eq_true h)
        have eb : byteC code a = IntKind.i64.wrap (code.getD a 0) := if_pos h
        have er : nextR code a s = byteC code a := if_pos h
        have es : nextS code a s = stepS s (IntKind.i64.wrap (code.getD a 0)) := congrArg (stepS s) eb
        conv => whnf
        repeat ((first | refine Cur.look C _ _ _ ⟨rfl, rfl, ?_⟩ | refine Cur.get C _ _ _ ?_ | refine Cur.tel C _ _ _ ?_); conv => whnf)
        refine ⟨⟨Int.natCast_nonneg _, Int.ofNat_lt.2 h⟩, ?_⟩
        conv => whnf
        repeat ((first | refine Cur.look C _ _ _ ⟨rfl, rfl, ?_⟩ | refine Cur.get C _ _ _ ?_ | refine Cur.tel C _ _ _ ?_); conv => whnf)
        refine Cur.put C _ _ _ _ _ rfl ?_
        conv => whnf
        repeat ((first | refine Cur.look C _ _ _ ⟨rfl, rfl, ?_⟩ | refine Cur.get C _ _ _ ?_ | refine Cur.tel C _ _ _ ?_); conv => whnf)
        refine Cur.put C _ _ _ _ _ rfl ?_
        conv => whnf
        repeat ((first | refine Cur.look C _ _ _ ⟨rfl, rfl, ?_⟩ | refine Cur.get C _ _ _ ?_ | refine Cur.tel C _ _ _ ?_); conv => whnf)
        refine cond_intro (fun h => ?_) (fun h => ?_)
        · conv => whnf
          exact ⟨_, rfl, by rw [er, eb]; rfl, by rw [← hw, es]; rfl⟩
        · exfalso
          have h := of_decide_eq_false h
          exact h (by show IntKind.i64.wrap ((a : Int) + 1) ≤ (code.length : Int); rw [hw]; omega)
      · have h : ¬ a < code.length := fun e => by simp [e] at h
        have eb : byteC code a = 0 := if_neg h
        have er := nextR_no h s
        have es : nextS code a s = stepS s 0 := congrArg (stepS s) eb
        conv => whnf
        repeat ((first | refine Cur.look C _ _ _ ⟨rfl, rfl, ?_⟩ | refine Cur.get C _ _ _ ?_ | refine Cur.tel C _ _ _ ?_); conv => whnf)
        refine Cur.put C _ _ _ _ _ rfl ?_
        conv => whnf
        repeat ((first | refine Cur.look C _ _ _ ⟨rfl, rfl, ?_⟩ | refine Cur.get C _ _ _ ?_ | refine Cur.tel C _ _ _ ?_); conv => whnf)
        refine Cur.put C _ _ _ _ _ rfl ?_
        conv => whnf
        repeat ((first | refine Cur.look C _ _ _ ⟨rfl, rfl, ?_⟩ | refine Cur.get C _ _ _ ?_ | refine Cur.tel C _ _ _ ?_); conv => whnf)
        refine cond_intro (fun h => ?_) (fun h => ?_)
        · exfalso
          have h := of_decide_eq_true h
          have h : IntKind.i64.wrap ((a : Int) + 1) ≤ (code.length : Int) := h
          rw [hw] at h
          omega
        · conv => whnf
          repeat ((first | refine Cur.look C _ _ _ ⟨rfl, rfl, ?_⟩ | refine Cur.get C _ _ _ ?_ | refine Cur.tel C _ _ _ ?_); conv => whnf)
          refine ⟨(by decide), ?_⟩
          conv => whnf
          exact ⟨_, rfl, by rw [er, es]; rfl, by rw [← hw, es]; rfl⟩
  obtain ⟨a, s, ha⟩ := hb
  exact ⟨_, _, main a s ha _ rfl, nextR_in hc a s, .mk _ _ (by omega)⟩

theorem next_3_6 {code : List Int} (hc : IsCode code) {n : Nat} (hn : n ≤ 1152921504606846976) {b : AV} (hb : Tail code n b) :
    ∃ (r : Int) (u : AV), CC n_s_l1Cur_next 3 6 [] b u (.d tI r) ∧ (0 ≤ r ∧ r ≤ 255) ∧ Tail code (n + 1) u := by
  have hlen := hc.len
  have main : ∀ (a : Nat) (s : Int), a ≤ n → ∀ b, b = .pair .unit (.pair (.d tB code) (.pair (.d tI (a : Int)) (.pair (.d t64 s) .unit))) →
      CC n_s_l1Cur_next 3 6 [] b (.pair .unit (.pair (.d tB code) (.pair (.d tI ((a + 1 : Nat) : Int)) (.pair (.d t64 (nextS code a s)) .unit)))) (.d tI (nextR code a s)) := by
    intro a s ha b hb P C
    have hw : IntKind.i64.wrap ((a : Int) + 1) = ((a + 1 : Nat) : Int) := by rw [wrap_in (by omega) (by omega)]; omega
    refine p_s_l1Cur_next true (C.pos _) rfl rfl ?_
    subst hb
    all_goals
      conv => whnf
      repeat ((first | refine Cur.look C _ _ _ ⟨rfl, rfl, ?_⟩ | refine Cur.get C _ _ _ ?_ | refine Cur.tel C _ _ _ ?_); conv => whnf)
      refine cond_intro (fun h => ?_) (fun h => ?_)
      · have h : a < code.length := Int.ofNat_lt.1 (of_decide_eq_true h)
        have eb : byteC code a = IntKind.i64.wrap (code.getD a 0) := if_pos h
        have er : nextR code a s = byteC code a := if_pos h
        have es : nextS code a s = stepS s (IntKind.i64.wrap (code.getD a 0)) := congrArg (stepS s) eb
        conv => whnf
        repeat ((first | refine Cur.look C _ _ _ ⟨rfl, rfl, ?_⟩ | refine Cur.get C _ _ _ ?_ | refine Cur.tel C _ _ _ ?_); conv => whnf)
        refine ⟨⟨Int.natCast_nonneg _, Int.ofNat_lt.2 h⟩, ?_⟩
        conv => whnf
        repeat ((first | refine Cur.look C _ _ _ ⟨rfl, rfl, ?_⟩ | refine Cur.get C _ _ _ ?_ | refine Cur.tel C _ _ _ ?_); conv => whnf)
        refine Cur.put C _ _ _ _ _ rfl ?_
        conv => whnf
        repeat ((first | refine Cur.look C _ _ _ ⟨rfl, rfl, ?_⟩ | refine Cur.get C _ _ _ ?_ | refine Cur.tel C _ _ _ ?_); conv => whnf)
        refine Cur.put C _ _ _ _ _ rfl ?_
        conv => whnf
        repeat ((first | refine Cur.look C _ _ _ ⟨rfl, rfl, ?_⟩ | refine Cur.get C _ _ _ ?_ | refine Cur.tel C _ _ _ ?_); conv => whnf)
        refine cond_intro (fun h => ?_) (fun h => ?_)
        · conv => whnf
          exact ⟨_, rfl, by rw [er, eb]; rfl, by rw [← hw, es]; rfl⟩
        · exfalso
          have h := of_decide_eq_false h
          exact h (by show IntKind.i64.wrap ((a : Int) + 1) ≤ (code.length : Int); rw [hw]; omega)
      · have h : ¬ a < code.length := fun e => by simp [e] at h
        have eb : byteC code a = 0 := if_neg h
        have er := nextR_no h s
        have es : nextS code a s = stepS s 0 := congrArg (stepS s) eb
        conv => whnf
        repeat ((first | refine Cur.look C _ _ _ ⟨rfl, rfl, ?_⟩ | refine Cur.get C _ _ _ ?_ | refine Cur.tel C _ _ _ ?_); conv => whnf)
        refine Cur.put C _ _ _ _ _ rfl ?_
        conv => whnf
        repeat ((first | refine Cur.look C _ _ _ ⟨rfl, rfl, ?_⟩ | refine Cur.get C _ _ _ ?_ | refine Cur.tel C _ _ _ ?_); conv => whnf)
        refine Cur.put C _ _ _ _ _ rfl ?_
        conv => whnf
        repeat ((first | refine Cur.look C _ _ _ ⟨rfl, rfl, ?_⟩ | refine Cur.get C _ _ _ ?_ | refine Cur.tel C _ _ _ ?_); conv => whnf)
        refine cond_intro (fun h => ?_) (fun h => ?_)
        · exfalso
          have h := of_decide_eq_true h
          have h : IntKind.i64.wrap ((a : Int) + 1) ≤ (code.length : Int) := h
          rw [hw] at h
          omega
        · conv => whnf
          repeat ((first | refine Cur.look C _ _ _ ⟨rfl, rfl, ?_⟩ | refine Cur.get C _ _ _ ?_ | refine Cur.tel C _ _ _ ?_); conv => whnf)
          refine ⟨(by decide), ?_⟩
          conv => whnf
          exact ⟨_, rfl, by rw [er, es]; rfl, by rw [← hw, es]; rfl⟩
  obtain ⟨a, s, ha⟩ := hb
  exact ⟨_, _, main a s ha _ rfl, nextR_in hc a s, .mk _ _ (by omega)⟩

theorem pick_1_6 {code : List Int} (hc : IsCode code) {n : Nat} (hn : n ≤ 1152921504606846000) {b : AV} (hb : Tail code n b) (m : Int) :
    ∃ (r : Int) (u : AV), CC n_s_l1Cur_pick 1 6 [.d tI m] b u (.d tI r) ∧ (0 ≤ r ∧ (1 ≤ m → r < m) ∧ (m ≤ 1 → r = 0)) ∧ Tail code (n + 2) u := by
  by_cases h1 : m ≤ 1
  · refine ⟨0, b, fun P C => ?_, ⟨by omega, fun h => by omega, fun _ => rfl⟩, hb.le (by omega)⟩
    refine p_s_l1Cur_pick true (C.pos _) rfl rfl ?_
    conv => whnf
    refine cond_t (decide_eq_true h1) ?_
    conv => whnf
    exact ⟨_, rfl, rfl, rfl⟩
  obtain ⟨r1, u1, c1, b1, t1⟩ := next_2_6 hc (by omega) hb
  by_cases h2 : m > 200
  · obtain ⟨r2, u2, c2, b2, t2⟩ := next_2_6 hc (by omega) t1
    have hw : IntKind.i64.wrap (IntKind.i64.wrap (r1 * 256) + r2) = r1 * 256 + r2 := by rw [wrap_in (n := r1 * 256) (by omega) (by omega), wrap_in (by omega) (by omega)]
    have hm := Int.tmod_lt_of_pos (r1 * 256 + r2) (show (0 : Int) < m by omega)
    have h0 := Int.tmod_nonneg m (show (0 : Int) ≤ r1 * 256 + r2 by omega)
    refine ⟨(r1 * 256 + r2).tmod m, u2, fun P C => ?_, ⟨h0, fun _ => hm, fun h => by omega⟩, t2.le (by omega)⟩
    refine p_s_l1Cur_pick true (C.pos _) rfl rfl ?_
    conv => whnf
    refine cond_f (decide_eq_false h1) ?_
    conv => whnf
    refine ⟨_, _, c1 _ (C.lift _), ?_⟩
    conv => whnf
    refine cond_t (decide_eq_true h2) ?_
    conv => whnf
    refine ⟨_, _, c2 _ (C.lift _), ?_⟩
    conv => whnf
    refine ⟨(by omega), ?_⟩
    conv => whnf
    exact ⟨_, rfl, by rw [← hw], rfl⟩
  · have hm := Int.tmod_lt_of_pos r1 (show (0 : Int) < m by omega)
    have h0 := Int.tmod_nonneg m (show (0 : Int) ≤ r1 by omega)
    refine ⟨r1.tmod m, u1, fun P C => ?_, ⟨h0, fun _ => hm, fun h => by omega⟩, t1.le (by omega)⟩
    refine p_s_l1Cur_pick true (C.pos _) rfl rfl ?_
    conv => whnf
    refine cond_f (decide_eq_false h1) ?_
    conv => whnf
    refine ⟨_, _, c1 _ (C.lift _), ?_⟩
    conv => whnf
    refine cond_f (decide_eq_false h2) ?_
    conv => whnf
    refine ⟨(by intro e; omega), ?_⟩
    conv => whnf
    exact ⟨_, rfl, rfl, rfl⟩

theorem pick_2_6 {code : List Int} (hc : IsCode code) {n : Nat} (hn : n ≤ 1152921504606846000) {b : AV} (hb : Tail code n b) (m : Int) :
    ∃ (r : Int) (u : AV), CC n_s_l1Cur_pick 2 6 [.d tI m] b u (.d tI r) ∧ (0 ≤ r ∧ (1 ≤ m → r < m) ∧ (m ≤ 1 → r = 0)) ∧ Tail code (n + 2) u := by
  by_cases h1 : m ≤ 1
  · refine ⟨0, b, fun P C => ?_, ⟨by omega, fun h => by omega, fun _ => rfl⟩, hb.le (by omega)⟩
    refine p_s_l1Cur_pick true (C.pos _) rfl rfl ?_
    conv => whnf
    refine cond_t (decide_eq_true h1) ?_
    conv => whnf
    exact ⟨_, rfl, rfl, rfl⟩
  obtain ⟨r1, u1, c1, b1, t1⟩ := next_3_6 hc (by omega) hb
  by_cases h2 : m > 200
  · obtain ⟨r2, u2, c2, b2, t2⟩ := next_3_6 hc (by omega) t1
    have hw : IntKind.i64.wrap (IntKind.i64.wrap (r1 * 256) + r2) = r1 * 256 + r2 := by rw [wrap_in (n := r1 * 256) (by omega) (by omega), wrap_in (by omega) (by omega)]
    have hm := Int.tmod_lt_of_pos (r1 * 256 + r2) (show (0 : Int) < m by omega)
    have h0 := Int.tmod_nonneg m (show (0 : Int) ≤ r1 * 256 + r2 by omega)
    refine ⟨(r1 * 256 + r2).tmod m, u2, fun P C => ?_, ⟨h0, fun _ => hm, fun h => by omega⟩, t2.le (by omega)⟩
    refine p_s_l1Cur_pick true (C.pos _) rfl rfl ?_
    conv => whnf
    refine cond_f (decide_eq_false h1) ?_
    conv => whnf
    refine ⟨_, _, c1 _ (C.lift _), ?_⟩
    conv => whnf
    refine cond_t (decide_eq_true h2) ?_
    conv => whnf
    refine ⟨_, _, c2 _ (C.lift _), ?_⟩
    conv => whnf
    refine ⟨(by omega), ?_⟩
    conv => whnf
    exact ⟨_, rfl, by rw [← hw], rfl⟩
  · have hm := Int.tmod_lt_of_pos r1 (show (0 : Int) < m by omega)
    have h0 := Int.tmod_nonneg m (show (0 : Int) ≤ r1 by omega)
    refine ⟨r1.tmod m, u1, fun P C => ?_, ⟨h0, fun _ => hm, fun h => by omega⟩, t1.le (by omega)⟩
    refine p_s_l1Cur_pick true (C.pos _) rfl rfl ?_
    conv => whnf
    refine cond_f (decide_eq_false h1) ?_
    conv => whnf
    refine ⟨_, _, c1 _ (C.lift _), ?_⟩
    conv => whnf
    refine cond_f (decide_eq_false h2) ?_
    conv => whnf
    refine ⟨(by intro e; omega), ?_⟩
    conv => whnf
    exact ⟨_, rfl, rfl, rfl⟩

theorem one_1_6 {code : List Int} (hc : IsCode code) {n : Nat} (hn : n ≤ 1152921504606846000) {b : AV} (hb : Tail code n b) (m : Int) :
    ∃ (r : Bool) (u : AV), CC n_s_l1Cur_one 1 6 [.d tI m] b u (.d .bool r) ∧ Tail code (n + 2) u := by
  obtain ⟨r1, u1, c1, b1, t1⟩ := pick_2_6 hc hn hb m
  refine ⟨r1 == 0, u1, fun P C => ?_, t1⟩
  refine p_s_l1Cur_one true (C.pos _) rfl rfl ?_
  conv => whnf
  refine ⟨_, _, c1 _ (C.lift _), ?_⟩
  conv => whnf
  exact ⟨_, rfl, rfl, rfl⟩

theorem among_1_6 {code : List Int} (hc : IsCode code) {n : Nat} (hn : n ≤ 1152921504606846000) {b : AV} (hb : Tail code n b) (q : Pl) (l : List Int) (h0 : l ≠ []) :
    ∃ (r : Int) (u : AV), CL n_s_l1Cur_among 1 6 q l b u (.d tI r) ∧ r ∈ l ∧ Tail code (n + 2) u := by
  have hl : 0 < l.length := (List.length_pos_iff.2 h0)
  obtain ⟨r1, u1, c1, ⟨b1, b2, _⟩, t1⟩ := pick_2_6 hc hn hb (l.length : Int)
  have b2 := b2 (by omega)
  refine ⟨l.getD r1.toNat 0, u1, fun P C hg => ?_, getD_mem (by omega) 0, t1⟩
  have G : ∀ b K, K (.own tI .fz l) → GetP (P b) q K := fun b K h => by
    obtain ⟨s, h1, v, h2, e⟩ := GetP_iff.1 (hg b)
    subst e
    exact GetP_iff.2 ⟨s, h1, _, h2, h⟩
  refine p_s_l1Cur_among true (C.pos _) rfl rfl ?_
  conv => whnf
  refine G _ _ ?_
  conv => whnf
  refine ⟨_, _, c1 _ (C.lift _), ?_⟩
  conv => whnf
  refine G _ _ ?_
  conv => whnf
  refine ⟨⟨b1, by omega⟩, ?_⟩
  conv => whnf
  refine look_el (hg _) (by omega) ?_
  conv => whnf
  exact ⟨_, rfl, rfl, rfl⟩


end Go.Proofs.Ytlndfmmigndgeaa.Ev
