/- Draws: methods of the cursor, by the place where it lies. -/
import Derived.Test.YtlndfmmigndgeaaFnPA
import Derived.Test.YtlndfmmigndgeaaFnJ
import Derived.Test.YtlndfmmigndgeaaFnPL
import Derived.Test.YtlndfmmigndgeaaFnD
namespace Go.Proofs.Ytlndfmmigndgeaa.Ev
open Go
set_option linter.unusedVariables false
set_option linter.unusedSimpArgs false
set_option maxRecDepth 100000
set_option exponentiation.threshold 100000
set_option maxHeartbeats 2000000

theorem next_1_12 {code : List Int} (hc : IsCode code) {n : Nat} (hn : n ≤ 1152921504606846976) {b : AV} (hb : Tail code n b) :
    ∃ (r : Int) (u : AV), CC n_s_l1Cur_next 1 12 [] b u (.d tI r) ∧ (0 ≤ r ∧ r ≤ 255) ∧ Tail code (n + 1) u := by
  have hlen := hc.len
  have main : ∀ (a : Nat) (s : Int), a ≤ n → ∀ b, b = .pair .unit (.pair (.d tB code) (.pair (.d tI (a : Int)) (.pair (.d t64 s) .unit))) →
      CC n_s_l1Cur_next 1 12 [] b (.pair .unit (.pair (.d tB code) (.pair (.d tI ((a + 1 : Nat) : Int)) (.pair (.d t64 (nextS code a s)) .unit)))) (.d tI (nextR code a s)) := by
    intro a s ha b hb P C
    have hw : IntKind.i64.wrap ((a : Int) + 1) = ((a + 1 : Nat) : Int) := by rw [wrap_in (by omega) (by omega)]; omega
    refine p_s_l1Cur_next true (C.pos _) rfl rfl ?_
    subst hb
    all_goals
      conv => whnf
      repeat ((first | refine Cur.look C _ _ _ ⟨rfl, rfl, ?_⟩ | refine Cur.get C _ _ _ ?_ | refine Cur.tel C _ _ _ ?_); conv => whnf)
      refine cond_intro (fun h => ?_) (fun h => ?_)
      · have h : a < code.length := Int.ofNat_lt.1 (of_decide_eq_true h)
        have eb : byteC code a = IntKind.i64.wrap (code.getD a 0) := if_pos h
        have er : nextR code a s = byteC code a := if_pos h
        have es : nextS code a s = stepS s (IntKind.i64.wrap (code.getD a 0)) := congrArg (stepS s) eb
        conv => whnf
        repeat ((first | refine Cur.look C _ _ _ ⟨rfl, rfl, ?_⟩ | refine Cur.get C _ _ _ ?_ | refine Cur.tel C _ _ _ ?_); conv => whnf)
        refine ⟨⟨Int.natCast_nonneg _, Int.ofNat_lt.2 h⟩, ?_⟩
        conv => whnf
        repeat ((first | refine Cur.look C _ _ _ ⟨rfl, rfl, ?_⟩ | refine Cur.get C _ _ _ ?_ | refine Cur.tel C _ _ _ ?_); conv => whnf)
        refine Cur.put C _ _ _ _ _ rfl ?_
        conv => whnf
        repeat ((first | refine Cur.look C _ _ _ ⟨rfl, rfl, ?_⟩ | refine Cur.get C _ _ _ ?_ | refine Cur.tel C _ _ _ ?_); conv => whnf)
        refine Cur.put C _ _ _ _ _ rfl ?_
        conv => whnf
        repeat ((first | refine Cur.look C _ _ _ ⟨rfl, rfl, ?_⟩ | refine Cur.get C _ _ _ ?_ | refine Cur.tel C _ _ _ ?_); conv => whnf)
        refine cond_intro (fun h => ?_) (fun h => ?_)
        · conv => whnf
          exact ⟨_, rfl, by rw [er, eb]; rfl, by rw [← hw, es]; rfl⟩
        · exfalso
          have h := of_decide_eq_false h
          exact h (by show IntKind.i64.wrap ((a : Int) + 1) ≤ (code.length : Int); rw [hw]; omega)
      · have h : ¬ a < code.length := fun e => by simp [e] at h
        have eb : byteC code a = 0 := if_neg h
        have er := nextR_no h s
        have es : nextS code a s = stepS s 0 := congrArg (stepS s) eb
        conv => whnf
        repeat ((first | refine Cur.look C _ _ _ ⟨rfl, rfl, ?_⟩ | refine Cur.get C _ _ _ ?_ | refine Cur.tel C _ _ _ ?_); conv => whnf)
        refine Cur.put C _ _ _ _ _ rfl ?_
        conv => whnf
        repeat ((first | refine Cur.look C _ _ _ ⟨rfl, rfl, ?_⟩ | refine Cur.get C _ _ _ ?_ | refine Cur.tel C _ _ _ ?_); conv => whnf)
        refine Cur.put C _ _ _ _ _ rfl ?_
        conv => whnf
        repeat ((first | refine Cur.look C _ _ _ ⟨rfl, rfl, ?_⟩ | refine Cur.get C _ _ _ ?_ | refine Cur.tel C _ _ _ ?_); conv => whnf)
        refine cond_intro (fun h => ?_) (fun h => ?_)
        · exfalso
          have h := of_decide_eq_true h
          have h : IntKind.i64.wrap ((a : Int) + 1) ≤ (code.length : Int) := h
          rw [hw] at h
          omega
        · conv => whnf
          repeat ((first | refine Cur.look C _ _ _ ⟨rfl, rfl, ?_⟩ | refine Cur.get C _ _ _ ?_ | refine Cur.tel C _ _ _ ?_); conv => whnf)
          refine ⟨(by decide), ?_⟩
          conv => whnf
          exact ⟨_, rfl, by rw [er, es]; rfl, by rw [← hw, es]; rfl⟩
  obtain ⟨a, s, ha⟩ := hb
  exact ⟨_, _, main a s ha _ rfl, nextR_in hc a s, .mk _ _ (by omega)⟩

theorem next_2_12 {code : List Int} (hc : IsCode code) {n : Nat} (hn : n ≤ 1152921504606846976) {b : AV} (hb : Tail code n b) :
    ∃ (r : Int) (u : AV), CC n_s_l1Cur_next 2 12 [] b u (.d tI r) ∧ (0 ≤ r ∧ r ≤ 255) ∧ Tail code (n + 1) u := by
  have hlen := hc.len
  have main : ∀ (a : Nat) (s : Int), a ≤ n → ∀ b, b = .pair .unit (.pair (.d tB code) (.pair (.d tI (a : Int)) (.pair (.d t64 s) .unit))) →
      CC n_s_l1Cur_next 2 12 [] b (.pair .unit (.pair (.d tB code) (.pair (.d tI ((a + 1 : Nat) : Int)) (.pair (.d t64 (nextS code a s)) .unit)))) (.d tI (nextR code a s)) := by
    intro a s ha b hb P C
    have hw : IntKind.i64.wrap ((a : Int) + 1) = ((a + 1 : Nat) : Int) := by rw [wrap_in (by omega) (by omega)]; omega
    refine p_s_l1Cur_next true (C.pos _) rfl rfl ?_
    subst hb
    all_goals
      conv => whnf
      repeat ((first | refine Cur.look C _ _ _ ⟨rfl, rfl, ?_⟩ | refine Cur.get C _ _ _ ?_ | refine Cur.tel C _ _ _ ?_); conv => whnf)
      refine cond_intro (fun h => ?_) (fun h => ?_)
      · have h : a < code.length := Int.ofNat_lt.1 (of_decide_eq_true h)
        have eb : byteC code a = IntKind.i64.wrap (code.getD a 0) := if_pos h
        have er : nextR code a s = byteC code a := if_pos h
        have es : nextS code a s = stepS s (IntKind.i64.wrap (code.getD a 0)) := congrArg (stepS s) eb
        conv => whnf
        repeat ((first | refine Cur.look C _ _ _ ⟨rfl, rfl, ?_⟩ | refine Cur.get C _ _ _ ?_ | refine Cur.tel C _ _ _ ?_); conv => whnf)
        refine ⟨⟨Int.natCast_nonneg _, Int.ofNat_lt.2 h⟩, ?_⟩
        conv => whnf
        repeat ((first | refine Cur.look C _ _ _ ⟨rfl, rfl, ?_⟩ | refine Cur.get C _ _ _ ?_ | refine Cur.tel C _ _ _ ?_); conv => whnf)
        refine Cur.put C _ _ _ _ _ rfl ?_
        conv => whnf
        repeat ((first | refine Cur.look C _ _ _ ⟨rfl, rfl, ?_⟩ | refine Cur.get C _ _ _ ?_ | refine Cur.tel C _ _ _ ?_); conv => whnf)
        refine Cur.put C _ _ _ _ _ rfl ?_
        conv => whnf
        repeat ((first | refine Cur.look C _ _ _ ⟨rfl, rfl, ?_⟩ | refine Cur.get C _ _ _ ?_ | refine Cur.tel C _ _ _ ?_); conv => whnf)
        refine cond_intro (fun h => ?_) (fun h => ?_)
        · conv => whnf
          exact ⟨_, rfl, by rw [er, eb]; rfl, by rw [← hw, es]; rfl⟩
        · exfalso
          have h := of_decide_eq_false h
          exact h (by show IntKind.i64.wrap ((a : Int) + 1) ≤ (code.length : Int); rw [hw]; omega)
      · have h : ¬ a < code.length := fun e => by simp [e] at h
        have eb : byteC code a = 0 := if_neg h
        have er := nextR_no h s
        have es : nextS code a s = stepS s 0 := congrArg (stepS s) eb
        conv => whnf
        repeat ((first | refine Cur.look C _ _ _ ⟨rfl, rfl, ?_⟩ | refine Cur.get C _ _ _ ?_ | refine Cur.tel C _ _ _ ?_); conv => whnf)
        refine Cur.put C _ _ _ _ _ rfl ?_
        conv => whnf
        repeat ((first | refine Cur.look C _ _ _ ⟨rfl, rfl, ?_⟩ | refine Cur.get C _ _ _ ?_ | refine Cur.tel C _ _ _ ?_); conv => whnf)
        refine Cur.put C _ _ _ _ _ rfl ?_
        conv => whnf
        repeat ((first | refine Cur.look C _ _ _ ⟨rfl, rfl, ?_⟩ | refine Cur.get C _ _ _ ?_ | refine Cur.tel C _ _ _ ?_); conv => whnf)
        refine cond_intro (fun h => ?_) (fun h => ?_)
        · exfalso
          have h := of_decide_eq_true h
          have h : IntKind.i64.wrap ((a : Int) + 1) ≤ (code.length : Int) := h
          rw [hw] at h
          omega
        · conv => whnf
          repeat ((first | refine Cur.look C _ _ _ ⟨rfl, rfl, ?_⟩ | refine Cur.get C _ _ _ ?_ | refine Cur.tel C _ _ _ ?_); conv => whnf)
          refine ⟨(by decide), ?_⟩
          conv => whnf
          exact ⟨_, rfl, by rw [er, es]; rfl, by rw [← hw, es]; rfl⟩
  obtain ⟨a, s, ha⟩ := hb
  exact ⟨_, _, main a s ha _ rfl, nextR_in hc a s, .mk _ _ (by omega)⟩

theorem next_3_12 {code : List Int} (hc : IsCode code) {n : Nat} (hn : n ≤ 1152921504606846976) {b : AV} (hb : Tail code n b) :
    ∃ (r : Int) (u : AV), CC n_s_l1Cur_next 3 12 [] b u (.d tI r) ∧ (0 ≤ r ∧ r ≤ 255) ∧ Tail code (n + 1) u := by
  have hlen := hc.len
  have main : ∀ (a : Nat) (s : Int), a ≤ n → ∀ b, b = .pair .unit (.pair (.d tB code) (.pair (.d tI (a : Int)) (.pair (.d t64 s) .unit))) →
      CC n_s_l1Cur_next 3 12 [] b (.pair .unit (.pair (.d tB code) (.pair (.d tI ((a + 1 : Nat) : Int)) (.pair (.d t64 (nextS code a s)) .unit)))) (.d tI (nextR code a s)) := by
    intro a s ha b hb P C
    have hw : IntKind.i64.wrap ((a : Int) + 1) = ((a + 1 : Nat) : Int) := by rw [wrap_in (by omega) (by omega)]; omega
    refine p_s_l1Cur_next true (C.pos _) rfl rfl ?_
    subst hb
    all_goals
      conv => whnf
      repeat ((first | refine Cur.look C _ _ _ ⟨rfl, rfl, ?_⟩ | refine Cur.get C _ _ _ ?_ | refine Cur.tel C _ _ _ ?_); conv => whnf)
      refine cond_intro (fun h => ?_) (fun h => ?_)
      · have h : a < code.length := Int.ofNat_lt.1 (of_decide_eq_true h)
        have eb : byteC code a = IntKind.i64.wrap (code.getD a 0) := if_pos h
        have er : nextR code a s = byteC code a := if_pos h
        have es : nextS code a s = stepS s (IntKind.i64.wrap (code.getD a 0)) := congrArg (stepS s) eb
        conv => whnf
        repeat ((first | refine Cur.look C _ _ _ ⟨rfl, rfl, ?_⟩ | refine Cur.get C _ _ _ ?_ | refine Cur.tel C _ _ _ ?_); conv => whnf)
        refine ⟨⟨Int.natCast_nonneg _, Int.ofNat_lt.2 h⟩, ?_⟩
        conv => whnf
        repeat ((first | refine Cur.look C _ _ _ ⟨rfl, rfl, ?_⟩ | refine Cur.get C _ _ _ ?_ | refine Cur.tel C _ _ _ ?_); conv => whnf)
        refine Cur.put C _ _ _ _ _ rfl ?_
        conv => whnf
        repeat ((first | refine Cur.look C _ _ _ ⟨rfl, rfl, ?_⟩ | refine Cur.get C _ _ _ ?_ | refine Cur.tel C _ _ _ ?_); conv => whnf)
        refine Cur.put C _ _ _ _ _ rfl ?_
        conv => whnf
        repeat ((first | refine Cur.look C _ _ _ ⟨rfl, rfl, ?_⟩ | refine Cur.get C _ _ _ ?_ | refine Cur.tel C _ _ _ ?_); conv => whnf)
        refine cond_intro (fun h => ?_) (fun h => ?_)
        · conv => whnf
          exact ⟨_, rfl, by rw [er, eb]; rfl, by rw [← hw, es]; rfl⟩
        · exfalso
          have h := of_decide_eq_false h
          exact h (by show IntKind.i64.wrap ((a : Int) + 1) ≤ (code.length : Int); rw [hw]; omega)
      · have h : ¬ a < code.length := fun e => by simp [e] at h
        have eb : byteC code a = 0 := if_neg h
        have er := nextR_no h s
        have es : nextS code a s = stepS s 0 := congrArg (stepS s) eb
        conv => whnf
        repeat ((first | refine Cur.look C _ _ _ ⟨rfl, rfl, ?_⟩ | refine Cur.get C _ _ _ ?_ | refine Cur.tel C _ _ _ ?_); conv => whnf)
        refine Cur.put C _ _ _ _ _ rfl ?_
        conv => whnf
        repeat ((first | refine Cur.look C _ _ _ ⟨rfl, rfl, ?_⟩ | refine Cur.get C _ _ _ ?_ | refine Cur.tel C _ _ _ ?_); conv => whnf)
        refine Cur.put C _ _ _ _ _ rfl ?_
        conv => whnf
        repeat ((first | refine Cur.look C _ _ _ ⟨rfl, rfl, ?_⟩ | refine Cur.get C _ _ _ ?_ | refine Cur.tel C _ _ _ ?_); conv => whnf)
        refine cond_intro (fun h => ?_) (fun h => ?_)
        · exfalso
          have h := of_decide_eq_true h
          have h : IntKind.i64.wrap ((a : Int) + 1) ≤ (code.length : Int) := h
          rw [hw] at h
          omega
        · conv => whnf
          repeat ((first | refine Cur.look C _ _ _ ⟨rfl, rfl, ?_⟩ | refine Cur.get C _ _ _ ?_ | refine Cur.tel C _ _ _ ?_); conv => whnf)
          refine ⟨(by decide), ?_⟩
          conv => whnf
          exact ⟨_, rfl, by rw [er, es]; rfl, by rw [← hw, es]; rfl⟩
  obtain ⟨a, s, ha⟩ := hb
  exact ⟨_, _, main a s ha _ rfl, nextR_in hc a s, .mk _ _ (by omega)⟩

theorem next_4_12 {code : List Int} (hc : IsCode code) {n : Nat} (hn : n ≤ 1152921504606846976) {b : AV} (hb : Tail code n b) :
    ∃ (r : Int) (u : AV), CC n_s_l1Cur_next 4 12 [] b u (.d tI r) ∧ (0 ≤ r ∧ r ≤ 255) ∧ Tail code (n + 1) u := by
  have hlen := hc.len
  have main : ∀ (a : Nat) (s : Int), a ≤ n → ∀ b, b = .pair .unit (.pair (.d tB code) (.pair (.d tI (a : Int)) (.pair (.d t64 s) .unit))) →
      CC n_s_l1Cur_next 4 12 [] b (.pair .unit (.pair (.d tB code) (.pair (.d tI ((a + 1 : Nat) : Int)) (.pair (.d t64 (nextS code a s)) .unit)))) (.d tI (nextR code a s)) := by
    intro a s ha b hb P C
    have hw : IntKind.i64.wrap ((a : Int) + 1) = ((a + 1 : Nat) : Int) := by rw [wrap_in (by omega) (by omega)]; omega
    refine p_s_l1Cur_next true (C.pos _) rfl rfl ?_
    subst hb
    all_goals
      conv => whnf
      repeat ((first | refine Cur.look C _ _ _ ⟨rfl, rfl, ?_⟩ | refine Cur.get C _ _ _ ?_ | refine Cur.tel C _ _ _ ?_); conv => whnf)
      refine cond_intro (fun h => ?_) (fun h => ?_)
      · have h : a < code.length := Int.ofNat_lt.1 (of_decide_eq_true h)
        have eb : byteC code a = IntKind.i64.wrap (code.getD a 0) := if_pos h
        have er : nextR code a s = byteC code a := if_pos h
        have es : nextS code a s = stepS s (IntKind.i64.wrap (code.getD a 0)) := congrArg (stepS s) eb
        conv => whnf
        repeat ((first | refine Cur.look C _ _ _ ⟨rfl, rfl, ?_⟩ | refine Cur.get C _ _ _ ?_ | refine Cur.tel C _ _ _ ?_); conv => whnf)
        refine ⟨⟨Int.natCast_nonneg _, Int.ofNat_lt.2 h⟩, ?_⟩
        conv => whnf
        repeat ((first | refine Cur.look C _ _ _ ⟨rfl, rfl, ?_⟩ | refine Cur.get C _ _ _ ?_ | refine Cur.tel C _ _ _ ?_); conv => whnf)
        refine Cur.put C _ _ _ _ _ rfl ?_
        conv => whnf
        repeat ((first | refine Cur.look C _ _ _ ⟨rfl, rfl, ?_⟩ | refine Cur.get C _ _ _ ?_ | refine Cur.tel C _ _ _ ?_); conv => whnf)
        refine Cur.put C _ _ _ _ _ rfl ?_
        conv => whnf
        repeat ((first | refine Cur.look C _ _ _ ⟨rfl, rfl, ?_⟩ | refine Cur.get C _ _ _ ?_ | refine Cur.tel C _ _ _ ?_); conv => whnf)
        refine cond_intro (fun h => ?_) (fun h => ?_)
        · conv => whnf
          exact ⟨_, rfl, by rw [er, eb]; rfl, by rw [← hw, es]; rfl⟩
        · exfalso
          have h := of_decide_eq_false h
          exact h (by show IntKind.i64.wrap ((a : Int) + 1) ≤ (code.length : Int); rw [hw]; omega)
      · have h : ¬ a < code.length := fun e => by simp [e] at h
        have eb : byteC code a = 0 := if_neg h
        have er := nextR_no h s
        have es : nextS code a s = stepS s 0 := congrArg (stepS s) eb
        conv => whnf
        repeat ((first | refine Cur.look C _ _ _ ⟨rfl, rfl, ?_⟩ | refine Cur.get C _ _ _ ?_ | refine Cur.tel C _ _ _ ?_); conv => whnf)
        refine Cur.put C _ _ _ _ _ rfl ?_
        conv => whnf
        repeat ((first | refine Cur.look C _ _ _ ⟨rfl, rfl, ?_⟩ | refine Cur.get C _ _ _ ?_ | refine Cur.tel C _ _ _ ?_); conv => whnf)
        refine Cur.put C _ _ _ _ _ rfl ?_
        conv => whnf
        repeat ((first | refine Cur.look C _ _ _ ⟨rfl, rfl, ?_⟩ | refine Cur.get C _ _ _ ?_ | refine Cur.tel C _ _ _ ?_); conv => whnf)
        refine cond_intro (fun h => ?_) (fun h => ?_)
        · exfalso
          have h := of_decide_eq_true h
          have h : IntKind.i64.wrap ((a : Int) + 1) ≤ (code.length : Int) := h
          rw [hw] at h
          omega
        · conv => whnf
          repeat ((first | refine Cur.look C _ _ _ ⟨rfl, rfl, ?_⟩ | refine Cur.get C _ _ _ ?_ | refine Cur.tel C _ _ _ ?_); conv => whnf)
          refine ⟨(by decide), ?_⟩
          conv => whnf
          exact ⟨_, rfl, by rw [er, es]; rfl, by rw [← hw, es]; rfl⟩
  obtain ⟨a, s, ha⟩ := hb
  exact ⟨_, _, main a s ha _ rfl, nextR_in hc a s, .mk _ _ (by omega)⟩

theorem pick_0_12 {code : List Int} (hc : IsCode code) {n : Nat} (hn : n ≤ 1152921504606846000) {b : AV} (hb : Tail code n b) (m : Int) :
    ∃ (r : Int) (u : AV), CC n_s_l1Cur_pick 0 12 [.d tI m] b u (.d tI r) ∧ (0 ≤ r ∧ (1 ≤ m → r < m) ∧ (m ≤ 1 → r = 0)) ∧ Tail code (n + 2) u := by
  by_cases h1 : m ≤ 1
  · refine ⟨0, b, fun P C => ?_, ⟨by omega, fun h => by omega, fun _ => rfl⟩, hb.le (by omega)⟩
    refine p_s_l1Cur_pick true (C.pos _) rfl rfl ?_
    conv => whnf
    refine cond_t (decide_eq_true h1) ?_
    conv => whnf
    exact ⟨_, rfl, rfl, rfl⟩
  obtain ⟨r1, u1, c1, b1, t1⟩ := next_1_12 hc (by omega) hb
  by_cases h2 : m > 200
  · obtain ⟨r2, u2, c2, b2, t2⟩ := next_1_12 hc (by omega) t1
    have hw : IntKind.i64.wrap (IntKind.i64.wrap (r1 * 256) + r2) = r1 * 256 + r2 := by rw [wrap_in (n := r1 * 256) (by omega) (by omega), wrap_in (by omega) (by omega)]
    have hm := Int.tmod_lt_of_pos (r1 * 256 + r2) (show (0 : Int) < m by omega)
    have h0 := Int.tmod_nonneg m (show (0 : Int) ≤ r1 * 256 + r2 by omega)
    refine ⟨(r1 * 256 + r2).tmod m, u2, fun P C => ?_, ⟨h0, fun _ => hm, fun h => by omega⟩, t2.le (by omega)⟩
    refine p_s_l1Cur_pick true (C.pos _) rfl rfl ?_
    conv => whnf
    refine cond_f (decide_eq_false h1) ?_
    conv => whnf
    refine ⟨_, _, c1 _ (C.lift _), ?_⟩
    conv => whnf
    refine cond_t (decide_eq_true h2) ?_
    conv => whnf
    refine ⟨_, _, c2 _ (C.lift _), ?_⟩
    conv => whnf
    refine ⟨(by omega), ?_⟩
    conv => whnf
    exact ⟨_, rfl, by rw [← hw], rfl⟩
  · have hm := Int.tmod_lt_of_pos r1 (show (0 : Int) < m by omega)
    have h0 := Int.tmod_nonneg m (show (0 : Int) ≤ r1 by omega)
    refine ⟨r1.tmod m, u1, fun P C => ?_, ⟨h0, fun _ => hm, fun h => by omega⟩, t1.le (by omega)⟩
    refine p_s_l1Cur_pick true (C.pos _) rfl rfl ?_
    conv => whnf
    refine cond_f (decide_eq_false h1) ?_
    conv => whnf
    refine ⟨_, _, c1 _ (C.lift _), ?_⟩
    conv => whnf
    refine cond_f (decide_eq_false h2) ?_
    conv => whnf
    refine ⟨(by intro e; omega), ?_⟩
    conv => whnf
    exact ⟨_, rfl, rfl, rfl⟩

theorem pick_1_12 {code : List Int} (hc : IsCode code) {n : Nat} (hn : n ≤ 1152921504606846000) {b : AV} (hb : Tail code n b) (m : Int) :
    ∃ (r : Int) (u : AV), CC n_s_l1Cur_pick 1 12 [.d tI m] b u (.d tI r) ∧ (0 ≤ r ∧ (1 ≤ m → r < m) ∧ (m ≤ 1 → r = 0)) ∧ Tail code (n + 2) u := by
  by_cases h1 : m ≤ 1
  · refine ⟨0, b, fun P C => ?_, ⟨by omega, fun h => by omega, fun _ => rfl⟩, hb.le (by omega)⟩
    refine p_s_l1Cur_pick true (C.pos _) rfl rfl ?_
    conv => whnf
    refine cond_t (decide_eq_true h1) ?_
    conv => whnf
    exact ⟨_, rfl, rfl, rfl⟩
  obtain ⟨r1, u1, c1, b1, t1⟩ := next_2_12 hc (by omega) hb
  by_cases h2 : m > 200
  · obtain ⟨r2, u2, c2, b2, t2⟩ := next_2_12 hc (by omega) t1
    have hw : IntKind.i64.wrap (IntKind.i64.wrap (r1 * 256) + r2) = r1 * 256 + r2 := by rw [wrap_in (n := r1 * 256) (by omega) (by omega), wrap_in (by omega) (by omega)]
    have hm := Int.tmod_lt_of_pos (r1 * 256 + r2) (show (0 : Int) < m by omega)
    have h0 := Int.tmod_nonneg m (show (0 : Int) ≤ r1 * 256 + r2 by omega)
    refine ⟨(r1 * 256 + r2).tmod m, u2, fun P C => ?_, ⟨h0, fun _ => hm, fun h => by omega⟩, t2.le (by omega)⟩
    refine p_s_l1Cur_pick true (C.pos _) rfl rfl ?_
    conv => whnf
    refine cond_f (decide_eq_false h1) ?_
    conv => whnf
    refine ⟨_, _, c1 _ (C.lift _), ?_⟩
    conv => whnf
    refine cond_t (decide_eq_true h2) ?_
    conv => whnf
    refine ⟨_, _, c2 _ (C.lift _), ?_⟩
    conv => whnf
    refine ⟨(by omega), ?_⟩
    conv => whnf
    exact ⟨_, rfl, by rw [← hw], rfl⟩
  · have hm := Int.tmod_lt_of_pos r1 (show (0 : Int) < m by omega)
    have h0 := Int.tmod_nonneg m (show (0 : Int) ≤ r1 by omega)
    refine ⟨r1.tmod m, u1, fun P C => ?_, ⟨h0, fun _ => hm, fun h => by omega⟩, t1.le (by omega)⟩
    refine p_s_l1Cur_pick true (C.pos _) rfl rfl ?_
    conv => whnf
    refine cond_f (decide_eq_false h1) ?_
    conv => whnf
    refine ⟨_, _, c1 _ (C.lift _), ?_⟩
    conv => whnf
    refine cond_f (decide_eq_false h2) ?_
    conv => whnf
    refine ⟨(by intro e; omega), ?_⟩
    conv => whnf
    exact ⟨_, rfl, rfl, rfl⟩

theorem pick_2_12 {code : List Int} (hc : IsCode code) {n : Nat} (hn : n ≤ 1152921504606846000) {b : AV} (hb : Tail code n b) (m : Int) :
    ∃ (r : Int) (u : AV), CC n_s_l1Cur_pick 2 12 [.d tI m] b u (.d tI r) ∧ (0 ≤ r ∧ (1 ≤ m → r < m) ∧ (m ≤ 1 → r = 0)) ∧ Tail code (n + 2) u := by
  by_cases h1 : m ≤ 1
  · refine ⟨0, b, fun P C => ?_, ⟨by omega, fun h => by omega, fun _ => rfl⟩, hb.le (by omega)⟩
    refine p_s_l1Cur_pick true (C.pos _) rfl rfl ?_
    conv => whnf
    refine cond_t (decide_eq_true h1) ?_
    conv => whnf
    exact ⟨_, rfl, rfl, rfl⟩
  obtain ⟨r1, u1, c1, b1, t1⟩ := next_3_12 hc (by omega) hb
  by_cases h2 : m > 200
  · obtain ⟨r2, u2, c2, b2, t2⟩ := next_3_12 hc (by omega) t1
    have hw : IntKind.i64.wrap (IntKind.i64.wrap (r1 * 256) + r2) = r1 * 256 + r2 := by rw [wrap_in (n := r1 * 256) (by omega) (by omega), wrap_in (by omega) (by omega)]
    have hm := Int.tmod_lt_of_pos (r1 * 256 + r2) (show (0 : Int) < m by omega)
    have h0 := Int.tmod_nonneg m (show (0 : Int) ≤ r1 * 256 + r2 by omega)
    refine ⟨(r1 * 256 + r2).tmod m, u2, fun P C => ?_, ⟨h0, fun _ => hm, fun h => by omega⟩, t2.le (by omega)⟩
    refine p_s_l1Cur_pick true (C.pos _) rfl rfl ?_
    conv => whnf
    refine cond_f (decide_eq_false h1) ?_
    conv => whnf
    refine ⟨_, _, c1 _ (C.lift _), ?_⟩
    conv => whnf
    refine cond_t (decide_eq_true h2) ?_
    conv => whnf
    refine ⟨_, _, c2 _ (C.lift _), ?_⟩
    conv => whnf
    refine ⟨(by omega), ?_⟩
    conv => whnf
    exact ⟨_, rfl, by rw [← hw], rfl⟩
  · have hm := Int.tmod_lt_of_pos r1 (show (0 : Int) < m by omega)
    have h0 := Int.tmod_nonneg m (show (0 : Int) ≤ r1 by omega)
    refine ⟨r1.tmod m, u1, fun P C => ?_, ⟨h0, fun _ => hm, fun h => by omega⟩, t1.le (by omega)⟩
    refine p_s_l1Cur_pick true (C.pos _) rfl rfl ?_
    conv => whnf
    refine cond_f (decide_eq_false h1) ?_
    conv => whnf
    refine ⟨_, _, c1 _ (C.lift _), ?_⟩
    conv => whnf
    refine cond_f (decide_eq_false h2) ?_
    conv => whnf
    refine ⟨(by intro e; omega), ?_⟩
    conv => whnf
    exact ⟨_, rfl, rfl, rfl⟩

theorem pick_3_12 {code : List Int} (hc : IsCode code) {n : Nat} (hn : n ≤ 1152921504606846000) {b : AV} (hb : Tail code n b) (m : Int) :
    ∃ (r : Int) (u : AV), CC n_s_l1Cur_pick 3 12 [.d tI m] b u (.d tI r) ∧ (0 ≤ r ∧ (1 ≤ m → r < m) ∧ (m ≤ 1 → r = 0)) ∧ Tail code (n + 2) u := by
  by_cases h1 : m ≤ 1
  · refine ⟨0, b, fun P C => ?_, ⟨by omega, fun h => by omega, fun _ => rfl⟩, hb.le (by omega)⟩
    refine p_s_l1Cur_pick true (C.pos _) rfl rfl ?_
    conv => whnf
    refine cond_t (decide_eq_true h1) ?_
    conv => whnf
    exact ⟨_, rfl, rfl, rfl⟩
  obtain ⟨r1, u1, c1, b1, t1⟩ := next_4_12 hc (by omega) hb
  by_cases h2 : m > 200
  · obtain ⟨r2, u2, c2, b2, t2⟩ := next_4_12 hc (by omega) t1
    have hw : IntKind.i64.wrap (IntKind.i64.wrap (r1 * 256) + r2) = r1 * 256 + r2 := by rw [wrap_in (n := r1 * 256) (by omega) (by omega), wrap_in (by omega) (by omega)]
    have hm := Int.tmod_lt_of_pos (r1 * 256 + r2) (show (0 : Int) < m by omega)
    have h0 := Int.tmod_nonneg m (show (0 : Int) ≤ r1 * 256 + r2 by omega)
    refine ⟨(r1 * 256 + r2).tmod m, u2, fun P C => ?_, ⟨h0, fun _ => hm, fun h => by omega⟩, t2.le (by omega)⟩
    refine p_s_l1Cur_pick true (C.pos _) rfl rfl ?_
    conv => whnf
    refine cond_f (decide_eq_false h1) ?_
    conv => whnf
    refine ⟨_, _, c1 _ (C.lift _), ?_⟩
    conv => whnf
    refine cond_t (decide_eq_true h2) ?_
    conv => whnf
    refine ⟨_, _, c2 _ (C.lift _), ?_⟩
    conv => whnf
    refine ⟨(by omega), ?_⟩
    conv => whnf
    exact ⟨_, rfl, by rw [← hw], rfl⟩
  · have hm := Int.tmod_lt_of_pos r1 (show (0 : Int) < m by omega)
    have h0 := Int.tmod_nonneg m (show (0 : Int) ≤ r1 by omega)
    refine ⟨r1.tmod m, u1, fun P C => ?_, ⟨h0, fun _ => hm, fun h => by omega⟩, t1.le (by omega)⟩
    refine p_s_l1Cur_pick true (C.pos _) rfl rfl ?_
    conv => whnf
    refine cond_f (decide_eq_false h1) ?_
    conv => whnf
    refine ⟨_, _, c1 _ (C.lift _), ?_⟩
    conv => whnf
    refine cond_f (decide_eq_false h2) ?_
    conv => whnf
    refine ⟨(by intro e; omega), ?_⟩
    conv => whnf
    exact ⟨_, rfl, rfl, rfl⟩

theorem one_0_12 {code : List Int} (hc : IsCode code) {n : Nat} (hn : n ≤ 1152921504606846000) {b : AV} (hb : Tail code n b) (m : Int) :
    ∃ (r : Bool) (u : AV), CC n_s_l1Cur_one 0 12 [.d tI m] b u (.d .bool r) ∧ Tail code (n + 2) u := by
  obtain ⟨r1, u1, c1, b1, t1⟩ := pick_1_12 hc hn hb m
  refine ⟨r1 == 0, u1, fun P C => ?_, t1⟩
  refine p_s_l1Cur_one true (C.pos _) rfl rfl ?_
  conv => whnf
  refine ⟨_, _, c1 _ (C.lift _), ?_⟩
  conv => whnf
  exact ⟨_, rfl, rfl, rfl⟩

theorem one_1_12 {code : List Int} (hc : IsCode code) {n : Nat} (hn : n ≤ 1152921504606846000) {b : AV} (hb : Tail code n b) (m : Int) :
    ∃ (r : Bool) (u : AV), CC n_s_l1Cur_one 1 12 [.d tI m] b u (.d .bool r) ∧ Tail code (n + 2) u := by
  obtain ⟨r1, u1, c1, b1, t1⟩ := pick_2_12 hc hn hb m
  refine ⟨r1 == 0, u1, fun P C => ?_, t1⟩
  refine p_s_l1Cur_one true (C.pos _) rfl rfl ?_
  conv => whnf
  refine ⟨_, _, c1 _ (C.lift _), ?_⟩
  conv => whnf
  exact ⟨_, rfl, rfl, rfl⟩

theorem one_2_12 {code : List Int} (hc : IsCode code) {n : Nat} (hn : n ≤ 1152921504606846000) {b : AV} (hb : Tail code n b) (m : Int) :
    ∃ (r : Bool) (u : AV), CC n_s_l1Cur_one 2 12 [.d tI m] b u (.d .bool r) ∧ Tail code (n + 2) u := by
  obtain ⟨r1, u1, c1, b1, t1⟩ := pick_3_12 hc hn hb m
  refine ⟨r1 == 0, u1, fun P C => ?_, t1⟩
  refine p_s_l1Cur_one true (C.pos _) rfl rfl ?_
  conv => whnf
  refine ⟨_, _, c1 _ (C.lift _), ?_⟩
  conv => whnf
  exact ⟨_, rfl, rfl, rfl⟩

theorem among_0_12 {code : List Int} (hc : IsCode code) {n : Nat} (hn : n ≤ 1152921504606846000) {b : AV} (hb : Tail code n b) (q : Pl) (l : List Int) (h0 : l ≠ []) :
    ∃ (r : Int) (u : AV), CL n_s_l1Cur_among 0 12 q l b u (.d tI r) ∧ r ∈ l ∧ Tail code (n + 2) u := by
  have hl : 0 < l.length := (List.length_pos_iff.2 h0)
  obtain ⟨r1, u1, c1, ⟨b1, b2, _⟩, t1⟩ := pick_1_12 hc hn hb (l.length : Int)
  have b2 := b2 (by omega)
  refine ⟨l.getD r1.toNat 0, u1, fun P C hg => ?_, getD_mem (by omega) 0, t1⟩
  have G : ∀ b K, K (.own tI .fz l) → GetP (P b) q K := fun b K h => by
    obtain ⟨s, h1, v, h2, e⟩ := GetP_iff.1 (hg b)
    subst e
    exact GetP_iff.2 ⟨s, h1, _, h2, h⟩
  refine p_s_l1Cur_among true (C.pos _) rfl rfl ?_
  conv => whnf
  refine G _ _ ?_
  conv => whnf
  refine ⟨_, _, c1 _ (C.lift _), ?_⟩
  conv => whnf
  refine G _ _ ?_
  conv => whnf
  refine ⟨⟨b1, by omega⟩, ?_⟩
  conv => whnf
  refine look_el (hg _) (by omega) ?_
  conv => whnf
  exact ⟨_, rfl, rfl, rfl⟩

theorem among_1_12 {code : List Int} (hc : IsCode code) {n : Nat} (hn : n ≤ 1152921504606846000) {b : AV} (hb : Tail code n b) (q : Pl) (l : List Int) (h0 : l ≠ []) :
    ∃ (r : Int) (u : AV), CL n_s_l1Cur_among 1 12 q l b u (.d tI r) ∧ r ∈ l ∧ Tail code (n + 2) u := by
  have hl : 0 < l.length := (List.length_pos_iff.2 h0)
  obtain ⟨r1, u1, c1, ⟨b1, b2, _⟩, t1⟩ := pick_2_12 hc hn hb (l.length : Int)
  have b2 := b2 (by omega)
  refine ⟨l.getD r1.toNat 0, u1, fun P C hg => ?_, getD_mem (by omega) 0, t1⟩
  have G : ∀ b K, K (.own tI .fz l) → GetP (P b) q K := fun b K h => by
    obtain ⟨s, h1, v, h2, e⟩ := GetP_iff.1 (hg b)
    subst e
    exact GetP_iff.2 ⟨s, h1, _, h2, h⟩
  refine p_s_l1Cur_among true (C.pos _) rfl rfl ?_
  conv => whnf
  refine G _ _ ?_
  conv => whnf
  refine ⟨_, _, c1 _ (C.lift _), ?_⟩
  conv => whnf
  refine G _ _ ?_
  conv => whnf
  refine ⟨⟨b1, by omega⟩, ?_⟩
  conv => whnf
  refine look_el (hg _) (by omega) ?_
  conv => whnf
  exact ⟨_, rfl, rfl, rfl⟩

theorem among_2_12 {code : List Int} (hc : IsCode code) {n : Nat} (hn : n ≤ 1152921504606846000) {b : AV} (hb : Tail code n b) (q : Pl) (l : List Int) (h0 : l ≠ []) :
    ∃ (r : Int) (u : AV), CL n_s_l1Cur_among 2 12 q l b u (.d tI r) ∧ r ∈ l ∧ Tail code (n + 2) u := by
  have hl : 0 < l.length := (List.length_pos_iff.2 h0)
  obtain ⟨r1, u1, c1, ⟨b1, b2, _⟩, t1⟩ := pick_3_12 hc hn hb (l.length : Int)
  have b2 := b2 (by omega)
  refine ⟨l.getD r1.toNat 0, u1, fun P C hg => ?_, getD_mem (by omega) 0, t1⟩
  have G : ∀ b K, K (.own tI .fz l) → GetP (P b) q K := fun b K h => by
    obtain ⟨s, h1, v, h2, e⟩ := GetP_iff.1 (hg b)
    subst e
    exact GetP_iff.2 ⟨s, h1, _, h2, h⟩
  refine p_s_l1Cur_among true (C.pos _) rfl rfl ?_
  conv => whnf
  refine G _ _ ?_
  conv => whnf
  refine ⟨_, _, c1 _ (C.lift _), ?_⟩
  conv => whnf
  refine G _ _ ?_
  conv => whnf
  refine ⟨⟨b1, by omega⟩, ?_⟩
  conv => whnf
  refine look_el (hg _) (by omega) ?_
  conv => whnf
  exact ⟨_, rfl, rfl, rfl⟩

theorem space_0_12 {code : List Int} (hc : IsCode code) {n : Nat} (hn : n ≤ 1152921504606800000) {b : AV} (hb : Tail code n b) :
    ∃ (r : Int) (u : AV), CC n_s_l1Cur_space 0 12 [] b u (.d tI r) ∧ (1 ≤ r ∧ r ≤ 4) ∧ Tail code (n + 2) u := by
  obtain ⟨r, u, c, m, t⟩ := among_1_12 hc (by omega) hb ⟨⟨0, 4, false⟩, []⟩ [2, 2, 3, 1, 2, 4] (by simp)
  refine ⟨r, u, fun P C => ?_, by simp at m; omega, t⟩
  refine p_s_l1Cur_space true (C.pos _) rfl rfl ?_
  conv => whnf
  refine ⟨_, _, c _ (C.lift _) (by intro _; exact rfl), ?_⟩
  conv => whnf
  exact ⟨_, rfl, rfl, rfl⟩

theorem point_1_12 {code : List Int} (hc : IsCode code) {n : Nat} (hn : n ≤ 1152921504606800000) {b : AV} (hb : Tail code n b) (d : Nat) (hd : d ≤ 8) {P : AV → St} (C : Cur 1 12 P) :
    ∃ r u, (∃ l : List Int, r = .own tI .fz l ∧ l.length ≤ d + 1 ∧ Tail code (n + 40) u) ∧ orc.ic n_s_l1Cur_point [.ptr (plCur 1 12), .d tI (d : Int)] (P b) r (P u) := by
  suffices H : ∃ r s, (∃ (l : List Int) (u : AV), r = .own tI .fz l ∧ s = P u ∧ l.length ≤ d + 1 ∧ Tail code (n + 40) u) ∧ orc.ic n_s_l1Cur_point [.ptr (plCur 1 12), .d tI (d : Int)] (P b) r s by
    obtain ⟨r, s, ⟨p, u, rfl, rfl, h1, h2⟩, h⟩ := H
    exact ⟨_, u, ⟨p, rfl, h1, h2⟩, h⟩
  refine ex_inl (fun r s h => p_s_l1Cur_point true (C.pos _) rfl rfl h) ?_
  obtain ⟨big, u1, c1, m1, t1⟩ := among_2_12 hc (by omega) hb ⟨⟨0, 10, false⟩, []⟩ [2, 3, 5, 9] (by simp)
  conv => whnf
  refine ⟨_, _, c1 _ (C.lift _) (by intro _; exact rfl), ?_⟩
  conv => whnf
  refine loop_upt (X := Int × List Int × AV) (fun (i, l, u) => [⟨0, 7, false, .d tI i⟩, ⟨0, 5, false, .own tI .fz l⟩]) (fun (_, _, u) => P u) (fun (i, _, _) => d - i.toNat)
    (fun (i, l, u) => ∃ m : Nat, i = m ∧ m ≤ d ∧ l.length = m ∧ Tail code (n + 2 + 2 * m) u) (0, [], u1) ?_ ⟨0, rfl, by omega, rfl, t1⟩ ?_
  · refine st_eq ?_
    conv => whnf
    exact ⟨rfl⟩
  rintro ⟨_, l, u⟩ ⟨m, rfl, hm, hl, t2⟩
  conv => whnf
  refine cond_intro (fun h => ?_) (fun h => ?_)
  · have h : m < d := by have := of_decide_eq_true h; exact Int.ofNat_lt.1 this
    obtain ⟨r3, u3, c3, b3, t3⟩ := pick_2_12 hc (by omega) t2 (IntKind.i64.wrap (IntKind.i64.wrap (2 * big) + 1))
    conv => whnf
    refine ⟨_, _, c3 _ (C.lift _), ?_⟩
    conv => whnf
    refine ⟨⟨room_snoc (by omega) (by decide), len_snoc (by omega)⟩, ?_⟩
    conv => whnf
    refine ⟨(_, _, _), rfl, ⟨m + 1, wrap_succ h (by unfold Short; omega), by omega, (List.length_append ..).trans (by rw [hl]; rfl), t3.le (by omega)⟩, ?_⟩
    rw [wrap_succ h (by unfold Short; omega)]; simp; omega
  have h : m = d := by have := of_decide_eq_false h; omega
  subst h
  conv => whnf
  cases hz : decide ((m : Int) > 0) with
  | true =>
    have q0 : (decide ((m : Int) > 0) == true) = true := by rw [hz]; rfl
    have hm0 : 0 < m := by have := of_decide_eq_true hz; omega
    obtain ⟨r4, u4, c4, t4⟩ := one_2_12 hc (by omega) t2 60
    repeat ((first | refine cond_f (sc1 _) ?_ | refine cond_t (sc2 _) ?_ | refine cond_t q0 ?_ | refine cond_f (hT q0) ?_ | refine cond_t (gT q0) ?_); conv => whnf)
    refine ⟨_, _, c4 _ (C.lift _), ?_⟩
    conv => whnf
    repeat ((first | refine cond_f (sc1 _) ?_ | refine cond_t (sc2 _) ?_ | refine cond_t q0 ?_ | refine cond_f (hT q0) ?_ | refine cond_t (gT q0) ?_); conv => whnf)
    cases r4 with
    | true =>
      obtain ⟨r5, u5, c5, b5, t5⟩ := pick_2_12 hc (by omega) t4 (m : Int)
      obtain ⟨r6, u6, c6, m6, t6⟩ := among_2_12 hc (by omega) t5 ⟨⟨0, 38, false⟩, []⟩ [10, -10, 9, -9, 4611686018427387904] (by simp)
      have b0 : r5 < (m : Int) := b5.2.1 (by omega)
      have b1 := b5.1
      conv => whnf
      refine ⟨_, _, c5 _ (C.lift _), ?_⟩
      conv => whnf
      refine ⟨_, _, c6 _ (C.lift _) (by intro _; exact rfl), ?_⟩
      conv => whnf
      refine ⟨⟨b1, by rw [hl]; exact b0⟩, ?_⟩
      conv => whnf
      refine ⟨(by rw [hl]; omega), ?_⟩
      conv => whnf
      obtain ⟨r9, u9, c9, t9⟩ := one_2_12 hc (by omega) t6 80
      conv => whnf
      refine ⟨_, _, c9 _ (C.lift _), ?_⟩
      cases r9 with
      | true =>
        conv => whnf
        refine ⟨⟨room_snoc (by first | omega | (rw [List.length_set]; omega)) (by decide), len_snoc (by first | omega | (rw [List.length_set]; omega))⟩, ?_⟩
        conv => whnf
        exact ⟨_, rfl, _, _, rfl, rfl, (by rw [List.length_append]; first | (rw [List.length_set]; show l.length + 1 ≤ m + 1; omega) | (show l.length + 1 ≤ m + 1; omega)), t9.le (by omega)⟩
      | false =>
        conv => whnf
        exact ⟨_, rfl, _, _, rfl, rfl, (by first | omega | (rw [List.length_set]; omega)), t9.le (by omega)⟩
    | false =>
      obtain ⟨r9, u9, c9, t9⟩ := one_2_12 hc (by omega) t4 80
      conv => whnf
      refine ⟨_, _, c9 _ (C.lift _), ?_⟩
      cases r9 with
      | true =>
        conv => whnf
        refine ⟨⟨room_snoc (by first | omega | (rw [List.length_set]; omega)) (by decide), len_snoc (by first | omega | (rw [List.length_set]; omega))⟩, ?_⟩
        conv => whnf
        exact ⟨_, rfl, _, _, rfl, rfl, (by rw [List.length_append]; first | (rw [List.length_set]; show l.length + 1 ≤ m + 1; omega) | (show l.length + 1 ≤ m + 1; omega)), t9.le (by omega)⟩
      | false =>
        conv => whnf
        exact ⟨_, rfl, _, _, rfl, rfl, (by first | omega | (rw [List.length_set]; omega)), t9.le (by omega)⟩
  | false =>
    have q0 : (decide ((m : Int) > 0) == true) = false := by rw [hz]; rfl
    repeat ((first | refine cond_f (sc1 _) ?_ | refine cond_t (sc2 _) ?_ | refine cond_f q0 ?_ | refine cond_t (hF q0) ?_ | refine cond_f (gF q0) ?_); conv => whnf)
    obtain ⟨r9, u9, c9, t9⟩ := one_2_12 hc (by omega) t2 80
    conv => whnf
    refine ⟨_, _, c9 _ (C.lift _), ?_⟩
    cases r9 with
    | true =>
      conv => whnf
      refine ⟨⟨room_snoc (by first | omega | (rw [List.length_set]; omega)) (by decide), len_snoc (by first | omega | (rw [List.length_set]; omega))⟩, ?_⟩
      conv => whnf
      exact ⟨_, rfl, _, _, rfl, rfl, (by rw [List.length_append]; first | (rw [List.length_set]; show l.length + 1 ≤ m + 1; omega) | (show l.length + 1 ≤ m + 1; omega)), t9.le (by omega)⟩
    | false =>
      conv => whnf
      exact ⟨_, rfl, _, _, rfl, rfl, (by first | omega | (rw [List.length_set]; omega)), t9.le (by omega)⟩

theorem plane_1_12 {code : List Int} (hc : IsCode code) {n : Nat} (hn : n ≤ 1152921504606800000) {b : AV} (hb : Tail code n b) (d : Nat) (hd : d ≤ 8) {P : AV → St} (C : Cur 1 12 P) :
    ∃ r u, (∃ (w : List Int) (bd : Int), r = avPlane w bd ∧ w.length ≤ d + 1 ∧ Tail code (n + 40) u) ∧ orc.ic n_s_l1Cur_plane [.ptr (plCur 1 12), .d tI (d : Int)] (P b) r (P u) := by
  suffices H : ∃ r s, (∃ (w : List Int) (bd : Int) (u : AV), r = avPlane w bd ∧ s = P u ∧ w.length ≤ d + 1 ∧ Tail code (n + 40) u) ∧ orc.ic n_s_l1Cur_plane [.ptr (plCur 1 12), .d tI (d : Int)] (P b) r s by
    obtain ⟨r, s, ⟨w, bd, u, rfl, rfl, h1, h2⟩, h⟩ := H
    exact ⟨_, u, ⟨w, bd, rfl, h1, h2⟩, h⟩
  refine ex_inl (fun r s h => p_s_l1Cur_plane true (C.pos _) rfl rfl h) ?_
  obtain ⟨big, u1, c1, m1, t1⟩ := among_2_12 hc (by omega) hb ⟨⟨0, 10, false⟩, []⟩ [1, 3, 5, 20] (by simp)
  conv => whnf
  refine ⟨_, _, c1 _ (C.lift _) (by intro _; exact rfl), ?_⟩
  conv => whnf
  refine loop_upt (X := Int × List Int × AV) (fun (i, l, u) => [⟨0, 7, false, .d tI i⟩, ⟨0, 5, true, .pair .unit (.pair (.own tI .fz l) (.pair (.d tI 0) .unit))⟩]) (fun (_, _, u) => P u) (fun (i, _, _) => d - i.toNat)
    (fun (i, l, u) => ∃ m : Nat, i = m ∧ m ≤ d ∧ l.length = m ∧ Tail code (n + 2 + 2 * m) u) (0, [], u1) ?_ ⟨0, rfl, by omega, rfl, t1⟩ ?_
  · refine st_eq ?_
    conv => whnf
    exact ⟨rfl⟩
  rintro ⟨_, l, u⟩ ⟨m, rfl, hm, hl, t2⟩
  conv => whnf
  refine cond_intro (fun h => ?_) (fun h => ?_)
  · have h : m < d := by have := of_decide_eq_true h; exact Int.ofNat_lt.1 this
    obtain ⟨r3, u3, c3, b3, t3⟩ := pick_2_12 hc (by omega) t2 (IntKind.i64.wrap (IntKind.i64.wrap (2 * big) + 1))
    conv => whnf
    refine ⟨_, _, _, c3.drawn (t2.reg t3) (C.lift _) _, ?_⟩
    conv => whnf
    refine ⟨⟨room_snoc (by omega) (by decide), len_snoc (by omega)⟩, ?_⟩
    conv => whnf
    refine ⟨(_, _, _), rfl, ⟨m + 1, wrap_succ h (by unfold Short; omega), by omega, (List.length_append ..).trans (by rw [hl]; rfl), t3.le (by omega)⟩, ?_⟩
    rw [wrap_succ h (by unfold Short; omega)]; simp; omega
  have h : m = d := by have := of_decide_eq_false h; omega
  subst h
  obtain ⟨r4, u4, c4, b4, t4⟩ := pick_2_12 hc (by omega) t2 (IntKind.i64.wrap (IntKind.i64.wrap (2 * big) + 3))
  obtain ⟨sw, u5, c5, b5, t5⟩ := pick_2_12 hc (by omega) t4 60
  conv => whnf
  refine ⟨_, _, c4 _ (C.lift _), ?_⟩
  conv => whnf
  refine ⟨_, _, c5 _ (C.lift _), ?_⟩
  conv => whnf
  refine cond_intro (fun h => ?_) (fun h => ?_)
  · obtain ⟨r6, u6, c6, m6, t6⟩ := among_2_12 hc (by omega) t5 ⟨⟨0, 43, false⟩, []⟩ [99, -99, 100, -100, 4611686018427387904] (by simp)
    conv => whnf
    refine ⟨_, _, c6 _ (C.lift _) (by intro _; exact rfl), ?_⟩
    conv => whnf
    exact ⟨_, rfl, _, _, _, rfl, rfl, (by omega), t6.le (by omega)⟩
  conv => whnf
  refine cond_intro (fun h => ?_) (fun h => ?_)
  · conv => whnf
    refine cond_intro (fun h => ?_) (fun h => ?_)
    · have hm0 : 0 < m := by have := of_decide_eq_true h; omega
      obtain ⟨r6, u6, c6, b6, t6⟩ := pick_2_12 hc (by omega) t5 (m : Int)
      obtain ⟨r7, u7, c7, m7, t7⟩ := among_2_12 hc (by omega) t6 ⟨⟨0, 56, false⟩, []⟩ [99, -99, 100, -100] (by simp)
      have b0 : r6 < (m : Int) := b6.2.1 (by omega)
      have b1 := b6.1
      conv => whnf
      refine ⟨_, _, _, c6.drawn (t5.reg t6) (C.lift _) _, ?_⟩
      conv => whnf
      refine ⟨_, _, _, c7.drawn (t6.reg t7) (C.lift _) (by intro _; exact rfl) _, ?_⟩
      conv => whnf
      refine ⟨⟨b1, by rw [hl]; exact b0⟩, ?_⟩
      conv => whnf
      refine ⟨(by rw [hl]; omega), ?_⟩
      conv => whnf
      exact ⟨_, rfl, _, _, _, rfl, rfl, (by show (l.set _ _).length ≤ m + 1; rw [List.length_set]; omega), t7.le (by omega)⟩
    · conv => whnf
      exact ⟨_, rfl, _, _, _, rfl, rfl, (by omega), t5.le (by omega)⟩
  conv => whnf
  refine cond_intro (fun h => ?_) (fun h => ?_)
  · conv => whnf
    refine ⟨⟨room_snoc (by omega) (by decide), len_snoc (by omega)⟩, ?_⟩
    conv => whnf
    exact ⟨_, rfl, _, _, _, rfl, rfl, (by rw [List.length_append]; show l.length + 1 ≤ m + 1; omega), t5.le (by omega)⟩
  · conv => whnf
    exact ⟨_, rfl, _, _, _, rfl, rfl, (by omega), t5.le (by omega)⟩


end Go.Proofs.Ytlndfmmigndgeaa.Ev
