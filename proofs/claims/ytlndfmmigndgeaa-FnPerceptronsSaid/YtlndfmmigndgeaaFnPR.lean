/- Draws: methods of the cursor, by the place where it lies. -/
import Derived.Test.YtlndfmmigndgeaaFnPX
import Derived.Test.YtlndfmmigndgeaaFnPY
namespace Go.Proofs.Ytlndfmmigndgeaa.Ev
open Go
set_option linter.unusedVariables false
set_option linter.unusedSimpArgs false
set_option maxRecDepth 100000
set_option exponentiation.threshold 100000
set_option maxHeartbeats 2000000

theorem amongS_1_7 {code : List Int} (hc : IsCode code) {n : Nat} (hn : n ≤ 1152921504606846000) {b : AV} (hb : Tail code n b) (q : Pl) (l : List Int) (lo c : Nat) (h0 : 0 < c) (h1 : lo + c ≤ l.length) :
    ∃ (r : Int) (u : AV), (∀ P, Cur 1 7 P → (∀ b, GetP (P b) q (fun v => v = .own tI .fz l)) → orc.ic n_s_l1Cur_among [.ptr (plCur 1 7), .sub q tI lo c] (P b) (.d tI r) (P u)) ∧ r ∈ l ∧ Tail code (n + 2) u := by
  obtain ⟨r1, u1, c1, ⟨b1, b2, _⟩, t1⟩ := pick_2_7 hc hn hb (c : Int)
  have b2 := b2 (by omega)
  refine ⟨l.getD (lo + r1.toNat) 0, u1, fun P C hg => ?_, getD_mem (by omega) 0, t1⟩
  have G : ∀ b K, K (.own tI .fz l) → GetP (P b) q K := fun b K h => by
    obtain ⟨s, h1, v, h2, e⟩ := GetP_iff.1 (hg b)
    subst e
    exact GetP_iff.2 ⟨s, h1, _, h2, h⟩
  refine p_s_l1Cur_among true (C.pos _) rfl rfl ?_
  conv => whnf
  refine G _ _ ?_
  conv => whnf
  refine ⟨_, _, c1 _ (C.lift _), ?_⟩
  conv => whnf
  refine G _ _ ?_
  conv => whnf
  refine ⟨⟨b1, by omega⟩, ?_⟩
  conv => whnf
  refine look_el (hg _) (by omega) ?_
  conv => whnf
  exact ⟨_, rfl, rfl, rfl⟩

theorem rounds3_0_7 {code : List Int} (hc : IsCode code) {n : Nat} (hn : n ≤ 1152921504606800000) {b : AV} (hb : Tail code n b) :
    ∃ (r : Int) (u : AV), CC n_s_l1Cur_rounds3 0 7 [] b u (.d tI r) ∧ Tail code (n + 4) u := by
  obtain ⟨r, u, c, ⟨b1, b2, _⟩, t⟩ := pick_1_7 hc (by omega) hb 24
  have b2 := b2 (by omega)
  have h1 : 0 ≤ r.tdiv 11 ∧ r.tdiv 11 ≤ 2 := by
    rw [Int.tdiv_eq_ediv_of_nonneg b1]; omega
  have e1 : IntKind.i64.wrap (6 + IntKind.i64.wrap (r.tdiv 11)) = 6 + r.tdiv 11 := by rw [wrap_in (n := r.tdiv 11) (by omega) (by omega), wrap_in (by omega) (by omega)]
  obtain ⟨m, hm, hm2⟩ : ∃ m : Nat, 6 + r.tdiv 11 = m ∧ 6 ≤ m ∧ m ≤ 8 := ⟨(6 + r.tdiv 11).toNat, by omega, by omega, by omega⟩
  obtain ⟨r2, u2, c2, _, t2⟩ := amongS_1_7 hc (by omega) t ⟨⟨0, 4, false⟩, []⟩ [3, 5, 2, 1, 8, 12, 0, 13] 0 m (by omega) (by show 0 + m ≤ 8; omega)
  refine ⟨r2, u2, fun P C => ?_, t2.le (by omega)⟩
  refine p_s_l1Cur_rounds3 true (C.pos _) rfl rfl ?_
  conv => whnf
  refine ⟨_, _, c _ (C.lift _), ?_⟩
  conv => whnf
  refine ⟨(by decide), ?_⟩
  conv => whnf
  rw [e1, hm]
  refine ⟨⟨Int.natCast_nonneg _, Int.ofNat_le.2 (show m ≤ 8 by omega)⟩, ?_⟩
  conv => whnf
  refine ⟨_, _, c2 _ (C.lift _) (by intro _; exact rfl), ?_⟩
  conv => whnf
  exact ⟨_, rfl, rfl, rfl⟩


end Go.Proofs.Ytlndfmmigndgeaa.Ev
