/- The law FnExactIsValidConsole: for every console it returns true. -/
import Derived.Test.YthgjpoeneihmnaaDoorL40
namespace Go.Proofs.YthgjpoeneihmnaaDoor.Ev
open Go
set_option linter.unusedVariables false
set_option linter.unusedSimpArgs false
set_option maxRecDepth 100000
set_option exponentiation.threshold 100000

abbrev shConsole : Sh := .pair shSchool (.pair shLog .unit)
def consD (s : School) (l : LogD) : shConsole.den := (s, logD l, ())
def szCon (s : School) (l : LogD) (k : Int) : Int := if szSc s k < 0 then -1 else szAll [l.1.length, l.2.1.length] (szSc s k)

theorem szAll2_neg {a b : Nat} {k : Int} (h : szAll [a, b] k < 0) : szAll [a, b] k = -1 := by
  by_cases h1 : k - a < 0
  · exact szAll_neg1 h1
  · rw [szAll_pos1 h1] at h ⊢
    by_cases h2 : k - a - b < 0
    · exact szAll_neg1 h2
    · rw [szAll_pos1 h2] at h
      have h : k - a - b < 0 := h
      exact absurd h h2
theorem l_szConsole_ok (s : School) (l : LogD) (k : Int) (hs : LimS s.1) (hp : s.2.1.1.length ≤ maxL) (h1 : l.1.length ≤ maxL) (h2 : l.2.1.length ≤ maxL) (h0 : 0 ≤ k) (hk : k ≤ 1048576) :
    orc.pc n_l_szConsole [.d shConsole (consD s l), .d tI k] ⟨tI, .fz, szCon s l k⟩ := by
  refine p_l_szConsole true rfl rfl ?_
  conv => whnf
  refine ⟨_, l_szSchool_ok s k hs hp h0 hk, (by first | exact (fun _ => rfl) | exact (fun h => Bool.noConfusion h)), ?_⟩
  conv => whnf
  refine cond_intro (fun h => ?_) (fun h => ?_)
  · have h : szSc s k < 0 := of_decide_eq_true h
    conv => whnf
    exact ⟨_, _, rfl, .inl rfl, fin1 (by unfold szCon; rw [if_pos h])⟩
  have h : ¬ szSc s k < 0 := of_decide_eq_false h
  obtain ⟨_, hb⟩ := szSc_fit h0 hk (Int.not_lt.1 h)
  conv => whnf
  refine ⟨_, l_szLog_ok l (szSc s k) h1 h2 (Int.not_lt.1 h) (by omega), (by first | exact (fun _ => rfl) | exact (fun h => Bool.noConfusion h)), ?_⟩
  conv => whnf
  refine cond_intro (fun g => ?_) (fun g => ?_)
  · have g : szAll [l.1.length, l.2.1.length] (szSc s k) < 0 := of_decide_eq_true g
    conv => whnf
    exact ⟨_, _, rfl, .inl rfl, fin1 (by unfold szCon; rw [if_neg h]; exact (szAll2_neg g).symm)⟩
  · conv => whnf
    exact ⟨_, _, rfl, .inl rfl, fin1 (by unfold szCon; rw [if_neg h])⟩

theorem l_toConsole_ok (s : School) (l : LogD) (hs : FitSc s) : orc.pc n_l_toConsole [.d shConsole (consD s l)] ⟨shConsole, shConsole.full, consD s l⟩ := by
  refine p_l_toConsole true rfl rfl ?_
  conv => whnf
  refine ⟨_, l_toSchool_ok s hs, (by first | exact (fun _ => rfl) | exact (fun h => Bool.noConfusion h)), ?_⟩
  conv => whnf
  refine ⟨_, l_toLog_ok l, (by first | exact (fun _ => rfl) | exact (fun h => Bool.noConfusion h)), ?_⟩
  conv => whnf
  exact ⟨_, _, rfl, .inl rfl, rfl⟩

theorem l_eqConsole_self (s : School) (l : LogD) (hs : FitSc s) : orc.pc n_l_eqConsole [.d shConsole (consD s l), .d shConsole (consD s l)] ⟨.bool, .fz, true⟩ := by
  refine p_l_eqConsole true rfl rfl ?_
  conv => whnf
  refine ⟨_, l_eqSchool_ok s s hs, (by first | exact (fun _ => rfl) | exact (fun h => Bool.noConfusion h)), ?_⟩
  conv => whnf
  refine cond_f (show (!decide (s = s)) = false by simp) ?_
  conv => whnf
  refine ⟨_, l_eqLog_self l, (by first | exact (fun _ => rfl) | exact (fun h => Bool.noConfusion h)), ?_⟩
  conv => whnf
  exact ⟨_, _, rfl, .inl rfl, rfl⟩

def okCons (s : School) (l : LogD) : Bool := isSchool s && validL l
theorem i_IsValidConsole_ok (s : School) (l : LogD) (hs : FitSc s) (h1 : l.1.length ≤ 1048576) (h2 : l.2.1.length ≤ 1048576) : orc.pc n_i_IsValidConsole [.d shConsole (consD s l)] ⟨.bool, .fz, okCons s l⟩ := by
  refine p_i_IsValidConsole true rfl rfl ?_
  conv => whnf
  refine ⟨_, i_IsSchool_ok s hs, (by first | exact (fun _ => rfl) | exact (fun h => Bool.noConfusion h)), ?_⟩
  conv => whnf
  unfold okCons
  cases q : isSchool s with
  | false =>
    conv => whnf
    exact ⟨_, _, rfl, .inl rfl, rfl⟩
  | true =>
    conv => whnf
    refine ⟨_, i_IsValidLog_ok l h1 h2, (by first | exact (fun _ => rfl) | exact (fun h => Bool.noConfusion h)), ?_⟩
    conv => whnf
    exact ⟨_, _, rfl, .inl rfl, rfl⟩
theorem s_IsValidConsole_ok (s : School) (l : LogD) (hs : FitSc s) (h1 : l.1.length ≤ 1048576) (h2 : l.2.1.length ≤ 1048576) : orc.pc n_s_IsValidConsole [.d shConsole (consD s l)] ⟨.bool, .fz, okCons s l⟩ := by
  refine p_s_IsValidConsole true rfl rfl ?_
  conv => whnf
  refine ⟨_, s_l12Good_ok s hs, (by first | exact (fun _ => rfl) | exact (fun h => Bool.noConfusion h)), ?_⟩
  conv => whnf
  unfold okCons
  cases q : isSchool s with
  | false =>
    conv => whnf
    exact ⟨_, _, rfl, .inl rfl, rfl⟩
  | true =>
    conv => whnf
    refine ⟨_, s_l12Valid_ok l h1 h2, (by first | exact (fun _ => rfl) | exact (fun h => Bool.noConfusion h)), ?_⟩
    conv => whnf
    exact ⟨_, _, rfl, .inl rfl, rfl⟩

theorem l_FnExactIsValidConsole_ok (x : shConsole.den) (hx : WfD shConsole x) : orc.pc n_l_FnExactIsValidConsole [.d shConsole x] truePk := by
  obtain ⟨hx1, ⟨hx2, hx3, _⟩, _⟩ := hx
  obtain ⟨s, l, rfl⟩ : ∃ s l, x = consD s l := ⟨x.1, (x.2.1.1.data.toList, x.2.1.2.1.data.toList, x.2.1.2.2.1), rfl⟩
  have eqB : ∀ x : Bool, (!(x == x)) = false := by intro x; cases x <;> rfl
  refine p_l_FnExactIsValidConsole true rfl rfl ?_
  conv => whnf
  refine ⟨_, l_szConsole_ok s l 1048576 (lim_sample hx1.1) (lim_list hx1.2.1.1) (lim_str hx2) (lim_str hx3) (by decide) (by decide), (by first | exact (fun _ => rfl) | exact (fun h => Bool.noConfusion h)), ?_⟩
  conv => whnf
  refine cond_intro (fun h => ?_) (fun h => ?_)
  · conv => whnf
    exact ⟨_, _, rfl, .inl rfl, rfl⟩
  have h : ¬ szCon s l 1048576 < 0 := of_decide_eq_false h
  have hq : ¬ szSc s 1048576 < 0 := by
    intro e; apply h; unfold szCon; rw [if_pos e]; decide
  have h : ¬ szAll [l.1.length, l.2.1.length] (szSc s 1048576) < 0 := by unfold szCon at h; rwa [if_neg hq] at h
  obtain ⟨hf, hb⟩ := szSc_fit (by decide) (by decide) (Int.not_lt.1 hq)
  have h12 : l.1.length ≤ 1048576 ∧ l.2.1.length ≤ 1048576 := by
    obtain ⟨_, a⟩ := szAll_le (Int.not_lt.1 hq) (Int.not_lt.1 h)
    have := a l.1.length (by simp)
    have := a l.2.1.length (by simp)
    omega
  obtain ⟨h1, h2⟩ := h12
  conv => whnf
  refine ⟨_, l_toConsole_ok s l hf, (by first | exact (fun _ => rfl) | exact (fun h => Bool.noConfusion h)), ?_⟩
  conv => whnf
  refine ⟨_, s_IsValidConsole_ok s l hf h1 h2, (by first | exact (fun _ => rfl) | exact (fun h => Bool.noConfusion h)), ?_⟩
  conv => whnf
  refine ⟨_, l_toConsole_ok s l hf, (by first | exact (fun _ => rfl) | exact (fun h => Bool.noConfusion h)), ?_⟩
  conv => whnf
  refine ⟨_, i_IsValidConsole_ok s l hf h1 h2, (by first | exact (fun _ => rfl) | exact (fun h => Bool.noConfusion h)), ?_⟩
  conv => whnf
  refine cond_f (eqB _) ?_
  conv => whnf
  refine ⟨_, l_toConsole_ok s l hf, (by first | exact (fun _ => rfl) | exact (fun h => Bool.noConfusion h)), ?_⟩
  conv => whnf
  refine ⟨_, l_eqConsole_self s l hf, (by first | exact (fun _ => rfl) | exact (fun h => Bool.noConfusion h)), ?_⟩
  conv => whnf
  exact ⟨_, _, rfl, .inl rfl, rfl⟩

end Go.Proofs.YthgjpoeneihmnaaDoor.Ev
