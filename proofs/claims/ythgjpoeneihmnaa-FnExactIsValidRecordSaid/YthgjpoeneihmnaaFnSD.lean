/- Functions of the log's texts in the specification: numbers, parts, seals, records. -/
import Derived.Test.YthgjpoeneihmnaaFnSC
namespace Go.Proofs.Ythgjpoeneihmnaa.Ev
open Go
set_option linter.unusedVariables false
set_option linter.unusedSimpArgs false
set_option maxRecDepth 100000
set_option exponentiation.threshold 100000

def digs : ByteArray := ⟨#[48, 49, 50, 51, 52, 53, 54, 55, 56, 57]⟩
theorem digs_at (n : Nat) (h : n < 10) : digs.extract n (n + 1) = mk [UInt8.ofNat (48 + n)] := by
  have key : ∀ i : Fin 10, digs.extract i.val (i.val + 1) = mk [UInt8.ofNat (48 + i.val)] := by decide +kernel
  exact key ⟨n, h⟩

theorem s_l1Stands_ok (l : Txt) (c : UInt8) (hl : l.length ≤ 4194304) : orc.pc n_s_l1Stands [.d .str (mk l), .d (.int .u8) (c.toNat : Int)] ⟨.bool, .fz, decide (c ∈ l)⟩ := by
  refine p_s_l1Stands true rfl rfl ?_
  conv => whnf
  refine loop_ups (X := Int) (fun i => [⟨0, 5, false, .d tI i⟩]) (fun i => l.length - i.toNat) (fun i => ∃ n : Nat, i = n ∧ n ≤ l.length ∧ (c ∈ l ↔ c ∈ l.drop n)) 0 ?_ ⟨0, rfl, by omega, by simp⟩ ?_
  · refine st_eq ?_
    conv => whnf
    exact ⟨rfl⟩
  rintro _ ⟨n, rfl, hn, hi⟩
  conv => whnf
  refine cond_intro (fun h => ?_) (fun h => ?_)
  · have h : n < l.length := by simpa [mk_size] using h
    rw [drop_getD l h 0] at hi
    conv => whnf
    refine ⟨⟨Int.natCast_nonneg _, Int.ofNat_lt.2 h⟩, ?_⟩
    conv => whnf
    rw [at_byte]
    refine cond_intro (fun g0 => ?_) (fun g0 => ?_)
    · have g : l.getD n 0 = c := by
        have := eq_of_beq g0
        exact UInt8.toNat_inj.1 (by omega)
      conv => whnf
      exact ⟨_, _, rfl, .inl rfl, fin1 (by symm; rw [decide_eq_true_eq, hi, g]; simp)⟩
    · have g : ¬ l.getD n 0 = c := by
        intro e; rw [e] at g0; simp at g0
      conv => whnf
      refine ⟨_, rfl, ⟨n + 1, wrap_succ h (by unfold Short; omega), by omega, by rw [hi, mem_ne g]⟩, ?_⟩
      rw [wrap_succ h (by unfold Short; omega)]; simp; omega
  · have h : ¬ n < l.length := by simpa [mk_size] using h
    conv => whnf
    exact ⟨_, _, rfl, .inl rfl, fin1 (by symm; rw [decide_eq_false_iff_not, hi, drop_len h]; simp)⟩

/-! ### Parts -/

def splF (c : UInt8) : Txt → Txt → List Txt
  | cur, [] => [cur]
  | cur, b :: l => if b = c then cur :: splF c [] l else splF c (cur ++ [b]) l
def spl (c : UInt8) (l : Txt) : List Txt := splF c [] l
theorem splF_eq (c : UInt8) : ∀ (l cur : Txt), splF c cur l = (cur ++ bef c l) :: (if c ∈ l then spl c (aft c l) else []) := by
  intro l
  induction l with
  | nil => intro cur; simp [splF, bef]
  | cons b l ih =>
    intro cur
    by_cases hb : b = c
    · subst hb; simp [splF, bef, aft, spl]
    · simp only [splF, if_neg hb, bef, aft, ih, List.append_assoc, List.singleton_append]
      by_cases hc : c ∈ l
      · rw [if_pos hc, if_pos ((mem_ne hb).2 hc)]
      · rw [if_neg hc, if_neg (fun e => hc ((mem_ne hb).1 e))]
theorem spl_eq (c : UInt8) (l : Txt) : spl c l = bef c l :: (if c ∈ l then spl c (aft c l) else []) := by
  have := splF_eq c l []
  simpa [spl] using this
theorem spl_len (c : UInt8) (l : Txt) : ((spl c l).length < 2) ↔ c ∉ l := by
  rw [spl_eq]
  by_cases h : c ∈ l
  · rw [if_pos h, spl_eq]; simp [h]
  · rw [if_neg h]; simp [h]
theorem splF_len (c : UInt8) : ∀ (l cur : Txt), (splF c cur l).length ≤ l.length + 1 := by
  intro l
  induction l with
  | nil => intro cur; simp [splF]
  | cons b l ih =>
    intro cur
    simp only [splF]
    split
    · simp; exact ih []
    · have := ih (cur ++ [b]); simp; omega

abbrev shStrS : Sh := .sl .str
end Go.Proofs.Ythgjpoeneihmnaa.Ev
