/- Functions of the log's texts in the specification: numbers, parts, seals, records. -/
import Derived.Test.YthgjpoeneihmnaaDoorFnSC
namespace Go.Proofs.YthgjpoeneihmnaaDoor.Ev
open Go
set_option linter.unusedVariables false
set_option linter.unusedSimpArgs false
set_option maxRecDepth 100000
set_option exponentiation.threshold 100000

def digs : ByteArray := ⟨#[48, 49, 50, 51, 52, 53, 54, 55, 56, 57]⟩
theorem digs_at (n : Nat) (h : n < 10) : digs.extract n (n + 1) = mk [UInt8.ofNat (48 + n)] := by
  have key : ∀ i : Fin 10, digs.extract i.val (i.val + 1) = mk [UInt8.ofNat (48 + i.val)] := by decide +kernel
  exact key ⟨n, h⟩

theorem s_l1Num_ok (n : Nat) : n < 4611686018427387904 → orc.pc n_s_l1Num [.d tI (n : Int)] ⟨.str, .fz, mk (Lib.decDigits n)⟩ := by
  induction n using Nat.strongRecOn with
  | _ n ih =>
  intro hn
  refine p_s_l1Num true rfl rfl ?_
  conv => whnf
  refine cond_intro (fun h => ?_) (fun h => ?_)
  · have h : n < 10 := by have := of_decide_eq_true h; omega
    have e1 : IntKind.i64.wrap ((n : Int) + 1) = ((n + 1 : Nat) : Int) := by rw [wrap_in (by omega) (by omega)]; simp
    conv => whnf
    rw [e1]
    refine ⟨⟨Int.natCast_nonneg _, Int.ofNat_le.2 (show n + 1 ≤ 10 by omega)⟩, ?_⟩
    conv => whnf
    refine ⟨⟨Int.natCast_nonneg _, Int.ofNat_le.2 (show n ≤ n + 1 by omega)⟩, ?_⟩
    conv => whnf
    exact ⟨_, _, rfl, .inl rfl, fin1 (by rw [Lib.decDigits, dif_pos h]; exact digs_at n h)⟩
  · have h : ¬ n < 10 := by have := of_decide_eq_false h; omega
    have e1 : IntKind.i64.wrap (Int.tdiv (n : Int) 10) = ((n / 10 : Nat) : Int) := by
      rw [Int.tdiv_eq_ediv_of_nonneg (by omega), wrap_in (by omega) (by omega)]; simp
    have e2 : Int.tmod (n : Int) 10 = ((n % 10 : Nat) : Int) := by rw [Int.tmod_eq_emod_of_nonneg (by omega)]; simp
    have e3 : IntKind.i64.wrap (((n % 10 : Nat) : Int) + 1) = ((n % 10 + 1 : Nat) : Int) := by rw [wrap_in (by omega) (by omega)]; simp
    have hl : (Lib.decDigits (n / 10)).length ≤ 20 := dec_length (k := 19) (by omega)
    conv => whnf
    refine ⟨(by decide), ?_⟩
    conv => whnf
    rw [e1]
    refine ⟨_, ih (n / 10) (by omega) (by omega), (by first | exact (fun _ => rfl) | exact (fun h => Bool.noConfusion h)), ?_⟩
    conv => whnf
    refine ⟨(by decide), ?_⟩
    conv => whnf
    rw [e2]
    refine ⟨(by decide), ?_⟩
    conv => whnf
    rw [e3]
    refine ⟨⟨Int.natCast_nonneg _, Int.ofNat_le.2 (show n % 10 + 1 ≤ 10 by omega)⟩, ?_⟩
    conv => whnf
    refine ⟨⟨Int.natCast_nonneg _, Int.ofNat_le.2 (show n % 10 ≤ n % 10 + 1 by omega)⟩, ?_⟩
    conv => whnf
    have hx : ((ByteArray.mk #[48, 49, 50, 51, 52, 53, 54, 55, 56, 57]).extract ((n % 10 : Nat) : Int).toNat ((n % 10 + 1 : Nat) : Int).toNat) = mk [UInt8.ofNat (48 + n % 10)] := digs_at (n % 10) (by omega)
    rw [hx]
    refine ⟨(by show (((Lib.decDigits (n / 10)).length + 1 : Nat) : Int) ≤ 9223372036854775807; omega), ?_⟩
    conv => whnf
    exact ⟨_, _, rfl, .inl rfl, fin1 (by rw [mk_app]; conv => rhs; rw [Lib.decDigits, dif_neg h])⟩

theorem s_l1Stands_ok (l : Txt) (c : UInt8) (hl : l.length ≤ 4194304) : orc.pc n_s_l1Stands [.d .str (mk l), .d (.int .u8) (c.toNat : Int)] ⟨.bool, .fz, decide (c ∈ l)⟩ := by
  refine p_s_l1Stands true rfl rfl ?_
  conv => whnf
  refine loop_ups (X := Int) (fun i => [⟨0, 5, false, .d tI i⟩]) (fun i => l.length - i.toNat) (fun i => ∃ n : Nat, i = n ∧ n ≤ l.length ∧ (c ∈ l ↔ c ∈ l.drop n)) 0 ?_ ⟨0, rfl, by omega, by simp⟩ ?_
  · refine st_eq ?_
    conv => whnf
    exact ⟨rfl⟩
  rintro _ ⟨n, rfl, hn, hi⟩
  conv => whnf
  refine cond_intro (fun h => ?_) (fun h => ?_)
  · have h : n < l.length := by simpa [mk_size] using h
    rw [drop_getD l h 0] at hi
    conv => whnf
    refine ⟨⟨Int.natCast_nonneg _, Int.ofNat_lt.2 h⟩, ?_⟩
    conv => whnf
    rw [at_byte]
    refine cond_intro (fun g0 => ?_) (fun g0 => ?_)
    · have g : l.getD n 0 = c := by
        have := eq_of_beq g0
        exact UInt8.toNat_inj.1 (by omega)
      conv => whnf
      exact ⟨_, _, rfl, .inl rfl, fin1 (by symm; rw [decide_eq_true_eq, hi, g]; simp)⟩
    · have g : ¬ l.getD n 0 = c := by
        intro e; rw [e] at g0; simp at g0
      conv => whnf
      refine ⟨_, rfl, ⟨n + 1, wrap_succ h (by unfold Short; omega), by omega, by rw [hi, mem_ne g]⟩, ?_⟩
      rw [wrap_succ h (by unfold Short; omega)]; simp; omega
  · have h : ¬ n < l.length := by simpa [mk_size] using h
    conv => whnf
    exact ⟨_, _, rfl, .inl rfl, fin1 (by symm; rw [decide_eq_false_iff_not, hi, drop_len h]; simp)⟩

theorem s_l1Seal_ok (l : Txt) (hl : l.length ≤ 4194304) : orc.pc n_s_l1Seal [.d .str (mk l)] ⟨.str, .fz, mk (seal1 l)⟩ := by
  have h6 := dec_length (k := 5) (u := csum l) (Nat.lt_of_lt_of_le (csum_lt l) (by decide))
  refine p_s_l1Seal true rfl rfl ?_
  conv => whnf
  refine ⟨(by show ((l.length + 1 : Nat) : Int) ≤ 9223372036854775807; omega), ?_⟩
  conv => whnf
  refine ⟨_, s_l1Sum_ok l hl, (by first | exact (fun _ => rfl) | exact (fun h => Bool.noConfusion h)), ?_⟩
  conv => whnf
  refine ⟨_, s_l1Num_ok (csum l) (Nat.lt_trans (csum_lt l) (by decide)), (by first | exact (fun _ => rfl) | exact (fun h => Bool.noConfusion h)), ?_⟩
  conv => whnf
  rw [show mk l ++ ByteArray.mk #[35] = mk (l ++ [35]) from mk_app l [35]]
  refine ⟨(by show (((l ++ [35]).length + (Lib.decDigits (csum l)).length : Nat) : Int) ≤ 9223372036854775807; simp; omega), ?_⟩
  conv => whnf
  exact ⟨_, _, rfl, .inl rfl, fin1 (by rw [mk_app]; unfold seal1; simp)⟩

/-! ### Parts -/

def splF (c : UInt8) : Txt → Txt → List Txt
  | cur, [] => [cur]
  | cur, b :: l => if b = c then cur :: splF c [] l else splF c (cur ++ [b]) l
def spl (c : UInt8) (l : Txt) : List Txt := splF c [] l
theorem splF_eq (c : UInt8) : ∀ (l cur : Txt), splF c cur l = (cur ++ bef c l) :: (if c ∈ l then spl c (aft c l) else []) := by
  intro l
  induction l with
  | nil => intro cur; simp [splF, bef]
  | cons b l ih =>
    intro cur
    by_cases hb : b = c
    · subst hb; simp [splF, bef, aft, spl]
    · simp only [splF, if_neg hb, bef, aft, ih, List.append_assoc, List.singleton_append]
      by_cases hc : c ∈ l
      · rw [if_pos hc, if_pos ((mem_ne hb).2 hc)]
      · rw [if_neg hc, if_neg (fun e => hc ((mem_ne hb).1 e))]
theorem spl_eq (c : UInt8) (l : Txt) : spl c l = bef c l :: (if c ∈ l then spl c (aft c l) else []) := by
  have := splF_eq c l []
  simpa [spl] using this
theorem spl_len (c : UInt8) (l : Txt) : ((spl c l).length < 2) ↔ c ∉ l := by
  rw [spl_eq]
  by_cases h : c ∈ l
  · rw [if_pos h, spl_eq]; simp [h]
  · rw [if_neg h]; simp [h]
theorem splF_len (c : UInt8) : ∀ (l cur : Txt), (splF c cur l).length ≤ l.length + 1 := by
  intro l
  induction l with
  | nil => intro cur; simp [splF]
  | cons b l ih =>
    intro cur
    simp only [splF]
    split
    · simp; exact ih []
    · have := ih (cur ++ [b]); simp; omega

abbrev shStrS : Sh := .sl .str
theorem s_l1Split_ok (l : Txt) (c : UInt8) (hl : l.length ≤ 1048576) : orc.pc n_s_l1Split [.d .str (mk l), .d (.int .u8) (c.toNat : Int)] ⟨shStrS, .fz, (spl c l).map mk⟩ := by
  refine p_s_l1Split false rfl rfl ?_
  conv => whnf
  refine loop_ups (X := List ByteArray × Int × Int) (fun (o, f, i) => [⟨0, 5, false, .own .str .fz o⟩, ⟨0, 6, false, .d tI f⟩, ⟨0, 7, false, .d tI i⟩]) (fun (_, _, i) => l.length - i.toNat) (fun (o, f, i) => ∃ m n : Nat, f = m ∧ i = n ∧ m ≤ n ∧ n ≤ l.length ∧ o.length ≤ n ∧ (spl c l).map mk = o ++ (splF c ((l.drop m).take (n - m)) (l.drop n)).map mk) ([], 0, 0) ?_ ⟨0, 0, rfl, rfl, by omega, by omega, by simp, by simp [spl]⟩ ?_
  · refine st_eq ?_
    conv => whnf
    exact ⟨rfl⟩
  rintro ⟨o, _, _⟩ ⟨m, n, rfl, rfl, hf, hn, ho, hi⟩
  conv => whnf
  refine cond_intro (fun h => ?_) (fun h => ?_)
  · have h : n < l.length := by simpa [mk_size] using h
    rw [drop_getD l h 0] at hi
    conv => whnf
    refine ⟨⟨Int.natCast_nonneg _, Int.ofNat_lt.2 h⟩, ?_⟩
    conv => whnf
    rw [at_byte]
    refine cond_intro (fun g0 => ?_) (fun g0 => ?_)
    · have g : l.getD n 0 = c := by
        have := eq_of_beq g0
        exact UInt8.toNat_inj.1 (by omega)
      simp only [splF, if_pos g] at hi
      conv => whnf
      refine ⟨⟨Int.natCast_nonneg _, Int.ofNat_le.2 (Nat.le_of_lt h)⟩, ?_⟩
      conv => whnf
      refine ⟨⟨Int.natCast_nonneg _, Int.ofNat_le.2 hf⟩, ?_⟩
      conv => whnf
      refine ⟨⟨room_snoc (by omega) (by decide), len_snoc (by omega)⟩, ?_⟩
      conv => whnf
      refine ⟨(_, _, _), rfl, ⟨n + 1, n + 1, wrap_succ h (by unfold Short; omega), wrap_succ h (by unfold Short; omega), by omega, by omega, ?_, ?_⟩, ?_⟩
      · show (o ++ [_]).length ≤ _
        simp; omega
      · show _ = (o ++ [(mk l).extract m n]) ++ _
        rw [hi, mk_ext, Nat.sub_self, List.take_zero]; simp
      · rw [wrap_succ h (by unfold Short; omega)]; simp; omega
    · have g : ¬ l.getD n 0 = c := by
        intro e; rw [e] at g0; simp at g0
      simp only [splF, if_neg g] at hi
      conv => whnf
      refine ⟨(_, _, _), rfl, ⟨m, n + 1, rfl, wrap_succ h (by unfold Short; omega), by omega, by omega, by omega, ?_⟩, ?_⟩
      · rw [hi]
        have e : n + 1 - m = (n - m) + 1 := by omega
        have e2 : (l.drop m).getD (n - m) 0 = l.getD n 0 := by
          rw [List.getD_eq_getElem?_getD, List.getElem?_drop, ← List.getD_eq_getElem?_getD]; congr 1; omega
        rw [e, take_getD (l.drop m) (by simp; omega) 0, e2]
      · rw [wrap_succ h (by unfold Short; omega)]; simp; omega
  · have h : ¬ n < l.length := by simpa [mk_size] using h
    obtain rfl : n = l.length := by omega
    have e : (l.drop m).take (l.length - m) = l.drop m := List.take_of_length_le (by simp)
    rw [List.drop_length, e] at hi
    have e2 : (mk l).extract m l.length = mk (l.drop m) := by rw [mk_ext, e]
    conv => whnf
    refine ⟨⟨Int.natCast_nonneg _, Int.ofNat_le.2 hf⟩, ?_⟩
    conv => whnf
    refine ⟨⟨room_snoc (by omega) (by decide), len_snoc (by omega)⟩, ?_⟩
    conv => whnf
    exact ⟨_, ⟨shStrS, .fz, (spl c l).map mk⟩, rfl, .inr ⟨rfl, rfl, rfl, by rw [hi]; exact congrArg (fun x => o ++ [x]) e2⟩, rfl⟩

end Go.Proofs.YthgjpoeneihmnaaDoor.Ev
