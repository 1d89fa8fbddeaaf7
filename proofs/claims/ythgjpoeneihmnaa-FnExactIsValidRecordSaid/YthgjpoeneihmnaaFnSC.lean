/- Functions of the log's texts: plain ones, sums, seals, records. -/
import Derived.Test.YthgjpoeneihmnaaFnSB
namespace Go.Proofs.Ythgjpoeneihmnaa.Ev
open Go
set_option linter.unusedVariables false
set_option linter.unusedSimpArgs false
set_option maxRecDepth 100000
set_option exponentiation.threshold 100000

theorem gT' {b : Bool} (h : (b == false) = true) : b = false := hT h
theorem gF' {b : Bool} (h : (b == false) = false) : b = true := hF h
theorem at_byte {l : Txt} {n : Nat} : ((mk l)[((n : Nat) : Int).toNat]?.getD 0) = l.getD n 0 := by
  rw [Int.toNat_natCast, mk_get, List.getD_eq_getElem?_getD]

theorem plain_no1 {l : Txt} {n : Nat} (h : n < l.length) (hb : (l.getD n 0).toNat < 32) : plain (l.drop n) = false := by
  rw [drop_getD l h 0]; simp only [plain, List.all_cons]
  rw [decide_eq_false (by omega)]; simp
theorem plain_no2 {l : Txt} {n : Nat} (h : n < l.length) (hb : 126 < (l.getD n 0).toNat) : plain (l.drop n) = false := by
  rw [drop_getD l h 0]; simp only [plain, List.all_cons]
  rw [decide_eq_false (p := (l.getD n 0).toNat ≤ 126) (by omega)]; simp
theorem plain_next {l : Txt} {n : Nat} (h : n < l.length) (h1 : ¬ (l.getD n 0).toNat < 32) (h2 : ¬ 126 < (l.getD n 0).toNat) : plain (l.drop n) = plain (l.drop (n + 1)) := by
  rw [drop_getD l h 0]; simp only [plain, List.all_cons]
  rw [decide_eq_true (by omega), decide_eq_true (p := (l.getD n 0).toNat ≤ 126) (by omega)]; simp
theorem plain_lt {l : Txt} (h : plain l = true) : ∀ b ∈ l, b.toNat < 128 := by
  intro b hb
  have := List.all_eq_true.1 h b hb
  simp only [Bool.and_eq_true, decide_eq_true_eq] at this
  omega

theorem i_isPlain_ok (l cs : Txt) (most : Int) (hl : l.length ≤ 4194304) (hc : cs.length ≤ 1000) (h2 : ∀ b ∈ cs, b.toNat < 128) :
    orc.pc n_i_isPlain [.d .str (mk l), .d tI most, .d .str (mk cs)] ⟨.bool, .fz, plain l && (decide ((l.length : Int) ≤ most) && !(l.any fun b => cs.contains b))⟩ := by
  refine p_i_isPlain true rfl rfl ?_
  conv => whnf
  refine loop_ups (X := Int) (fun i => [⟨0, 10, false, .d tI i⟩]) (fun i => l.length - i.toNat) (fun i => ∃ n : Nat, i = n ∧ n ≤ l.length ∧ plain l = plain (l.drop n)) 0 ?_ ⟨0, rfl, by omega, by simp⟩ ?_
  · refine st_eq ?_
    conv => whnf
    exact ⟨rfl⟩
  rintro _ ⟨n, rfl, hn, hi⟩
  conv => whnf
  refine cond_intro (fun h => ?_) (fun h => ?_)
  · have h : n < l.length := by simpa [mk_size] using h
    conv => whnf
    refine ⟨⟨Int.natCast_nonneg _, Int.ofNat_lt.2 h⟩, ?_⟩
    conv => whnf
    rw [at_byte]
    refine cond_intro (fun g0 => ?_) (fun g0 => ?_)
    · have g : ¬ (l.getD n 0).toNat < 32 := by have := of_decide_eq_false (gT' g0); omega
      conv => whnf
      refine ⟨⟨Int.natCast_nonneg _, Int.ofNat_lt.2 h⟩, ?_⟩
      conv => whnf
      rw [at_byte]
      conv => whnf
      repeat ((first | refine cond_t g0 ?_ | refine cond_f (hT g0) ?_ | refine cond_t (gT g0) ?_); conv => whnf)
      refine cond_intro (fun r0 => ?_) (fun r0 => ?_)
      · have r : 126 < (l.getD n 0).toNat := by have := of_decide_eq_true r0; omega
        rw [hi, plain_no2 h r]
        conv => whnf
        exact ⟨_, _, rfl, .inl rfl, rfl⟩
      · have r : ¬ 126 < (l.getD n 0).toNat := by have := of_decide_eq_false r0; omega
        conv => whnf
        refine ⟨_, rfl, ⟨n + 1, wrap_succ h (by unfold Short; omega), by omega, by rw [hi, plain_next h g r]⟩, ?_⟩
        rw [wrap_succ h (by unfold Short; omega)]; simp; omega
    · have g : (l.getD n 0).toNat < 32 := by have := of_decide_eq_true (gF' g0); omega
      rw [hi, plain_no1 h g]
      conv => whnf
      repeat ((first | refine cond_f g0 ?_ | refine cond_t (hF g0) ?_ | refine cond_f (gF g0) ?_); conv => whnf)
      exact ⟨_, _, rfl, .inl rfl, rfl⟩
  · have h : ¬ n < l.length := by simpa [mk_size] using h
    have hp : plain l = true := by rw [hi, drop_len h]; rfl
    conv => whnf
    refine cond_intro (fun g0 => ?_) (fun g0 => ?_)
    · have g : (l.length : Int) ≤ most := of_decide_eq_true (gT g0)
      conv => whnf
      repeat ((first | refine cond_t g0 ?_ | refine cond_f (hT g0) ?_ | refine cond_t (gT g0) ?_); conv => whnf)
      refine ⟨_, strings_ContainsAny_ok l cs (by omega) (by omega) (plain_lt hp) h2, (by first | exact (fun _ => rfl) | exact (fun h => Bool.noConfusion h)), ?_⟩
      conv => whnf
      repeat ((first | refine cond_t g0 ?_ | refine cond_f (hT g0) ?_ | refine cond_t (gT g0) ?_); conv => whnf)
      exact ⟨_, _, rfl, .inl rfl, fin1 (by rw [hp, decide_eq_true g]; simp)⟩
    · have g : ¬ (l.length : Int) ≤ most := of_decide_eq_false (gF g0)
      conv => whnf
      repeat ((first | refine cond_f g0 ?_ | refine cond_t (hF g0) ?_ | refine cond_f (gF g0) ?_); conv => whnf)
      exact ⟨_, _, rfl, .inl rfl, fin1 (by rw [hp, decide_eq_false g]; simp)⟩

theorem sne {x y : ByteArray} (h : (!(x.toList == y.toList)) = true) : x.data.toList ≠ y.data.toList := by
  intro e
  have := WideShapes.bytes_inj e
  subst this
  simp at h
theorem seq {x y : ByteArray} (h : (!(x.toList == y.toList)) = false) : x.data.toList = y.data.toList := by
  have h : (x.toList == y.toList) = true := by simpa using h
  have := eq_of_beq h
  rwa [ByteArray.toList_eq, ByteArray.toList_eq] at this
theorem sne1 {x y : ByteArray} (h : (x.toList == y.toList) = false) : x.data.toList ≠ y.data.toList := sne (by rw [h]; rfl)
theorem seq1 {x y : ByteArray} (h : (x.toList == y.toList) = true) : x.data.toList = y.data.toList := seq (by rw [h]; rfl)
theorem seq_dec (x y : ByteArray) : (x.toList == y.toList) = decide (x.data.toList = y.data.toList) := by
  rw [ByteArray.toList_eq, ByteArray.toList_eq]
  by_cases h : x.data.toList = y.data.toList
  · rw [h]; simp
  · rw [decide_eq_false h, beq_eq_false_iff_ne]; exact h

theorem le_cast (n m : Nat) : decide ((n : Int) ≤ (m : Int)) = decide (n ≤ m) := by
  by_cases h : n ≤ m
  · rw [decide_eq_true h, decide_eq_true (by omega)]
  · rw [decide_eq_false h, decide_eq_false (by omega)]
theorem any2 (l : Txt) : (l.any fun b => ([35, 64] : Txt).contains b) = l.any fun b => b == 35 || b == 64 := by
  congr 1; funext b; cases h : (b == 35) <;> cases g : (b == 64) <;> simp [List.contains, List.elem, h, g]
theorem any1 (l : Txt) : (l.any fun b => ([35] : Txt).contains b) = l.any fun b => b == 35 := by
  congr 1; funext b; cases h : (b == 35) <;> simp [List.contains, List.elem, h]

theorem i_isCommand_ok (l : Txt) (hl : l.length ≤ 4194304) : orc.pc n_i_isCommand [.d .str (mk l)] ⟨.bool, .fz, okCmd l⟩ := by
  refine p_i_isCommand true rfl rfl ?_
  conv => whnf
  refine cond_intro (fun g0 => ?_) (fun g0 => ?_)
  · have g : l ≠ [] := sne (gT g0)
    conv => whnf
    repeat ((first | refine cond_t g0 ?_ | refine cond_f (hT g0) ?_ | refine cond_t (gT g0) ?_); conv => whnf)
    refine ⟨_, i_isPlain_ok l [35, 64] 160 hl (by decide) (by decide), (by first | exact (fun _ => rfl) | exact (fun h => Bool.noConfusion h)), ?_⟩
    conv => whnf
    repeat ((first | refine cond_t g0 ?_ | refine cond_f (hT g0) ?_ | refine cond_t (gT g0) ?_); conv => whnf)
    exact ⟨_, _, rfl, .inl rfl, fin1 (by unfold okCmd; rw [any2, decide_eq_false g]; have q : decide ((l.length : Int) ≤ 160) = decide (l.length ≤ 160) := le_cast l.length 160; simp only [q]; (try rfl))⟩
  · have g : l = [] := seq (gF g0)
    conv => whnf
    repeat ((first | refine cond_f g0 ?_ | refine cond_t (hF g0) ?_ | refine cond_f (gF g0) ?_); conv => whnf)
    exact ⟨_, _, rfl, .inl rfl, fin1 (by unfold okCmd; rw [decide_eq_true g]; rfl)⟩

abbrev shRec : Sh := .pair .str (.pair .str .unit)
def recD (e : Rec) : shRec.den := (mk e.1, mk e.2, ())
theorem i_IsValidRecord_ok (e : Rec) (h1 : e.1.length ≤ 4194304) (h2 : e.2.length ≤ 4194304) : orc.pc n_i_IsValidRecord [.d shRec (recD e)] ⟨.bool, .fz, okRec e⟩ := by
  refine p_i_IsValidRecord true rfl rfl ?_
  conv => whnf
  refine ⟨_, i_isCommand_ok e.1 h1, (by first | exact (fun _ => rfl) | exact (fun h => Bool.noConfusion h)), ?_⟩
  conv => whnf
  refine cond_intro (fun g0 => ?_) (fun g0 => ?_)
  · have g : okCmd e.1 = true := gT g0
    conv => whnf
    repeat ((first | refine cond_t g0 ?_ | refine cond_f (hT g0) ?_ | refine cond_t (gT g0) ?_); conv => whnf)
    refine ⟨_, i_isPlain_ok e.2 [35] 250 h2 (by decide) (by decide), (by first | exact (fun _ => rfl) | exact (fun h => Bool.noConfusion h)), ?_⟩
    conv => whnf
    repeat ((first | refine cond_t g0 ?_ | refine cond_f (hT g0) ?_ | refine cond_t (gT g0) ?_); conv => whnf)
    exact ⟨_, _, rfl, .inl rfl, fin1 (by unfold okRec okRep; rw [any1, g]; have q : decide ((e.2.length : Int) ≤ 250) = decide (e.2.length ≤ 250) := le_cast e.2.length 250; simp only [q]; (try rfl))⟩
  · have g : okCmd e.1 = false := gF g0
    conv => whnf
    repeat ((first | refine cond_f g0 ?_ | refine cond_t (hF g0) ?_ | refine cond_f (gF g0) ?_); conv => whnf)
    exact ⟨_, _, rfl, .inl rfl, fin1 (by unfold okRec; rw [g]; rfl)⟩

/-! ### Sums -/

theorem cs_val {h : Nat} {b : UInt8} (hh : h < 999979) : Int.tmod (IntKind.i64.wrap (IntKind.i64.wrap (IntKind.i64.wrap (41 * (h : Int)) + IntKind.i64.wrap (b.toNat : Int)) + 1)) 999979 = (csStep h b : Nat) := by
  have hb : b.toNat < 256 := b.toNat_lt
  rw [wrap_in (n := 41 * (h : Int)) (by omega) (by omega), wrap_in (n := (b.toNat : Int)) (by omega) (by omega), wrap_in (n := 41 * (h : Int) + (b.toNat : Int)) (by omega) (by omega), wrap_in (by omega) (by omega)]
  unfold csStep
  rw [Int.tmod_eq_emod_of_nonneg (by omega)]
  omega
theorem csum_next {l : Txt} {n h : Nat} (hn : n < l.length) (hi : csum l = (l.drop n).foldl csStep h) : csum l = (l.drop (n + 1)).foldl csStep (csStep h (l.getD n 0)) := by
  rw [hi, drop_getD l hn 0]; rfl
theorem csStep_lt (h : Nat) (b : UInt8) : csStep h b < 999979 := Nat.mod_lt _ (by decide)

end Go.Proofs.Ythgjpoeneihmnaa.Ev
