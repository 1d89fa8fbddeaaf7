/- Functions of the log's records: in the specification. -/
import Derived.Test.YthgjpoeneihmnaaDoorFnSD
namespace Go.Proofs.YthgjpoeneihmnaaDoor.Ev
open Go
set_option linter.unusedVariables false
set_option linter.unusedSimpArgs false
set_option maxRecDepth 100000
set_option exponentiation.threshold 100000

def okB (b : UInt8) : Bool := (decide (32 ≤ b.toNat) && decide (b.toNat ≤ 126)) && !(b == 35)
theorem okB_in (b : UInt8) : inB (b.toNat : Int) 32 126 = (decide (32 ≤ b.toNat) && decide (b.toNat ≤ 126)) := by
  unfold inB
  rw [← le_cast 32 b.toNat, ← le_cast b.toNat 126]; rfl
theorem okB_all (l : Txt) : l.all okB = (plain l && !(l.any fun b => b == 35)) := by
  unfold plain
  induction l with
  | nil => rfl
  | cons b l ih =>
    simp only [List.all_cons, List.any_cons, ih, okB]
    generalize (decide (32 ≤ b.toNat) && decide (b.toNat ≤ 126)) = x
    generalize (b == 35) = y
    generalize (l.all fun b => decide (32 ≤ b.toNat) && decide (b.toNat ≤ 126)) = z
    generalize (l.any fun b => b == 35) = w
    cases x <;> cases y <;> cases z <;> cases w <;> rfl

theorem s_l12Bytes_ok (l : Txt) (most : Int) (hl : l.length ≤ 4194304) : orc.pc n_s_l12Bytes [.d .str (mk l), .d tI most] ⟨.bool, .fz, l.all okB && decide ((l.length : Int) ≤ most)⟩ := by
  refine p_s_l12Bytes true rfl rfl ?_
  conv => whnf
  refine loop_ups (X := Int) (fun i => [⟨0, 5, false, .d tI i⟩]) (fun i => l.length - i.toNat) (fun i => ∃ n : Nat, i = n ∧ n ≤ l.length ∧ l.all okB = (l.drop n).all okB) 0 ?_ ⟨0, rfl, by omega, by simp⟩ ?_
  · refine st_eq ?_
    conv => whnf
    exact ⟨rfl⟩
  rintro _ ⟨n, rfl, hn, hi⟩
  conv => whnf
  refine cond_intro (fun h => ?_) (fun h => ?_)
  · have h : n < l.length := by simpa [mk_size] using h
    rw [drop_getD l h 0, List.all_cons] at hi
    have hw : IntKind.i64.wrap (((l.getD n 0).toNat : Nat) : Int) = ((l.getD n 0).toNat : Nat) := by
      have := (l.getD n 0).toNat_lt
      rw [wrap_in (by omega) (by omega)]
    conv => whnf
    refine ⟨⟨Int.natCast_nonneg _, Int.ofNat_lt.2 h⟩, ?_⟩
    conv => whnf
    rw [at_byte, hw]
    refine ⟨_, s_l1In_ok _ _ _, (by first | exact (fun _ => rfl) | exact (fun h => Bool.noConfusion h)), ?_⟩
    conv => whnf
    rw [okB_in]
    cases q : (decide (32 ≤ (l.getD n 0).toNat) && decide ((l.getD n 0).toNat ≤ 126)) with
    | true =>
      conv => whnf
      refine ⟨⟨Int.natCast_nonneg _, Int.ofNat_lt.2 h⟩, ?_⟩
      conv => whnf
      rw [at_byte]
      refine cond_intro (fun g0 => ?_) (fun g0 => ?_)
      · have g : (l.getD n 0 == 35) = true := by
          have := eq_of_beq g0
          rw [beq_iff_eq]
          exact UInt8.toNat_inj.1 (by show _ = 35; omega)
        rw [show l.all okB = false by rw [hi]; simp only [okB, q, g]; rfl]
        conv => whnf
        exact ⟨_, _, rfl, .inl rfl, rfl⟩
      · have g : (l.getD n 0 == 35) = false := by
          rw [beq_eq_false_iff_ne]
          intro e; rw [e] at g0; exact absurd g0 (by decide)
        have e : okB (l.getD n 0) = true := by simp only [okB, q, g]; rfl
        rw [e, Bool.true_and] at hi
        conv => whnf
        refine ⟨_, rfl, ⟨n + 1, wrap_succ h (by unfold Short; omega), by omega, hi⟩, ?_⟩
        rw [wrap_succ h (by unfold Short; omega)]; simp; omega
    | false =>
      rw [show l.all okB = false by rw [hi]; simp only [okB, q]; rfl]
      conv => whnf
      exact ⟨_, _, rfl, .inl rfl, rfl⟩
  · have h : ¬ n < l.length := by simpa [mk_size] using h
    conv => whnf
    exact ⟨_, _, rfl, .inl rfl, fin1 (by rw [hi, drop_len h]; rfl)⟩

theorem sz_le {a b : Txt} (h : a.length + b.length ≤ 4294967296) : (((mk a).size + (mk b).size : Nat) : Int) ≤ maxInt := by
  rw [mk_size, mk_size]; simp only [maxInt]; omega

theorem okRec_spec (e : Rec) : okRec e = (!(decide (e.1 = [])) && (e.1.all okB && decide ((e.1.length : Int) ≤ 160)) && !(decide ((64 : UInt8) ∈ e.1)) && (e.2.all okB && decide ((e.2.length : Int) ≤ 250))) := by
  have q1 : decide ((e.1.length : Int) ≤ 160) = decide (e.1.length ≤ 160) := le_cast e.1.length 160
  have q2 : decide ((e.2.length : Int) ≤ 250) = decide (e.2.length ≤ 250) := le_cast e.2.length 250
  have q3 : (e.1.any fun b => b == 35 || b == 64) = ((e.1.any fun b => b == 35) || decide ((64 : UInt8) ∈ e.1)) := by
    induction e.1 with
    | nil => rfl
    | cons b l ih =>
      simp only [List.any_cons, ih, List.mem_cons]
      by_cases hb : b = 64
      · subst hb; simp
      · have h1 : (b == 64) = false := by simpa using hb
        have h2 : ¬ (64 : UInt8) = b := fun e => hb e.symm
        simp only [h1, h2, false_or, Bool.or_false, Bool.or_assoc]
  rw [q1, q2]
  unfold okRec okCmd okRep
  rw [q3, okB_all, okB_all]
  generalize decide (e.1 = []) = a
  generalize plain e.1 = b
  generalize decide (e.1.length ≤ 160) = c
  generalize (e.1.any fun b => b == 35) = d
  generalize decide ((64 : UInt8) ∈ e.1) = f
  generalize plain e.2 = g
  generalize decide (e.2.length ≤ 250) = h
  generalize (e.2.any fun b => b == 35) = i
  cases a <;> cases b <;> cases c <;> cases d <;> cases f <;> cases g <;> cases h <;> cases i <;> rfl

theorem s_l12Record_ok (e : Rec) (h1 : e.1.length ≤ 4194304) (h2 : e.2.length ≤ 4194304) : orc.pc n_s_l12Record [.d shRec (recD e)] ⟨.bool, .fz, okRec e⟩ := by
  rw [okRec_spec]
  refine p_s_l12Record true rfl rfl ?_
  conv => whnf
  refine cond_intro (fun g0 => ?_) (fun g0 => ?_)
  · have g : e.1 ≠ [] := sne (gT g0)
    rw [decide_eq_false g]
    conv => whnf
    repeat ((first | refine cond_t g0 ?_ | refine cond_f (hT g0) ?_ | refine cond_t (gT g0) ?_); conv => whnf)
    refine ⟨_, s_l12Bytes_ok e.1 160 h1, (by first | exact (fun _ => rfl) | exact (fun h => Bool.noConfusion h)), ?_⟩
    conv => whnf
    repeat ((first | refine cond_t g0 ?_ | refine cond_f (hT g0) ?_ | refine cond_t (gT g0) ?_); conv => whnf)
    cases q : (e.1.all okB && decide ((e.1.length : Int) ≤ 160)) with
    | true =>
      conv => whnf
      refine ⟨_, s_l1Stands_ok e.1 64 h1, (by first | exact (fun _ => rfl) | exact (fun h => Bool.noConfusion h)), ?_⟩
      conv => whnf
      cases r : decide ((64 : UInt8) ∈ e.1) with
      | true =>
        conv => whnf
        exact ⟨_, _, rfl, .inl rfl, rfl⟩
      | false =>
        conv => whnf
        refine ⟨_, s_l12Bytes_ok e.2 250 h2, (by first | exact (fun _ => rfl) | exact (fun h => Bool.noConfusion h)), ?_⟩
        conv => whnf
        exact ⟨_, _, rfl, .inl rfl, rfl⟩
    | false =>
      conv => whnf
      exact ⟨_, _, rfl, .inl rfl, rfl⟩
  · have g : e.1 = [] := seq (gF g0)
    rw [decide_eq_true g]
    conv => whnf
    repeat ((first | refine cond_f g0 ?_ | refine cond_t (hF g0) ?_ | refine cond_f (gF g0) ?_); conv => whnf)
    exact ⟨_, _, rfl, .inl rfl, rfl⟩

theorem s_l12Line_ok (k : Nat) (e : Rec) (hk : k < 4611686018427387904) (h1 : e.1.length ≤ 1048576) (h2 : e.2.length ≤ 1048576) : orc.pc n_s_l12Line [.d tI (k : Int), .d shRec (recD e)] ⟨.str, .fz, mk (lineOf k e)⟩ := by
  have hd : (Lib.decDigits k).length ≤ 20 := dec_length (k := 19) (by omega)
  have hb : body k e = Lib.decDigits k ++ [32] ++ e.1 ++ [64] ++ e.2 := by unfold body ahead; simp
  have hbl : (body k e).length ≤ 2100000 := by rw [hb]; simp; omega
  refine p_s_l12Line true rfl rfl ?_
  conv => whnf
  refine ⟨_, s_l1Num_ok k hk, (by first | exact (fun _ => rfl) | exact (fun h => Bool.noConfusion h)), ?_⟩
  conv => whnf
  rw [show ByteArray.mk #[32] = mk [32] from rfl, show ByteArray.mk #[64] = mk [64] from rfl, show ByteArray.mk #[10] = mk [10] from rfl]
  refine ⟨(by show (((Lib.decDigits k).length + 1 : Nat) : Int) ≤ 9223372036854775807; omega), ?_⟩
  conv => whnf
  rw [mk_app]
  refine ⟨(by show (((Lib.decDigits k ++ [32]).length + e.1.length : Nat) : Int) ≤ 9223372036854775807; simp; omega), ?_⟩
  conv => whnf
  rw [show mk (Lib.decDigits k ++ [32]) ++ (recD e).1 = mk (Lib.decDigits k ++ [32] ++ e.1) from mk_app _ _]
  refine ⟨(sz_le (a := Lib.decDigits k ++ [32] ++ e.1) (b := [64]) (by simp; omega)), ?_⟩
  conv => whnf
  rw [mk_app]
  refine ⟨(by show (((Lib.decDigits k ++ [32] ++ e.1 ++ [64]).length + e.2.length : Nat) : Int) ≤ 9223372036854775807; simp; omega), ?_⟩
  conv => whnf
  rw [show mk (Lib.decDigits k ++ [32] ++ e.1 ++ [64]) ++ (recD e).2.1 = mk (body k e) from by rw [hb]; exact mk_app _ _]
  refine ⟨_, s_l1Seal_ok (body k e) (by omega), (by first | exact (fun _ => rfl) | exact (fun h => Bool.noConfusion h)), ?_⟩
  conv => whnf
  refine ⟨(sz_le (a := seal1 (body k e)) (b := [10]) (by have := seal_length (body k e); simp; omega)), ?_⟩
  conv => whnf
  exact ⟨_, _, rfl, .inl rfl, fin1 (by show mk (seal1 (body k e)) ++ mk [10] = _; rw [mk_app]; rfl)⟩

/-! ### A line's record -/

def restOf (k : Nat) (s : Txt) : Txt := (bef 35 s).drop (ahead k).length
def decOk (k : Nat) (s : Txt) : Bool := (ahead k).isPrefixOf (bef 35 s) && decide ((64 : UInt8) ∈ restOf k s)
def decE (k : Nat) (s : Txt) : Rec := if decOk k s = true then (bef 64 (restOf k s), aft 64 (restOf k s)) else ([], [])
def decB (k : Nat) (s : Txt) : Bool := decOk k s && (okRec (decE k s) && decide (lineOf k (decE k s) = s ++ [10]))
theorem decB_dec (k : Nat) (s : Txt) : dec k s = if decB k s = true then some (decE k s) else none := by
  unfold dec decB decE decOk
  by_cases h : (ahead k).isPrefixOf (bef 35 s) = true
  · rw [if_pos h, h]
    show (if (64 : UInt8) ∈ restOf k s then (if okRec (bef 64 (restOf k s), aft 64 (restOf k s)) = true ∧ lineOf k (bef 64 (restOf k s), aft 64 (restOf k s)) = s ++ [10] then some (bef 64 (restOf k s), aft 64 (restOf k s)) else none) else none) = _
    by_cases g : (64 : UInt8) ∈ restOf k s
    · simp [g]
    · simp [g]
  · rw [if_neg h]
    have h : (ahead k).isPrefixOf (bef 35 s) = false := Bool.eq_false_iff.2 h
    rw [h]; simp
theorem dec_true {k : Nat} {s : Txt} (h : decB k s = true) : dec k s = some (decE k s) := by rw [decB_dec, if_pos h]
theorem dec_false {k : Nat} {s : Txt} (h : decB k s = false) : dec k s = none := by rw [decB_dec, h]; rfl

theorem pre_take {a b : Txt} : a.isPrefixOf b = true ↔ (a.length ≤ b.length ∧ b.take a.length = a) := by
  rw [List.isPrefixOf_iff_prefix]
  constructor
  · intro h
    exact ⟨h.length_le, (List.prefix_iff_eq_take.1 h).symm⟩
  · rintro ⟨_, h⟩
    rw [List.prefix_iff_eq_take]; exact h.symm

theorem spl0 (c : UInt8) (s : Txt) (d : ByteArray) : List.getD ((spl c s).map mk) (Int.toNat 0) d = mk (bef c s) := by rw [spl_eq]; rfl
theorem spl_pos (c : UInt8) (s : Txt) : (0 : Int) < (((spl c s).map mk).length : Nat) := by rw [spl_eq]; simp
abbrev shRecB : Sh := .pair shRec (.pair .bool .unit)
theorem s_l12Decode_ok (k : Nat) (s : Txt) (hk : k < 100) (hs : s.length ≤ 1000000) : orc.pc n_s_l12Decode [.d .str (mk s), .d tI (k : Int)] ⟨shRecB, .fz, (recD (decE k s), decB k s, ())⟩ := by
  have hd : (Lib.decDigits k).length ≤ 2 := dec_length (k := 1) (by simpa using hk)
  have hal : (ahead k).length ≤ 3 := by unfold ahead; simp; omega
  have ht := bef_length_le 35 s
  have hrl : (restOf k s).length ≤ 1000000 := by unfold restOf; rw [List.length_drop]; omega
  refine p_s_l12Decode true rfl rfl ?_
  conv => whnf
  refine ⟨_, s_l1Num_ok k (by omega), (by first | exact (fun _ => rfl) | exact (fun h => Bool.noConfusion h)), ?_⟩
  conv => whnf
  refine ⟨(by show (((Lib.decDigits k).length + 1 : Nat) : Int) ≤ 9223372036854775807; omega), ?_⟩
  conv => whnf
  rw [show mk (Lib.decDigits k) ++ ByteArray.mk #[32] = mk (ahead k) from mk_app _ _]
  refine ⟨_, s_l1Split_ok s 35 (by omega), (by first | exact (fun _ => rfl) | exact (fun h => Bool.noConfusion h)), ?_⟩
  conv => whnf
  refine ⟨⟨by decide, spl_pos 35 s⟩, ?_⟩
  conv => whnf
  rw [spl0]
  refine cond_intro (fun g0 => ?_) (fun g0 => ?_)
  · have g : (ahead k).length ≤ (bef 35 s).length := by
      have := of_decide_eq_false (hT g0)
      have : ¬ (((bef 35 s).length : Int) < ((ahead k).length : Int)) := this
      omega
    conv => whnf
    repeat ((first | refine cond_t g0 ?_ | refine cond_f (hT g0) ?_ | refine cond_t (gT g0) ?_); conv => whnf)
    refine ⟨⟨Int.natCast_nonneg _, Int.ofNat_le.2 g⟩, ?_⟩
    conv => whnf
    have hx : (mk (bef 35 s)).extract 0 ((mk (ahead k)).size : Int).toNat = mk ((bef 35 s).take (ahead k).length) := by
      rw [mk_ext]; simp [mk_size]
    rw [hx]
    refine cond_intro (fun r0 => ?_) (fun r0 => ?_)
    · have r : (bef 35 s).take (ahead k).length ≠ ahead k := sne r0
      have e : decOk k s = false := by
        unfold decOk
        have : (ahead k).isPrefixOf (bef 35 s) = false := Bool.eq_false_iff.2 (fun h => r (pre_take.1 h).2)
        rw [this]; rfl
      rw [show decE k s = ([], []) by unfold decE; rw [e]; rfl, show decB k s = false by unfold decB; rw [e]; rfl]
      conv => whnf
      exact ⟨_, _, rfl, .inl rfl, rfl⟩
    · have r : (bef 35 s).take (ahead k).length = ahead k := seq r0
      have hp : (ahead k).isPrefixOf (bef 35 s) = true := pre_take.2 ⟨g, r⟩
      have hx2 : (mk (bef 35 s)).extract ((mk (ahead k)).size : Int).toNat ((mk (bef 35 s)).size : Int).toNat = mk (restOf k s) := by
        rw [mk_ext]
        unfold restOf
        rw [List.take_of_length_le (by simp [mk_size])]; simp [mk_size]
      conv => whnf
      refine ⟨⟨Int.natCast_nonneg _, Int.ofNat_le.2 g⟩, ?_⟩
      conv => whnf
      rw [hx2]
      refine ⟨_, s_l1Split_ok (restOf k s) 64 (by omega), (by first | exact (fun _ => rfl) | exact (fun h => Bool.noConfusion h)), ?_⟩
      conv => whnf
      refine ⟨⟨by decide, spl_pos 64 (restOf k s)⟩, ?_⟩
      conv => whnf
      rw [spl0]
      refine cond_intro (fun t0 => ?_) (fun t0 => ?_)
      · have t : (64 : UInt8) ∉ restOf k s := by
          have := eq_of_beq t0
          have : ((bef 64 (restOf k s)).length : Int) = ((restOf k s).length : Int) := this
          exact bef_len_eq.1 (by omega)
        have e : decOk k s = false := by unfold decOk; rw [decide_eq_false t, Bool.and_false]
        rw [show decE k s = ([], []) by unfold decE; rw [e]; rfl, show decB k s = false by unfold decB; rw [e]; rfl]
        conv => whnf
        exact ⟨_, _, rfl, .inl rfl, rfl⟩
      · have t : (64 : UInt8) ∈ restOf k s := by
          by_cases h : (64 : UInt8) ∈ restOf k s
          · exact h
          · rw [bef_no h] at t0; simp at t0
        have e : decOk k s = true := by unfold decOk; rw [decide_eq_true t, hp]; rfl
        have hE : decE k s = (bef 64 (restOf k s), aft 64 (restOf k s)) := by unfold decE; rw [if_pos e]
        have hlt := bef_length_lt t
        have hal2 := aft_length_le 64 (restOf k s)
        have hw : IntKind.i64.wrap (((mk (bef 64 (restOf k s))).size : Int) + 1) = (((bef 64 (restOf k s)).length + 1 : Nat) : Int) := by
          rw [mk_size, wrap_in (by omega) (by omega)]; simp
        have hx3 : (mk (restOf k s)).extract (((bef 64 (restOf k s)).length + 1 : Nat) : Int).toNat ((mk (restOf k s)).size : Int).toNat = mk (aft 64 (restOf k s)) := by
          rw [mk_ext, ← drop_bef t, List.take_of_length_le (by simp [mk_size])]; simp
        have hB : decB k s = (okRec (decE k s) && decide (lineOf k (decE k s) = s ++ [10])) := by unfold decB; rw [e]; rfl
        rw [hB, hE]
        conv => whnf
        rw [hw]
        refine ⟨⟨Int.natCast_nonneg _, Int.ofNat_le.2 (show (bef 64 (restOf k s)).length + 1 ≤ (restOf k s).length by omega)⟩, ?_⟩
        conv => whnf
        rw [hx3]
        refine ⟨_, s_l12Record_ok (bef 64 (restOf k s), aft 64 (restOf k s)) (by show (bef 64 (restOf k s)).length ≤ _; omega) (by show (aft 64 (restOf k s)).length ≤ _; omega), (by first | exact (fun _ => rfl) | exact (fun h => Bool.noConfusion h)), ?_⟩
        conv => whnf
        refine cond_intro (fun u0 => ?_) (fun u0 => ?_)
        · have u : okRec (bef 64 (restOf k s), aft 64 (restOf k s)) = true := gT u0
          rw [u]
          conv => whnf
          refine ⟨_, s_l12Line_ok k (bef 64 (restOf k s), aft 64 (restOf k s)) (by omega) (by show (bef 64 (restOf k s)).length ≤ _; omega) (by show (aft 64 (restOf k s)).length ≤ _; omega), (by first | exact (fun _ => rfl) | exact (fun h => Bool.noConfusion h)), ?_⟩
          conv => whnf
          refine ⟨(sz_le (a := s) (b := [10]) (by simp; omega)), ?_⟩
          conv => whnf
          rw [show mk s ++ ByteArray.mk #[10] = mk (s ++ [10]) from mk_app _ _]
          exact ⟨_, _, rfl, .inl rfl, fin1 (by rw [mk_eq]; rfl)⟩
        · have u : okRec (bef 64 (restOf k s), aft 64 (restOf k s)) = false := gF u0
          rw [u]
          conv => whnf
          exact ⟨_, _, rfl, .inl rfl, rfl⟩
  · have g : (bef 35 s).length < (ahead k).length := by
      have := of_decide_eq_true (hF g0)
      have : (((bef 35 s).length : Int) < ((ahead k).length : Int)) := this
      omega
    have e : decOk k s = false := by
      unfold decOk
      have : (ahead k).isPrefixOf (bef 35 s) = false := Bool.eq_false_iff.2 (fun h => by have := (pre_take.1 h).1; omega)
      rw [this]; rfl
    rw [show decE k s = ([], []) by unfold decE; rw [e]; rfl, show decB k s = false by unfold decB; rw [e]; rfl]
    conv => whnf
    repeat ((first | refine cond_f g0 ?_ | refine cond_t (hF g0) ?_ | refine cond_f (gF g0) ?_); conv => whnf)
    exact ⟨_, _, rfl, .inl rfl, rfl⟩

end Go.Proofs.YthgjpoeneihmnaaDoor.Ev
