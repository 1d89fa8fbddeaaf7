/- Functions of the log's records: logs opened, in the specification and in the program. -/
import Derived.Test.YthgjpoeneihmnaaDoorFnSE
namespace Go.Proofs.YthgjpoeneihmnaaDoor.Ev
open Go
set_option linter.unusedVariables false
set_option linter.unusedSimpArgs false
set_option maxRecDepth 100000
set_option exponentiation.threshold 100000

/-- The records at the start of a text, each with the length of its line. -/
def scan : Nat → Nat → Txt → List (Rec × Nat)
  | 0, _, _ => []
  | f + 1, k, s => if (10 : UInt8) ∈ s then (match dec k (bef 10 s) with
      | some e => (e, (bef 10 s).length + 1) :: scan f (k + 1) (aft 10 s)
      | none => [])
    else []
def tot1 (d : List (Rec × Nat)) : Nat := (d.map (·.2)).sum
def recsD (d : List (Rec × Nat)) : List shRec.den := d.map fun x => recD x.1
theorem tot1_snoc (d : List (Rec × Nat)) (x : Rec × Nat) : tot1 (d ++ [x]) = tot1 d + x.2 := by simp [tot1]
theorem recsD_snoc (d : List (Rec × Nat)) (x : Rec × Nat) : recsD (d ++ [x]) = recsD d ++ [recD x.1] := by simp [recsD]
theorem scan_no {f k : Nat} {s : Txt} (h : (10 : UInt8) ∉ s) : scan f k s = [] := by
  cases f with
  | zero => rfl
  | succ f => simp only [scan, if_neg h]
theorem scan_none {f k : Nat} {s : Txt} (h : dec k (bef 10 s) = none) : scan f k s = [] := by
  cases f with
  | zero => rfl
  | succ f => simp only [scan, h]; split <;> rfl
theorem scan_some {f k : Nat} {s : Txt} {e : Rec} (hm : (10 : UInt8) ∈ s) (h : dec k (bef 10 s) = some e) : scan (f + 1) k s = (e, (bef 10 s).length + 1) :: scan f (k + 1) (aft 10 s) := by
  simp only [scan, if_pos hm, h]
theorem scan_len : ∀ (f k : Nat) (s : Txt), (scan f k s).length ≤ f := by
  intro f
  induction f with
  | zero => intro k s; simp [scan]
  | succ f ih =>
    intro k s
    simp only [scan]
    split
    · split
      · simp; exact ih _ _
      · simp
    · simp
theorem scan_tot : ∀ (f k : Nat) (s : Txt), tot1 (scan f k s) ≤ s.length := by
  intro f
  induction f with
  | zero => intro k s; simp [scan, tot1]
  | succ f ih =>
    intro k s
    simp only [scan]
    split
    · rename_i hm
      split
      · have := ih (k + 1) (aft 10 s)
        have e := congrArg List.length (bef_aft hm)
        simp only [tot1, List.map_cons, List.sum_cons] at this ⊢
        simp at e; omega
      · simp [tot1]
    · simp [tot1]
def openR (s : Txt) : List (Rec × Nat) := scan 60 0 s

abbrev shRecS : Sh := .sl shRec
abbrev shRecSI : Sh := .pair shRecS (.pair tI .unit)
def oRecSI : Ow := .pr (.ow .fz) .fz
theorem s_l12Open_ok (s : Txt) (hs : s.length ≤ 1000000) : orc.pc n_s_l12Open [.d .str (mk s)] ⟨shRecSI, oRecSI, (recsD (openR s), ((tot1 (openR s) : Nat) : Int), ())⟩ := by
  refine p_s_l12Open false rfl rfl ?_
  conv => whnf
  refine loop_ups (X := List shRec.den × Int) (fun (o, a) => [⟨0, 4, false, .own shRec .fz o⟩, ⟨0, 5, false, .d tI a⟩]) (fun (o, _) => 60 - o.length) (fun (o, a) => ∃ d : List (Rec × Nat), o = recsD d ∧ a = (tot1 d : Nat) ∧ d.length ≤ 60 ∧ tot1 d ≤ s.length ∧ openR s = d ++ scan (60 - d.length) d.length (s.drop (tot1 d))) ([], 0) ?_ ⟨[], rfl, rfl, by simp, by simp [tot1], by simp [tot1, openR]⟩ ?_
  · refine st_eq ?_
    conv => whnf
    exact ⟨rfl⟩
  rintro ⟨_, _⟩ ⟨d, rfl, rfl, hd, ht, hi⟩
  have hrl : (recsD d).length = d.length := by simp [recsD]
  have fin : ∀ rest : List (Rec × Nat), openR s = d ++ rest → rest = [] → openR s = d := by intro r h e; rw [h, e, List.append_nil]
  conv => whnf
  refine cond_intro (fun g0 => ?_) (fun g0 => ?_)
  · have g : tot1 d < s.length := by
      have := of_decide_eq_true (gT g0)
      have : ((tot1 d : Nat) : Int) < (s.length : Int) := this
      omega
    conv => whnf
    repeat ((first | refine cond_t g0 ?_ | refine cond_f (hT g0) ?_ | refine cond_t (gT g0) ?_); conv => whnf)
    refine cond_intro (fun r0 => ?_) (fun r0 => ?_)
    · have r : d.length < 60 := by
        have := of_decide_eq_true r0
        omega
      have ef : 60 - d.length = (60 - (d.length + 1)) + 1 := by omega
      rw [ef] at hi
      have hx : (mk s).extract ((tot1 d : Nat) : Int).toNat ((mk s).size : Int).toNat = mk (s.drop (tot1 d)) := by
        rw [mk_ext, List.take_of_length_le (by simp [mk_size])]; simp
      have hdl : (s.drop (tot1 d)).length ≤ 1000000 := by rw [List.length_drop]; omega
      have hbl := bef_length_le 10 (s.drop (tot1 d))
      conv => whnf
      repeat ((first | refine cond_t g0 ?_ | refine cond_f (hT g0) ?_ | refine cond_t (gT g0) ?_ | refine cond_t r0 ?_ | refine cond_f (hT r0) ?_ | refine cond_t (gT r0) ?_); conv => whnf)
      refine ⟨⟨Int.natCast_nonneg _, Int.ofNat_le.2 ht⟩, ?_⟩
      conv => whnf
      rw [hx]
      refine ⟨_, s_l1Split_ok (s.drop (tot1 d)) 10 (by omega), (by first | exact (fun _ => rfl) | exact (fun h => Bool.noConfusion h)), ?_⟩
      conv => whnf
      refine ⟨⟨by decide, spl_pos 10 (s.drop (tot1 d))⟩, ?_⟩
      conv => whnf
      rw [spl0, hrl]
      refine ⟨_, s_l12Decode_ok d.length (bef 10 (s.drop (tot1 d))) (by omega) (by omega), (by first | exact (fun _ => rfl) | exact (fun h => Bool.noConfusion h)), ?_⟩
      conv => whnf
      refine cond_intro (fun v0 => ?_) (fun v0 => ?_)
      · have v : (10 : UInt8) ∈ s.drop (tot1 d) := by
          have := of_decide_eq_false (hT v0)
          have : ¬ ((((spl 10 (s.drop (tot1 d))).map mk).length : Int) < 2) := this
          rw [List.length_map] at this
          by_cases h : (10 : UInt8) ∈ s.drop (tot1 d)
          · exact h
          · have := (spl_len 10 (s.drop (tot1 d))).2 h; omega
        conv => whnf
        repeat ((first | refine cond_t v0 ?_ | refine cond_f (hT v0) ?_ | refine cond_t (gT v0) ?_); conv => whnf)
        cases q : decB d.length (bef 10 (s.drop (tot1 d))) with
        | true =>
          have hq := dec_true q
          rw [scan_some v hq] at hi
          conv => whnf
          have hbt := bef_length_lt v
          have hrest : aft 10 (s.drop (tot1 d)) = s.drop (tot1 d + ((bef 10 (s.drop (tot1 d))).length + 1)) := by
            rw [← drop_bef v, List.drop_drop]
          have hdl' : (s.drop (tot1 d)).length = s.length - tot1 d := List.length_drop
          refine ⟨⟨room_snoc (by omega) (by decide), len_snoc (by omega)⟩, ?_⟩
          conv => whnf
          refine ⟨⟨by decide, spl_pos 10 (s.drop (tot1 d))⟩, ?_⟩
          conv => whnf
          rw [spl0]
          have hw : IntKind.i64.wrap (IntKind.i64.wrap (((tot1 d : Nat) : Int) + ((mk (bef 10 (s.drop (tot1 d)))).size : Int)) + 1) = ((tot1 d + ((bef 10 (s.drop (tot1 d))).length + 1) : Nat) : Int) := by
            rw [mk_size, wrap_in (n := ((tot1 d : Nat) : Int) + _) (by omega) (by omega), wrap_in (by omega) (by omega)]; simp; omega
          refine ⟨(_, _), rfl, ⟨d ++ [(decE d.length (bef 10 (s.drop (tot1 d))), (bef 10 (s.drop (tot1 d))).length + 1)], ?_, ?_, by simp; omega, ?_, ?_⟩, ?_⟩
          · exact (recsD_snoc d (decE d.length (bef 10 (s.drop (tot1 d))), (bef 10 (s.drop (tot1 d))).length + 1)).symm
          · rw [tot1_snoc]; exact hw
          · rw [tot1_snoc]; show tot1 d + ((bef 10 (s.drop (tot1 d))).length + 1) ≤ _; omega
          · rw [hi, tot1_snoc, List.length_append, List.length_singleton, hrest]; simp
          · show 60 - (recsD d ++ [_]).length < 60 - (recsD d).length
            simp; omega
        | false =>
          rw [scan_none (dec_false q), List.append_nil] at hi
          conv => whnf
          exact ⟨_, _, rfl, .inl rfl, fin1 (by rw [hi])⟩
      · have v : (10 : UInt8) ∉ s.drop (tot1 d) := by
          have := of_decide_eq_true (hF v0)
          have : ((((spl 10 (s.drop (tot1 d))).map mk).length : Int) < 2) := this
          rw [List.length_map] at this
          exact (spl_len 10 (s.drop (tot1 d))).1 (by omega)
        rw [scan_no v, List.append_nil] at hi
        conv => whnf
        repeat ((first | refine cond_f v0 ?_ | refine cond_t (hF v0) ?_ | refine cond_f (gF v0) ?_); conv => whnf)
        exact ⟨_, _, rfl, .inl rfl, fin1 (by rw [hi])⟩
    · have r : d.length = 60 := by
        have := of_decide_eq_false r0
        omega
      rw [r] at hi
      have hi : openR s = d := by rw [hi]; exact List.append_nil d
      conv => whnf
      repeat ((first | refine cond_t g0 ?_ | refine cond_f (hT g0) ?_ | refine cond_t (gT g0) ?_ | refine cond_f r0 ?_ | refine cond_t (hF r0) ?_ | refine cond_f (gF r0) ?_); conv => whnf)
      exact ⟨_, _, rfl, .inl rfl, fin1 (by rw [hi])⟩
  · have g : tot1 d = s.length := by
      have := of_decide_eq_false (gF g0)
      have : ¬ ((tot1 d : Nat) : Int) < (s.length : Int) := this
      omega
    rw [g, List.drop_length, scan_no (by simp), List.append_nil] at hi
    conv => whnf
    repeat ((first | refine cond_f g0 ?_ | refine cond_t (hF g0) ?_ | refine cond_f (gF g0) ?_); conv => whnf)
    exact ⟨_, _, rfl, .inl rfl, fin1 (by rw [hi])⟩

end Go.Proofs.YthgjpoeneihmnaaDoor.Ev
