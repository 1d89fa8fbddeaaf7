/- Records read by the program; valid logs. -/
import Derived.Test.YthgjpoeneihmnaaDoorFnSG
namespace Go.Proofs.YthgjpoeneihmnaaDoor.Ev
open Go
set_option linter.unusedVariables false
set_option linter.unusedSimpArgs false
set_option maxRecDepth 100000
set_option exponentiation.threshold 100000

def progE (s : Txt) : Rec := (bef 64 (aft 32 (verT s)), aft 64 (aft 32 (verT s)))
theorem prog_yes {k : Nat} {s : Txt} (h1 : okRec (progE s) = true) (h2 : lineOf k (progE s) = s ++ [10]) : dec k s = some (progE s) := dec_of h1 h2
theorem prog_of {k : Nat} {s : Txt} {e : Rec} (hk : k < 60) (h : dec k s = some e) : progE s = e := by
  obtain ⟨h1, h2⟩ := dec_some h
  have O := okRec_of h1
  have hs := line_eq h2
  have hb : bef 35 s = body k e := by rw [hs]; exact seal_bef (body_no O)
  have hv : okVer s = true := by
    unfold okVer
    rw [hb, okSeal_body h1 (by omega), decide_eq_true hs.symm]; rfl
  have ht : verT s = body k e := by unfold verT; rw [if_pos hv, hb]
  have ha : aft 32 (body k e) = e.1 ++ 64 :: e.2 := by
    have : body k e = Lib.decDigits k ++ 32 :: (e.1 ++ 64 :: e.2) := by unfold body ahead; simp
    rw [this]; exact aft_app (dec_not (by decide))
  unfold progE
  rw [ht, ha, bef_app O.h2, aft_app O.h2]
theorem prog_no {k : Nat} {s : Txt} (hk : k < 60) (h : okRec (progE s) = false ∨ lineOf k (progE s) ≠ s ++ [10]) : dec k s = none := by
  cases q : dec k s with
  | none => rfl
  | some e =>
    have e1 := prog_of hk q
    obtain ⟨h1, h2⟩ := dec_some q
    rw [e1] at h
    rcases h with h | h
    · rw [h1] at h; cases h
    · exact absurd h2 h

theorem verT_len (s : Txt) : (verT s).length ≤ s.length := by
  unfold verT
  split
  · exact bef_length_le _ _
  · simp

def endsOf : List (Rec × Nat) → Nat → List Int
  | [], a => [(a : Int)]
  | x :: d, a => (a : Int) :: endsOf d (a + x.2)
theorem endsOf_snoc (x : Rec × Nat) : ∀ (d : List (Rec × Nat)) (a : Nat), endsOf (d ++ [x]) a = endsOf d a ++ [((a + tot1 d + x.2 : Nat) : Int)] := by
  intro d
  induction d with
  | nil => intro a; simp [endsOf, tot1]
  | cons y d ih =>
    intro a
    simp only [List.cons_append, endsOf, ih, tot1, List.map_cons, List.sum_cons]
    have : a + y.2 + (d.map (·.2)).sum + x.2 = a + (y.2 + (d.map (·.2)).sum) + x.2 := by omega
    rw [this]
theorem endsOf_len : ∀ (d : List (Rec × Nat)) (a : Nat), (endsOf d a).length = d.length + 1 := by
  intro d
  induction d with
  | nil => intro a; rfl
  | cons y d ih => intro a; simp [endsOf, ih]
theorem endsOf_last : ∀ (d : List (Rec × Nat)) (a : Nat), (endsOf d a).getD d.length 0 = ((a + tot1 d : Nat) : Int) := by
  intro d
  induction d with
  | nil => intro a; simp [endsOf, tot1]
  | cons y d ih =>
    intro a
    simp only [endsOf, List.length_cons, List.getD_cons_succ, ih, tot1, List.map_cons, List.sum_cons]
    congr 1; omega

abbrev shRecI : Sh := .pair shRecS (.pair tIS .unit)
def oRecI : Ow := .pr (.ow .fz) (.pr (.ow .fz) .fz)
theorem i_readRecords_ok (s : Txt) (hs : s.length ≤ 1000000) : orc.pc n_i_readRecords [.d .str (mk s)] ⟨shRecI, oRecI, (recsD (openR s), endsOf (openR s) 0, ())⟩ := by
  refine p_i_readRecords false rfl rfl ?_
  conv => whnf
  refine loop_ups (X := List shRec.den × List Int × Int) (fun (o, z, a) => [⟨0, 4, false, .own shRec .fz o⟩, ⟨0, 5, false, .own tI .fz z⟩, ⟨0, 6, false, .d tI a⟩]) (fun (o, _) => 60 - o.length) (fun (o, z, a) => ∃ d : List (Rec × Nat), o = recsD d ∧ z = endsOf d 0 ∧ a = (tot1 d : Nat) ∧ d.length ≤ 60 ∧ tot1 d ≤ s.length ∧ openR s = d ++ scan (60 - d.length) d.length (s.drop (tot1 d))) ([], [0], 0) ?_ ⟨[], rfl, rfl, rfl, by simp, by simp [tot1], by simp [tot1, openR]⟩ ?_
  · refine st_eq ?_
    conv => whnf
    exact ⟨rfl⟩
  rintro ⟨_, _, _⟩ ⟨d, rfl, rfl, rfl, hd, ht, hi⟩
  have hrl : (recsD d).length = d.length := by simp [recsD]
  have hel := endsOf_len d 0
  conv => whnf
  refine cond_intro (fun r0 => ?_) (fun r0 => ?_)
  · have r : d.length < 60 := by
      have := of_decide_eq_true r0
      omega
    have ef : 60 - d.length = (60 - (d.length + 1)) + 1 := by omega
    rw [ef] at hi
    have hx : (mk s).extract ((tot1 d : Nat) : Int).toNat ((mk s).size : Int).toNat = mk (s.drop (tot1 d)) := by
      rw [mk_ext, List.take_of_length_le (by simp [mk_size])]; simp
    have hdl : (s.drop (tot1 d)).length = s.length - tot1 d := List.length_drop
    have hbl := bef_length_le 10 (s.drop (tot1 d))
    conv => whnf
    refine ⟨⟨Int.natCast_nonneg _, Int.ofNat_le.2 ht⟩, ?_⟩
    conv => whnf
    rw [hx]
    refine ⟨_, strings_Cut_ok (s.drop (tot1 d)) 10 (by omega), (by first | exact (fun _ => rfl) | exact (fun h => Bool.noConfusion h)), ?_⟩
    conv => whnf
    cases v0 : decide ((10 : UInt8) ∈ s.drop (tot1 d)) with
    | false =>
      have v : (10 : UInt8) ∉ s.drop (tot1 d) := of_decide_eq_false v0
      rw [scan_no v, List.append_nil] at hi
      conv => whnf
      exact ⟨_, _, rfl, .inl rfl, fin1 (by rw [hi])⟩
    | true =>
      have v : (10 : UInt8) ∈ s.drop (tot1 d) := of_decide_eq_true v0
      have hvt := verT_len (bef 10 (s.drop (tot1 d)))
      have ha1 := aft_length_le 32 (verT (bef 10 (s.drop (tot1 d))))
      have hb1 := bef_length_le 64 (aft 32 (verT (bef 10 (s.drop (tot1 d)))))
      have ha2 := aft_length_le 64 (aft 32 (verT (bef 10 (s.drop (tot1 d)))))
      conv => whnf
      refine ⟨_, i_VerifyChecksum_ok (bef 10 (s.drop (tot1 d))) (by omega), (by first | exact (fun _ => rfl) | exact (fun h => Bool.noConfusion h)), ?_⟩
      conv => whnf
      refine ⟨_, strings_Cut_ok (verT (bef 10 (s.drop (tot1 d)))) 32 (by omega), (by first | exact (fun _ => rfl) | exact (fun h => Bool.noConfusion h)), ?_⟩
      conv => whnf
      refine ⟨_, strings_Cut_ok (aft 32 (verT (bef 10 (s.drop (tot1 d))))) 64 (by omega), (by first | exact (fun _ => rfl) | exact (fun h => Bool.noConfusion h)), ?_⟩
      conv => whnf
      rw [hrl]
      have c := i_EncodeRecord_ok (d.length : Int) (progE (bef 10 (s.drop (tot1 d)))) (by show (bef 64 _).length ≤ _; omega) (by show (aft 64 _).length ≤ _; omega)
      have hin : inB (d.length : Int) 0 59 = true := by unfold inB; rw [decide_eq_true (by omega), decide_eq_true (by omega)]; rfl
      cases q : okRec (progE (bef 10 (s.drop (tot1 d)))) with
      | false =>
        rw [encR_no (by unfold okEnc; rw [q, Bool.and_false])] at c
        rw [scan_none (prog_no r (.inl q)), List.append_nil] at hi
        refine ⟨_, c, (by first | exact (fun _ => rfl) | exact (fun h => Bool.noConfusion h)), ?_⟩
        conv => whnf
        exact ⟨_, _, rfl, .inl rfl, fin1 (by rw [hi])⟩
      | true =>
        rw [encR_yes (by unfold okEnc; rw [q, hin]; rfl), Int.toNat_natCast] at c
        refine ⟨_, c, (by first | exact (fun _ => rfl) | exact (fun h => Bool.noConfusion h)), ?_⟩
        conv => whnf
        refine ⟨(sz_le (a := bef 10 (s.drop (tot1 d))) (b := [10]) (by simp; omega)), ?_⟩
        conv => whnf
        rw [show mk (bef 10 (s.drop (tot1 d))) ++ ByteArray.mk #[10] = mk (bef 10 (s.drop (tot1 d)) ++ [10]) from mk_app _ _]
        refine cond_intro (fun u0 => ?_) (fun u0 => ?_)
        · have u : lineOf d.length (progE (bef 10 (s.drop (tot1 d)))) ≠ bef 10 (s.drop (tot1 d)) ++ [10] := sne u0
          rw [scan_none (prog_no r (.inr u)), List.append_nil] at hi
          conv => whnf
          exact ⟨_, _, rfl, .inl rfl, fin1 (by rw [hi])⟩
        · have u : lineOf d.length (progE (bef 10 (s.drop (tot1 d)))) = bef 10 (s.drop (tot1 d)) ++ [10] := seq u0
          rw [scan_some v (prog_yes q u)] at hi
          have hbt := bef_length_lt v
          have hrest : aft 10 (s.drop (tot1 d)) = s.drop (tot1 d + ((bef 10 (s.drop (tot1 d))).length + 1)) := by
            rw [← drop_bef v, List.drop_drop]
          have hw : IntKind.i64.wrap (((tot1 d : Nat) : Int) + IntKind.i64.wrap (((mk (bef 10 (s.drop (tot1 d)))).size : Int) + 1)) = ((tot1 d + ((bef 10 (s.drop (tot1 d))).length + 1) : Nat) : Int) := by
            rw [mk_size, wrap_in (n := ((bef 10 (s.drop (tot1 d))).length : Int) + 1) (by omega) (by omega), wrap_in (by omega) (by omega)]; simp
          conv => whnf
          refine ⟨⟨room_snoc (by omega) (by decide), len_snoc (by omega)⟩, ?_⟩
          conv => whnf
          refine ⟨⟨room_snoc (by omega) (by decide), len_snoc (by omega)⟩, ?_⟩
          conv => whnf
          refine ⟨(_, _, _), rfl, ⟨d ++ [(progE (bef 10 (s.drop (tot1 d))), (bef 10 (s.drop (tot1 d))).length + 1)], ?_, ?_, ?_, by simp; omega, ?_, ?_⟩, ?_⟩
          · exact (recsD_snoc d (progE (bef 10 (s.drop (tot1 d))), (bef 10 (s.drop (tot1 d))).length + 1)).symm
          · rw [endsOf_snoc, hw]; show _ = _ ++ [((0 + tot1 d + ((bef 10 (s.drop (tot1 d))).length + 1) : Nat) : Int)]; rw [Nat.zero_add]; rfl
          · rw [tot1_snoc]; exact hw
          · rw [tot1_snoc]; show tot1 d + ((bef 10 (s.drop (tot1 d))).length + 1) ≤ _; omega
          · rw [hi, tot1_snoc, List.length_append, List.length_singleton, hrest]; simp
          · show 60 - (recsD d ++ [_]).length < 60 - (recsD d).length
            simp; omega
  · have r : d.length = 60 := by
      have := of_decide_eq_false r0
      omega
    rw [r] at hi
    have hi : openR s = d := by rw [hi]; exact List.append_nil d
    conv => whnf
    exact ⟨_, _, rfl, .inl rfl, fin1 (by rw [hi])⟩

end Go.Proofs.YthgjpoeneihmnaaDoor.Ev
