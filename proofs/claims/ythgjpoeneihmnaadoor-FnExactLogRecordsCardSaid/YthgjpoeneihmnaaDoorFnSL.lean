/- Records of a log; marks that are texts. -/
import Derived.Test.YthgjpoeneihmnaaDoorFnSK
namespace Go.Proofs.YthgjpoeneihmnaaDoor.Ev
open Go
set_option linter.unusedVariables false
set_option linter.unusedSimpArgs false
set_option maxRecDepth 100000
set_option exponentiation.threshold 100000

/-! ### The records of a log -/

abbrev shRecSB : Sh := .pair shRecS (.pair .bool .unit)
def oRecSB : Ow := .pr (.ow .fz) .fz
def recsR (l : LogD) : shRecSB.den := if validL l = true then (recsD (openR (l.1 ++ l.2.1)), true, ()) else ([], false, ())
theorem s_LogRecords_ok (l : LogD) (h1 : l.1.length ≤ 1048576) (h2 : l.2.1.length ≤ 1048576) : orc.pc n_s_LogRecords [.d shLog (logD l)] ⟨shRecSB, oRecSB, recsR l⟩ := by
  refine p_s_LogRecords false rfl rfl ?_
  conv => whnf
  refine ⟨_, s_l12Valid_ok l h1 h2, (by first | exact (fun _ => rfl) | exact (fun h => Bool.noConfusion h)), ?_⟩
  conv => whnf
  cases v : validL l with
  | false =>
    rw [show recsR l = ([], false, ()) by unfold recsR; rw [v]; rfl]
    conv => whnf
    exact ⟨_, _, rfl, .inl rfl, rfl⟩
  | true =>
    have O := OkL.of v
    have := O.len
    rw [show recsR l = (recsD (openR (l.1 ++ l.2.1)), true, ()) by unfold recsR; rw [v]; rfl]
    conv => whnf
    refine ⟨(sz_le (a := l.1) (b := l.2.1) (by omega)), ?_⟩
    conv => whnf
    rw [show (logD l).1 ++ (logD l).2.1 = mk (l.1 ++ l.2.1) from mk_app _ _]
    refine ⟨_, s_l12Open_ok (l.1 ++ l.2.1) (by rw [List.length_append]; omega), (by first | exact (fun _ => rfl) | exact (fun h => Bool.noConfusion h)), ?_⟩
    conv => whnf
    exact ⟨_, _, rfl, .inl rfl, rfl⟩
theorem i_LogRecords_ok (l : LogD) (h1 : l.1.length ≤ 1048576) (h2 : l.2.1.length ≤ 1048576) : orc.pc n_i_LogRecords [.d shLog (logD l)] ⟨shRecSB, oRecSB, recsR l⟩ := by
  refine p_i_LogRecords false rfl rfl ?_
  conv => whnf
  refine ⟨_, i_IsValidLog_ok l h1 h2, (by first | exact (fun _ => rfl) | exact (fun h => Bool.noConfusion h)), ?_⟩
  conv => whnf
  cases v : validL l with
  | false =>
    rw [show recsR l = ([], false, ()) by unfold recsR; rw [v]; rfl]
    conv => whnf
    exact ⟨_, _, rfl, .inl rfl, rfl⟩
  | true =>
    have O := OkL.of v
    have := O.len
    rw [show recsR l = (recsD (openR (l.1 ++ l.2.1)), true, ()) by unfold recsR; rw [v]; rfl]
    conv => whnf
    refine ⟨(sz_le (a := l.1) (b := l.2.1) (by omega)), ?_⟩
    conv => whnf
    rw [show (logD l).1 ++ (logD l).2.1 = mk (l.1 ++ l.2.1) from mk_app _ _]
    refine ⟨_, i_readRecords_ok (l.1 ++ l.2.1) (by rw [List.length_append]; omega), (by first | exact (fun _ => rfl) | exact (fun h => Bool.noConfusion h)), ?_⟩
    conv => whnf
    exact ⟨_, _, rfl, .inl rfl, rfl⟩

/-! ### Marks -/

def digitsIf (n : Nat) : Txt := if n = 0 then [] else Lib.decDigits n
theorem digitsIf_step {n : Nat} (h : 0 < n) : digitsIf n = digitsIf (n / 10) ++ [UInt8.ofNat (48 + n % 10)] := by
  unfold digitsIf
  rw [if_neg (by omega)]
  by_cases h1 : n < 10
  · rw [if_pos (by omega), Lib.decDigits, dif_pos h1, Nat.mod_eq_of_lt h1]; rfl
  · rw [if_neg (by omega)]
    conv => lhs; rw [Lib.decDigits, dif_neg h1]
def markT (k : Int) : Txt := if k ≤ 0 then [109, 48] else 109 :: Lib.decDigits k.toNat
theorem l_markText_ok (k : Int) (hk : k < 4611686018427387904) : orc.pc n_l_markText [.d tI k] ⟨.str, .fz, mk (markT k)⟩ := by
  refine p_l_markText true rfl rfl ?_
  conv => whnf
  refine cond_intro (fun h => ?_) (fun h => ?_)
  · have h : k ≤ 0 := of_decide_eq_true h
    conv => whnf
    exact ⟨_, _, rfl, .inl rfl, fin1 (by unfold markT; rw [if_pos h]; rfl)⟩
  have h : ¬ k ≤ 0 := of_decide_eq_false h
  obtain ⟨K, rfl⟩ : ∃ K : Nat, k = (K : Int) := ⟨k.toNat, by omega⟩
  have hl : (Lib.decDigits K).length ≤ 20 := dec_length (k := 19) (by omega)
  have hd : digitsIf K = Lib.decDigits K := by unfold digitsIf; rw [if_neg (by omega)]
  conv => whnf
  refine loop_ups (X := Int × ByteArray) (fun (n, o) => [⟨0, 0, false, .d tI n⟩, ⟨0, 3, false, .d .str o⟩]) (fun (n, _) => n.toNat) (fun (n, o) => ∃ (m : Nat) (t : Txt), n = (m : Int) ∧ m ≤ K ∧ o = mk t ∧ digitsIf m ++ t = Lib.decDigits K) ((K : Int), mk []) rfl ⟨K, [], rfl, by omega, rfl, by rw [List.append_nil]; exact hd⟩ ?_
  rintro ⟨_, _⟩ ⟨m, t, rfl, hm, rfl, ht⟩
  have htl := congrArg List.length ht
  rw [List.length_append] at htl
  conv => whnf
  refine cond_intro (fun h => ?_) (fun h => ?_)
  · have h : 0 < m := by have := of_decide_eq_true h; omega
    have e1 : IntKind.i64.wrap (Int.tdiv (m : Int) 10) = ((m / 10 : Nat) : Int) := by
      rw [Int.tdiv_eq_ediv_of_nonneg (by omega), wrap_in (by omega) (by omega)]; simp
    have e2 : Int.tmod (m : Int) 10 = ((m % 10 : Nat) : Int) := by rw [Int.tmod_eq_emod_of_nonneg (by omega)]; simp
    have e3 : IntKind.i64.wrap (48 + ((m % 10 : Nat) : Int)) = ((48 + m % 10 : Nat) : Int) := by rw [wrap_in (by omega) (by omega)]; simp
    have e4 : IntKind.u8.wrap ((48 + m % 10 : Nat) : Int) = ((48 + m % 10 : Nat) : Int) := by
      have : ∀ x : Int, IntKind.u8.wrap x = x % 256 := fun x => rfl
      rw [this]; omega
    have e5 : toTxt [((48 + m % 10 : Nat) : Int)] = mk [UInt8.ofNat (48 + m % 10)] := rfl
    conv => whnf
    refine ⟨(by decide), ?_⟩
    conv => whnf
    rw [e2, e3, e4]
    refine ⟨(sz_le (a := [UInt8.ofNat (48 + m % 10)]) (b := t) (by simp; omega)), ?_⟩
    conv => whnf
    refine ⟨(by decide), ?_⟩
    conv => whnf
    refine ⟨(_, _), rfl, ⟨m / 10, UInt8.ofNat (48 + m % 10) :: t, e1, by omega, mk_app _ _, ?_⟩, ?_⟩
    · rw [← ht, digitsIf_step h]; simp
    · rw [e1]; simp; omega
  · have h : m = 0 := by have := of_decide_eq_false h; omega
    subst h
    have ht : t = Lib.decDigits K := ht
    conv => whnf
    refine ⟨(sz_le (a := [109]) (b := t) (by simp; omega)), ?_⟩
    conv => whnf
    exact ⟨_, _, rfl, .inl rfl, fin1 (by rw [ht]; unfold markT; rw [if_neg (by omega), Int.toNat_natCast]; exact mk_app _ _)⟩

def markR (k : Int) : shRec.den := (mk (markT k), mk (markT (k + 1)), ())
def marksR : Nat → Int → List shRec.den
  | 0, _ => []
  | n + 1, k => markR k :: marksR n (k + 2)
theorem marksR_length : ∀ n k, (marksR n k).length = n := by
  intro n; induction n with
  | zero => intro k; rfl
  | succ n ih => intro k; simp [marksR, ih]
theorem marksR_snoc : ∀ n k, marksR (n + 1) k = marksR n k ++ [markR (k + 2 * n)] := by
  intro n; induction n with
  | zero => intro k; simp [marksR]
  | succ n ih =>
    intro k
    rw [marksR, ih]
    have : k + 2 + 2 * (n : Int) = k + 2 * ((n + 1 : Nat) : Int) := by omega
    rw [this]; rfl
theorem marksR_getD : ∀ (n m : Nat) (k : Int) (d : shRec.den), m < n → (marksR n k).getD m d = markR (k + 2 * m) := by
  intro n
  induction n with
  | zero => intro m k d h; omega
  | succ n ih =>
    intro m k d h
    cases m with
    | zero => simp [marksR]
    | succ m =>
      have := ih m (k + 2) d (by omega)
      simp only [marksR, List.getD_cons_succ, this]
      congr 1; omega

theorem Owns.okIn {q : Pl} {e : Sh} {o : Ow} {P : List e.den → St} (O : Owns q e o P) (k : Nat) (ps : List Stp) {i z : Nat} {u : AV} (hu : u.isBad = false) (hz : (u.size == 0) = false) :
    ((⟨⟨k, q.r.s, q.r.bx⟩, ps ++ .ix i z :: q.p⟩ : Pl).badPlace || !(⟨⟨k, q.r.s, q.r.bx⟩, ps ++ .ix i z :: q.p⟩ : Pl).mem || u.isBad || u.size == 0) = false := by
  have hb : (if q.r.bx = true then (Stp.ix i z :: q.p).getLast? != some (Stp.r 0) else (Stp.ix i z :: q.p).isEmpty) = false := O.bad i z
  have h1 : (⟨⟨k, q.r.s, q.r.bx⟩, ps ++ .ix i z :: q.p⟩ : Pl).badPlace = false := by
    show (if q.r.bx = true then (ps ++ Stp.ix i z :: q.p).getLast? != some (Stp.r 0) else (ps ++ Stp.ix i z :: q.p).isEmpty) = false
    by_cases hbx : q.r.bx = true
    · rw [if_pos hbx] at hb ⊢
      have e1 : (ps ++ Stp.ix i z :: q.p).getLast? = (Stp.ix i z :: q.p).getLast? := by rw [List.getLast?_append]; simp [List.getLast?_cons]
      rw [e1]; exact hb
    · rw [if_neg hbx]; cases ps <;> rfl
  have h2 : (⟨⟨k, q.r.s, q.r.bx⟩, ps ++ .ix i z :: q.p⟩ : Pl).mem = true := by simp [Pl.mem, ixIn, Stp.isIx]
  rw [h1, h2, hu, hz]; rfl

theorem l_markLogRecordS_ok {q : Pl} {P : List shRec.den → St} (O : Owns q shRec .fz P) (l : List shRec.den) (k : Int) (hl : l.length ≤ 1048576) (h0 : 0 ≤ k) (hk : k ≤ 1152921504606846976) :
    orc.ic n_l_markLogRecordS [.vw q shRec, .d tI k] (P l) (.d tI (k + 2 * l.length)) (P (marksR l.length k)) := by
  refine p_l_markLogRecordS true (O.pos _) rfl rfl ?_
  conv => whnf
  refine loop_upt (X := Int × Int × List shRec.den) (fun (i, k', _) => [⟨0, 5, false, .d tI i⟩, ⟨0, 1, false, .d tI k'⟩]) (fun (_, _, l') => P l') (fun (i, _, _) => l.length - i.toNat) (fun (i, k', l') => ∃ n : Nat, i = (n : Int) ∧ k' = k + 2 * n ∧ l' = marksR n k ++ l.drop n ∧ n ≤ l.length) (0, k, l) rfl ⟨0, by simp [marksR]⟩ ?_
  rintro ⟨_, _, _⟩ ⟨n, rfl, rfl, rfl, hn⟩
  have hml : (marksR n k).length = n := marksR_length n k
  have hlen : (marksR n k ++ l.drop n).length = l.length := by simp [hml]; omega
  conv => whnf
  refine O.get _ _ ?_
  conv => whnf
  refine cond_intro (fun h => ?_) (fun h => ?_)
  · have h : n < l.length := by simpa [hlen] using h
    have hlt : n < (marksR n k ++ l.drop n).length := by rw [hlen]; exact h
    have hg0 : (marksR n k ++ l.drop n).getD n shRec.dflt = l.getD n shRec.dflt := by
      rw [List.getD_eq_getElem?_getD, List.getElem?_append_right (by omega), hml, Nat.sub_self, List.getElem?_drop, Nat.add_zero, ← List.getD_eq_getElem?_getD]
    conv => whnf
    refine ⟨_, l_markText_ok (k + 2 * n) (by omega), (by first | exact (fun _ => rfl) | exact (fun h => Bool.noConfusion h)), ?_⟩
    conv => whnf
    refine O.get _ _ ?_
    conv => whnf
    refine ⟨⟨by omega, by rw [hlen]; omega⟩, ?_⟩
    conv => whnf
    refine O.look _ _ _ hlt ?_
    conv => whnf
    refine cond_f (O.okIn _ [.l] rfl rfl) ?_
    conv => whnf
    refine O.putIn (ps := [.l]) (b' := .pair (.d .str (mk (markT (k + 2 * n)))) (.d (.pair .str .unit) (l.getD n shRec.dflt).2)) (w := (mk (markT (k + 2 * n)), (l.getD n shRec.dflt).2)) hlt (by rw [hg0]; rfl) rfl rfl ?_
    conv => whnf
    have ek : IntKind.i64.wrap (k + 2 * n + 1) = k + 2 * n + 1 := wrap_in (by omega) (by omega)
    rw [ek]
    have hlt1 : n < ((marksR n k ++ l.drop n).set n (mk (markT (k + 2 * n)), (l.getD n shRec.dflt).2)).length := by rw [List.length_set]; exact hlt
    have hg1 : ((marksR n k ++ l.drop n).set n (mk (markT (k + 2 * n)), (l.getD n shRec.dflt).2)).getD n shRec.dflt = (mk (markT (k + 2 * n)), (l.getD n shRec.dflt).2) := by
      rw [List.getD_eq_getElem?_getD, List.getElem?_set_self hlt]; rfl
    refine ⟨_, l_markText_ok (k + 2 * n + 1) (by omega), (by first | exact (fun _ => rfl) | exact (fun h => Bool.noConfusion h)), ?_⟩
    conv => whnf
    refine O.get _ _ ?_
    conv => whnf
    refine ⟨⟨by omega, Int.ofNat_lt.2 hlt1⟩, ?_⟩
    conv => whnf
    refine O.look _ _ _ hlt1 ?_
    conv => whnf
    refine cond_f (O.okIn _ [.l, .r 1] rfl rfl) ?_
    conv => whnf
    refine O.putIn (ps := [.r 1, .l]) (b' := .pair (.d .str (mk (markT (k + 2 * n)))) (.pair (.d .str (mk (markT (k + 2 * n + 1)))) (.d .unit ()))) (w := markR (k + 2 * n)) hlt1 (by rw [hg1]; rfl) rfl rfl ?_
    conv => whnf
    rw [show IntKind.i64.wrap (k + 2 * n + 1 + 1) = k + 2 * (n + 1 : Nat) by rw [wrap_in (by omega) (by omega)]; omega]
    refine ⟨(_, _, _), rfl, ⟨n + 1, wrap_succ h (by unfold Short; omega), rfl, ?_, by omega⟩, ?_⟩
    · rw [List.set_set, drop_getD l h shRec.dflt, set_at hml, marksR_snoc]; simp
    · rw [wrap_succ h (by unfold Short; omega)]; simp; omega
  · have h : ¬ n < l.length := by simpa [hlen] using h
    obtain rfl : n = l.length := by omega
    conv => whnf
    refine ⟨_, rfl, rfl, ?_⟩
    show P _ = _
    rw [List.drop_length, List.append_nil]

theorem l_heldLogRecordS_ok (m : Nat) (k : Int) (hl : m ≤ 1048576) (h0 : 0 ≤ k) (hk : k ≤ 1152921504606846976) :
    orc.pc n_l_heldLogRecordS [.d shRecS (marksR m k), .d tI k] ⟨tI, .fz, k + 2 * m⟩ := by
  have hlen := marksR_length m k
  refine p_l_heldLogRecordS true rfl rfl ?_
  conv => whnf
  refine loop_ups (X := Int × Int) (fun (i, k') => [⟨0, 5, false, .d tI i⟩, ⟨0, 1, false, .d tI k'⟩]) (fun (i, _) => m - i.toNat) (fun (i, k') => ∃ n : Nat, i = (n : Int) ∧ k' = k + 2 * n ∧ n ≤ m) (0, k) rfl ⟨0, by simp⟩ ?_
  rintro ⟨_, _⟩ ⟨n, rfl, rfl, hn⟩
  conv => whnf
  refine cond_intro (fun h => ?_) (fun h => ?_)
  · have h : n < m := by simpa [hlen] using h
    have hg : (marksR m k).getD ((n : Nat) : Int).toNat shRec.dflt = markR (k + 2 * n) := by rw [Int.toNat_natCast]; exact marksR_getD m n k _ h
    conv => whnf
    refine ⟨⟨by omega, by omega⟩, ?_⟩
    conv => whnf
    rw [hg]
    refine ⟨_, l_markText_ok (k + 2 * n) (by omega), (by first | exact (fun _ => rfl) | exact (fun h => Bool.noConfusion h)), ?_⟩
    conv => whnf
    refine cond_f (by simp [markR]) ?_
    conv => whnf
    have ek : IntKind.i64.wrap (k + 2 * n + 1) = k + 2 * n + 1 := wrap_in (by omega) (by omega)
    rw [ek]
    refine ⟨⟨by omega, by omega⟩, ?_⟩
    conv => whnf
    rw [hg]
    refine ⟨_, l_markText_ok (k + 2 * n + 1) (by omega), (by first | exact (fun _ => rfl) | exact (fun h => Bool.noConfusion h)), ?_⟩
    conv => whnf
    refine cond_f (by simp [markR]) ?_
    conv => whnf
    rw [show IntKind.i64.wrap (k + 2 * n + 1 + 1) = k + 2 * (n + 1 : Nat) by rw [wrap_in (by omega) (by omega)]; omega]
    refine ⟨(_, _), rfl, ⟨n + 1, wrap_succ h (by unfold Short; omega), rfl, by omega⟩, ?_⟩
    rw [wrap_succ h (by unfold Short; omega)]; simp; omega
  · have h : ¬ n < m := by simpa [hlen] using h
    obtain rfl : n = m := by omega
    conv => whnf
    exact ⟨_, _, rfl, .inl rfl, rfl⟩

theorem l_eqLogRecord_self (e : shRec.den) : orc.pc n_l_eqLogRecord [.d shRec e, .d shRec e] ⟨.bool, .fz, true⟩ := by
  refine p_l_eqLogRecord true rfl rfl ?_
  conv => whnf
  refine cond_f (by simp) ?_
  conv => whnf
  refine cond_f (by simp) ?_
  conv => whnf
  exact ⟨_, _, rfl, .inl rfl, rfl⟩
theorem l_eqLogRecordS_self (a : List shRec.den) (ha : a.length ≤ 1048576) : orc.pc n_l_eqLogRecordS [.d shRecS a, .d shRecS a] ⟨.bool, .fz, true⟩ := by
  refine p_l_eqLogRecordS true rfl rfl ?_
  conv => whnf
  refine cond_f (by simp) ?_
  conv => whnf
  refine loop_ups (X := Int) (fun i => [⟨0, 5, false, .d tI i⟩]) (fun i => a.length - i.toNat) (fun i => ∃ n : Nat, i = n ∧ n ≤ a.length) 0 rfl ⟨0, rfl, by omega⟩ ?_
  rintro _ ⟨n, rfl, hn⟩
  conv => whnf
  refine cond_intro (fun g => ?_) (fun g => ?_)
  · have h1 : n < a.length := by simpa using g
    conv => whnf
    refine ⟨⟨by omega, by omega⟩, ?_⟩
    conv => whnf
    refine ⟨⟨by omega, by omega⟩, ?_⟩
    conv => whnf
    refine ⟨_, l_eqLogRecord_self _, (by first | exact (fun _ => rfl) | exact (fun h => Bool.noConfusion h)), ?_⟩
    conv => whnf
    refine ⟨_, rfl, ⟨n + 1, wrap_succ h1 (by unfold Short; omega), by omega⟩, ?_⟩
    rw [wrap_succ h1 (by unfold Short; omega)]; simp; omega
  · conv => whnf
    exact ⟨_, _, rfl, .inl rfl, rfl⟩

end Go.Proofs.YthgjpoeneihmnaaDoor.Ev
