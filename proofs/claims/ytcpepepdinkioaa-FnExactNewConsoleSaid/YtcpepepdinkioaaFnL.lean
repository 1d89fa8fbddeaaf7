/- New consoles. -/
import Derived.Test.YtcpepepdinkioaaFnJ
namespace Go.Proofs.Ytcpepepdinkioaa.Ev
open Go
set_option linter.unusedVariables false
set_option linter.unusedSimpArgs false
set_option maxRecDepth 100000
set_option exponentiation.threshold 100000

abbrev shLog : Sh := .pair .str (.pair .str (.pair tI .unit))
abbrev shConsole : Sh := .pair shSchool (.pair shLog .unit)
abbrev Log := ByteArray × ByteArray × Int × Unit
abbrev Console := School × Log × Unit
abbrev shCB : Sh := .pair shConsole (.pair .bool .unit)
def oCB : Ow := .pr shConsole.full .fz

theorem i_School_own_ok (s : School) (hs : FitSc s) : orc.pc n_i_School_own [.d shSchool s] ⟨shSchool, shSchool.full, s⟩ := by
  refine p_i_School_own true rfl rfl ?_
  conv => whnf
  refine ⟨_, i_Sample_own_ok _ hs.sm, (by first | exact (fun _ => rfl) | exact (fun h => Bool.noConfusion h)), ?_⟩
  conv => whnf
  refine ⟨_, i_copied_ok _ hs.pl, (by first | exact (fun _ => rfl) | exact (fun h => Bool.noConfusion h)), ?_⟩
  conv => whnf
  exact ⟨_, _, rfl, .inl rfl, rfl⟩

def log0 : Log := (ByteArray.empty, ByteArray.empty, 0, ())
def consR (s : School) : Console × Bool × Unit := if isSchool s then ((s, log0, ()), true, ()) else ((zeroSchool 0, log0, ()), false, ())
theorem consR_no {s : School} (h : isSchool s = false) : consR s = ((zeroSchool 0, log0, ()), false, ()) := by simp [consR, h]
theorem consR_yes {s : School} (h : isSchool s = true) : consR s = ((s, log0, ()), true, ()) := by simp [consR, h]
theorem consR_fit {s : School} (hs : FitSc s) : FitSc (consR s).1.1 := by
  cases h : isSchool s with
  | true => rw [consR_yes h]; exact hs
  | false => rw [consR_no h]; exact ⟨⟨⟨by simp [zeroSchool], by simp [zeroSchool]⟩, by simp [zeroSchool]⟩, by simp [zeroSchool]⟩

theorem s_NewConsole_ok (s : School) (hs : FitSc s) : orc.pc n_s_NewConsole [.d shSchool s] ⟨shCB, oCB, consR s⟩ := by
  refine p_s_NewConsole true rfl rfl ?_
  conv => whnf
  refine ⟨_, s_l12Good_ok _ hs, (by first | exact (fun _ => rfl) | exact (fun h => Bool.noConfusion h)), ?_⟩
  conv => whnf
  refine cond_intro (fun h => ?_) (fun h => ?_)
  · have h : isSchool s = false := by simpa using h
    rw [consR_no h]
    conv => whnf
    exact ⟨_, _, rfl, .inl rfl, rfl⟩
  · have h : isSchool s = true := by simpa using h
    rw [consR_yes h]
    conv => whnf
    refine ⟨_, s_l12Own_ok _ hs, (by first | exact (fun _ => rfl) | exact (fun h => Bool.noConfusion h)), ?_⟩
    conv => whnf
    exact ⟨_, _, rfl, .inl rfl, rfl⟩

theorem i_NewConsole_ok (s : School) (hs : FitSc s) : orc.pc n_i_NewConsole [.d shSchool s] ⟨shCB, oCB, consR s⟩ := by
  refine p_i_NewConsole true rfl rfl ?_
  conv => whnf
  refine ⟨_, i_IsSchool_ok _ hs, (by first | exact (fun _ => rfl) | exact (fun h => Bool.noConfusion h)), ?_⟩
  conv => whnf
  refine cond_intro (fun h => ?_) (fun h => ?_)
  · have h : isSchool s = false := by simpa using h
    rw [consR_no h]
    conv => whnf
    exact ⟨_, _, rfl, .inl rfl, rfl⟩
  · have h : isSchool s = true := by simpa using h
    rw [consR_yes h]
    conv => whnf
    refine ⟨_, i_School_own_ok _ hs, (by first | exact (fun _ => rfl) | exact (fun h => Bool.noConfusion h)), ?_⟩
    conv => whnf
    exact ⟨_, _, rfl, .inl rfl, rfl⟩

theorem l_eqLog_self (a : Log) : orc.pc n_l_eqLog [.d shLog a, .d shLog a] ⟨.bool, .fz, true⟩ := by
  refine p_l_eqLog true rfl rfl ?_
  conv => whnf
  refine cond_f (by simp) ?_
  conv => whnf
  refine cond_f (by simp) ?_
  conv => whnf
  refine cond_f (by simp) ?_
  conv => whnf
  exact ⟨_, _, rfl, .inl rfl, fin1 (rfl)⟩

theorem l_eqConsole_self (a : Console) (ha : FitSc a.1) : orc.pc n_l_eqConsole [.d shConsole a, .d shConsole a] ⟨.bool, .fz, true⟩ := by
  refine p_l_eqConsole true rfl rfl ?_
  conv => whnf
  refine ⟨_, l_eqSchool_ok _ _ ha, (by first | exact (fun _ => rfl) | exact (fun h => Bool.noConfusion h)), ?_⟩
  conv => whnf
  refine cond_f (by simp) ?_
  conv => whnf
  refine ⟨_, l_eqLog_self _, (by first | exact (fun _ => rfl) | exact (fun h => Bool.noConfusion h)), ?_⟩
  conv => whnf
  exact ⟨_, _, rfl, .inl rfl, fin1 (rfl)⟩

theorem l_markConsole_ok {q1 q2 q3 : Pl} {P : List (List Int) → List Int → List Int → St} (O1 : ∀ y z, Owns q1 tIS (.ow .fz) (fun x => P x y z)) (O2 : ∀ x z, Owns q2 tI .fz (fun y => P x y z)) (O3 : ∀ x y, Owns q3 tI .fz (P x y)) (x : List (List Int)) (y z : List Int) (u : Unit) (b : Int × Unit) (c : Int × Int × Unit) (d : Log × Unit) (k : Int)
    (hx : Fit2 x) (hy : y.length ≤ 1048576) (hz : z.length ≤ 1048576) (h0 : 0 ≤ k) (hk : k + tot x + y.length ≤ 1152921504606846976) :
    orc.ic n_l_markConsole [.pair (.pair (.pair (.vw q1 tIS) (.pair (.vw q2 tI) (.d .unit u))) (.pair (.pair (.vw q3 tI) (.d (.pair tI .unit) b)) (.d (.pair tI (.pair tI .unit)) c))) (.d (.pair shLog .unit) d), .d tI k] (P x y z) (.d tI (k + tot x + y.length + z.length)) (P (marksS x k) (marks y.length (k + tot x)) (marks z.length (k + tot x + y.length))) := by
  refine p_l_markConsole true ((O3 _ _).pos _) rfl rfl ?_
  conv => whnf
  refine ⟨_, _, l_markSchool_ok (P := fun x y z => _ :: P x y z) (fun y z => (O1 y z).lift _) (fun x z => (O2 x z).lift _) (fun x y => (O3 x y).lift _) x y z u b c k hx hy hz h0 hk, ?_⟩
  conv => whnf
  exact ⟨_, rfl, rfl, rfl⟩

def boxConsole (x : List (List Int)) (y z : List Int) (u : Unit) (b : Int × Unit) (c : Int × Int × Unit) (d : Log × Unit) : AV :=
  .pair .unit (.pair (.pair (.pair (.own tIS (.ow .fz) x) (.pair (.own tI .fz y) (.d .unit u))) (.pair (.pair (.own tI .fz z) (.d (.pair tI .unit) b)) (.d (.pair tI (.pair tI .unit)) c))) (.d (.pair shLog .unit) d))

theorem l_markConsole_at {st : St} {s : Nat} {sl : Slot} (x : List (List Int)) (y z : List Int) (u : Unit) (b : Int × Unit) (c : Int × Int × Unit) (d : Log × Unit) (hg : st.get 0 s = some sl) (hf : sl.fb = true) (hb : sl.b = boxConsole x y z u b c d) (k : Int)
    (hx : Fit2 x) (hy : y.length ≤ 1048576) (hz : z.length ≤ 1048576) (h0 : 0 ≤ k) (hk : k + tot x + y.length ≤ 1152921504606846976) :
    orc.ic n_l_markConsole [.pair (.pair (.pair (.vw ⟨⟨0, s, true⟩, [.l, .l, .l, .r 0]⟩ tIS) (.pair (.vw ⟨⟨0, s, true⟩, [.l, .r 1, .l, .l, .r 0]⟩ tI) (.d .unit u))) (.pair (.pair (.vw ⟨⟨0, s, true⟩, [.l, .l, .r 2, .l, .r 0]⟩ tI) (.d (.pair tI .unit) b)) (.d (.pair tI (.pair tI .unit)) c))) (.d (.pair shLog .unit) d), .d tI k] st (.d tI (k + tot x + y.length + z.length))
      (st.upd 0 s true (boxConsole (marksS x k) (marks y.length (k + tot x)) (marks z.length (k + tot x + y.length)) u b c d)) := by
  have h := l_markConsole_ok (P := fun x y z => st.upd 0 s true (boxConsole x y z u b c d))
    (fun y z => owns_box hg hf (e := tIS) (o := .ow .fz) (mk := fun x => boxConsole x y z u b c d) (ps := [.r 0, .l, .l, .l]) rfl (fun _ => rfl) (fun _ _ => rfl))
    (fun x z => owns_box hg hf (e := tI) (o := .fz) (mk := fun y => boxConsole x y z u b c d) (ps := [.r 0, .l, .l, .r 1, .l]) rfl (fun _ => rfl) (fun _ _ => rfl))
    (fun x y => owns_box hg hf (e := tI) (o := .fz) (mk := fun z => boxConsole x y z u b c d) (ps := [.r 0, .l, .r 2, .l, .l]) rfl (fun _ => rfl) (fun _ _ => rfl)) x y z u b c d k hx hy hz h0 hk
  rw [← hb, upd_self hg] at h
  exact h

theorem l_heldConsole_ok (x : List (List Int)) (m m' : Nat) (u : Unit) (b : Int × Unit) (c : Int × Int × Unit) (d : Log × Unit) (k : Int) (hx : Fit2 x) (hy : m ≤ 1048576) (hz : m' ≤ 1048576) (h0 : 0 ≤ k) (hk : k + tot x + m ≤ 1152921504606846976) :
    orc.pc n_l_heldConsole [.d shConsole (((marksS x k, marks m (k + tot x), u), (marks m' (k + tot x + m), b), c), d), .d tI k] ⟨tI, .fz, k + tot x + m + m'⟩ := by
  refine p_l_heldConsole true rfl rfl ?_
  conv => whnf
  refine ⟨_, l_heldSchool_ok x m m' u b c k hx hy hz h0 hk, (by first | exact (fun _ => rfl) | exact (fun h => Bool.noConfusion h)), ?_⟩
  conv => whnf
  refine cond_f (by simp; omega) ?_
  conv => whnf
  exact ⟨_, _, rfl, .inl rfl, rfl⟩

end Go.Proofs.Ytcpepepdinkioaa.Ev
