/- Copies, turned and moved samples, steps of a plane. -/
import Derived.Test.YtlndfmmigndgeaaFnE
namespace Go.Proofs.Ytlndfmmigndgeaa.Ev
open Go
set_option linter.unusedVariables false
set_option linter.unusedSimpArgs false
set_option maxRecDepth 100000
set_option exponentiation.threshold 100000

theorem i_copied_ok (l : List Int) (hl : l.length ≤ 1048576) : orc.pc n_i_copied [.d tIS l] ⟨tIS, .ow .fz, l⟩ := by
  refine p_i_copied true rfl rfl ?_
  conv => whnf
  refine ⟨⟨?_, ?_⟩, ?_⟩
  · show ([].length + l.length) * 8 ≤ _
    simp; omega
  · simp [maxLen]; omega
  conv => whnf
  exact ⟨_, _, rfl, .inl rfl, fin1 (rfl)⟩

theorem i_copies_ok (l : List (List Int)) (hl : Fit2 l) : orc.pc n_i_copies [.d tISS l] ⟨tISS, .ow (.ow .fz), l⟩ := by
  have hll := hl.1
  refine p_i_copies true rfl rfl ?_
  conv => whnf
  refine loop_ups (X := Int × List (List Int)) (fun (i, x) => [⟨0, 9, false, .d tI i⟩, ⟨0, 3, false, .own tIS (.ow .fz) x⟩]) (fun (i, _) => l.length - i.toNat) (fun (i, x) => ∃ n : Nat, i = n ∧ x = l.take n ∧ n ≤ l.length) (0, []) ?_ ⟨0, rfl, rfl, by omega⟩ ?_
  · refine st_eq ?_
    conv => whnf
    exact ⟨rfl⟩
  rintro ⟨_, _⟩ ⟨n, rfl, rfl, hn⟩
  conv => whnf
  refine cond_intro (fun h => ?_) (fun h => ?_)
  · have h : n < l.length := by simpa using h
    conv => whnf
    refine ⟨⟨by omega, by omega⟩, ?_⟩
    conv => whnf
    refine ⟨_, i_copied_ok _ (hl.at h _), (by first | exact (fun _ => rfl) | exact (fun h => Bool.noConfusion h)), ?_⟩
    conv => whnf
    refine ⟨⟨room_snoc (by simp; omega) (by decide), len_snoc (by simp; omega)⟩, ?_⟩
    conv => whnf
    refine ⟨(_, _), rfl, ⟨n + 1, wrap_succ h (by unfold Short; omega), ?_, by omega⟩, ?_⟩
    · rw [take_getD _ h tIS.dflt]; rfl
    · rw [wrap_succ h (by unfold Short; omega)]; simp; omega
  · have h : ¬ n < l.length := by simpa using h
    obtain rfl : n = l.length := by omega
    rw [List.take_length]
    conv => whnf
    exact ⟨_, _, rfl, .inl rfl, fin1 (rfl)⟩

theorem s_l2Rows_ok (l : List (List Int)) (hl : Fit2 l) : orc.pc n_s_l2Rows [.d tISS l] ⟨tISS, .ow (.ow .fz), l⟩ := by
  have hll := hl.1
  refine p_s_l2Rows true rfl rfl ?_
  conv => whnf
  refine loop_ups (X := Int × List (List Int)) (fun (i, x) => [⟨0, 4, false, .d tI i⟩, ⟨0, 3, false, .own tIS (.ow .fz) x⟩]) (fun (i, _) => l.length - i.toNat) (fun (i, x) => ∃ n : Nat, i = n ∧ x = l.take n ∧ n ≤ l.length) (0, []) ?_ ⟨0, rfl, rfl, by omega⟩ ?_
  · refine st_eq ?_
    conv => whnf
    exact ⟨rfl⟩
  rintro ⟨_, _⟩ ⟨n, rfl, rfl, hn⟩
  conv => whnf
  refine cond_intro (fun h => ?_) (fun h => ?_)
  · have h : n < l.length := by simpa using h
    conv => whnf
    refine ⟨⟨by omega, by omega⟩, ?_⟩
    conv => whnf
    refine ⟨_, s_l1Own_ok _ (hl.at h _), (by first | exact (fun _ => rfl) | exact (fun h => Bool.noConfusion h)), ?_⟩
    conv => whnf
    refine ⟨⟨room_snoc (by simp; omega) (by decide), len_snoc (by simp; omega)⟩, ?_⟩
    conv => whnf
    refine ⟨(_, _), rfl, ⟨n + 1, wrap_succ h (by unfold Short; omega), ?_, by omega⟩, ?_⟩
    · rw [take_getD _ h tIS.dflt]; rfl
    · rw [wrap_succ h (by unfold Short; omega)]; simp; omega
  · have h : ¬ n < l.length := by simpa using h
    obtain rfl : n = l.length := by omega
    rw [List.take_length]
    conv => whnf
    exact ⟨_, _, rfl, .inl rfl, fin1 (rfl)⟩

/-! ### Turned labels -/

def negW (n : Int) : Int := IntKind.i64.wrap (n * -1)
def negS (n : Int) : Int := IntKind.i64.wrap (0 - n)
theorem negW_eq (n : Int) : negW n = negS n := by unfold negW negS; congr 1; omega

theorem map_take_snoc {α β : Type} (f : α → β) (l : List α) {n : Nat} (h : n < l.length) (d : α) : (l.take (n + 1)).map f = (l.take n).map f ++ [f (l.getD n d)] := by
  rw [take_getD l h d]; simp

theorem s_l2Minus_ok (l : List Int) (hl : l.length ≤ 1048576) : orc.pc n_s_l2Minus [.d tIS l] ⟨tIS, .ow .fz, l.map negS⟩ := by
  refine p_s_l2Minus true rfl rfl ?_
  conv => whnf
  refine loop_ups (X := Int × List Int) (fun (i, x) => [⟨0, 4, false, .d tI i⟩, ⟨0, 3, false, .own tI .fz x⟩]) (fun (i, _) => l.length - i.toNat) (fun (i, x) => ∃ n : Nat, i = n ∧ x = (l.take n).map negS ∧ n ≤ l.length) (0, []) ?_ ⟨0, rfl, rfl, by omega⟩ ?_
  · refine st_eq ?_
    conv => whnf
    exact ⟨rfl⟩
  rintro ⟨_, _⟩ ⟨n, rfl, rfl, hn⟩
  conv => whnf
  refine cond_intro (fun h => ?_) (fun h => ?_)
  · have h : n < l.length := by simpa using h
    conv => whnf
    refine ⟨⟨by omega, by omega⟩, ?_⟩
    conv => whnf
    refine ⟨⟨room_snoc (by simp; omega) (by decide), len_snoc (by simp; omega)⟩, ?_⟩
    conv => whnf
    refine ⟨(_, _), rfl, ⟨n + 1, wrap_succ h (by unfold Short; omega), ?_, by omega⟩, ?_⟩
    · rw [map_take_snoc _ _ h tI.dflt]; rfl
    · rw [wrap_succ h (by unfold Short; omega)]; simp; omega
  · have h : ¬ n < l.length := by simpa using h
    obtain rfl : n = l.length := by omega
    rw [List.take_length]
    conv => whnf
    exact ⟨_, _, rfl, .inl rfl, fin1 (rfl)⟩

def zeroSample : Sample := ([], [], ())
def turnL (s : Sample) : Sample := if isSample s then (s.1, s.2.1.map negS, ()) else zeroSample
theorem turnL_no {s : Sample} (h : isSample s = false) : turnL s = zeroSample := by simp [turnL, h]
theorem turnL_yes {s : Sample} (h : isSample s = true) : turnL s = (s.1, s.2.1.map negS, ()) := by simp [turnL, h]

abbrev shSaB : Sh := .pair shSample (.pair .bool .unit)
def oSaB : Ow := .pr shSample.full .fz

theorem set_map {l : List Int} {f : Int → Int} {n : Nat} (h : n < l.length) (d : Int) : ((l.take n).map f ++ l.drop n).set n (f (l.getD n d)) = (l.take (n + 1)).map f ++ l.drop (n + 1) := by
  rw [drop_getD l h d, set_at (by simp; omega), map_take_snoc f l h d]; simp

theorem getD_mid {α : Type} {a b : List α} {n : Nat} (h : a.length = n) (d : α) : (a ++ b).getD n d = b.getD 0 d := by
  rw [List.getD_eq_getElem?_getD, List.getElem?_append_right (by omega), h, Nat.sub_self, ← List.getD_eq_getElem?_getD]

theorem getD_map {l : List Int} {f : Int → Int} {n : Nat} (h : n < l.length) (d e : Int) : ((l.take n).map f ++ l.drop n).getD n d = l.getD n e := by
  rw [getD_mid (by simp; omega), drop_getD l h e]; rfl

end Go.Proofs.Ytlndfmmigndgeaa.Ev
