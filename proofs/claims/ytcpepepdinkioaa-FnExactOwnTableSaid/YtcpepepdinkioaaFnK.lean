/- Points out of bits, tables of planes. -/
import Derived.Test.YtcpepepdinkioaaFnJ
namespace Go.Proofs.Ytcpepepdinkioaa.Ev
open Go
set_option linter.unusedVariables false
set_option linter.unusedSimpArgs false
set_option maxRecDepth 100000
set_option exponentiation.threshold 100000

def bitA (k i : Int) : Int := IntKind.i64.wrap (BitVec.ofInt IntKind.i64.bits (k.fdiv (2 ^ (min i.toNat IntKind.i64.bits))) &&& BitVec.ofInt IntKind.i64.bits 1).toNat
def bitL (n : Nat) (k : Int) : List Int := (List.range n).map fun i => bitA k (i : Nat)
theorem bitL_length (n : Nat) (k : Int) : (bitL n k).length = n := by simp [bitL]
theorem map_range_snoc {α : Type} (f : Nat → α) (n : Nat) : (List.range (n + 1)).map f = (List.range n).map f ++ [f n] := by rw [List.range_succ]; simp

theorem i_bitPoint_ok (n : Nat) (k : Int) (hn : n ≤ 1048576) : orc.pc n_i_bitPoint [.d tI (n : Int), .d tI k] ⟨tIS, .ow .fz, bitL n k⟩ := by
  refine p_i_bitPoint true rfl rfl ?_
  conv => whnf
  refine loop_ups (X := Int × List Int) (fun (i, x) => [⟨0, 9, false, .d tI i⟩, ⟨0, 5, false, .own tI .fz x⟩]) (fun (i, _) => n - i.toNat) (fun (i, x) => ∃ m : Nat, i = m ∧ x = (List.range m).map (fun j => bitA k (j : Nat)) ∧ m ≤ n) (0, []) ?_ ⟨0, rfl, rfl, by omega⟩ ?_
  · refine st_eq ?_
    conv => whnf
    exact ⟨rfl⟩
  rintro ⟨_, _⟩ ⟨m, rfl, rfl, hm⟩
  conv => whnf
  refine cond_intro (fun h => ?_) (fun h => ?_)
  · have h : m < n := by simpa using h
    conv => whnf
    refine ⟨(by omega), ?_⟩
    conv => whnf
    refine ⟨⟨room_snoc (by simp; omega) (by decide), len_snoc (by simp; omega)⟩, ?_⟩
    conv => whnf
    refine ⟨(_, _), rfl, ⟨m + 1, wrap_succ h (by unfold Short; omega), ?_, by omega⟩, ?_⟩
    · rw [map_range_snoc]; rfl
    · rw [wrap_succ h (by unfold Short; omega)]; simp; omega
  · have h : ¬ m < n := by simpa using h
    obtain rfl : m = n := by omega
    conv => whnf
    exact ⟨_, _, rfl, .inl rfl, fin1 (rfl)⟩

theorem s_l2BitPoint_ok (n : Nat) (k : Int) (hn : n ≤ 1048576) : orc.pc n_s_l2BitPoint [.d tI (n : Int), .d tI k] ⟨tIS, .ow .fz, bitL n k⟩ := by
  refine p_s_l2BitPoint true rfl rfl ?_
  conv => whnf
  refine loop_ups (X := Int × List Int) (fun (i, x) => [⟨0, 6, false, .d tI i⟩, ⟨0, 5, false, .own tI .fz x⟩]) (fun (i, _) => n - i.toNat) (fun (i, x) => ∃ m : Nat, i = m ∧ x = (List.range m).map (fun j => bitA k (j : Nat)) ∧ m ≤ n) (0, []) ?_ ⟨0, rfl, rfl, by omega⟩ ?_
  · refine st_eq ?_
    conv => whnf
    exact ⟨rfl⟩
  rintro ⟨_, _⟩ ⟨m, rfl, rfl, hm⟩
  conv => whnf
  refine cond_intro (fun h => ?_) (fun h => ?_)
  · have h : m < n := by simpa using h
    conv => whnf
    refine ⟨(by omega), ?_⟩
    conv => whnf
    refine ⟨⟨room_snoc (by simp; omega) (by decide), len_snoc (by simp; omega)⟩, ?_⟩
    conv => whnf
    refine ⟨(_, _), rfl, ⟨m + 1, wrap_succ h (by unfold Short; omega), ?_, by omega⟩, ?_⟩
    · rw [map_range_snoc]; rfl
    · rw [wrap_succ h (by unfold Short; omega)]; simp; omega
  · have h : ¬ m < n := by simpa using h
    obtain rfl : m = n := by omega
    conv => whnf
    exact ⟨_, _, rfl, .inl rfl, fin1 (rfl)⟩

def shl1 (n : Nat) : Int := IntKind.i64.wrap (1 * 2 ^ (min ((n : Int).toNat) IntKind.i64.bits))
theorem shl1_eq {n : Nat} (h : n ≤ 4) : shl1 n = ((2 ^ n : Nat) : Int) := by
  have : n = 0 ∨ n = 1 ∨ n = 2 ∨ n = 3 ∨ n = 4 := by omega
  rcases this with rfl | rfl | rfl | rfl | rfl <;> decide
theorem pow_le {n : Nat} (h : n ≤ 4) : 2 ^ n ≤ 16 := by
  have : n = 0 ∨ n = 1 ∨ n = 2 ∨ n = 3 ∨ n = 4 := by omega
  rcases this with rfl | rfl | rfl | rfl | rfl <;> decide

def cellOf (p : Plane) (k : Int) : Int := IntKind.i64.wrap ((IntKind.i64.wrap (side p (bitL p.1.length k) + 1)).tdiv 2)
def tableOf (p : Plane) : List Int := (List.range (2 ^ p.1.length)).map fun k => cellOf p (k : Nat)

theorem i_Plane_table_ok (p : Plane) (hp : p.1.length ≤ 4) : orc.pc n_i_Plane_table [.d shPlane p] ⟨tIS, .ow .fz, tableOf p⟩ := by
  have h2 := pow_le hp
  refine p_i_Plane_table true rfl rfl ?_
  conv => whnf
  refine ⟨(by omega), ?_⟩
  conv => whnf
  refine loop_ups (X := Int × List Int) (fun (i, x) => [⟨0, 12, false, .d tI i⟩, ⟨0, 4, false, .own tI .fz x⟩]) (fun (i, _) => 2 ^ p.1.length - i.toNat) (fun (i, x) => ∃ m : Nat, i = m ∧ x = (List.range m).map (fun j => cellOf p (j : Nat)) ∧ m ≤ 2 ^ p.1.length) (0, []) ?_ ⟨0, rfl, rfl, Nat.zero_le _⟩ ?_
  · refine st_eq ?_
    conv => whnf
    exact ⟨rfl⟩
  rintro ⟨_, _⟩ ⟨m, rfl, rfl, hm⟩
  conv => whnf
  refine cond_intro (fun h => ?_) (fun h => ?_)
  · have h : (m : Int) < shl1 p.1.length := of_decide_eq_true h
    rw [shl1_eq hp] at h
    have h : m < 2 ^ p.1.length := by omega
    conv => whnf
    refine ⟨_, i_bitPoint_ok p.1.length (m : Int) (by omega), (by first | exact (fun _ => rfl) | exact (fun h => Bool.noConfusion h)), ?_⟩
    conv => whnf
    refine ⟨_, i_Plane_side_ok p (bitL p.1.length (m : Int)) (by omega) (by rw [bitL_length]; omega), (by first | exact (fun _ => rfl) | exact (fun h => Bool.noConfusion h)), ?_⟩
    conv => whnf
    refine ⟨(by decide), ?_⟩
    conv => whnf
    refine ⟨⟨room_snoc (by simp; omega) (by decide), len_snoc (by simp; omega)⟩, ?_⟩
    conv => whnf
    refine ⟨(_, _), rfl, ⟨m + 1, wrap_succ h (by unfold Short; omega), ?_, by omega⟩, ?_⟩
    · rw [map_range_snoc]; rfl
    · rw [wrap_succ h (by unfold Short; omega)]; simp; omega
  · have h : ¬ (m : Int) < shl1 p.1.length := of_decide_eq_false h
    rw [shl1_eq hp] at h
    have h : m = 2 ^ p.1.length := by omega
    rw [h]
    conv => whnf
    exact ⟨_, _, rfl, .inl rfl, fin1 (rfl)⟩

theorem s_l2TableOf_ok (p : Plane) (hp : p.1.length ≤ 4) : orc.pc n_s_l2TableOf [.d tI (p.1.length : Int), .d shPlane p] ⟨tIS, .ow .fz, tableOf p⟩ := by
  have h2 := pow_le hp
  refine p_s_l2TableOf true rfl rfl ?_
  conv => whnf
  refine loop_ups (X := Int × List Int) (fun (i, x) => [⟨0, 6, false, .d tI i⟩, ⟨0, 5, false, .own tI .fz x⟩]) (fun (i, _) => 2 ^ p.1.length - i.toNat) (fun (i, x) => ∃ m : Nat, i = m ∧ x = (List.range m).map (fun j => cellOf p (j : Nat)) ∧ m ≤ 2 ^ p.1.length) (0, []) ?_ ⟨0, rfl, rfl, Nat.zero_le _⟩ ?_
  · refine st_eq ?_
    conv => whnf
    exact ⟨rfl⟩
  rintro ⟨_, _⟩ ⟨m, rfl, rfl, hm⟩
  conv => whnf
  refine ⟨(by omega), ?_⟩
  conv => whnf
  refine cond_intro (fun h => ?_) (fun h => ?_)
  · have h : (m : Int) < shl1 p.1.length := of_decide_eq_true h
    rw [shl1_eq hp] at h
    have h : m < 2 ^ p.1.length := by omega
    conv => whnf
    refine ⟨_, s_l2BitPoint_ok p.1.length (m : Int) (by omega), (by first | exact (fun _ => rfl) | exact (fun h => Bool.noConfusion h)), ?_⟩
    conv => whnf
    refine ⟨_, s_l2Side_ok p (bitL p.1.length (m : Int)) (by omega) (by rw [bitL_length]; omega), (by first | exact (fun _ => rfl) | exact (fun h => Bool.noConfusion h)), ?_⟩
    conv => whnf
    refine ⟨(by decide), ?_⟩
    conv => whnf
    refine ⟨⟨room_snoc (by simp; omega) (by decide), len_snoc (by simp; omega)⟩, ?_⟩
    conv => whnf
    refine ⟨(_, _), rfl, ⟨m + 1, wrap_succ h (by unfold Short; omega), ?_, by omega⟩, ?_⟩
    · rw [map_range_snoc]; rfl
    · rw [wrap_succ h (by unfold Short; omega)]; simp; omega
  · have h : ¬ (m : Int) < shl1 p.1.length := of_decide_eq_false h
    rw [shl1_eq hp] at h
    have h : m = 2 ^ p.1.length := by omega
    rw [h]
    conv => whnf
    exact ⟨_, _, rfl, .inl rfl, fin1 (rfl)⟩

theorem s_l12Table_ok (s : School) (hp : s.2.1.1.length ≤ 4) : orc.pc n_s_l12Table [.d shSchool s] ⟨tIS, .ow .fz, tableOf s.2.1⟩ := by
  refine p_s_l12Table true rfl rfl ?_
  conv => whnf
  refine ⟨_, s_l2TableOf_ok s.2.1 hp, (by first | exact (fun _ => rfl) | exact (fun h => Bool.noConfusion h)), ?_⟩
  conv => whnf
  exact ⟨_, _, rfl, .inl rfl, fin1 (rfl)⟩

theorem school_plane {s : School} (h : isSchool s = true) : s.2.1.1.length ≤ 4 := by
  have : inB s.2.1.1.length 1 4 = true := by
    unfold isSchool suits isPlane at h
    simp only [Bool.and_eq_true] at h
    exact h.1.2.1.1.1
  simp [inB] at this
  omega

def tableR (s : School) : List Int × Bool × Unit := if isSchool s then (tableOf s.2.1, true, ()) else ([], false, ())
theorem tableR_no {s : School} (h : isSchool s = false) : tableR s = ([], false, ()) := by simp [tableR, h]
theorem tableR_yes {s : School} (h : isSchool s = true) : tableR s = (tableOf s.2.1, true, ()) := by simp [tableR, h]
theorem tableR_short {s : School} : (tableR s).1.length ≤ 1048576 := by
  cases h : isSchool s with
  | true => rw [tableR_yes h]; have := pow_le (school_plane h); simp [tableOf]; omega
  | false => rw [tableR_no h]; simp

theorem s_OwnTable_ok (s : School) (hs : FitSc s) : orc.pc n_s_OwnTable [.d shSchool s] ⟨shLB, oLB, tableR s⟩ := by
  refine p_s_OwnTable true rfl rfl ?_
  conv => whnf
  refine ⟨_, s_l12Good_ok _ hs, (by first | exact (fun _ => rfl) | exact (fun h => Bool.noConfusion h)), ?_⟩
  conv => whnf
  refine cond_intro (fun h => ?_) (fun h => ?_)
  · have h : isSchool s = false := by simpa using h
    rw [tableR_no h]
    conv => whnf
    exact ⟨_, _, rfl, .inl rfl, rfl⟩
  · have h : isSchool s = true := by simpa using h
    rw [tableR_yes h]
    conv => whnf
    refine ⟨_, s_l12Table_ok s (school_plane h), (by first | exact (fun _ => rfl) | exact (fun h => Bool.noConfusion h)), ?_⟩
    conv => whnf
    exact ⟨_, _, rfl, .inl rfl, rfl⟩

theorem i_OwnTable_ok (s : School) (hs : FitSc s) : orc.pc n_i_OwnTable [.d shSchool s] ⟨shLB, oLB, tableR s⟩ := by
  refine p_i_OwnTable true rfl rfl ?_
  conv => whnf
  refine ⟨_, i_IsSchool_ok _ hs, (by first | exact (fun _ => rfl) | exact (fun h => Bool.noConfusion h)), ?_⟩
  conv => whnf
  refine cond_intro (fun h => ?_) (fun h => ?_)
  · have h : isSchool s = false := by simpa using h
    rw [tableR_no h]
    conv => whnf
    exact ⟨_, _, rfl, .inl rfl, rfl⟩
  · have h : isSchool s = true := by simpa using h
    rw [tableR_yes h]
    conv => whnf
    refine ⟨_, i_Plane_table_ok s.2.1 (school_plane h), (by first | exact (fun _ => rfl) | exact (fun h => Bool.noConfusion h)), ?_⟩
    conv => whnf
    exact ⟨_, _, rfl, .inl rfl, rfl⟩

end Go.Proofs.Ytcpepepdinkioaa.Ev
