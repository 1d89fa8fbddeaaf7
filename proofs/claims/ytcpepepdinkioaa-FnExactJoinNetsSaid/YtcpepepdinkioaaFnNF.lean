/- Nets joined, as the specification has it. -/
import Derived.Test.YtcpepepdinkioaaFnNE
namespace Go.Proofs.Ytcpepepdinkioaa.Ev
open Go
set_option linter.unusedVariables false
set_option linter.unusedSimpArgs false
set_option maxRecDepth 100000
set_option exponentiation.threshold 100000

def padPl (l r : Nat) (p : Plane) : Plane := (List.replicate l 0 ++ p.1 ++ List.replicate r 0, p.2.1, ())
def wideL (l r : Nat) (x : List Plane) : List Plane := x.map (padPl l r)

theorem room_cat {a b : Nat} (h : a + b ≤ 4194304) : (a + b) * 8 ≤ 140737488355328 ∧ a + b ≤ maxLen := ⟨by omega, by unfold maxLen; omega⟩
theorem s_l9Wide_ok (x : List Plane) (l r : Nat) (hx : FitP x) (hl : l ≤ 1048576) (hr : r ≤ 1048576) : orc.pc n_s_l9Wide [.d shPlS x, .d tI (l : Int), .d tI (r : Int)] ⟨shPlS, shPlS.full, wideL l r x⟩ := by
  have hn := hx.n
  refine p_s_l9Wide true rfl rfl ?_
  conv => whnf
  refine loop_ups (X := Int × List Plane) (fun (i, o) => [⟨0, 8, false, .d tI i⟩, ⟨0, 7, false, .own shPlane oPl o⟩]) (fun (i, _) => x.length - i.toNat) (fun (i, o) => ∃ n : Nat, i = n ∧ n ≤ x.length ∧ o = wideL l r (x.take n)) (0, []) ?_ ⟨0, rfl, by omega, rfl⟩ ?_
  · refine st_eq ?_
    conv => whnf
    exact ⟨rfl⟩
  rintro ⟨_, _⟩ ⟨n, rfl, hm, rfl⟩
  have hlt : (wideL l r (x.take n)).length = n := by simp [wideL]; omega
  conv => whnf
  refine cond_intro (fun h => ?_) (fun h => ?_)
  · have h : n < x.length := by simpa using h
    have hp := hx.at h shPlane.dflt
    conv => whnf
    refine ⟨(room_make (Int.natCast_nonneg _) (by omega) (by decide)), ?_⟩
    conv => whnf
    refine ⟨⟨Int.natCast_nonneg _, Int.ofNat_lt.2 h⟩, ?_⟩
    conv => whnf
    refine ⟨(room_cat (by rw [List.length_replicate, Int.toNat_natCast]; show l + ((x.getD n shPlane.dflt).1).length ≤ _; omega)), ?_⟩
    conv => whnf
    refine ⟨⟨Int.natCast_nonneg _, room_cat (by show (List.replicate _ _ ++ _).length + _ ≤ _; rw [List.length_append, List.length_replicate, Int.toNat_natCast, Int.toNat_natCast]; show l + ((x.getD n shPlane.dflt).1).length + r ≤ _; omega)⟩, ?_⟩
    conv => whnf
    refine ⟨⟨Int.natCast_nonneg _, Int.ofNat_lt.2 h⟩, ?_⟩
    conv => whnf
    refine ⟨⟨room_snoc (by omega) (by decide), len_snoc (by omega)⟩, ?_⟩
    conv => whnf
    refine ⟨(_, _), rfl, ⟨n + 1, wrap_succ h (by unfold Short; omega), by omega, ?_⟩, ?_⟩
    · unfold wideL
      rw [take_getD x h shPlane.dflt, List.map_append]; rfl
    · rw [wrap_succ h (by unfold Short; omega)]; simp; omega
  · have h : ¬ n < x.length := by simpa using h
    conv => whnf
    exact ⟨_, _, rfl, .inl rfl, fin1 (by rw [List.take_of_length_le (by omega)])⟩

end Go.Proofs.Ytcpepepdinkioaa.Ev
