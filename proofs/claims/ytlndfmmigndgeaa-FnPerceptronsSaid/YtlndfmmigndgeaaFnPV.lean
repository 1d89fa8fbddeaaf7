/- Small functions of the laws: what is equal, sums, cut codes. -/
import Derived.Test.YtlndfmmigndgeaaFnB
namespace Go.Proofs.Ytlndfmmigndgeaa.Ev
open Go
set_option linter.unusedVariables false
set_option linter.unusedSimpArgs false
set_option maxRecDepth 100000
set_option exponentiation.threshold 100000

theorem l_vBig_ok (l : List Int) : orc.pc n_l_vBig [.d (.sl (.int .u8)) l] ⟨.bool, .fz, decide ((l.length : Int) > 65536)⟩ := by
  refine p_l_vBig true rfl rfl ?_
  conv => whnf
  exact ⟨_, _, rfl, .inl rfl, rfl⟩
theorem l_vInts_ok (a b : List Int) (ha : a.length ≤ 1048576) : orc.pc n_l_vInts [.d tIS a, .d tIS b] ⟨.bool, .fz, decide (a = b)⟩ := by
  refine p_l_vInts true rfl rfl ?_
  conv => whnf
  refine cond_intro (fun h => ?_) (fun h => ?_)
  · have h : a.length ≠ b.length := by simp at h; omega
    conv => whnf
    exact ⟨_, _, rfl, .inl rfl, fin1 (by symm; simp; intro e; exact h (by rw [e]))⟩
  have h : a.length = b.length := by simp at h; omega
  conv => whnf
  refine loop_ups (X := Int) (fun i => [⟨0, 5, false, .d tI i⟩]) (fun i => a.length - i.toNat) (fun i => ∃ n : Nat, i = n ∧ n ≤ a.length ∧ (a = b ↔ a.drop n = b.drop n)) 0 rfl ⟨0, rfl, by omega, by simp⟩ ?_
  rintro _ ⟨n, rfl, hn, hi⟩
  conv => whnf
  refine cond_intro (fun g => ?_) (fun g => ?_)
  · have h1 : n < a.length := by simpa using g
    have h2 : n < b.length := by omega
    conv => whnf
    refine ⟨⟨by omega, by omega⟩, ?_⟩
    conv => whnf
    refine ⟨⟨by omega, by omega⟩, ?_⟩
    conv => whnf
    rw [drop_getD a h1 tI.dflt, drop_getD b h2 tI.dflt] at hi
    refine cond_intro (fun h => ?_) (fun h => ?_)
    · have h : a.getD n tI.dflt ≠ b.getD n tI.dflt := by simpa using h
      conv => whnf
      exact ⟨_, _, rfl, .inl rfl, fin1 (by symm; simp only [decide_eq_false_iff_not]; rw [hi]; intro e; exact h (List.cons.inj e).1)⟩
    · have h : a.getD n tI.dflt = b.getD n tI.dflt := by simpa using h
      conv => whnf
      refine ⟨_, rfl, ⟨n + 1, wrap_succ h1 (by unfold Short; omega), by omega, by rw [hi, h]; simp⟩, ?_⟩
      rw [wrap_succ h1 (by unfold Short; omega)]; simp; omega
  · have h1 : ¬ n < a.length := by simpa using g
    conv => whnf
    exact ⟨_, _, rfl, .inl rfl, fin1 (by symm; simp only [decide_eq_true_eq]; rw [hi, drop_len h1, drop_len (by omega)])⟩

theorem l_vPlane_ok (a b : Plane) (ha : a.1.length ≤ 1048576) : orc.pc n_l_vPlane [.d shPlane a, .d shPlane b] ⟨.bool, .fz, decide (a.1 = b.1) && (a.2.1 == b.2.1)⟩ := by
  refine p_l_vPlane true rfl rfl ?_
  conv => whnf
  refine ⟨_, l_vInts_ok _ _ ha, (by first | exact (fun _ => rfl) | exact (fun h => Bool.noConfusion h)), ?_⟩
  conv => whnf
  refine cond_intro (fun h => ?_) (fun h => ?_)
  · have e : decide (a.1 = b.1) = true := gT h
    conv => whnf
    repeat ((first | refine cond_t h ?_ | refine cond_f (hT h) ?_ | refine cond_t (gT h) ?_); conv => whnf)
    exact ⟨_, _, rfl, .inl rfl, fin1 (by rw [e]; rfl)⟩
  · have e : decide (a.1 = b.1) = false := gF h
    conv => whnf
    repeat ((first | refine cond_f h ?_ | refine cond_t (hF h) ?_ | refine cond_f (gF h) ?_); conv => whnf)
    exact ⟨_, _, rfl, .inl rfl, fin1 (by rw [e]; rfl)⟩

def sI : List Int → Int
  | [] => 0
  | x :: r => x + sI r
theorem sI_snoc (x : Int) : ∀ l, sI (l ++ [x]) = sI l + x := by
  intro l
  induction l with
  | nil => simp [sI]
  | cons y l ih => simp only [List.cons_append, sI, ih]; omega
theorem sI_bd {c : Int} : ∀ {l : List Int}, (∀ x ∈ l, 0 ≤ x ∧ x ≤ c) → 0 ≤ sI l ∧ sI l ≤ c * l.length := by
  intro l
  induction l with
  | nil => intro _; simp [sI]
  | cons x l ih =>
    intro h
    have h1 := h x (List.mem_cons_self ..)
    have h2 := ih fun y hy => h y (List.mem_cons_of_mem _ hy)
    have e : c * (((x :: l).length : Nat) : Int) = c * l.length + c := by rw [List.length_cons, Int.natCast_add, Int.mul_add]; simp
    simp only [sI]
    omega
theorem l_vAdd_ok (l : List Int) (hl : l.length ≤ 1048576) (h : ∀ x ∈ l, 0 ≤ x ∧ x ≤ 1000000) : orc.pc n_l_vAdd [.d tIS l] ⟨tI, .fz, sI l⟩ := by
  refine p_l_vAdd true rfl rfl ?_
  conv => whnf
  refine loop_ups (X := Int × Int) (fun (i, x) => [⟨0, 4, false, .d tI i⟩, ⟨0, 3, false, .d tI x⟩]) (fun (i, _) => l.length - i.toNat) (fun (i, x) => ∃ m : Nat, i = m ∧ x = sI (l.take m) ∧ m ≤ l.length) (0, 0) ?_ ⟨0, rfl, rfl, by omega⟩ ?_
  · refine st_eq ?_
    conv => whnf
    exact ⟨rfl⟩
  rintro ⟨_, _⟩ ⟨m, rfl, rfl, hm⟩
  conv => whnf
  refine cond_intro (fun g => ?_) (fun g => ?_)
  · have g : m < l.length := by simpa using g
    have hb := sI_bd (c := 1000000) (l := l.take (m + 1)) fun x hx => h x (List.mem_of_mem_take hx)
    have hlen : (l.take (m + 1)).length ≤ 1048576 := by rw [List.length_take]; omega
    have e : IntKind.i64.wrap (sI (l.take m) + l.getD m tI.dflt) = sI (l.take (m + 1)) := by
      rw [take_getD l g tI.dflt, sI_snoc] at hb ⊢
      rw [List.length_append] at hb
      have h3 : (l.take m).length ≤ 1048576 := by rw [List.length_take]; omega
      have h4 : ((([l.getD m tI.dflt] : List Int).length : Nat) : Int) = 1 := rfl
      exact wrap_in (by omega) (by omega)
    conv => whnf
    refine ⟨⟨by omega, by omega⟩, ?_⟩
    conv => whnf
    refine ⟨(_, _), rfl, ⟨m + 1, wrap_succ g (by unfold Short; omega), e, by omega⟩, ?_⟩
    rw [wrap_succ g (by unfold Short; omega)]; simp; omega
  · have g : ¬ m < l.length := by simpa using g
    obtain rfl : m = l.length := by omega
    rw [List.take_length]
    conv => whnf
    exact ⟨_, _, rfl, .inl rfl, rfl⟩

theorem room_any {n b : Nat} (h : n ≤ 1048577) (hb : b ≤ 4096) : n * b ≤ 140737488355328 := Nat.le_trans (Nat.mul_le_mul h hb) (by decide)
theorem len_any {n : Nat} (h : n ≤ 1048577) : n ≤ maxLen := by simp [maxLen]; omega
theorem cut_eq (l : List Int) (c : Nat) : (l.drop c).take (l.length - c) = l.drop c := List.take_of_length_le (by simp)
theorem l_vCut_ok (l : List Int) (k : Nat) (hl : l.length ≤ 65536) (hk : k ≤ 255) : orc.pc n_l_vCut [.d (.sl (.int .u8)) l, .d tI (k : Int)] ⟨.sl (.int .u8), .ow .fz, l.drop (min k l.length) ++ [IntKind.u8.wrap ((min k l.length : Nat) : Int)]⟩ := by
  have hX : ∀ c, ((l.drop c).take (l.length - c)).length ≤ 65536 := fun c => by rw [cut_eq, List.length_drop]; omega
  refine p_l_vCut true rfl rfl ?_
  conv => whnf
  refine cond_intro (fun h => ?_) (fun h => ?_)
  · have h : l.length < k := by have := of_decide_eq_true h; omega
    have e : min k l.length = l.length := by omega
    rw [e]
    have h1 := hX l.length
    conv => whnf
    refine ⟨⟨Int.natCast_nonneg _, Int.le_refl _⟩, ?_⟩
    conv => whnf
    refine ⟨⟨room_any (show 0 + ((l.drop l.length).take (l.length - l.length)).length ≤ 1048577 by omega) (by decide), len_any (show 0 + ((l.drop l.length).take (l.length - l.length)).length ≤ 1048577 by omega)⟩, ?_⟩
    conv => whnf
    refine ⟨⟨room_any (show ([] ++ ((l.drop l.length).take (l.length - l.length))).length + 1 ≤ 1048577 by rw [List.nil_append]; omega) (by decide), len_any (show ([] ++ ((l.drop l.length).take (l.length - l.length))).length + 1 ≤ 1048577 by rw [List.nil_append]; omega)⟩, ?_⟩
    conv => whnf
    exact ⟨_, _, rfl, .inl rfl, fin1 (by show ([] ++ ((l.drop l.length).take (l.length - l.length))) ++ _ = _; rw [List.nil_append, cut_eq]; rfl)⟩
  · have h : ¬ l.length < k := by have := of_decide_eq_false h; omega
    have e : min k l.length = k := by omega
    rw [e]
    have h1 := hX k
    conv => whnf
    refine ⟨⟨Int.natCast_nonneg _, Int.ofNat_le.2 (Nat.le_of_not_lt h)⟩, ?_⟩
    conv => whnf
    refine ⟨⟨room_any (show 0 + ((l.drop k).take (l.length - k)).length ≤ 1048577 by omega) (by decide), len_any (show 0 + ((l.drop k).take (l.length - k)).length ≤ 1048577 by omega)⟩, ?_⟩
    conv => whnf
    refine ⟨⟨room_any (show ([] ++ ((l.drop k).take (l.length - k))).length + 1 ≤ 1048577 by rw [List.nil_append]; omega) (by decide), len_any (show ([] ++ ((l.drop k).take (l.length - k))).length + 1 ≤ 1048577 by rw [List.nil_append]; omega)⟩, ?_⟩
    conv => whnf
    exact ⟨_, _, rfl, .inl rfl, fin1 (by show ([] ++ ((l.drop k).take (l.length - k))) ++ _ = _; rw [List.nil_append, cut_eq]; rfl)⟩

end Go.Proofs.Ytlndfmmigndgeaa.Ev
