/- Nets joined: the program's walk. -/
import Derived.Test.YtcpepepdinkioaaFnNH
namespace Go.Proofs.Ytcpepepdinkioaa.Ev
open Go
set_option linter.unusedVariables false
set_option linter.unusedSimpArgs false
set_option maxRecDepth 100000
set_option exponentiation.threshold 100000
set_option maxHeartbeats 2000000

theorem wide00 (x : List Plane) : wideL 0 0 x = x := by
  unfold wideL
  conv => rhs; rw [← List.map_id x]
  apply List.map_congr_left
  intro p _
  simp [padPl]

theorem totPP_le {K : Nat} : ∀ (l : List (List Plane)), (∀ x ∈ l, totP x ≤ K) → totPP l ≤ l.length * K := by
  intro l
  induction l with
  | nil => intro _; simp [totPP]
  | cons x l ih =>
    intro h
    have h1 := h x (by simp)
    have h2 := ih fun y hy => h y (by simp [hy])
    simp only [totPP, List.length_cons, Nat.succ_mul]
    omega
theorem net_small {t : Net} (q : isNet t = true) : ∀ n, n < t.2.1.length → (t.2.1.getD n (Sh.dflt shPlS)).length ≤ 4 ∧ ∀ p ∈ t.2.1.getD n (Sh.dflt shPlS), p.1.length ≤ 4 := by
  intro n hn
  unfold isNet at q
  simp only [Bool.and_eq_true] at q
  have h := okLayer_iff.1 ((okLayers_iff _ _).1 q.2.2 n hn)
  refine ⟨h.1.2, fun p hp => ?_⟩
  have hp := (okGate_iff.1 (h.2 p hp)).1
  unfold isPlane at hp
  simp only [Bool.and_eq_true] at hp
  have := inB_iff.1 hp.1.1
  omega
theorem lenAt_small {t : Net} (q : isNet t = true) {n : Nat} (hn : n ≤ t.2.1.length) : lenAt t.2.1 n ≤ 4 := by
  cases n with
  | zero => simp [lenAt]
  | succ n => exact (net_small q n (by omega)).1
theorem fit_join {s t : Net} (q : isNet s = true) (q2 : isNet t = true) (w : s.2.1.length = t.2.1.length) : FitPP (jLays s.2.1 t.2.1 s.2.1.length) := by
  have n6 := net_len q
  have key : ∀ x ∈ jLays s.2.1 t.2.1 s.2.1.length, x.length ≤ 8 ∧ ∀ p ∈ x, p.1.length ≤ 8 := by
    intro x hx
    obtain ⟨n, hn, rfl⟩ := List.mem_map.1 hx
    have hn := List.mem_range.1 hn
    have a := net_small q n hn
    have b := net_small q2 n (by omega)
    have la := lenAt_small q (n := n) (by omega)
    have lb := lenAt_small q2 (n := n) (by omega)
    refine ⟨by rw [jLay_len]; omega, fun p hp => ?_⟩
    rcases List.mem_append.1 hp with hp | hp
    · obtain ⟨p0, hp0, rfl⟩ := List.mem_map.1 hp
      have := a.2 p0 hp0
      simp [padPl]; omega
    · obtain ⟨p0, hp0, rfl⟩ := List.mem_map.1 hp
      have := b.2 p0 hp0
      simp [padPl]; omega
  have hw : ∀ x ∈ jLays s.2.1 t.2.1 s.2.1.length, FitP x := fun x hx => ⟨by have := (key x hx).1; omega, fun p hp => by have := (key x hx).2 p hp; omega⟩
  refine ⟨by rw [jLays_len]; omega, hw, ?_⟩
  have h1 := totPP_le (K := 8388616) (jLays s.2.1 t.2.1 s.2.1.length) (fun x hx => by
    have h1 := totP_le x (hw x hx).w
    have h2 := (key x hx).1
    have : x.length * 1048577 ≤ 8 * 1048577 := Nat.mul_le_mul_right _ h2
    omega)
  rw [jLays_len] at h1
  have : s.2.1.length * 8388616 ≤ 6 * 8388616 := Nat.mul_le_mul_right _ n6.2
  omega

theorem clean_no {s : Nat} {bx : Bool} {p : List Stp} {f : Frm} {st : St} : St.clean s bx p (f :: st) = Frm.clean ⟨0, s, bx⟩ p f := rfl
theorem i_JoinNets_ok (s t : Net) (hs : FitPP s.2.1) (ht : FitPP t.2.1) : orc.pc n_i_JoinNets [.d shNet s, .d shNet t] ⟨shNetB, oNetB, joinRN s t⟩ := by
  refine p_i_JoinNets true rfl rfl ?_
  conv => whnf
  refine ⟨_, i_IsNet_ok s hs, (by first | exact (fun _ => rfl) | exact (fun h => Bool.noConfusion h)), ?_⟩
  conv => whnf
  cases q : isNet s with
  | false =>
    rw [joinRN_no (by unfold joinOkN; rw [q]; rfl)]
    conv => whnf
    exact ⟨_, _, rfl, .inl rfl, rfl⟩
  | true =>
  obtain ⟨n1, n6⟩ := net_len q
  conv => whnf
  refine ⟨_, i_IsNet_ok t ht, (by first | exact (fun _ => rfl) | exact (fun h => Bool.noConfusion h)), ?_⟩
  conv => whnf
  cases q2 : isNet t with
  | false =>
    rw [joinRN_no (by unfold joinOkN; rw [q, q2]; rfl)]
    conv => whnf
    exact ⟨_, _, rfl, .inl rfl, rfl⟩
  | true =>
  conv => whnf
  refine cond_intro (fun v0 => ?_) (fun v0 => ?_)
  rotate_left
  · have v : ¬ s.1 = t.1 := by simpa using v0
    rw [joinRN_no (by unfold joinOkN; rw [q, q2, decide_eq_false v]; rfl)]
    conv => whnf
    exact ⟨_, _, rfl, .inl rfl, rfl⟩
  have v : s.1 = t.1 := by simpa using v0
  conv => whnf
  refine cond_intro (fun w0 => ?_) (fun w0 => ?_)
  · have w : ¬ s.2.1.length = t.2.1.length := by
      intro e; rw [e] at w0; simp at w0
    rw [joinRN_no (by unfold joinOkN; rw [q, q2, decide_eq_false w, decide_eq_true v]; rfl)]
    conv => whnf
    exact ⟨_, _, rfl, .inl rfl, rfl⟩
  have w : s.2.1.length = t.2.1.length := by
    have := w0
    simp at this; omega
  have base : joinOkN s t = okSums s.2.1 t.2.1 s.2.1.length := by unfold joinOkN; rw [q, q2, decide_eq_true v, decide_eq_true w]; rfl
  have hj := isNet_join q q2 v w
  conv => whnf
  refine loop_ups (X := Int × List (List Plane)) (fun (i, o) => [⟨0, 43, false, .d tI i⟩, ⟨0, 6, true, .pair .unit (.pair (.d tI s.1) (.pair (.own shPlS (.ow oPl) o) .unit))⟩]) (fun (i, _) => s.2.1.length - i.toNat) (fun (i, o) => ∃ n : Nat, i = n ∧ n ≤ s.2.1.length ∧ o = jLays s.2.1 t.2.1 n) (0, []) ?_ ⟨0, rfl, by omega, rfl⟩ ?_
  · refine st_eq ?_
    conv => whnf
    exact ⟨rfl⟩
  rintro ⟨_, _⟩ ⟨n, rfl, hm, rfl⟩
  have hlt := jLays_len s.2.1 t.2.1 n
  conv => whnf
  refine cond_intro (fun k0 => ?_) (fun k0 => ?_)
  · have k : n < s.2.1.length := by have := of_decide_eq_true k0; exact Int.ofNat_lt.1 this
    have k2 : n < t.2.1.length := by omega
    have hx := hs.at k (Sh.dflt shPlS)
    have hy := ht.at k2 (Sh.dflt shPlS)
    have hxn := hx.n
    have hyn := hy.n
    have hla := lenAt_le hs n hm
    have hlb := lenAt_le ht n (by omega)
    conv => whnf
    refine ⟨⟨Int.natCast_nonneg _, Int.ofNat_lt.2 k⟩, ?_⟩
    conv => whnf
    refine ⟨_, i_own_ok _ hx, (by first | exact (fun _ => rfl) | exact (fun h => Bool.noConfusion h)), ?_⟩
    conv => whnf
    refine ⟨⟨Int.natCast_nonneg _, Int.ofNat_lt.2 k2⟩, ?_⟩
    conv => whnf
    refine ⟨_, i_own_ok _ hy, (by first | exact (fun _ => rfl) | exact (fun h => Bool.noConfusion h)), ?_⟩
    conv => whnf
    refine cond_intro (fun z0 => ?_) (fun z0 => ?_)
    · have z : 0 < n := by have := of_decide_eq_true z0; omega
      obtain ⟨m, rfl⟩ : ∃ m, n = m + 1 := ⟨n - 1, by omega⟩
      have hw : IntKind.i64.wrap (((m + 1 : Nat) : Int) - 1) = ((m : Nat) : Int) := by rw [wrap_in (by omega) (by omega)]; simp
      conv => whnf
      refine loop_ups (X := Int × List Plane) (fun (i, o) => [⟨0, 62, false, .d tI i⟩, ⟨0, 8, false, .own shPlane oPl o⟩]) (fun (i, _) => (s.2.1.getD (m + 1) (Sh.dflt shPlS)).length - i.toNat) (fun (i, o) => ∃ j : Nat, i = j ∧ j ≤ (s.2.1.getD (m + 1) (Sh.dflt shPlS)).length ∧ o = wideL 0 (lenAt t.2.1 (m + 1)) ((s.2.1.getD (m + 1) (Sh.dflt shPlS)).take j) ++ (s.2.1.getD (m + 1) (Sh.dflt shPlS)).drop j) (0, s.2.1.getD (m + 1) (Sh.dflt shPlS)) ?_ ⟨0, rfl, by omega, rfl⟩ ?_
      · refine st_eq ?_
        conv => whnf
        exact ⟨rfl⟩
      rintro ⟨_, C⟩ ⟨j, rfl, hj1, hC⟩
      have hCl : C.length = (s.2.1.getD (m + 1) (Sh.dflt shPlS)).length := by rw [hC, List.length_append, wideL_len]; simp; omega
      conv => whnf
      refine cond_intro (fun y0 => ?_) (fun y0 => ?_)
      · have y : j < (s.2.1.getD (m + 1) (Sh.dflt shPlS)).length := by have := of_decide_eq_true y0; exact Int.ofNat_lt.1 this
        conv => whnf
        have hyC : j < C.length := by rw [hCl]; exact y
        have hmt : m < t.2.1.length := by omega
        have hcg : C.getD j shPlane.dflt = (s.2.1.getD (m + 1) (Sh.dflt shPlS)).getD j shPlane.dflt := by
          rw [hC, List.getD_eq_getElem?_getD, List.getElem?_append_right (by rw [wideL_len, List.length_take]; omega), wideL_len, List.getElem?_drop, List.length_take, Nat.min_eq_left hj1, Nat.sub_self, ← List.getD_eq_getElem?_getD]; rfl
        refine ⟨⟨Int.natCast_nonneg _, Int.ofNat_lt.2 hyC⟩, ?_⟩
        conv => whnf
        refine ⟨hyC, ?_⟩
        conv => whnf
        refine ⟨hyC, ?_⟩
        conv => whnf
        rw [hw]
        refine ⟨⟨Int.natCast_nonneg _, Int.ofNat_lt.2 hmt⟩, ?_⟩
        conv => whnf
        refine ⟨hyC, ?_⟩
        conv => whnf
        refine ⟨hyC, ?_⟩
        conv => whnf
        have hp : ((s.2.1.getD (m + 1) (Sh.dflt shPlS)).getD j shPlane.dflt).1.length ≤ 1048576 := hx.at y _
        have hz : (t.2.1.getD m (Sh.dflt shPlS)).length ≤ 1048576 := (ht.at hmt _).n
        rw [show List.getD C ((j : Nat) : Int).toNat (Sh.dflt shPlane) = (s.2.1.getD (m + 1) (Sh.dflt shPlS)).getD j shPlane.dflt from hcg]
        refine ⟨⟨Int.natCast_nonneg _, room_cat (by show ((s.2.1.getD (m + 1) (Sh.dflt shPlS)).getD j shPlane.dflt).1.length + (t.2.1.getD m (Sh.dflt shPlS)).length ≤ _; omega)⟩, ?_⟩
        conv => whnf
        refine ⟨⟨Int.natCast_nonneg _, Int.ofNat_lt.2 hyC⟩, ?_⟩
        conv => whnf
        refine ⟨rfl, ?_⟩
        conv => whnf
        refine cond_f ?_ ?_
        · rw [clean_no]
          simp [Frm.clean, AV.clean, Reg.same, under, nodeOf]
        conv => whnf
        refine ⟨rfl, ?_⟩
        conv => whnf
        have hset : C.set j (padPl 0 (t.2.1.getD m (Sh.dflt shPlS)).length ((s.2.1.getD (m + 1) (Sh.dflt shPlS)).getD j shPlane.dflt)) = wideL 0 (lenAt t.2.1 (m + 1)) ((s.2.1.getD (m + 1) (Sh.dflt shPlS)).take (j + 1)) ++ (s.2.1.getD (m + 1) (Sh.dflt shPlS)).drop (j + 1) := by
          rw [hC, drop_getD _ y shPlane.dflt, take_getD _ y shPlane.dflt]
          unfold wideL
          rw [List.map_append, set_at (by rw [List.length_map, List.length_take]; omega)]
          simp [lenAt]
        refine ⟨(_, C.set j (padPl 0 (t.2.1.getD m (Sh.dflt shPlS)).length ((s.2.1.getD (m + 1) (Sh.dflt shPlS)).getD j shPlane.dflt))), ?_, ⟨j + 1, wrap_succ y (by unfold Short; omega), by omega, hset⟩, ?_⟩
        · refine st_eq ?_
          conv => whnf
          exact ⟨rfl⟩
        · rw [wrap_succ y (by unfold Short; omega)]; simp only [Int.toNat_natCast]; omega
      · have y : j = (s.2.1.getD (m + 1) (Sh.dflt shPlS)).length := by
          have := of_decide_eq_false y0
          have this : ¬ ((j : Int) < (((s.2.1.getD (m + 1) (Sh.dflt shPlS)).length : Nat) : Int)) := this
          omega
        rw [y, List.take_length, List.drop_length, List.append_nil] at hC
        subst hC
        conv => whnf
        refine loop_ups (X := Int × List Plane) (fun (i, o) => [⟨0, 85, false, .d tI i⟩, ⟨0, 9, false, .own shPlane oPl o⟩]) (fun (i, _) => (t.2.1.getD (m + 1) (Sh.dflt shPlS)).length - i.toNat) (fun (i, o) => ∃ j : Nat, i = j ∧ j ≤ (t.2.1.getD (m + 1) (Sh.dflt shPlS)).length ∧ o = wideL (lenAt s.2.1 (m + 1)) 0 ((t.2.1.getD (m + 1) (Sh.dflt shPlS)).take j) ++ (t.2.1.getD (m + 1) (Sh.dflt shPlS)).drop j) (0, (t.2.1.getD (m + 1) (Sh.dflt shPlS))) ?_ ⟨0, rfl, by omega, rfl⟩ ?_
        · refine st_eq ?_
          conv => whnf
          exact ⟨rfl⟩
        rintro ⟨_, D⟩ ⟨j2, rfl, hj2, hD⟩
        have hDl : D.length = (t.2.1.getD (m + 1) (Sh.dflt shPlS)).length := by rw [hD, List.length_append, wideL_len]; simp; omega
        conv => whnf
        refine cond_intro (fun x0 => ?_) (fun x0 => ?_)
        · have x : j2 < (t.2.1.getD (m + 1) (Sh.dflt shPlS)).length := by have := of_decide_eq_true x0; exact Int.ofNat_lt.1 this
          have hyD : j2 < D.length := by rw [hDl]; exact x
          have hms : m < s.2.1.length := by omega
          have hdg : D.getD j2 shPlane.dflt = (t.2.1.getD (m + 1) (Sh.dflt shPlS)).getD j2 shPlane.dflt := by
            rw [hD, List.getD_eq_getElem?_getD, List.getElem?_append_right (by rw [wideL_len, List.length_take]; omega), wideL_len, List.getElem?_drop, List.length_take, Nat.min_eq_left hj2, Nat.sub_self, ← List.getD_eq_getElem?_getD]; rfl
          have hp : ((t.2.1.getD (m + 1) (Sh.dflt shPlS)).getD j2 shPlane.dflt).1.length ≤ 1048576 := hy.at x _
          have hz : (s.2.1.getD m (Sh.dflt shPlS)).length ≤ 1048576 := (hs.at hms _).n
          have hset : D.set j2 (padPl (s.2.1.getD m (Sh.dflt shPlS)).length 0 ((t.2.1.getD (m + 1) (Sh.dflt shPlS)).getD j2 shPlane.dflt)) = wideL (lenAt s.2.1 (m + 1)) 0 ((t.2.1.getD (m + 1) (Sh.dflt shPlS)).take (j2 + 1)) ++ (t.2.1.getD (m + 1) (Sh.dflt shPlS)).drop (j2 + 1) := by
            rw [hD, drop_getD _ x shPlane.dflt, take_getD _ x shPlane.dflt]
            unfold wideL
            rw [List.map_append, set_at (by rw [List.length_map, List.length_take]; omega)]
            simp [lenAt]
          conv => whnf
          rw [hw]
          refine ⟨⟨Int.natCast_nonneg _, Int.ofNat_lt.2 hms⟩, ?_⟩
          conv => whnf
          refine ⟨(room_make (Int.natCast_nonneg _) (by show (((s.2.1.getD m (Sh.dflt shPlS)).length : Nat) : Int) ≤ _; omega) (by decide)), ?_⟩
          conv => whnf
          refine ⟨⟨Int.natCast_nonneg _, Int.ofNat_lt.2 hyD⟩, ?_⟩
          conv => whnf
          refine ⟨hyD, ?_⟩
          conv => whnf
          refine ⟨hyD, ?_⟩
          conv => whnf
          refine ⟨hyD, ?_⟩
          conv => whnf
          refine ⟨hyD, ?_⟩
          conv => whnf
          rw [show List.getD D ((j2 : Nat) : Int).toNat (Sh.dflt shPlane) = (t.2.1.getD (m + 1) (Sh.dflt shPlS)).getD j2 shPlane.dflt from hdg]
          refine ⟨(room_cat (by rw [List.length_replicate, Int.toNat_natCast]; show (s.2.1.getD m (Sh.dflt shPlS)).length + ((t.2.1.getD (m + 1) (Sh.dflt shPlS)).getD j2 shPlane.dflt).1.length ≤ _; omega)), ?_⟩
          conv => whnf
          refine ⟨⟨Int.natCast_nonneg _, Int.ofNat_lt.2 hyD⟩, ?_⟩
          conv => whnf
          refine ⟨hyD, ?_⟩
          conv => whnf
          refine cond_f ?_ ?_
          · rw [clean_no]
            simp [Frm.clean, AV.clean, Reg.same, under, nodeOf]
          conv => whnf
          refine ⟨hyD, ?_⟩
          conv => whnf
          have he : ((List.replicate (s.2.1.getD m (Sh.dflt shPlS)).length 0 ++ ((t.2.1.getD (m + 1) (Sh.dflt shPlS)).getD j2 shPlane.dflt).1, (D.getD j2 shPlane.dflt).2) : Plane) = padPl (s.2.1.getD m (Sh.dflt shPlS)).length 0 ((t.2.1.getD (m + 1) (Sh.dflt shPlS)).getD j2 shPlane.dflt) := by
            rw [hdg]; unfold padPl; simp
          refine ⟨(_, D.set j2 (List.replicate (s.2.1.getD m (Sh.dflt shPlS)).length 0 ++ ((t.2.1.getD (m + 1) (Sh.dflt shPlS)).getD j2 shPlane.dflt).1, (D.getD j2 shPlane.dflt).2)), ?_, ⟨j2 + 1, wrap_succ x (by unfold Short; omega), by omega, by rw [he]; exact hset⟩, ?_⟩
          · refine st_eq ?_
            conv => whnf
            exact ⟨rfl⟩
          · rw [wrap_succ x (by unfold Short; omega)]; simp only [Int.toNat_natCast]; omega
        · have x : j2 = (t.2.1.getD (m + 1) (Sh.dflt shPlS)).length := by
            have := of_decide_eq_false x0
            have this : ¬ ((j2 : Int) < (((t.2.1.getD (m + 1) (Sh.dflt shPlS)).length : Nat) : Int)) := this
            omega
          rw [x, List.take_length, List.drop_length, List.append_nil] at hD
          subst hD
          conv => whnf
          refine ⟨⟨by show ((wideL 0 (lenAt t.2.1 (m + 1)) (s.2.1.getD (m + 1) (Sh.dflt shPlS))).length + (wideL (lenAt s.2.1 (m + 1)) 0 (t.2.1.getD (m + 1) (Sh.dflt shPlS))).length) * 32 ≤ _; rw [wideL_len, wideL_len]; omega, by show (wideL 0 (lenAt t.2.1 (m + 1)) (s.2.1.getD (m + 1) (Sh.dflt shPlS))).length + (wideL (lenAt s.2.1 (m + 1)) 0 (t.2.1.getD (m + 1) (Sh.dflt shPlS))).length ≤ _; rw [wideL_len, wideL_len]; unfold maxLen; omega⟩, ?_⟩
          conv => whnf
          refine ⟨⟨room_snoc (by omega) (by decide), len_snoc (by omega)⟩, ?_⟩
          conv => whnf
          refine ⟨(IntKind.i64.wrap (((m + 1 : Nat) : Int) + 1), jLays s.2.1 t.2.1 (m + 1) ++ [jLay s.2.1 t.2.1 (m + 1)]), ?_, ⟨m + 1 + 1, wrap_succ k (by unfold Short; omega), by omega, (jLays_succ _ _ _).symm⟩, ?_⟩
          · refine st_eq ?_
            conv => whnf
            exact ⟨rfl⟩
          rw [wrap_succ k (by unfold Short; omega)]; simp; omega
    · have z : n = 0 := by have := of_decide_eq_false z0; omega
      subst z
      conv => whnf
      refine ⟨⟨by show ((s.2.1.getD 0 (Sh.dflt shPlS)).length + (t.2.1.getD 0 (Sh.dflt shPlS)).length) * 32 ≤ _; omega, by show (s.2.1.getD 0 (Sh.dflt shPlS)).length + (t.2.1.getD 0 (Sh.dflt shPlS)).length ≤ _; unfold maxLen; omega⟩, ?_⟩
      conv => whnf
      refine ⟨⟨room_snoc (by omega) (by decide), len_snoc (by omega)⟩, ?_⟩
      conv => whnf
      refine ⟨(_, _), rfl, ⟨1, wrap_succ k (by unfold Short; omega), by omega, ?_⟩, ?_⟩
      · rw [jLays_succ]
        unfold jLay lenAt
        rw [wide00, wide00]; rfl
      · rw [wrap_succ k (by unfold Short; omega)]; simp; omega
  · have k : n = s.2.1.length := by
      have := of_decide_eq_false k0
      have this : ¬ ((n : Int) < ((s.2.1.length : Nat) : Int)) := this
      omega
    subst k
    have hfit : FitPP (jLays s.2.1 t.2.1 s.2.1.length) := fit_join q q2 w
    conv => whnf
    refine ⟨_, i_IsNet_ok (s.1, jLays s.2.1 t.2.1 s.2.1.length, ()) hfit, (by first | exact (fun _ => rfl) | exact (fun h => Bool.noConfusion h)), ?_⟩
    conv => whnf
    rw [hj, ← base]
    cases r : joinOkN s t with
    | false =>
      rw [joinRN_no r]
      conv => whnf
      exact ⟨_, _, rfl, .inl rfl, rfl⟩
    | true =>
      rw [joinRN_yes r]
      conv => whnf
      exact ⟨_, _, rfl, .inl rfl, rfl⟩

end Go.Proofs.Ytcpepepdinkioaa.Ev
