/- Moved samples. -/
import Derived.Test.YtgebhckfdcajoaaFnG
namespace Go.Proofs.Ytgebhckfdcajoaa.Ev
open Go
set_option linter.unusedVariables false
set_option linter.unusedSimpArgs false
set_option maxRecDepth 100000
set_option exponentiation.threshold 100000

/-- A place of a state holds a slice. -/
def Holds (st : St) (q : Pl) (e : Sh) (o : Ow) (x : List e.den) : Prop := ∀ K : AV → Prop, K (.own e o x) → GetP st q K

theorem s_l2KeptSample_yes {st : St} (hst : 0 < st.length) {q1 q2 : Pl} {x : List (List Int)} {y : List Int} (g1 : Holds st q1 tIS (.ow .fz) x) (g2 : Holds st q2 tI .fz y) (hf : FitS (x, y, ())) (h : isSample (x, y, ()) = true) :
    orc.ic n_s_l2KeptSample [.pair (.vw q1 tIS) (.pair (.vw q2 tI) .unit)] st (.pair (.pair (.vw q1 tIS) (.pair (.vw q2 tI) .unit)) (.pair (.d .bool true) .unit)) st := by
  refine p_s_l2KeptSample true hst rfl rfl ?_
  conv => whnf
  refine g1 _ ?_
  conv => whnf
  refine g2 _ ?_
  conv => whnf
  refine ⟨_, s_l2Sample_ok (x, y, ()) hf, (by first | exact (fun _ => rfl) | exact (fun h => Bool.noConfusion h)), ?_⟩
  conv => whnf
  refine cond_f (show (!isSample (x, y, ())) = false by rw [h]; rfl) ?_
  conv => whnf
  exact ⟨_, rfl, rfl, rfl⟩

theorem s_l2KeptSample_no {st : St} (hst : 0 < st.length) {q1 q2 : Pl} {x : List (List Int)} {y : List Int} (g1 : Holds st q1 tIS (.ow .fz) x) (g2 : Holds st q2 tI .fz y) (hf : FitS (x, y, ())) (h : isSample (x, y, ()) = false) :
    orc.ic n_s_l2KeptSample [.pair (.vw q1 tIS) (.pair (.vw q2 tI) .unit)] st (.pair (.pair (.own tIS (.ow .fz) []) (.pair (.own tI .fz []) .unit)) (.pair (.d .bool false) .unit)) st := by
  refine p_s_l2KeptSample true hst rfl rfl ?_
  conv => whnf
  refine g1 _ ?_
  conv => whnf
  refine g2 _ ?_
  conv => whnf
  refine ⟨_, s_l2Sample_ok (x, y, ()) hf, (by first | exact (fun _ => rfl) | exact (fun h => Bool.noConfusion h)), ?_⟩
  conv => whnf
  refine cond_t (show (!isSample (x, y, ())) = true by rw [h]; rfl) ?_
  conv => whnf
  exact ⟨_, rfl, rfl, rfl⟩

def addL : List Int → List Int → List Int
  | x :: a, y :: b => IntKind.i64.wrap (x + y) :: addL a b
  | _, _ => []

theorem addL_length : ∀ (a b : List Int), a.length ≤ b.length → (addL a b).length = a.length := by
  intro a
  induction a with
  | nil => intro b _; cases b <;> rfl
  | cons x a ih => intro b h; cases b with
    | nil => simp at h
    | cons y b => simp [addL, ih b (by simpa using h)]

theorem addL_snoc : ∀ (a b : List Int) (x y : Int), a.length = b.length → addL (a ++ [x]) (b ++ [y]) = addL a b ++ [IntKind.i64.wrap (x + y)] := by
  intro a
  induction a with
  | nil => intro b x y h; cases b with | nil => rfl | cons => simp at h
  | cons c a ih => intro b x y h; cases b with
    | nil => simp at h
    | cons d b => simp only [List.cons_append, addL, ih b x y (by simpa using h)]

theorem addL_take {a b : List Int} {n : Nat} (h1 : n < a.length) (h2 : n < b.length) (d e : Int) : addL (a.take (n + 1)) (b.take (n + 1)) = addL (a.take n) (b.take n) ++ [IntKind.i64.wrap (a.getD n d + b.getD n e)] := by
  rw [take_getD a h1 d, take_getD b h2 e, addL_snoc _ _ _ _ (by simp; omega)]

theorem s_l2Added_ok (a b : List Int) (ha : a.length ≤ 1048576) (hb : a.length = b.length) : orc.pc n_s_l2Added [.d tIS a, .d tIS b] ⟨tIS, .ow .fz, addL a b⟩ := by
  refine p_s_l2Added true rfl rfl ?_
  conv => whnf
  refine loop_ups (X := Int × List Int) (fun (i, x) => [⟨0, 6, false, .d tI i⟩, ⟨0, 5, false, .own tI .fz x⟩]) (fun (i, _) => a.length - i.toNat) (fun (i, x) => ∃ n : Nat, i = n ∧ x = addL (a.take n) (b.take n) ∧ n ≤ a.length) (0, []) ?_ ⟨0, rfl, rfl, by omega⟩ ?_
  · refine st_eq ?_
    conv => whnf
    exact ⟨rfl⟩
  rintro ⟨_, _⟩ ⟨n, rfl, rfl, hn⟩
  have hl : (addL (a.take n) (b.take n)).length = n := by rw [addL_length _ _ (by simp; omega)]; simp; omega
  conv => whnf
  refine cond_intro (fun h => ?_) (fun h => ?_)
  · have h : n < a.length := by simpa using h
    conv => whnf
    refine ⟨⟨by omega, by omega⟩, ?_⟩
    conv => whnf
    refine ⟨⟨by omega, by omega⟩, ?_⟩
    conv => whnf
    refine ⟨⟨room_snoc (by rw [hl]; omega) (by decide), len_snoc (by rw [hl]; omega)⟩, ?_⟩
    conv => whnf
    refine ⟨(_, _), rfl, ⟨n + 1, wrap_succ h (by unfold Short; omega), ?_, by omega⟩, ?_⟩
    · rw [addL_take h (by omega) (Sh.dflt (.int .i64)) (Sh.dflt (.int .i64))]; rfl
    · rw [wrap_succ h (by unfold Short; omega)]; simp; omega
  · have h : ¬ n < a.length := by simpa using h
    obtain rfl : n = a.length := by omega
    rw [List.take_length, hb, List.take_length]
    conv => whnf
    exact ⟨_, _, rfl, .inl rfl, fin1 (rfl)⟩

def okMove (s : Sample) (v : List Int) : Bool := isSample s && (!(s.1.length == 0) && (v.length == fstLen s && isPoint v))
def moved (s : Sample) (v : List Int) : Sample := (s.1.map (addL · v), s.2.1, ())
def moveR (s : Sample) (v : List Int) : Sample × Bool × Unit :=
  if okMove s v && isSample (moved s v) then (moved s v, true, ()) else (zeroSample, false, ())
theorem moveR_no {s : Sample} {v : List Int} (h : (okMove s v && isSample (moved s v)) = false) : moveR s v = (zeroSample, false, ()) := by unfold moveR; rw [h]; rfl
theorem moveR_yes {s : Sample} {v : List Int} (h : (okMove s v && isSample (moved s v)) = true) : moveR s v = (moved s v, true, ()) := by unfold moveR; rw [h]; rfl

theorem sample_lens {s : Sample} (h : isSample s = true) : ∀ x ∈ s.1, x.length = fstLen s := by
  intro x hx
  simp only [isSample, Bool.and_eq_true] at h
  have := List.all_eq_true.1 h.2.1 x hx
  simp only [okPt, Bool.and_eq_true, beq_iff_eq] at this
  exact this.2

theorem moved_fit {s : Sample} {v : List Int} (hs : FitS s) (h : ∀ x ∈ s.1, x.length = v.length) : FitS (moved s v) := by
  refine ⟨⟨by simp [moved]; exact hs.p.1, ?_⟩, hs.l⟩
  intro x hx
  simp only [moved, List.mem_map] at hx
  obtain ⟨y, hy, rfl⟩ := hx
  rw [addL_length _ _ (by rw [h y hy]; omega)]
  exact hs.p.2 y hy

theorem i_MoveSample_ok (s : Sample) (v : List Int) (hs : FitS s) (hv : v.length ≤ 1048576) : orc.pc n_i_MoveSample [.d shSample s, .d tIS v] ⟨shSaB, oSaB, moveR s v⟩ := by
  have hl := hs.p.1
  refine p_i_MoveSample true rfl rfl ?_
  conv => whnf
  refine ⟨_, i_IsSample_ok _ hs, (by first | exact (fun _ => rfl) | exact (fun h => Bool.noConfusion h)), ?_⟩
  conv => whnf
  refine cond_intro (fun q0 => ?_) (fun q0 => ?_)
  · have q : isSample s = true := by simpa using q0
    conv => whnf
    refine cond_intro (fun r0 => ?_) (fun r0 => ?_)
    · have r : s.1.length ≠ 0 := by simp at r0; intro e; exact r0 (by simpa using e)
      conv => whnf
      refine ⟨_, i_IsPoint_ok _ hv, (by first | exact (fun _ => rfl) | exact (fun h => Bool.noConfusion h)), ?_⟩
      conv => whnf
      refine cond_intro (fun t0 => ?_) (fun t0 => ?_)
      · have t : isPoint v = true := by simpa using t0
        conv => whnf
        refine ⟨⟨by omega, by omega⟩, ?_⟩
        conv => whnf
        have hz : s.1.getD 0 tIS.dflt = s.1.headD [] := getD_zero _ _
        refine cond_intro (fun u0 => ?_) (fun u0 => ?_)
        · have u : v.length ≠ fstLen s := by unfold fstLen; rw [← hz]; simp at u0 ⊢; omega
          rw [moveR_no (by unfold okMove; simp [u])]
          conv => whnf
          exact ⟨_, _, rfl, .inl rfl, rfl⟩
        · have u : v.length = fstLen s := by unfold fstLen; rw [← hz]; simp at u0 ⊢; omega
          have hok : okMove s v = true := by unfold okMove; rw [q, t]; simp [r, u]
          have hlens : ∀ x ∈ s.1, x.length = v.length := fun x hx => by rw [sample_lens q x hx, u]
          have hfit := moved_fit hs hlens
          conv => whnf
          refine ⟨_, i_Sample_own_ok _ hs, (by first | exact (fun _ => rfl) | exact (fun h => Bool.noConfusion h)), ?_⟩
          conv => whnf
          refine loop_ups (X := Int × List (List Int)) (fun (i, L) => [⟨0, 41, false, .d tI i⟩, ⟨0, 6, true, boxSample L s.2.1 s.2.2⟩]) (fun (i, _) => s.1.length - i.toNat) (fun (i, L) => ∃ n : Nat, i = n ∧ L = (s.1.take n).map (addL · v) ++ s.1.drop n ∧ n ≤ s.1.length) (0, s.1) ?_ ⟨0, rfl, rfl, by omega⟩ ?_
          · refine st_eq ?_
            conv => whnf
            exact ⟨rfl⟩
          rintro ⟨_, L⟩ ⟨n, rfl, hL, hn⟩
          have hLl : L.length = s.1.length := by rw [hL]; simp; omega
          conv => whnf
          refine cond_intro (fun h => ?_) (fun h => ?_)
          · have h : n < s.1.length := by simpa using h
            have hxl := hlens _ (getD_mem h [])
            conv => whnf
            refine ⟨⟨by omega, by rw [hLl]; omega⟩, ?_⟩
            conv => whnf
            refine ⟨(by rw [hLl]; show n < _; exact h), ?_⟩
            conv => whnf
            refine loop_ups (X := Int × List (List Int)) (fun (j, M) => [⟨0, 47, false, .d tI j⟩, ⟨0, 6, true, boxSample M s.2.1 s.2.2⟩]) (fun (j, _) => v.length - j.toNat) (fun (j, M) => ∃ m : Nat, j = m ∧ M = (s.1.take n).map (addL · v) ++ (addL ((s.1.getD n []).take m) (v.take m) ++ (s.1.getD n []).drop m) :: s.1.drop (n + 1) ∧ m ≤ v.length) (0, L) ?_ ⟨0, rfl, by rw [hL, drop_getD s.1 h []]; rfl, by omega⟩ ?_
            · refine st_eq ?_
              conv => whnf
              exact ⟨rfl⟩
            rintro ⟨_, M⟩ ⟨m, rfl, hM, hm⟩
            have hMl : M.length = s.1.length := by rw [hM]; simp; omega
            have hal : ((s.1.take n).map (addL · v)).length = n := by simp; omega
            have hMg : ∀ d, M.getD n d = addL ((s.1.getD n []).take m) (v.take m) ++ (s.1.getD n []).drop m := by intro d; rw [hM, getD_mid hal]; rfl
            have hMgl : ∀ d, (M.getD n d).length = v.length := by
              intro d; rw [hMg, List.length_append, addL_length _ _ (by simp only [List.length_take]; omega)]; simp only [List.length_take, List.length_drop]; omega
            conv => whnf
            refine cond_intro (fun g => ?_) (fun g => ?_)
            · have g : m < v.length := by simpa using g
              conv => whnf
              refine ⟨⟨by omega, by omega⟩, ?_⟩
              conv => whnf
              refine ⟨(by rw [hMl]; show n < _; exact h), ?_⟩
              conv => whnf
              refine ⟨⟨by omega, by show (m : Int) < ((M.getD n _).length : Int); rw [hMgl]; omega⟩, ?_⟩
              conv => whnf
              refine ⟨(by rw [hMl]; show n < _; exact h), ?_⟩
              conv => whnf
              refine ⟨(by show m < (M.getD n _).length; rw [hMgl]; exact g), ?_⟩
              conv => whnf
              refine ⟨(by rw [hMl]; show n < _; exact h), ?_⟩
              conv => whnf
              refine ⟨⟨by omega, by show (m : Int) < ((M.getD n _).length : Int); rw [hMgl]; omega⟩, ?_⟩
              conv => whnf
              refine ⟨(by rw [hMl]; show n < _; exact h), ?_⟩
              conv => whnf
              refine ⟨(by show m < (M.getD n _).length; rw [hMgl]; exact g), ?_⟩
              conv => whnf
              refine ⟨(_, _), rfl, ⟨m + 1, wrap_succ g (by unfold Short; omega), ?_, by omega⟩, ?_⟩
              · show M.set n ((M.getD n _).set m (IntKind.i64.wrap ((M.getD n _).getD m _ + v.getD m _))) = _
                have hml : (addL ((s.1.getD n []).take m) (v.take m)).length = m := by rw [addL_length _ _ (by simp only [List.length_take]; omega)]; simp only [List.length_take]; omega
                rw [hMg, getD_mid hml, drop_getD (s.1.getD n []) (by omega) 0, set_at hml, hM, set_at hal, addL_take (by omega) g 0 (Sh.dflt (.int .i64))]
                simp
              · rw [wrap_succ g (by unfold Short; omega)]; simp; omega
            · have g : ¬ m < v.length := by simpa using g
              obtain rfl : m = v.length := by omega
              conv => whnf
              refine ⟨(_, _), rfl, ⟨n + 1, wrap_succ h (by unfold Short; omega), ?_, by omega⟩, ?_⟩
              · rw [hM, List.take_length, ← hxl, List.take_length, List.drop_length, List.append_nil, take_getD s.1 h []]
                simp
              · rw [wrap_succ h (by unfold Short; omega)]; simp; omega
          · have h : ¬ n < s.1.length := by simpa using h
            obtain rfl : n = s.1.length := by omega
            rw [List.take_length, List.drop_length, List.append_nil] at hL
            subst hL
            conv => whnf
            refine ⟨_, i_IsSample_ok (moved s v) hfit, (by first | exact (fun _ => rfl) | exact (fun h => Bool.noConfusion h)), ?_⟩
            conv => whnf
            refine cond_intro (fun w0 => ?_) (fun w0 => ?_)
            · have w : isSample (moved s v) = false := not_true w0
              rw [moveR_no (by rw [w]; simp)]
              conv => whnf
              exact ⟨_, _, rfl, .inl rfl, rfl⟩
            · have w : isSample (moved s v) = true := not_false w0
              rw [moveR_yes (by rw [w, hok]; rfl)]
              conv => whnf
              exact ⟨_, _, rfl, .inl rfl, rfl⟩
      · have t : isPoint v = false := by simpa using t0
        rw [moveR_no (by unfold okMove; rw [t]; simp)]
        conv => whnf
        exact ⟨_, _, rfl, .inl rfl, rfl⟩
    · have r : s.1.length = 0 := by simp at r0; simp [r0]
      rw [moveR_no (by unfold okMove; simp [r])]
      conv => whnf
      exact ⟨_, _, rfl, .inl rfl, rfl⟩
  · have q : isSample s = false := by simpa using q0
    rw [moveR_no (by unfold okMove; rw [q]; rfl)]
    conv => whnf
    exact ⟨_, _, rfl, .inl rfl, rfl⟩


theorem s_MoveSample_ok (s : Sample) (v : List Int) (hs : FitS s) (hv : v.length ≤ 1048576) : orc.pc n_s_MoveSample [.d shSample s, .d tIS v] ⟨shSaB, oSaB, moveR s v⟩ := by
  have hl := hs.p.1
  refine p_s_MoveSample true rfl rfl ?_
  conv => whnf
  refine ⟨_, s_l2Sample_ok _ hs, (by first | exact (fun _ => rfl) | exact (fun h => Bool.noConfusion h)), ?_⟩
  conv => whnf
  refine cond_intro (fun q0 => ?_) (fun q0 => ?_)
  · have q : isSample s = true := by simpa using q0
    conv => whnf
    refine cond_intro (fun r0 => ?_) (fun r0 => ?_)
    · have r : s.1.length ≠ 0 := by simp at r0; intro e; exact r0 (by simpa using e)
      conv => whnf
      refine ⟨⟨by omega, by omega⟩, ?_⟩
      conv => whnf
      have hz : s.1.getD 0 tIS.dflt = s.1.headD [] := getD_zero _ _
      refine cond_intro (fun u0 => ?_) (fun u0 => ?_)
      · have u : v.length = fstLen s := by unfold fstLen; rw [← hz]; simp at u0 ⊢; omega
        conv => whnf
        refine ⟨_, s_l2Point_ok _ hv, (by first | exact (fun _ => rfl) | exact (fun h => Bool.noConfusion h)), ?_⟩
        conv => whnf
        refine cond_intro (fun t0 => ?_) (fun t0 => ?_)
        · have t : isPoint v = false := not_true t0
          rw [moveR_no (by unfold okMove; rw [t]; simp)]
          conv => whnf
          exact ⟨_, _, rfl, .inl rfl, rfl⟩
        · have t : isPoint v = true := not_false t0
          have hok : okMove s v = true := by unfold okMove; rw [q, t]; simp [r, u]
          have hlens : ∀ x ∈ s.1, x.length = v.length := fun x hx => by rw [sample_lens q x hx, u]
          have hfit := moved_fit hs hlens
          conv => whnf
          refine ⟨_, s_l1Own_ok _ hs.l, (by first | exact (fun _ => rfl) | exact (fun h => Bool.noConfusion h)), ?_⟩
          conv => whnf
          refine loop_ups (X := Int × List (List Int)) (fun (i, L) => [⟨0, 7, false, .d tI i⟩, ⟨0, 6, true, .pair .unit (.pair (.own tIS (.ow .fz) L) (.pair (.own tI .fz s.2.1) .unit))⟩]) (fun (i, _) => s.1.length - i.toNat) (fun (i, L) => ∃ n : Nat, i = n ∧ L = (s.1.take n).map (addL · v) ∧ n ≤ s.1.length) (0, []) ?_ ⟨0, rfl, rfl, by omega⟩ ?_
          · refine st_eq ?_
            conv => whnf
            exact ⟨rfl⟩
          rintro ⟨_, _⟩ ⟨n, rfl, rfl, hn⟩
          conv => whnf
          refine cond_intro (fun h => ?_) (fun h => ?_)
          · have h : n < s.1.length := by simpa using h
            have hxl := hlens _ (getD_mem h tIS.dflt)
            conv => whnf
            refine ⟨⟨by omega, by omega⟩, ?_⟩
            conv => whnf
            refine ⟨_, s_l2Added_ok _ _ (hs.p.at h _) hxl, (by first | exact (fun _ => rfl) | exact (fun h => Bool.noConfusion h)), ?_⟩
            conv => whnf
            refine ⟨⟨room_snoc (by simp; omega) (by decide), len_snoc (by simp; omega)⟩, ?_⟩
            conv => whnf
            refine ⟨(_, _), rfl, ⟨n + 1, wrap_succ h (by unfold Short; omega), ?_, by omega⟩, ?_⟩
            · rw [take_getD s.1 h tIS.dflt, List.map_append]; rfl
            · rw [wrap_succ h (by unfold Short; omega)]; simp; omega
          · have h : ¬ n < s.1.length := by simpa using h
            obtain rfl : n = s.1.length := by omega
            rw [List.take_length]
            conv => whnf
            cases w : isSample (moved s v) with
            | false =>
              rw [moveR_no (by rw [w]; simp)]
              refine ⟨_, _, s_l2KeptSample_no (st := _ :: _) (Nat.succ_pos _) (x := (moved s v).1) (y := s.2.1) (fun K h => h) (fun K h => h) hfit w, ?_⟩
              conv => whnf
              exact ⟨_, _, rfl, .inl rfl, rfl⟩
            | true =>
              rw [moveR_yes (by rw [w, hok]; rfl)]
              refine ⟨_, _, s_l2KeptSample_yes (st := _ :: _) (Nat.succ_pos _) (x := (moved s v).1) (y := s.2.1) (fun K h => h) (fun K h => h) hfit w, ?_⟩
              conv => whnf
              exact ⟨_, _, rfl, .inl rfl, rfl⟩
      · have u : v.length ≠ fstLen s := by unfold fstLen; rw [← hz]; simp at u0 ⊢; omega
        rw [moveR_no (by unfold okMove; simp [u])]
        conv => whnf
        exact ⟨_, _, rfl, .inl rfl, rfl⟩
    · have r : s.1.length = 0 := by simp at r0; simp [r0]
      rw [moveR_no (by unfold okMove; simp [r])]
      conv => whnf
      exact ⟨_, _, rfl, .inl rfl, rfl⟩
  · have q : isSample s = false := by simpa using q0
    rw [moveR_no (by unfold okMove; rw [q]; rfl)]
    conv => whnf
    exact ⟨_, _, rfl, .inl rfl, rfl⟩

end Go.Proofs.Ytgebhckfdcajoaa.Ev
