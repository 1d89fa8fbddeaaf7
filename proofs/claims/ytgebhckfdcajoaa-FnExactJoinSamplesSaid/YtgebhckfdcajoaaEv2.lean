/- A proved evaluator for translated functions, part 2: what it computes is what the machine does. No conditions. -/
import Derived.Test.YtgebhckfdcajoaaEv1
/- Stores, in states. -/
namespace Go.Proofs.Ytgebhckfdcajoaa.Ev
open Go
set_option linter.unusedSimpArgs false
set_option linter.unusedVariables false

theorem Rel.step2 {w0 : Base} {st st' : St} {ts : List (Array Value)} {R R' : Cx} {w w' : World} (h : Rel w0 st ts R w)
    (hlen : st'.length = st.length) (hfr : ∀ i : Nat, (st'[i]?).map List.length = (st[i]?).map List.length)
    (hh : R'.h = w'.heap) (hfl : ∀ lv s bx, R'.fl lv s bx = st'.fl lv s bx)
    (hv : ∀ i s sl', st'.get i s = some sl' → ∃ sl, st.get i s = some sl ∧ ((sl'.v.le sl.v ∧ R.Ok R' (st.kv i s) sl'.v) ∨ (∀ t : Array Value, ts[i]? = some t → SV R' sl'.v (st.kv i s) (t.getD s undef))))
    (hb : ∀ i s sl', st'.get i s = some sl' → ∃ sl, st.get i s = some sl ∧ ((sl'.b.le sl.b ∧ R.Ok R' (st.kb i s) sl'.b) ∨ BoxR R' sl'.b (st.kb i s)))
    (inj : R'.Inj) (zd : ∀ b, R'.Z b → ∀ K n, R'.ρ K ≠ some (.blk b n)) (lo : ∀ K b n, R'.ρ K = some (.blk b n) → w0.heap.size ≤ b)
    (lt : ∀ K b n, R'.ρ K = some (.blk b n) → b < w'.heap.size) (zlt : ∀ b, R'.Z b → b < w'.heap.size) (bel : RowKit.Below w0.heap.size w0.toWorld w') (hz' : ∀ b, R'.Z b → R.Z b ∨ w0.heap.size ≤ b := by exact fun _ hb => .inl hb) : Rel w0 st' ts R' w' := by
  have kv : ∀ i s, st'.kv i s = st.kv i s := by intro i s; simp [St.kv, hlen]
  have kb : ∀ i s, st'.kb i s = st.kb i s := by intro i s; simp [St.kb, hlen]
  refine ⟨hh, hfl, by rw [hlen, h.len], ?_, ?_, ?_, inj, zd, lo, lt, zlt, bel, (fun b hb => (hz' b hb).elim (h.zlo b) .inr)⟩
  · intro i f t hf ht'
    have hm := hfr i
    rw [hf] at hm
    cases hs : st[i]? with
    | none => rw [hs] at hm; simp at hm
    | some g =>
      rw [hs] at hm
      simp only [Option.map_some, Option.some.injEq] at hm
      rw [hm]
      exact h.sz i g t hs ht'
  · intro i s sl' t hg ht'
    obtain ⟨sl, hsl, hc⟩ := hv i s sl' hg
    rw [kv]
    rcases hc with ⟨hle, hok⟩ | hsv
    · exact SV.frame hle hok.1 hok.2 (h.slot i s sl t hsl ht')
    · exact hsv t ht'
  · intro i s sl' hg
    obtain ⟨sl, hsl, hc⟩ := hb i s sl' hg
    rw [kb]
    rcases hc with ⟨hle, hok⟩ | hbx
    · exact BoxR.frame hle hok.1 hok.2 (h.box i s sl hsl)
    · exact hbx

theorem St.fl_congr {st st1 : St} (h : ∀ lv s bx, st1.fl lv s bx = st.fl lv s bx) {k s : Nat} {u v : Slot} (hg : st1.get k s = some u) (hf : ∀ bx, v.flag bx = u.flag bx) (lv n : Nat) (bx : Bool) : (st1.set k s v).fl lv n bx = st.fl lv n bx := by
  rw [St.fl_set_same hg hf, h]

theorem key_reg_apart {st : St} {q : Pl} {i n : Nat} {b : Bool} (hi : i < st.length) (hq : q.r.k < st.length) (h : ¬ (i = q.r.k ∧ n = q.r.s ∧ b = q.r.bx)) (T : Key) (h1 : T.lv = st.length - 1 - i ∧ T.s = n ∧ T.bx = b) : ¬ T.under (st.key q) := by
  rintro ⟨a1, a2, a3, _⟩
  simp only [St.key] at a1 a2 a3
  exact h ⟨by omega, by rw [← h1.2.1, a2], by rw [← h1.2.2, a3]⟩

theorem le_nil_upd {C : Orc} {v a : AV} {i : Stp} {p : List Stp} {st : St} {k : AV → St → Prop} (h : (AV.upd v (i :: p) a).wp C st k) : a.isBad = false := by
  cases a <;> first | rfl | (cases i <;> exact h.elim)

/-- A place is written. -/
theorem Rel.stored {C : Orc} {w0 : Base} {w w' : World} {st st1 : St} {ts : List (Array Value)} {R R' : Cx} (h : Rel w0 st ts R w) (hl : st1.length = st.length) (hfr : ∀ i : Nat, (st1[i]?).map List.length = (st[i]?).map List.length)
    (hfl1 : ∀ lv s bx, st1.fl lv s bx = st.fl lv s bx) {D : Key → Prop} {j : Nat}
    (hsl : ∀ i n sl', st1.get i n = some sl' → ∃ sl, st.get i n = some sl ∧ sl'.v.le sl.v ∧ sl'.b.le sl.b ∧ (∀ T, sl'.v.hits (st.kv i n) T → R.fl T.lv T.s T.bx = true → ¬ D T) ∧ (∀ T, sl'.b.hits (st.kb i n) T → R.fl T.lv T.s T.bx = true → ¬ D T))
    {q : Pl} {s : Slot} (hs : st1.get q.r.k q.r.s = some s) (hne : q.p ≠ []) (hbr : q.r.bx = true → ∃ p', q.p = p' ++ [.r 0]) (hm : q.mem = true) {v : AV} {c' : List Value} (hwr : Wr R R' (st.key q) (st.hand j) c' D) (hv : VR R' v (st.key q) c') {k : AV → St → Prop}
    (hupd : (AV.upd v q.p.reverse (s.at q.r.bx)).wp C st1 k) (hh : R'.h = w'.heap) (hfl : R'.fl = R.fl)
    (inj : R'.Inj) (zd : ∀ b, R'.Z b → ∀ K n, R'.ρ K ≠ some (.blk b n)) (lo : ∀ K b n, R'.ρ K = some (.blk b n) → w0.heap.size ≤ b)
    (lt : ∀ K b n, R'.ρ K = some (.blk b n) → b < w'.heap.size) (zlt : ∀ b, R'.Z b → b < w'.heap.size) (bel : RowKit.Below w0.heap.size w0.toWorld w') (hz' : ∀ b, R'.Z b → R.Z b ∨ w0.heap.size ≤ b := by exact fun _ hb => .inl hb) :
    ∃ u, k u st1 ∧ Rel w0 (st1.set q.r.k q.r.s (s.put q.r.bx u)) ts R' w' := by
  have hqk : q.r.k < st.length := by have := St.get_lt hs; omega
  -- registers other than the place's
  have reg : ∀ (i n : Nat) (b : Bool) (K : Key), K = ⟨st.length - 1 - i, n, b, []⟩ → i < st.length → ¬ (i = q.r.k ∧ n = q.r.s ∧ b = q.r.bx) → (∀ T : Key, T.under K → ¬ T.under (st.hand j)) → ∀ x : AV, (∀ T, x.hits K T → R.fl T.lv T.s T.bx = true → ¬ D T) → R.Ok R' K x := by
    intro i n b K hK hi hc hhand x hx
    subst hK
    have hap : ∀ T : Key, T.under ⟨st.length - 1 - i, n, b, []⟩ → ¬ T.under (st.key q) := fun T hT => key_reg_apart hi hqk hc T ⟨hT.1, hT.2.1, hT.2.2.1⟩
    refine hwr.ok ?_ ?_ hx
    · intro T hT hD
      rcases hwr.dd T hD with hD | hD
      · exact hap T hT hD
      · exact hhand T hT hD
    · intro hn; exact hap _ (Key.under_of_node hn) (Key.under_refl _)
  obtain ⟨sl0, h0, hle1, hle2, hd1, hd2⟩ := hsl _ _ _ hs
  -- the holder
  obtain ⟨i0, p0, hp0⟩ : ∃ i p, q.p.reverse = i :: p := by
    cases e : q.p.reverse with
    | nil => exact absurd (by simpa using e) hne
    | cons i p => exact ⟨i, p, rfl⟩
  have hgood : (s.at q.r.bx).isBad = false := by rw [hp0] at hupd; exact le_nil_upd hupd
  obtain ⟨g1, g2⟩ := AV.notBad hgood
  let K0 : Key := st.key ⟨q.r, []⟩
  have hext : st.key q = K0.ext q.p.reverse := by simp [K0, St.key, Key.ext]
  have hapB : K0.apart (st.hand j) := by
    rcases hbx : q.r.bx with _ | _
    · have : K0 = st.kv q.r.k q.r.s := by simp [K0, St.key, St.kv, hbx]
      rw [this]; exact kv_hand_apart' st j h0
    · have : K0 = st.kb q.r.k q.r.s := by simp [K0, St.key, St.kb, hbx]
      rw [this]; exact kb_hand_apart _ _ _ _
  have hAne : (st.key q).p ≠ [] := hne
  have fin : ∀ cs, VR R (s.at q.r.bx) K0 cs → (flat q.p.reverse = true → AtR R K0 cs) → (∀ T, (s.at q.r.bx).hits K0 T → R.fl T.lv T.s T.bx = true → ¬ D T) →
      ∃ u, k u st1 ∧ (u.isAgg = (s.at q.r.bx).isAgg ∧ u.isBad = false) ∧ VR R' u K0 (if flat q.p.reverse = true then repl cs (pathOff q.p.reverse) c' else cs) := by
    intro cs hcs hat hhit
    obtain ⟨u, hk, _, h3, _, h5⟩ := upd_VR hwr hv hAne q.p.reverse hupd hext hapB hcs hat hhit
    exact ⟨u, hk, h3 (by simpa using hne), h5⟩
  cases hbx : q.r.bx with
  | false =>
    simp only [Slot.at, hbx, Bool.false_eq_true, if_false] at fin hupd g1 g2 hgood
    have hK0 : K0 = st.kv q.r.k q.r.s := by simp [K0, St.key, St.kv, hbx]
    have hnf : flat q.p.reverse = false := by
      rw [Pl.mem_old] at hm
      simp only [hbx, Bool.false_or, ixIn] at hm
      simp only [flat]
      rw [Bool.eq_false_iff]
      intro e
      simp only [List.any_eq_true, List.all_eq_true, Bool.not_eq_true'] at hm e
      obtain ⟨x, hx, hx'⟩ := hm
      have := e x hx
      rw [hx'] at this; simp at this
    -- the slot's value as it stands
    have hsl0 : ∃ t, ts[q.r.k]? = some t := by
      have : q.r.k < ts.length := by rw [← h.len]; exact hqk
      exact ⟨_, List.getElem?_eq_getElem this⟩
    obtain ⟨t, ht⟩ := hsl0
    have hsv := SV.frame hle1 (Cx.Frame.refl R _) (fun T _ e => ⟨e, .refl R T⟩) (h.slot q.r.k q.r.s sl0 t h0 ht)
    rw [SV_VV g2, VV_iff g1, ← hK0] at hsv
    rw [hnf] at fin
    simp only [Bool.false_eq_true, false_imp_iff, if_false, true_imp_iff, forall_const] at fin
    have new : ∃ u, k u st1 ∧ SV R' u K0 (t.getD q.r.s undef) := by
      by_cases hag : s.v.isAgg = true
      · rw [if_pos hag] at hsv
        obtain ⟨arr, e, hx⟩ := hsv
        obtain ⟨u, hk, ⟨hu1, hu2⟩, hu3⟩ := fin _ hx (by rw [hK0]; exact hd1)
        obtain ⟨u1, u2⟩ := AV.notBad hu2
        refine ⟨u, hk, ?_⟩
        rw [SV_VV u2, VV_iff u1, hu1, if_pos hag]
        exact ⟨arr, e, hu3⟩
      · rw [if_neg hag] at hsv
        obtain ⟨u, hk, ⟨hu1, hu2⟩, hu3⟩ := fin _ hsv (by rw [hK0]; exact hd1)
        obtain ⟨u1, u2⟩ := AV.notBad hu2
        refine ⟨u, hk, ?_⟩
        rw [SV_VV u2, VV_iff u1, hu1, if_neg hag]
        exact hu3
    obtain ⟨u, hk, hu⟩ := new
    have hput : s.put false u = { s with v := u } := rfl
    refine ⟨u, hk, ?_⟩
    rw [hput]
    refine h.step2 (by rw [St.length_set, hl]) (fun i => by rw [St.frames_set, hfr]) hh ?_ ?_ ?_ inj zd lo lt zlt bel hz'
    · intro lv n bx; rw [hfl, h.fl]; exact (St.fl_congr hfl1 hs (fun bx => by cases bx <;> rfl) lv n bx).symm
    · intro i n sl' hg
      rw [St.get_set] at hg
      split at hg
      · rename_i hc
        obtain ⟨rfl, rfl⟩ := hc
        simp only [hs, Option.map_some, Option.some.injEq] at hg
        subst hg
        refine ⟨sl0, h0, .inr ?_⟩
        intro t' ht'
        rw [ht] at ht'
        cases ht'
        rw [← hK0]; exact hu
      · rename_i hc
        obtain ⟨sl, hsl1, a1, a2, a3, a4⟩ := hsl i n sl' hg
        exact ⟨sl, hsl1, .inl ⟨a1, reg i n false _ rfl (St.get_lt hsl1) (fun e => hc ⟨e.1, e.2.1⟩) (kv_hand_apart' st j hsl1) _ a3⟩⟩
    · intro i n sl' hg
      rw [St.get_set] at hg
      split at hg
      · rename_i hc
        obtain ⟨rfl, rfl⟩ := hc
        simp only [hs, Option.map_some, Option.some.injEq] at hg
        subst hg
        exact ⟨sl0, h0, .inl ⟨hle2, reg _ _ true _ rfl (St.get_lt h0) (fun e => by rw [hbx] at e; simp at e) (kb_hand_apart _ _ _ _) _ hd2⟩⟩
      · rename_i hc
        obtain ⟨sl, hsl1, a1, a2, a3, a4⟩ := hsl i n sl' hg
        exact ⟨sl, hsl1, .inl ⟨a2, reg i n true _ rfl (St.get_lt hsl1) (fun e => hc ⟨e.1, e.2.1⟩) (kb_hand_apart _ _ _ _) _ a4⟩⟩
  | true =>
    simp only [Slot.at, hbx, if_true] at fin hupd g1 g2 hgood
    have hK0 : K0 = st.kb q.r.k q.r.s := by simp [K0, St.key, St.kb, hbx]
    have hbox := BoxR.frame hle2 (Cx.Frame.refl R _) (fun T _ e => ⟨e, .refl R T⟩) (h.box q.r.k q.r.s sl0 h0)
    rw [← hK0] at hbox
    have new : ∃ u, k u st1 ∧ BoxR R' u K0 := by
      rcases hbox with e | ⟨b, arr, el, e1, e2, e3⟩
      · exact absurd e g1
      obtain ⟨u, hk, _, hu3⟩ := fin _ e3 (fun _ => ⟨b, arr, el, 0, [], by rw [show K0.node = K0 from by simp [K0, St.key, Key.node, nodeOf]]; exact e1, e2, by simp [K0, St.key, offOf]⟩) (by rw [hK0]; exact hd2)
      have hKD : ¬ D K0 := by
        intro hD
        rcases hwr.dd _ hD with hD | hD
        · have := hD.2.2.2.length_le
          simp only [K0, St.key, List.length_nil, Nat.le_zero, List.length_eq_zero_iff] at this
          exact hne this
        · exact hapB _ (Key.under_refl _) hD
      have hρ : R'.ρ K0 = some (.blk b 0) := by rw [hwr.own _ hKD]; exact e1
      obtain ⟨b', n, arr', el', f1, f2, f3, f4⟩ := hwr.blk
      by_cases hfp : flat q.p.reverse = true
      · have hfq : flat q.p = true := by simpa [flat] using hfp
        have hnode : (st.key q).node = K0 := by
          have := nodeOf_flat (q := []) hfq
          simp only [List.append_nil] at this
          simp only [Key.node, St.key, K0, this, nodeOf]
        have hoff : offOf (st.key q).p = pathOff q.p.reverse := by
          have := offOf_flat (q := []) hfq
          simp only [List.append_nil] at this
          simp only [St.key, this, offOf, pathOff_reverse hfq, Nat.add_zero]
        rw [hnode, e1] at f1
        simp only [Option.some.injEq, Nd.blk.injEq] at f1
        obtain ⟨rfl, rfl⟩ := f1
        rw [e2] at f2
        cases f2
        rw [if_pos hfp] at hu3
        refine ⟨u, hk, .inr ⟨b, _, el, hρ, f3, ?_⟩⟩
        rw [hoff]; exact hu3
      · rw [if_neg hfp] at hu3
        refine ⟨u, hk, .inr ⟨b, arr, el, hρ, ?_, hu3⟩⟩
        refine hwr.oth b _ ?_ e2
        intro n' e'
        have := hwr.inj _ _ _ _ _ e' e1
        obtain ⟨p', hp'⟩ := hbr hbx
        have hfp' : flat p' = false := by
          rw [Bool.eq_false_iff]
          intro e
          apply hfp
          rw [hp']
          apply flat_reverse
          simp only [flat, List.all_append, Bool.and_eq_true] at e ⊢
          exact ⟨e, by simp [Stp.isIx]⟩
        have hl1 := nodeOf_notflat (p := p') (q := [.r 0]) hfp'
        have hl2 := congrArg (fun K : Key => K.p.length) this
        simp only [Key.node, St.key, K0, hp', List.length_nil, List.length_singleton] at hl1 hl2
        omega
    obtain ⟨u, hk, hu⟩ := new
    have hput : s.put true u = { s with b := u } := rfl
    refine ⟨u, hk, ?_⟩
    rw [hput]
    refine h.step2 (by rw [St.length_set, hl]) (fun i => by rw [St.frames_set, hfr]) hh ?_ ?_ ?_ inj zd lo lt zlt bel hz'
    · intro lv n bx; rw [hfl, h.fl]; exact (St.fl_congr hfl1 hs (fun bx => by cases bx <;> rfl) lv n bx).symm
    · intro i n sl' hg
      rw [St.get_set] at hg
      split at hg
      · rename_i hc
        obtain ⟨rfl, rfl⟩ := hc
        simp only [hs, Option.map_some, Option.some.injEq] at hg
        subst hg
        exact ⟨sl0, h0, .inl ⟨hle1, reg _ _ false _ rfl (St.get_lt h0) (fun e => by rw [hbx] at e; simp at e) (kv_hand_apart' st j h0) _ hd1⟩⟩
      · rename_i hc
        obtain ⟨sl, hsl1, a1, a2, a3, a4⟩ := hsl i n sl' hg
        exact ⟨sl, hsl1, .inl ⟨a1, reg i n false _ rfl (St.get_lt hsl1) (fun e => hc ⟨e.1, e.2.1⟩) (kv_hand_apart' st j hsl1) _ a3⟩⟩
    · intro i n sl' hg
      rw [St.get_set] at hg
      split at hg
      · rename_i hc
        obtain ⟨rfl, rfl⟩ := hc
        simp only [hs, Option.map_some, Option.some.injEq] at hg
        subst hg
        exact ⟨sl0, h0, .inr (by rw [← hK0]; exact hu)⟩
      · rename_i hc
        obtain ⟨sl, hsl1, a1, a2, a3, a4⟩ := hsl i n sl' hg
        exact ⟨sl, hsl1, .inl ⟨a2, reg i n true _ rfl (St.get_lt hsl1) (fun e => hc ⟨e.1, e.2.1⟩) (kb_hand_apart _ _ _ _) _ a4⟩⟩

end Go.Proofs.Ytgebhckfdcajoaa.Ev

/- The store. -/
namespace Go.Proofs.Ytgebhckfdcajoaa.Ev
open Go
set_option linter.unusedSimpArgs false
set_option linter.unusedVariables false

theorem upd_at {C : Orc} {R : Cx} {v : AV} : ∀ (path : List Stp) {a : AV} {K : Key} {cs : List Value} {st : St} {k : AV → St → Prop},
    (AV.upd v path a).wp C st k → VR R a K cs → (flat path = true → AtR R K cs) → ∃ c, c.length = v.size ∧ AtR R (K.ext path) c := by
  intro path
  induction path with
  | nil =>
    intro a K cs st k hw ha hat
    simp only [AV.upd] at hw
    split at hw
    · rename_i hs
      exact ⟨cs, by rw [VR.length ha, hs], by simpa [Key.ext] using hat rfl⟩
    · exact hw.elim
  | cons i p ih =>
    intro a K cs st k hw ha hat
    rw [Key.ext_cons]
    cases a with
    | pair x y =>
      obtain ⟨c1, c2, rfl, h1, h2⟩ := ha
      cases i with
      | l =>
        simp only [AV.upd, M.wp_bind] at hw
        exact ih hw h1 (fun e => (hat (by simpa [flat, Stp.isIx] using e)).left)
      | r n =>
        simp only [AV.upd] at hw
        split at hw
        · rename_i hn
          subst hn
          rw [M.wp_bind] at hw
          exact ih hw h2 (fun e => (hat (by simpa [flat, Stp.isIx] using e)).right (VR.length h1))
        · exact hw.elim
      | ix i z => exact hw.elim
    | d s x =>
      cases s with
      | pair s t =>
        obtain ⟨c1, c2, rfl, h1, h2⟩ := ha
        cases i with
        | l =>
          simp only [AV.upd, M.wp_bind] at hw
          exact ih (a := .d s x.1) hw h1 (fun e => (hat (by simpa [flat, Stp.isIx] using e)).left)
        | r n =>
          simp only [AV.upd] at hw
          split at hw
          · rename_i hn
            subst hn
            rw [M.wp_bind] at hw
            exact ih (a := .d t x.2) hw h2 (fun e => (hat (by simpa [flat, Stp.isIx] using e)).right (DR.length h1))
          · exact hw.elim
        | ix i z => exact hw.elim
      | _ => cases i <;> exact hw.elim
    | own e o l =>
      cases i with
      | ix i z =>
        simp only [AV.upd] at hw
        split at hw
        · rename_i hz
          subst hz
          obtain ⟨hi, hw⟩ := hw
          rw [M.wp_bind] at hw
          simp only [VR, OR] at ha
          rcases ha with ⟨_, rfl, _⟩ | ⟨bk, cap, arr, el, hρ, rfl, hl, hcap, hhp, hs⟩
          · simp at hi
          obtain ⟨c, r, hd, hc⟩ := SegI.get e.dflt (fun _ _ _ => OR.length) l 0 _ hs i hi
          rw [Nat.zero_add] at hc
          exact ih hw ((unpack_VR _ _ _ _ _).2 hc) (fun _ => ⟨bk, arr, el, l.length, r, hρ, hhp, by simpa [Key.child, offOf] using hd⟩)
        · exact hw.elim
      | l => exact hw.elim
      | r n => exact hw.elim
    | _ => cases i <;> exact hw.elim

theorem DVR {R : Cx} : ∀ {v : AV} {K K' : Key} {cs : List Value}, v.isD = true → VR R v K cs → VR R v K' cs := by
  intro v
  induction v with
  | d s x => intro K K' cs _ h; exact h
  | pair a b iha ihb =>
    intro K K' cs hd h
    simp only [AV.isD, Bool.and_eq_true] at hd
    obtain ⟨c1, c2, rfl, h1, h2⟩ := h
    exact ⟨c1, c2, rfl, iha hd.1 h1, ihb hd.2 h2⟩
  | unit => intro K K' cs _ h; exact h
  | _ => intro K K' cs hd; simp [AV.isD] at hd

theorem isD_hits : ∀ {v : AV} {K T : Key}, v.isD = true → ¬ v.hits K T := by
  intro v
  induction v with
  | d s x => intro K T _ h; exact h
  | pair a b iha ihb =>
    intro K T hd h
    simp only [AV.isD, Bool.and_eq_true] at hd
    rcases h with h | h
    · exact iha hd.1 h
    · exact ihb hd.2 h
  | unit => intro K T _ h; exact h
  | _ => intro K T hd; simp [AV.isD] at hd

theorem key_hand_apart {st : St} {q : Pl} {s : Slot} (hs : st.get q.r.k q.r.s = some s) (j : Nat) : (st.key q).apart (st.hand j) := by
  have hK : (st.key q).under (st.key ⟨q.r, []⟩) := ⟨rfl, rfl, rfl, List.nil_suffix⟩
  refine Key.apart_sub ?_ hK
  cases hbx : q.r.bx with
  | false =>
    have : st.key ⟨q.r, []⟩ = st.kv q.r.k q.r.s := by simp [St.key, St.kv, hbx]
    rw [this]; exact kv_hand_apart' st j hs
  | true =>
    have : st.key ⟨q.r, []⟩ = st.kb q.r.k q.r.s := by simp [St.key, St.kb, hbx]
    rw [this]; exact kb_hand_apart _ _ _ _

theorem run_storeAt_cells {P : Program} {t : TypeId} {i : TypeInfo} (hi : P.info? t = some i) {w : World} {b off : Nat} {arr : Array Value} {el : TypeId} {val : Value} (hh : w.heap[b]? = some (.cells arr el (0, 0)))
    (hs : i.size = val.cells.toList.length) (hb : off + val.cells.toList.length ≤ arr.size) (h1 : ∀ v ∈ val.cells.toList, v.oneCell' = true) :
    (Instr.storeAt t (.pointer (some ⟨b, off, none⟩)) val).run P w = .ok () (w.setRow b (repl arr.toList off val.cells.toList).toArray) := by
  have := run_storeCells_at P b off el val.cells.toList 0 arr w hh (by simpa using hb) h1
  simp only [Nat.add_zero] at this
  have hs' : val.cells.size = i.size := by rw [hs]; simp
  simp only [Instr.storeAt, Instr.sureAddr, Sem.run_bind, Sem.run_pure, Result.andThen_ok, storeVar, run_size hi, hs', ne_eq, not_true, if_false, this, repl]

theorem St.key_scrub (st : St) (s : Nat) (b : Bool) (p : List Stp) (q : Pl) : (st.scrub s b p).key q = st.key q := by simp [St.key, St.length_scrub]

/-- A value in a hand is stored at a place. -/
theorem storeAV_ok {P : Program} {C : Orc} {w0 : Base} {w : World} {st : St} {ts : List (Array Value)} {R : Cx} (h : Rel w0 st ts R w) {v : AV} {val : Value} {j : Nat} (hv : SV R v (st.hand j) val) {p : AV} {pv : Value} (hp : ∃ K : Key, K.lv = st.length - 1 ∧ SV R p K pv)
    {k : Unit → St → Prop} (hw : (storeAV v p).wp C st k) {t : TypeId} {i : TypeInfo} (hi : P.info? t = some i) (hsz : i.size = v.size) :
    ∃ st' R' w', k () st' ∧ Rel w0 st' ts R' w' ∧ (Instr.storeAt t pv val).run P w = .ok () w' := by
  unfold storeAV at hw
  split at hw
  · rename_i q
    by_cases hc : (q.badPlace || !q.mem || v.isBad || v.size == 0) = true
    · change cond (q.badPlace || !q.mem || v.isBad || v.size == 0) _ _ at hw
      rw [hc] at hw; exact hw.elim
    change cond (q.badPlace || !q.mem || v.isBad || v.size == 0) _ _ at hw
    rw [Bool.eq_false_iff.2 hc] at hw
    change M.wp C (if v.hasOwn = true then _ else _) st k at hw
    simp only [Bool.or_eq_true, Bool.not_eq_true', not_or, Bool.not_eq_true, Bool.not_eq_false, beq_eq_false_iff_ne, ne_eq] at hc
    obtain ⟨⟨⟨hc1, hm⟩, hb⟩, hz⟩ := hc
    obtain ⟨b1, b2⟩ := AV.notBad hb
    have hne : q.p ≠ [] := by
      intro e; simp only [Pl.badPlace, e] at hc1; split at hc1 <;> simp at hc1
    have hbr : q.r.bx = true → ∃ p', q.p = p' ++ [.r 0] := by
      intro e
      simp only [Pl.badPlace] at hc1
      rw [if_pos e] at hc1
      simp only [bne_eq_false_iff_eq] at hc1
      obtain ⟨p', hp'⟩ := List.getLast?_eq_some_iff.1 hc1
      exact ⟨p', hp'⟩
    obtain ⟨K, hK, hp⟩ := hp
    have hcv : VR R v (st.hand j) val.cells.toList := SV_cells hb hv
    have hlen := VR.length hcv
    -- where it goes
    have place : ∀ {st1 : St} {s : Slot} {v' : AV} {k' : AV → St → Prop}, st1.length = st.length → (∀ (s : Slot), st1.get q.r.k q.r.s = some s → ∃ sl, st.get q.r.k q.r.s = some sl ∧ s.v.le sl.v ∧ s.b.le sl.b) → v'.size = v.size →
        st1.get q.r.k q.r.s = some s → (AV.upd v' q.p.reverse (s.at q.r.bx)).wp C st1 k' →
        ∃ b arr el n, R.ρ (st.key q).node = some (.blk b n) ∧ w.heap[b]? = some (.cells arr el (0, 0)) ∧ offOf q.p + val.cells.toList.length ≤ arr.size ∧ pv = .pointer (some ⟨b, offOf q.p, none⟩) := by
      intro st1 s v' k' hl1 hle hsz' hs hu
      obtain ⟨sl, hsl, hle1, hle2⟩ := hle s hs
      obtain ⟨i0, p0, hp0⟩ : ∃ i p, q.p.reverse = i :: p := by
        cases e : q.p.reverse with
        | nil => exact absurd (by simpa using e) hne
        | cons i p => exact ⟨i, p, rfl⟩
      have hgood : (s.at q.r.bx).isBad = false := by rw [hp0] at hu; exact le_nil_upd hu
      obtain ⟨g1, g2⟩ := AV.notBad hgood
      have hle' : (s.at q.r.bx).le (sl.at q.r.bx) := by cases q.r.bx <;> simp only [Slot.at, Bool.false_eq_true, if_false, if_true] <;> assumption
      have gle : (sl.at q.r.bx) ≠ .undef ∧ ∀ y, sl.at q.r.bx ≠ .tup y := by
        constructor
        · intro e; rw [e] at hle'; exact g1 (AV.le_undef hle')
        · intro y e; rw [e] at hle'; cases hh : s.at q.r.bx <;> rw [hh] at hle' g2 g1 <;> simp only [AV.le] at hle' <;> first | exact absurd rfl (g2 _) | exact hle'.elim | exact absurd rfl g1
      obtain ⟨cs, hcs, hat⟩ := at_ok h hsl gle.1 gle.2
      have hcs := VR.frame hle' (Cx.Frame.refl R _) (fun T _ e => ⟨e, .refl R T⟩) hcs
      have hat' : flat q.p.reverse = true → AtR R (st.key ⟨q.r, []⟩) cs := by
        intro e
        apply hat
        rw [Pl.mem_old] at hm
        simp only [Bool.or_eq_true] at hm
        rcases hm with hm | hm
        · exact hm
        · exfalso
          simp only [ixIn, List.any_eq_true] at hm
          obtain ⟨x, hx, hx'⟩ := hm
          simp only [flat, List.all_eq_true] at e
          have := e x hx
          rw [hx'] at this; simp at this
      obtain ⟨c, hcl, b, arr, el, n, r, e1, e2, e3⟩ := upd_at q.p.reverse hu hcs hat'
      have hext : (st.key ⟨q.r, []⟩).ext q.p.reverse = st.key q := by simp [St.key, Key.ext]
      rw [hext] at e1 e3
      obtain ⟨u, e, _, hpr⟩ : VR R (.ptr q) K [pv] := hp
      simp only [List.cons.injEq, and_true] at e
      subst e
      rw [at_key hK, e1] at hpr
      refine ⟨b, arr, el, n, e1, by rw [← h.hh]; exact e2, ?_, hpr⟩
      have := congrArg List.length e3
      simp only [List.length_drop, List.length_append, Array.length_toList] at this
      simp only [St.key] at this
      omega
    by_cases ho : v.hasOwn = true
    · rw [if_pos ho] at hw
      by_cases hk0 : q.r.k = 0
      · rw [if_pos hk0] at hw
        replace hw : (storeAt (v.scrub ⟨0, q.r.s, q.r.bx⟩ q.p) q).wp C (st.scrub q.r.s q.r.bx q.p) k := hw
        rw [storeP_wp] at hw
        simp only [M.wp_rd] at hw
        obtain ⟨s, hs, hu⟩ := hw
        rw [M.wp_bind] at hu
        have hle := AV.scrub_le ⟨0, q.r.s, q.r.bx⟩ q.p v
        have hsl : ∀ i n sl', (st.scrub q.r.s q.r.bx q.p).get i n = some sl' → ∃ sl, st.get i n = some sl ∧ sl'.v.le sl.v ∧ sl'.b.le sl.b ∧ (∀ T, sl'.v.hits (st.kv i n) T → R.fl T.lv T.s T.bx = true → ¬ (T.under (st.key q) ∨ T.under (st.hand j))) ∧ (∀ T, sl'.b.hits (st.kb i n) T → R.fl T.lv T.s T.bx = true → ¬ (T.under (st.key q) ∨ T.under (st.hand j))) := by
          intro i n sl' hg
          obtain ⟨sl0, h0, a1, a2, a3, a4⟩ := scrub_slot_hits hg
          have hkq : st.key q = ⟨st.length - 1, q.r.s, q.r.bx, q.p⟩ := by simp [St.key, hk0]
          have nh : ∀ T : Key, R.fl T.lv T.s T.bx = true → ¬ T.under (st.hand j) := by
            intro T e hT; rw [fl_under hT, h.fl_hand] at e; simp at e
          refine ⟨sl0, h0, a1, a2, ?_, ?_⟩
          · rintro T hT e (hD | hD)
            · rw [hkq] at hD; exact a3 T hT hD
            · exact nh T e hD
          · rintro T hT e (hD | hD)
            · rw [hkq] at hD; exact a4 T hT hD
            · exact nh T e hD
        obtain ⟨b, arr, el, n, e1, e2, e3, e4⟩ := place (v' := v.scrub ⟨0, q.r.s, q.r.bx⟩ q.p) (St.length_scrub ..) (fun s hs => by obtain ⟨sl, q1, q2, q3, _⟩ := hsl _ _ _ hs; exact ⟨sl, q1, q2, q3⟩) (AV.le_size hle) hs hu
        let c' := val.cells.toList
        let w' := w.setRow b (repl arr.toList (offOf q.p) c').toArray
        have hrun := run_storeAt_cells (P := P) hi e2 (by rw [hsz, hlen]) e3 hcv.one
        obtain ⟨sl, hsl0, _⟩ := hsl _ _ _ hs
        have hap : (st.key q).apart (st.hand j) := key_hand_apart hsl0 j
        have hlv : (st.hand j).lv = (st.key q).lv := by simp [St.hand, St.key, hk0]
        let R1 := R.mv (st.hand j) (st.key q)
        let R' : Cx := { R1 with h := w'.heap }
        have hb' : R'.h[b]? = some (.cells (repl arr.toList (offOf q.p) c').toArray el (0, 0)) := setRow_heap w b arr _ el _ e2
        have hoth : ∀ (b' : Nat) (o : Obj), b' ≠ b → w.heap[b']? = some o → w'.heap[b']? = some o := by
          intro b' o hb' ho; simp only [w']; rw [setRow_other w b b' _ hb']; exact ho
        have hnd : ¬ (st.key q).node.under (st.key q) := by
          intro hn
          have := hn.2.2.2.length_le
          have := nodeOf_lt hne
          simp only [Key.node, St.key] at *
          omega
        have hnB : ¬ (st.key q).node.under (st.hand j) := by
          intro hn; exact hap _ (Key.under_refl _) (Key.under_of_node hn)
        have hwr : Wr R R' (st.key q) (st.hand j) c' (fun T => T.under (st.key q) ∨ T.under (st.hand j)) := by
          refine ⟨fun _ => id, ⟨b, n, arr, el, e1, by rw [h.hh]; exact e2, hb', e3⟩, ?_, ?_, fun T => id, fun _ _ _ => id, h.zd, h.inj⟩
          · intro b' o hb2 ho
            rw [h.hh] at ho
            refine hoth b' o ?_ ho
            rintro rfl; exact hb2 n e1
          · intro T hT
            exact R.mv_off (fun e => hT (.inr e)) (fun e => hT (.inl e))
        have hv1 : VR R1 (v.scrub ⟨0, q.r.s, q.r.bx⟩ q.p) (st.key q) c' := by
          have hcv' := VR.frame hle (Cx.Frame.refl R _) (fun T _ e => ⟨e, .refl R T⟩) hcv
          refine VR.mv_self (A := st.hand j) (B := st.key q) hlv (q := []) ?_ hcv'
          intro T hT _ hD
          refine scrub_hits (N := st.length - 1) (by simp [St.hand]) hT ?_
          have hkq : st.key q = ⟨st.length - 1, q.r.s, q.r.bx, q.p⟩ := by simp [St.key, hk0]
          rw [← hkq]; exact hD
        have hinj1 : R1.Inj := h.inj.mv _ _
        have hwr1 : Wr R1 R' (st.key q) (st.hand j) c' (fun _ => False) := by
          have hρ1 : R1.ρ (st.key q).node = some (.blk b n) := by rw [← e1]; exact R.mv_off hnB hnd
          refine ⟨fun _ => id, ⟨b, n, arr, el, hρ1, (by show R.h[b]? = _; rw [h.hh]; exact e2), hb', e3⟩, ?_, fun _ _ => rfl, fun _ hF => hF.elim, fun _ _ _ => id, ?_, hinj1⟩
          · intro b' o hb2 ho
            replace ho : R.h[b']? = some o := ho
            rw [h.hh] at ho
            refine hoth b' o ?_ ho
            rintro rfl; exact hb2 n hρ1
          · exact (Cx.mv_facts (w0 := w0) (w := w) h.zd h.lo h.lt).1
        obtain ⟨q1, q2⟩ := hwr1.ok (K := st.key q) (x := v.scrub ⟨0, q.r.s, q.r.bx⟩ q.p) (fun _ _ => id) hnd (fun _ _ _ => id)
        have hv' : VR R' (v.scrub ⟨0, q.r.s, q.r.bx⟩ q.p) (st.key q) c' := VR.frame (AV.le_refl _) q1 q2 hv1
        obtain ⟨f1, f2, f3⟩ := Cx.mv_facts (A := st.hand j) (B := st.key q) h.zd h.lo h.lt
        have hsize : w'.heap.size = w.heap.size := by simp [w', World.setRow]
        have hbel : RowKit.Below w0.heap.size w0.toWorld w' := h.bel.trans ⟨rfl, rfl, rfl, by rw [hsize]; exact Nat.le_refl _, fun k hk => setRow_other w b k _ (by have := h.lo _ _ _ e1; omega)⟩
        obtain ⟨u, hk, hR⟩ := h.stored (St.length_scrub ..) (fun i => St.frames_scrub ..) (fun lv s bx => St.fl_scrub ..) hsl hs hne hbr hm hwr hv' hu rfl rfl hinj1 f1 f2 (fun K b n e => by rw [hsize]; exact f3 K b n e) (fun b hb => by rw [hsize]; exact h.zlt b hb) hbel
        rw [M.wp_wr] at hk
        exact ⟨_, R', w', hk.2, hR, by rw [e4]; exact hrun⟩
      · rw [if_neg hk0] at hw; exact hw.elim
    · rw [if_neg ho] at hw
      have ho : v.hasOwn = false := by simpa using ho
      change cond (v.isD || q.r.k == 0) _ _ at hw
      by_cases hk0 : (v.isD || q.r.k == 0) = true
      · rw [hk0] at hw
        replace hw : (storeAt v q).wp C st k := hw
        rw [storeP_wp] at hw
        simp only [M.wp_rd] at hw
        obtain ⟨s, hs, hu⟩ := hw
        rw [M.wp_bind] at hu
        have hsl : ∀ i n sl', st.get i n = some sl' → ∃ sl, st.get i n = some sl ∧ sl'.v.le sl.v ∧ sl'.b.le sl.b ∧ (∀ T, sl'.v.hits (st.kv i n) T → R.fl T.lv T.s T.bx = true → ¬ False) ∧ (∀ T, sl'.b.hits (st.kb i n) T → R.fl T.lv T.s T.bx = true → ¬ False) :=
          fun i n sl' hg => ⟨sl', hg, AV.le_refl _, AV.le_refl _, fun _ _ _ => id, fun _ _ _ => id⟩
        obtain ⟨b, arr, el, n, e1, e2, e3, e4⟩ := place (v' := v) rfl (fun s hs => ⟨s, hs, AV.le_refl _, AV.le_refl _⟩) rfl hs hu
        let c' := val.cells.toList
        let w' := w.setRow b (repl arr.toList (offOf q.p) c').toArray
        have hrun := run_storeAt_cells (P := P) hi e2 (by rw [hsz, hlen]) e3 hcv.one
        have hap : (st.key q).apart (st.hand j) := key_hand_apart hs j
        let R' : Cx := { R with h := w'.heap }
        have hb' : R'.h[b]? = some (.cells (repl arr.toList (offOf q.p) c').toArray el (0, 0)) := setRow_heap w b arr _ el _ e2
        have hoth : ∀ (b' : Nat) (o : Obj), b' ≠ b → w.heap[b']? = some o → w'.heap[b']? = some o := by
          intro b' o hb' ho; simp only [w']; rw [setRow_other w b b' _ hb']; exact ho
        have hnd : ¬ (st.key q).node.under (st.key q) := by
          intro hn
          have := hn.2.2.2.length_le
          have := nodeOf_lt hne
          simp only [Key.node, St.key] at *
          omega
        have hnB : ¬ (st.key q).node.under (st.hand j) := by
          intro hn; exact hap _ (Key.under_refl _) (Key.under_of_node hn)
        have hwr : Wr R R' (st.key q) (st.hand j) c' (fun _ => False) := by
          refine ⟨fun _ => id, ⟨b, n, arr, el, e1, by rw [h.hh]; exact e2, hb', e3⟩, ?_, fun _ _ => rfl, fun _ hF => hF.elim, fun _ _ _ => id, h.zd, h.inj⟩
          intro b' o hb2 ho
          rw [h.hh] at ho
          refine hoth b' o ?_ ho
          rintro rfl; exact hb2 n e1
        have hv1 : VR R v (st.key q) c' := by
          by_cases hq0 : q.r.k = 0
          · exact VR.move ho (by simp [St.hand, St.key, hq0]) hcv
          · have : v.isD = true := by simpa [hq0] using hk0
            exact DVR this hcv
        obtain ⟨q1, q2⟩ := hwr.ok (K := st.key q) (x := v) (fun _ _ => id) hnd (fun _ _ _ => id)
        have hv' : VR R' v (st.key q) c' := VR.frame (AV.le_refl _) q1 q2 hv1
        have hsize : w'.heap.size = w.heap.size := by simp [w', World.setRow]
        have hbel : RowKit.Below w0.heap.size w0.toWorld w' := h.bel.trans ⟨rfl, rfl, rfl, by rw [hsize]; exact Nat.le_refl _, fun k hk => setRow_other w b k _ (by have := h.lo _ _ _ e1; omega)⟩
        obtain ⟨u, hk, hR⟩ := h.stored (st1 := st) rfl (fun i => rfl) (fun lv s bx => rfl) hsl hs hne hbr hm hwr hv' hu rfl rfl h.inj h.zd h.lo (fun K b n e => by rw [hsize]; exact h.lt K b n e) (fun b hb => by rw [hsize]; exact h.zlt b hb) hbel
        rw [M.wp_wr] at hk
        exact ⟨_, R', w', hk.2, hR, by rw [e4]; exact hrun⟩
      · rw [Bool.eq_false_iff.2 hk0] at hw; exact hw.elim
  · exact hw.elim

theorem OpOk.store {P : Program} {E : Env} (hE : EnvOk P E) {C : Orc} {o : Oper} {t : TypeId} {p x : Operand} (ho : o.op = .store t p x) : OpOk P E C o := by
  intro w0 st a ts R w k next Q h hw hn
  simp only [evOp, ho] at hw
  by_cases hdst : o.dst.isSome = true
  · rw [if_pos hdst] at hw; exact hw.elim
  rw [if_neg hdst] at hw
  have hdst : o.dst = none := by simpa using hdst
  simp only [M.wp_bind] at hw
  obtain ⟨vp, hk, ⟨K, hK, hp⟩, hq1, hq2⟩ := rawOp_ok h hw
  replace hk := takeOp_ok h hk 0
  obtain ⟨v, st1, R1, hk, h1, hl, hh, hkept, hv⟩ := hk
  rw [← hh 0] at hv
  replace hk := typed_ok h1 hk hv
  obtain ⟨u, R2, hk, h2, hkept2, hv⟩ := hk
  by_cases hs : E.sz t = some (u.size, u.isAgg)
  · rw [if_pos hs] at hk
    obtain ⟨i, d, e1, e2, e3, e4⟩ := hE.sz hs
    have hown : vp.hasOwn = false := by
      cases vp <;> first | rfl | exact hk.elim
    have hp1 : SV R vp (st.hand 1) (a.eval p) := SV.move hown (by rw [hK]; rfl) hp
    have hp2 : SV R2 vp (st1.hand 1) (a.eval p) := hkept2 1 _ _ (by omega) (by rw [hh 1]; exact hkept 1 _ _ (by omega) hp1)
    obtain ⟨st', R', w', hk, hR, hrun⟩ := storeAV_ok (P := P) h2 hv ⟨_, rfl, hp2⟩ hk e1 e2
    have hrun' : (execOp a.eval o).run P w = .ok .skip w' := by
      simp only [execOp, ho, Sem.run_bind, hrun, Result.andThen_ok]; rfl
    simp only [Oper.wp, hrun', Oper.upon, hdst]
    exact hn a st' R' w' rfl hR hk
  · rw [if_neg hs] at hk; exact hk.elim

end Go.Proofs.Ytgebhckfdcajoaa.Ev

/- Hands: what is taken and not yet put anywhere. -/
namespace Go.Proofs.Ytgebhckfdcajoaa.Ev
open Go
set_option linter.unusedSimpArgs false
set_option linter.unusedVariables false

/-- A key behind the running frame's slots. -/
def St.isHand (st : St) (K : Key) : Prop := K.lv = st.length - 1 ∧ (st.headD []).length ≤ K.s ∧ K.bx = false

theorem isHand_hand (st : St) (j : Nat) : st.isHand (st.hand j) := ⟨rfl, by simp [St.hand], rfl⟩
theorem isHand_under {st : St} {K B : Key} (h : K.under B) (hB : st.isHand B) : st.isHand K := ⟨h.1.trans hB.1, by rw [h.2.1]; exact hB.2.1, h.2.2.1.trans hB.2.2⟩

theorem isHand_fl {w0 : Base} {w : World} {st : St} {ts : List (Array Value)} {R : Cx} (h : Rel w0 st ts R w) {K : Key} (hK : st.isHand K) : R.fl K.lv K.s K.bx = false := by
  obtain ⟨j, hj⟩ : ∃ j, K.s = (st.headD []).length + j := ⟨K.s - (st.headD []).length, by have := hK.2.1; omega⟩
  rw [hK.1, hj, h.fl]; exact St.fl_hand st j _

theorem isHand_kv {st : St} {i s : Nat} {sl : Slot} (hg : st.get i s = some sl) {T : Key} (hT : T.under (st.kv i s)) : ¬ st.isHand T := by
  intro hh
  obtain ⟨j, hj⟩ : ∃ j, T.s = (st.headD []).length + j := ⟨T.s - (st.headD []).length, by have := hh.2.1; omega⟩
  exact kv_hand_apart' st j hg T hT ⟨hh.1, hj, hh.2.2, List.nil_suffix⟩

theorem isHand_kb {st : St} {i s : Nat} {T : Key} (hT : T.under (st.kb i s)) : ¬ st.isHand T := by
  intro hh
  have := hT.2.2.1
  rw [hh.2.2] at this
  simp [St.kb] at this

/-- What lies in hands changes; memory may grow, more may be frozen. -/
theorem Rel.handsStep {w0 : Base} {w w' : World} {st : St} {ts : List (Array Value)} {R R' : Cx} (h : Rel w0 st ts R w)
    (hρ : ∀ K : Key, ¬ st.isHand K → R'.ρ K = R.ρ K) (hZ : ∀ b, R.Z b → R'.Z b) (hfl : R'.fl = R.fl) (hh : R'.h = w'.heap)
    (hkeep : ∀ (b : Nat) (o : Obj), (∀ K n, st.isHand K → R.ρ K ≠ some (.blk b n)) → w.heap[b]? = some o → w'.heap[b]? = some o)
    (inj : R'.Inj) (zd : ∀ b, R'.Z b → ∀ K n, R'.ρ K ≠ some (.blk b n)) (lo : ∀ K b n, R'.ρ K = some (.blk b n) → w0.heap.size ≤ b)
    (lt : ∀ K b n, R'.ρ K = some (.blk b n) → b < w'.heap.size) (zlt : ∀ b, R'.Z b → b < w'.heap.size) (bel : RowKit.Below w0.heap.size w0.toWorld w') (hz' : ∀ b, R'.Z b → R.Z b ∨ w0.heap.size ≤ b := by exact fun _ hb => .inl hb) :
    Rel w0 st ts R' w' := by
  have keep : ∀ (K : Key), (∀ T : Key, T.under K → ¬ st.isHand T) → ∀ v : AV, R.Ok R' K v := by
    intro K hK v
    have hb : ∀ (T : Key) b n o, ¬ st.isHand T → R.ρ T = some (.blk b n) → R.h[b]? = some o → R'.h[b]? = some o := by
      intro T b n o hT hr ho
      rw [hh]; rw [h.hh] at ho
      refine hkeep b o ?_ ho
      intro K' m hK' e
      exact hT (h.inj _ _ _ _ _ e hr ▸ hK')
    refine ⟨⟨hZ, ?_, fun T hT => hρ T (hK T hT), fun T b n o hT => hb T b n o (hK T hT)⟩, ?_⟩
    · intro b o hz ho
      rw [hh]; rw [h.hh] at ho
      exact hkeep b o (fun K' m _ => h.zd b hz K' m) ho
    · intro T _ e
      have hT : ¬ st.isHand T := by intro hT; rw [isHand_fl h hT] at e; simp at e
      exact ⟨by rw [hfl]; exact e, .inr ⟨hρ T hT, fun b n arr el hr ho => ⟨arr, hb T b n _ hT hr ho, rfl⟩⟩⟩
  refine ⟨hh, fun lv s bx => by rw [hfl]; exact h.fl lv s bx, h.len, h.sz, ?_, ?_, inj, zd, lo, lt, zlt, bel, (fun b hb => (hz' b hb).elim (h.zlo b) .inr)⟩
  · intro i s sl t hg ht
    obtain ⟨q1, q2⟩ := keep _ (fun T hT => isHand_kv hg hT) sl.v
    exact SV.frame (AV.le_refl _) q1 q2 (h.slot i s sl t hg ht)
  · intro i s sl hg
    obtain ⟨q1, q2⟩ := keep _ (fun T hT => isHand_kb hT) sl.b
    exact BoxR.frame (AV.le_refl _) q1 q2 (h.box i s sl hg)

/-- From one hand's key to another's. -/
theorem Rel.mvHands {w0 : Base} {w : World} {st : St} {ts : List (Array Value)} {R : Cx} (h : Rel w0 st ts R w) {A B : Key} (hA : st.isHand A) (hB : st.isHand B) : Rel w0 st ts (R.mv A B) w := by
  obtain ⟨f1, f2, f3⟩ := Cx.mv_facts (A := A) (B := B) h.zd h.lo h.lt
  exact h.handsStep (fun K hK => R.mv_off (fun e => hK (isHand_under e hA)) (fun e => hK (isHand_under e hB))) (fun _ => id) rfl h.hh (fun _ _ _ => id) (h.inj.mv _ _) f1 f2 f3 h.zlt h.bel

theorem VR.mvHands {w0 : Base} {w : World} {st : St} {ts : List (Array Value)} {R : Cx} (h : Rel w0 st ts R w) {A B : Key} (hA : st.isHand A) (hB : st.isHand B) {v : AV} {cs : List Value} (hv : VR R v A cs) : VR (R.mv A B) v B cs := by
  refine VR.mv_self (A := A) (B := B) (hA.1.trans hB.1.symm) (q := []) ?_ hv
  intro T _ e hT
  rw [isHand_fl h (isHand_under hT hB)] at e; simp at e

theorem VR.keptHands {w0 : Base} {w : World} {st : St} {ts : List (Array Value)} {R : Cx} (h : Rel w0 st ts R w) {A B K : Key} (hA : st.isHand A) (hB : st.isHand B) {v : AV} {cs : List Value} (h1 : K.apart A) (h2 : K.apart B) (hv : VR R v K cs) : VR (R.mv A B) v K cs := by
  refine VR.mv_other (AV.le_refl _) h1 h2 ?_ hv
  intro T _ e hT
  rw [isHand_fl h (isHand_under hT hB)] at e; simp at e

theorem VR.frameHands {w0 : Base} {w : World} {st : St} {ts : List (Array Value)} {R R' : Cx} (h : Rel w0 st ts R w) {K : Key} (hZ : ∀ b, R.Z b → R'.Z b) (hfl : R'.fl = R.fl) (hρh : ∀ T : Key, ¬ st.isHand T → R'.ρ T = R.ρ T) (hρ : ∀ T, T.under K → R'.ρ T = R.ρ T)
    (hhp : ∀ (b : Nat) (o : Obj), R.h[b]? = some o → R'.h[b]? = some o) {v : AV} {cs : List Value} (hv : VR R v K cs) : VR R' v K cs := by
  refine VR.frame (AV.le_refl _) ⟨hZ, fun b o _ => hhp b o, hρ, fun T b n o _ _ => hhp b o⟩ ?_ hv
  intro T _ e
  refine ⟨by rw [hfl]; exact e, .inr ⟨hρh T ?_, fun b n arr el _ e => ⟨arr, hhp b _ e, rfl⟩⟩⟩
  intro hT; rw [isHand_fl h hT] at e; simp at e

theorem zeroAV_size (nest : Bool) : ∀ s : Sh, (zeroAV nest s).size = s.size := by
  intro s
  induction s with
  | pair a b iha ihb => simp only [zeroAV, AV.size, iha, ihb, Sh.size]
  | _ => rfl

/-- A zero value at a hand's key. -/
theorem Rel.zeroAt {w0 : Base} {w : World} {st : St} {ts : List (Array Value)} {R : Cx} (h : Rel w0 st ts R w) {B : Key} (hB : st.isHand B) (nest : Bool) (s : Sh) :
    ∃ R', Rel w0 st ts R' w ∧ VR R' (zeroAV nest s) B (zeroCells s) ∧ (∀ K v cs, K.apart B → VR R v K cs → VR R' v K cs) := by
  let R' : Cx := { R with ρ := fun K => if K.under B then some .nil else R.ρ K }
  have some_blk : ∀ {K b n}, R'.ρ K = some (.blk b n) → R.ρ K = some (.blk b n) := by
    intro K b n e
    simp only [R'] at e
    split at e
    · simp at e
    · exact e
  have h1 := h.handsStep (R' := R') (w' := w) (fun K hK => by simp only [R', if_neg (fun e => hK (isHand_under e hB))]) (fun _ => id) rfl h.hh (fun _ _ _ => id)
    (fun K K' b n m e1 e2 => h.inj _ _ _ _ _ (some_blk e1) (some_blk e2)) (fun b hb K n e => h.zd b hb K n (some_blk e)) (fun K b n e => h.lo K b n (some_blk e)) (fun K b n e => h.lt K b n (some_blk e)) h.zlt h.bel
  refine ⟨R', h1, ?_, ?_⟩
  · have key : ∀ (s : Sh) (K : Key), K.under B → VR R' (zeroAV nest s) K (zeroCells s) := by
      intro s
      induction s with
      | pair a b iha ihb =>
        intro K hK
        have : (zeroAV nest a).size = a.size := zeroAV_size nest a
        refine ⟨_, _, rfl, iha _ (Key.under_trans (Key.child_under _ _) hK), ?_⟩
        exact ihb _ (Key.under_trans (Key.child_under _ _) hK)
      | sl e ih =>
        intro K hK
        simp only [zeroAV, zeroCells, VR, OR]
        exact .inl ⟨by simp only [R', if_pos hK], trivial, trivial⟩
      | _ => intro K hK; exact rfl
    exact key s _ (Key.under_refl _)
  · intro K v cs hK hv
    exact VR.frameHands (R' := R') h (fun _ => id) rfl (fun T hT => by simp only [R', if_neg (fun e => hT (isHand_under e hB))]) (fun T hT => by simp only [R', if_neg (hK T hT)]) (fun _ _ => id) hv

/-! ### Parts taken -/

def PartsR (R : Cx) (st : St) : Nat → List (Nat × Value) → List (Nat × AV) → Prop
  | _, [], [] => True
  | j, (i, u) :: r, (i', v) :: vs => i' = i ∧ SV R v (st.hand j) u ∧ PartsR R st (j + 1) r vs
  | _, _, _ => False

theorem PartsR.mono {R R' : Cx} {st : St} : ∀ {us : List (Nat × Value)} {vs : List (Nat × AV)} {j : Nat}, (∀ i v u, j ≤ i → SV R v (st.hand i) u → SV R' v (st.hand i) u) → PartsR R st j us vs → PartsR R' st j us vs := by
  intro us
  induction us with
  | nil => intro vs j _ h; cases vs <;> exact h
  | cons u us ih =>
    intro vs j hk h
    cases vs with
    | nil => exact h.elim
    | cons v vs =>
      obtain ⟨h1, h2, h3⟩ := h
      exact ⟨h1, hk _ _ _ (Nat.le_refl _) h2, ih (fun i v u hi => hk i v u (by omega)) h3⟩

theorem takeParts_ok {C : Orc} {a : Act} {w0 : Base} {w : World} {ts : List (Array Value)} : ∀ (ps : List (Nat × Operand)) (j : Nat) {st : St} {R : Cx} (h : Rel w0 st (a.tmps :: ts) R w) {k : List (Nat × AV) → St → Prop}, (takeParts ps).wp C st k →
    ∃ vs st1 R1, k vs st1 ∧ Rel w0 st1 (a.tmps :: ts) R1 w ∧ st1.length = st.length ∧ (∀ i, st1.hand i = st.hand i) ∧ (∀ i v u, i < j → SV R v (st.hand i) u → SV R1 v (st.hand i) u) ∧ PartsR R1 st1 j (ps.map fun x => (x.1, a.eval x.2)) vs := by
  intro ps
  induction ps with
  | nil => intro j st R h k hw; exact ⟨[], st, R, hw, h, rfl, fun _ => rfl, fun _ _ _ _ => id, trivial⟩
  | cons p ps ih =>
    intro j st R h k hw
    obtain ⟨i, x⟩ := p
    simp only [takeParts, M.wp_bind] at hw
    obtain ⟨v, st1, R1, hk, h1, hl, hh, hkept, hv⟩ := takeOp_ok h hw j
    replace hk := ih (j + 1) h1 hk
    obtain ⟨vs, st2, R2, hk, h2, hl2, hh2, hkept2, hps⟩ := hk
    refine ⟨_, st2, R2, hk, h2, hl2.trans hl, fun i => (hh2 i).trans (hh i), ?_, rfl, ?_, hps⟩
    · intro i v u hi hv
      have := hkept i v u (by omega) hv
      rw [← hh i] at this
      have := hkept2 i v u (by omega) this
      rwa [hh i] at this
    · rw [hh2 j]
      rw [← hh j] at hv
      exact hkept2 j v _ (by omega) hv

end Go.Proofs.Ytgebhckfdcajoaa.Ev

/- Structs built of parts. -/
namespace Go.Proofs.Ytgebhckfdcajoaa.Ev
open Go
set_option linter.unusedSimpArgs false
set_option linter.unusedVariables false

/-- One part put in. -/
theorem fill_cons (place : Nat → Option (Nat × Nat)) (cells : Array Value) (i : Nat) (v : Value) (r : List (Nat × Value)) {off : Nat} (hp : place i = some (off, v.cells.toList.length)) (hb : off + v.cells.toList.length ≤ cells.toList.length) :
    Instr.fill place cells ((i, v) :: r) = Instr.fill place (repl cells.toList off v.cells.toList).toArray r := by
  have hvs : v.cells.toList.length = v.cells.size := by simp
  have hcs : cells.toList.length = cells.size := by simp
  have e : v.cells.zipIdx.foldl (fun cs (x : Value × Nat) => cs.setIfInBounds (off + x.2) x.1) cells = (repl cells.toList off v.cells.toList).toArray := by
    rw [← Array.foldl_toList, Array.toList_zipIdx]
    obtain ⟨g1, g2⟩ := Great.foldl_set off v.cells.toList 0 cells
    apply Array.ext_getElem?
    intro k
    rw [g2 k]
    simp only [Nat.add_zero, List.getElem?_toArray, repl, List.append_assoc]
    by_cases h1 : off ≤ k
    · by_cases h2 : k < off + v.cells.toList.length
      · rw [if_pos ⟨h1, h2, by omega⟩]
        rw [List.getElem?_append_right (by simp only [List.length_take]; omega), List.getElem?_append_left (by simp only [List.length_take]; omega)]
        congr 1
        simp only [List.length_take]; omega
      · rw [if_neg (by omega)]
        rw [List.getElem?_append_right (by simp only [List.length_take]; omega), List.getElem?_append_right (by simp only [List.length_take]; omega), List.getElem?_drop]
        rw [← Array.getElem?_toList]
        congr 1
        simp only [List.length_take]; omega
    · rw [if_neg (by omega), List.getElem?_append_left (by simp only [List.length_take]; omega), List.getElem?_take, if_pos (by omega), Array.getElem?_toList]
  conv => lhs; unfold Instr.fill
  simp only [hp]
  rw [← e]
  have hng : ¬ ((decide (v.cells.size ≠ v.cells.toList.length) || decide (off + v.cells.size > cells.size)) = true) := by
    simp only [Bool.or_eq_true, decide_eq_true_eq, not_or]; omega
  rw [if_neg hng]

/-- The places of a struct's fields. -/
theorem fldB_places {P : Program} {E : Env} (hE : EnvOk P E) : ∀ {s : Sh} {fs : List Field} {off : Nat}, fldB P E fs s off = true →
    ∃ pl, fs.mapM (fun f => (P.info? f.type).map fun i => (f.offset, i.size)) = some pl := by
  intro s
  induction s with
  | pair a b iha ihb =>
    intro fs off h
    cases fs with
    | nil => simp [fldB] at h
    | cons f fs =>
      simp only [fldB, Bool.and_eq_true, beq_iff_eq, bne_iff_ne, ne_eq] at h
      obtain ⟨⟨⟨h1, h2⟩, h3⟩, h4⟩ := h
      obtain ⟨pl, hpl⟩ := ihb h4
      obtain ⟨i, z, e1, e2, _⟩ := tyB_info (hE.sh _ _ h2)
      exact ⟨_, by simp [List.mapM_cons, e1, hpl]; rfl⟩
  | unit => intro fs off h; cases fs <;> simp [fldB] at h ⊢
  | _ => intro fs off h; cases fs <;> simp [fldB] at h

theorem zeroCells_length : ∀ s : Sh, (zeroCells s).length = s.size := by
  intro s
  induction s with
  | pair a b iha ihb => simp only [zeroCells, List.length_append, iha, ihb, Sh.size]
  | _ => rfl

theorem mapM_get {α β : Type} {f : α → Option β} : ∀ {l : List α} {r : List β}, l.mapM f = some r → ∀ (m : Nat) (x : α), l[m]? = some x → r[m]? = f x := by
  intro l
  induction l with
  | nil => intro r _ m x hx; simp at hx
  | cons y l ih =>
    intro r h m x hx
    simp only [List.mapM_cons, Option.bind_eq_bind, Option.pure_def, Option.bind_eq_some_iff, Option.some.injEq] at h
    obtain ⟨z, hz, r', hr, rfl⟩ := h
    cases m with
    | zero => simp only [List.getElem?_cons_zero, Option.some.injEq] at hx; subst hx; simp [hz]
    | succ m => simp only [List.getElem?_cons_succ] at hx ⊢; exact ih hr m x hx

theorem fieldV_eq {nest : Bool} {a : Sh} {v x : AV} (h : fieldV nest a v = some x) : (v = .nils ∧ ∃ e, a = .sl e ∧ x = zeroAV nest (.sl e)) ∨ (x = v ∧ v.size = a.size ∧ v.isBad = false) := by
  unfold fieldV at h
  split at h
  · split at h
    · simp only [Option.some.injEq] at h; exact .inl ⟨rfl, _, rfl, h.symm⟩
    · simp at h
  · split at h
    · rename_i hc; simp only [Option.some.injEq] at h; exact .inr ⟨h.symm, hc⟩
    · simp at h

theorem hand_child_apart {st : St} {K : Key} {m : Nat} (hK : K.s = (st.hand 0).s) (hm : 1 ≤ m) : K.apart (st.hand m) :=
  Key.apart_reg (by rintro ⟨_, h, _⟩; simp [St.hand] at h hK; omega)

/-- The fields of a struct, out of hands 'j' and on, at a key of hand 0. -/
theorem fields_ok {P : Program} {E : Env} (hE : EnvOk P E) {w0 : Base} {w : World} {st : St} {ts : List (Array Value)} : ∀ (s : Sh) (i : Nat) (us : List (Nat × Value)) (vs : List (Nat × AV)) (j : Nat) (K : Key) (R : Cx) (u : AV) (fs : List Field) (off : Nat) (pre : List Value) (place : Nat → Option (Nat × Nat)) (cells : Array Value),
    Rel w0 st ts R w → st.isHand K → K.s = (st.hand 0).s → 1 ≤ j → PartsR R st j us vs → fields E.nest s i vs = some u → fldB P E fs s off = true → pre.length = off → cells.toList = pre ++ zeroCells s →
    (∀ (m : Nat) (f : Field) (t : TypeInfo), fs[m]? = some f → P.info? f.type = some t → place (i + m) = some (f.offset, t.size)) →
    ∃ R' c cells', Rel w0 st ts R' w ∧ VR R' u K c ∧ Instr.fill place cells us = some cells' ∧ cells'.toList = pre ++ c ∧ u.size = s.size ∧
      (∀ (K' : Key) v cs, K'.apart K → (∀ m, j ≤ m → K'.apart (st.hand m)) → VR R v K' cs → VR R' v K' cs) := by
  intro s
  induction s with
  | pair a b iha ihb =>
    intro i us vs j K R u fs off pre place cells h hK hKs hj hps hu hb hpre hcells hplace
    cases fs with
    | nil => simp [fldB] at hb
    | cons f fs =>
    simp only [fldB, Bool.and_eq_true, beq_iff_eq, bne_iff_ne, ne_eq] at hb
    obtain ⟨⟨⟨hb1, hb2⟩, hb3⟩, hb4⟩ := hb
    obtain ⟨ti, z, hti, htsz, _⟩ := tyB_info (hE.sh _ _ hb2)
    have hzl : (zeroCells a).length = a.size := zeroCells_length a
    have hplace0 : place i = some (f.offset, ti.size) := by simpa using hplace 0 f ti rfl hti
    have hplace' : ∀ (m : Nat) (f : Field) (t : TypeInfo), fs[m]? = some f → P.info? f.type = some t → place (i + 1 + m) = some (f.offset, t.size) := by
      intro m g t hg ht
      have := hplace (m + 1) g t (by simpa using hg) ht
      rw [show i + 1 + m = i + (m + 1) by omega]; exact this
    have hKl : st.isHand (K.child .l) := isHand_under (Key.child_under _ _) hK
    have hKr : st.isHand (K.child (.r a.size)) := isHand_under (Key.child_under _ _) hK
    have hlr : (K.child .l).apart (K.child (.r a.size)) := Key.child_apart (by simp)
    -- a field that is not told
    have zero : ∀ {y : AV}, fields E.nest b (i + 1) vs = some y → u = .pair (zeroAV E.nest a) y → ∃ R' c cells', Rel w0 st ts R' w ∧ VR R' u K c ∧ Instr.fill place cells us = some cells' ∧ cells'.toList = pre ++ c ∧ u.size = (Sh.pair a b).size ∧
        (∀ (K' : Key) v cs, K'.apart K → (∀ m, j ≤ m → K'.apart (st.hand m)) → VR R v K' cs → VR R' v K' cs) := by
      intro y hy hue
      subst hue
      obtain ⟨R1, c1, cells1, r1, r2, r3, r4, r5, r6⟩ := ihb (i + 1) us vs j (K.child (.r a.size)) R y fs (off + a.size) (pre ++ zeroCells a) place cells h hKr hKs hj hps hy hb4 (by simp [hpre, hzl]) (by rw [hcells]; simp [zeroCells]) hplace'
      obtain ⟨R2, z1, z2, z3⟩ := r1.zeroAt hKl E.nest a
      refine ⟨R2, zeroCells a ++ c1, cells1, z1, ⟨_, _, rfl, z2, ?_⟩, r3, by rw [r4]; simp, by simp only [AV.size, zeroAV_size, r5, Sh.size], ?_⟩
      · rw [zeroAV_size]; exact z3 _ _ _ (Key.apart_symm hlr) r2
      · intro K' v cs h1 h2 hv
        exact z3 _ _ _ (fun T hT hT' => h1 T hT (Key.under_trans hT' (Key.child_under _ _))) (r6 K' v cs (fun T hT hT' => h1 T hT (Key.under_trans hT' (Key.child_under _ _))) h2 hv)
    cases vs with
    | nil =>
      simp only [fields] at hu
      split at hu
      · rename_i y hy; simp only [Option.some.injEq] at hu; exact zero hy hu.symm
      · simp at hu
    | cons p vs =>
      obtain ⟨i', v⟩ := p
      simp only [fields] at hu
      split at hu
      · rename_i hii
        subst hii
        split at hu
        · rename_i x y hx hy
          simp only [Option.some.injEq] at hu
          subst hu
          cases us with
          | nil => exact hps.elim
          | cons q us =>
          obtain ⟨i2, w1⟩ := q
          obtain ⟨rfl, hv, hps⟩ := hps
          -- the value at hand j
          have hval : (∃ e, a = .sl e ∧ v = .nils ∧ x = zeroAV E.nest (.sl e) ∧ w1.cells.toList = zeroCells a) ∨ (x = v ∧ v.size = a.size ∧ v.isBad = false) := by
            rcases fieldV_eq hx with ⟨rfl, e, rfl, rfl⟩ | hh
            · have hv : [w1] = [Value.slice none 0 0] := hv
              simp only [List.cons.injEq, and_true] at hv
              subst hv
              exact .inl ⟨e, rfl, rfl, rfl, rfl⟩
            · exact .inr hh
          have hwl : w1.cells.toList.length = a.size := by
            rcases hval with ⟨e, rfl, _, _, e2⟩ | ⟨_, e1, e2⟩
            · rw [e2]; rfl
            · rw [VR.length (SV_cells e2 hv), e1]
          have hfill : Instr.fill place cells ((i', w1) :: us) = Instr.fill place (pre ++ w1.cells.toList ++ zeroCells b).toArray us := by
            rw [fill_cons place cells i' w1 us (off := f.offset) (by rw [hplace0, htsz, hwl]) (by rw [hcells, hwl, hb1, ← hpre]; simp [zeroCells, hzl])]
            congr 2
            rw [hcells, hb1, ← hpre]
            have := repl_right (c1 := pre) (c2 := zeroCells (.pair a b)) (c := w1.cells.toList) (off := 0)
            rw [Nat.add_zero] at this
            rw [this, List.append_assoc]
            congr 1
            simp only [zeroCells]
            rw [repl_left (by rw [hwl, hzl]; omega)]
            congr 1
            simp [repl, hwl, ← hzl]
          obtain ⟨R1, c1, cells1, r1, r2, r3, r4, r5, r6⟩ := ihb (i' + 1) us vs (j + 1) (K.child (.r a.size)) R y fs (off + a.size) (pre ++ w1.cells.toList) place (pre ++ w1.cells.toList ++ zeroCells b).toArray h hKr hKs (by omega) hps hy hb4 (by simp [hpre, hwl]) (by simp) hplace'
          rcases hval with ⟨e, rfl, rfl, rfl, e2⟩ | ⟨rfl, e1, e2⟩
          · obtain ⟨R2, z1, z2, z3⟩ := r1.zeroAt hKl E.nest (.sl e)
            refine ⟨R2, zeroCells (.sl e) ++ c1, cells1, z1, ⟨_, _, rfl, z2, ?_⟩, by rw [hfill]; exact r3, by rw [r4, e2]; simp, by simp only [AV.size, zeroAV_size, r5, Sh.size], ?_⟩
            · rw [zeroAV_size]; exact z3 _ _ _ (Key.apart_symm hlr) r2
            · intro K' v cs h1 h2 hv
              exact z3 _ _ _ (fun T hT hT' => h1 T hT (Key.under_trans hT' (Key.child_under _ _))) (r6 K' v cs (fun T hT hT' => h1 T hT (Key.under_trans hT' (Key.child_under _ _))) (fun m hm => h2 m (by omega)) hv)
          · have hvj : VR R1 x (st.hand j) w1.cells.toList := r6 _ _ _ (Key.apart_symm (hand_child_apart (K := K.child (.r a.size)) hKs hj)) (fun m hm => hand_apart st (by omega)) (SV_cells e2 hv)
            have hA := isHand_hand st j
            refine ⟨R1.mv (st.hand j) (K.child .l), w1.cells.toList ++ c1, cells1, r1.mvHands hA hKl, ⟨_, _, rfl, VR.mvHands r1 hA hKl hvj, ?_⟩, by rw [hfill]; exact r3, by rw [r4]; simp, by simp only [AV.size, e1, r5, Sh.size], ?_⟩
            · rw [e1]; exact VR.keptHands r1 hA hKl (hand_child_apart (K := K.child (.r a.size)) hKs hj) (Key.apart_symm hlr) r2
            · intro K' v cs h1 h2 hv
              exact VR.keptHands r1 hA hKl (h2 j (Nat.le_refl _)) (fun T hT hT' => h1 T hT (Key.under_trans hT' (Key.child_under _ _))) (r6 K' v cs (fun T hT hT' => h1 T hT (Key.under_trans hT' (Key.child_under _ _))) (fun m hm => h2 m (by omega)) hv)
        · simp at hu
      · split at hu
        · rename_i y hy; simp only [Option.some.injEq] at hu; exact zero hy hu.symm
        · simp at hu
  | unit =>
    intro i us vs j K R u fs off pre place cells h hK hKs hj hps hu hb hpre hcells hplace
    cases vs with
    | nil =>
      simp only [fields, Option.some.injEq] at hu
      subst hu
      cases us with
      | nil => exact ⟨R, [], cells, h, rfl, rfl, by rw [hcells]; rfl, rfl, fun _ _ _ _ _ => id⟩
      | cons => exact hps.elim
    | cons p vs => simp [fields] at hu
  | _ =>
    intro i us vs j K R u fs off pre place cells h hK hKs hj hps hu
    cases vs <;> simp [fields] at hu

theorem OpOk.build {P : Program} {E : Env} (hE : EnvOk P E) {C : Orc} {o : Oper} {t : TypeId} {ps : Array (Nat × Operand)} (ho : o.op = .build t ps) : OpOk P E C o := by
  intro w0 st a ts R w k next Q h hw hn
  simp only [evOp, ho] at hw
  split at hw
  · rename_i s hs
    rw [M.wp_bind] at hw
    obtain ⟨vs, st1, R1, hk, h1, hl, hh, _, hps⟩ := takeParts_ok _ 1 h hw
    rw [M.wp_bind] at hk
    replace hk := ofOption_ok hk
    obtain ⟨u, hu, hk⟩ := hk
    have hagg : s.isAgg = true := by
      cases s <;> first | rfl | (cases vs <;> simp [fields] at hu)
    obtain ⟨fs, hund, hb⟩ := tyB_fld (hE.sh _ _ hs) hagg
    obtain ⟨i, z, hi, hisz, hz, hzc⟩ := tyB_info (hE.sh _ _ hs)
    have hzc' : ∃ cs, z = .agg cs ∧ cs.toList = zeroCells s := by
      rcases hzc with ⟨_, cs, e1, e2⟩ | ⟨e, _⟩
      · exact ⟨cs, e1, e2⟩
      · rw [hagg] at e; simp at e
    clear hzc
    obtain ⟨zc, rfl, hzc⟩ := hzc'
    obtain ⟨pl, hpl⟩ := fldB_places hE hb
    have hplget : ∀ (m : Nat) (f : Field) (t : TypeInfo), fs.toList[m]? = some f → P.info? f.type = some t → pl.toArray[0 + m]? = some (f.offset, t.size) := by
      intro m f t hf ht
      have := mapM_get hpl m f hf
      rw [ht] at this
      simpa using this
    obtain ⟨R2, c, cells', r1, r2, r3, r4, r5, r6⟩ := fields_ok hE s 0 _ vs 1 (st1.hand 0) R1 u fs.toList 0 [] (pl.toArray[·]?) zc h1 (isHand_hand _ _) rfl (Nat.le_refl _) hps hu hb rfl (by simpa using hzc) hplget
    have hbuilt : P.built t ((ps.map fun (i, x) => (i, a.eval x)).toList) = some cells' := by
      unfold Program.built
      rw [hi, hund]
      simp only [hz, hpl]
      rw [Array.toList_map]
      exact r3
    have hua : u.isAgg = true := by
      cases s <;> simp [Sh.isAgg] at hagg
      · cases vs <;> simp [fields] at hu; subst hu; rfl
      · cases vs with
        | nil => simp only [fields] at hu; split at hu <;> simp at hu; subst hu; rfl
        | cons p vs =>
          obtain ⟨i', v⟩ := p
          simp only [fields] at hu
          split at hu
          · split at hu <;> simp at hu; subst hu; rfl
          · split at hu <;> simp at hu; subst hu; rfl
    have hsv : SV R2 u (st1.hand 0) (.agg cells') := by
      have hu0 : u ≠ .undef := by rintro rfl; simp [AV.isAgg] at hua
      have hut : ∀ y, u ≠ .tup y := by rintro y rfl; simp [AV.isAgg] at hua
      rw [SV_VV hut, VV_iff hu0, if_pos hua]
      exact ⟨_, rfl, by rw [r4]; exact r2⟩
    refine OpOk.value (j := 0) (v := .agg cells') ?_ r1 hk hsv hn
    simp only [execOp, ho]
    simp only [Sem.run_bind, run_build w t _ cells' hbuilt, Result.andThen_ok]
    rfl
  · exact hw.elim

end Go.Proofs.Ytgebhckfdcajoaa.Ev

/- Slices made: literals and 'make'. -/
namespace Go.Proofs.Ytgebhckfdcajoaa.Ev
open Go
set_option linter.unusedSimpArgs false
set_option linter.unusedVariables false

theorem OR_fz {R : Cx} {s : Sh} {K : Key} {x : s.den} {cs : List Value} : OR R s .fz K x cs ↔ DR R.Z R.h s x cs := by
  cases s <;> simp only [OR]

/-- What is owned may count as frozen. -/
theorem OR.freeze {R : Cx} {Z' : Nat → Prop} : ∀ {s : Sh} {o : Ow} {K : Key} {x : s.den} {cs : List Value}, (∀ b, R.Z b → Z' b) → (∀ T b n, T.under K → R.ρ T = some (.blk b n) → Z' b) → OR R s o K x cs → DR Z' R.h s x cs := by
  intro s
  induction s with
  | int | bool | str | unit => intro o K x cs hz hb h; simp only [OR] at h; exact h.frame hz (fun _ _ _ => id)
  | pair a b iha ihb =>
    intro o K x cs hz hb h
    cases o with
    | pr o1 o2 =>
      simp only [OR] at h
      obtain ⟨c1, c2, rfl, h1, h2⟩ := h
      exact ⟨c1, c2, rfl, iha hz (fun T b n hT => hb T b n (Key.under_trans hT (Key.child_under _ _))) h1, ihb hz (fun T b n hT => hb T b n (Key.under_trans hT (Key.child_under _ _))) h2⟩
    | fz => simp only [OR] at h; exact h.frame hz (fun _ _ _ => id)
    | ow o => simp only [OR] at h; exact h.frame hz (fun _ _ _ => id)
  | sl e ih =>
    intro o K l cs hz hb h
    cases o with
    | ow o =>
      simp only [OR] at h
      rcases h with ⟨_, rfl, rfl⟩ | ⟨b, cap, arr, el, hρ, rfl, hl, hcap, hhp, hs⟩
      · exact .inl ⟨rfl, none, 0, rfl⟩
      · refine .inr ⟨b, 0, cap, arr, el, _, rfl, hl, hb K b _ (Key.under_refl _) hρ, hhp, ?_⟩
        simp only [List.drop_zero]
        generalize arr.toList = cs at hs
        clear hl hρ
        generalize 0 = i at hs
        induction l generalizing cs i with
        | nil => trivial
        | cons x xs ihl =>
          obtain ⟨c, r, rfl, hx, hr⟩ := hs
          exact ⟨c, r, rfl, ih hz (fun T b n hT => hb T b n (Key.under_trans hT (Key.child_under _ _))) hx, ihl _ _ hr⟩
    | fz => simp only [OR] at h; exact h.frame hz (fun _ _ _ => id)
    | pr o1 o2 => simp only [OR] at h; exact h.frame hz (fun _ _ _ => id)

/-- Everything in hands is frozen. -/
def Cx.freezeHands (R : Cx) (st : St) : Cx :=
  { R with ρ := fun K => if K.lv = st.length - 1 ∧ (st.headD []).length ≤ K.s ∧ K.bx = false then none else R.ρ K,
           Z := fun b => R.Z b ∨ ∃ K n, st.isHand K ∧ R.ρ K = some (.blk b n) }

theorem Rel.freezeHands {w0 : Base} {w : World} {st : St} {ts : List (Array Value)} {R : Cx} (h : Rel w0 st ts R w) : Rel w0 st ts (R.freezeHands st) w := by
  have sb : ∀ {K b n}, (R.freezeHands st).ρ K = some (.blk b n) → ¬ st.isHand K ∧ R.ρ K = some (.blk b n) := by
    intro K b n e
    simp only [Cx.freezeHands] at e
    split at e
    · simp at e
    · rename_i hc; exact ⟨hc, e⟩
  refine h.handsStep (R' := R.freezeHands st) (w' := w) (fun K hK => if_neg hK) (fun _ => .inl) rfl h.hh (fun _ _ _ => id) ?_ ?_ (fun K b n e => h.lo K b n (sb e).2) (fun K b n e => h.lt K b n (sb e).2) ?_ h.bel (fun b hb => hb.elim .inl (fun ⟨K, n, _, e⟩ => .inr (h.lo _ _ _ e)))
  · intro K K' b n m e1 e2; exact h.inj _ _ _ _ _ (sb e1).2 (sb e2).2
  · rintro b (hb | ⟨K', n', hK', e'⟩) K n e
    · exact h.zd b hb K n (sb e).2
    · have := h.inj _ _ _ _ _ e' (sb e).2
      exact (sb e).1 (this ▸ hK')
  · rintro b (hb | ⟨K', n', hK', e'⟩)
    · exact h.zlt b hb
    · exact h.lt _ _ _ e'

/-- A new array, owned at a hand's key. -/
theorem Rel.ownNew {w0 : Base} {w : World} {st : St} {ts : List (Array Value)} {R : Cx} (h : Rel w0 st ts R w) {K : Key} (hK : st.isHand K) {e : Sh} {o : Ow} {l : List e.den} {cells : Array Value} (el : TypeId) {cap : Nat} (hl : l.length ≤ cap) (hcap : cap * e.size ≤ cells.size)
    (hs : SegI (fun i x c => OR R e o (K.child (.ix i e.size)) x c) 0 l cells.toList) :
    ∃ R', Rel w0 st ts R' (w.alloc (.cells cells el)) ∧ VR R' (.own e o l) K [.slice (some ⟨w.heap.size, 0, none⟩) l.length cap] ∧ (∀ K' v cs, (¬ K.under K') → VR R v K' cs → VR R' v K' cs) := by
  let R' : Cx := { R with ρ := fun T => if T = K then some (.blk w.heap.size l.length) else R.ρ T, h := (w.alloc (.cells cells el)).heap }
  have hold : ∀ (b : Nat) (o : Obj), R.h[b]? = some o → R'.h[b]? = some o := by intro b o e; rw [h.hh] at e; exact heap_alloc_old e
  have hsz : (w.alloc (.cells cells el)).heap.size = w.heap.size + 1 := by show (w.heap.push _).size = _; simp
  have sb : ∀ {T b n}, R'.ρ T = some (.blk b n) → (T = K ∧ b = w.heap.size) ∨ (R.ρ T = some (.blk b n) ∧ b < w.heap.size) := by
    intro T b n e
    simp only [R'] at e
    split at e
    · rename_i hT; simp only [Option.some.injEq, Nd.blk.injEq] at e; exact .inl ⟨hT, e.1.symm⟩
    · exact .inr ⟨e, h.lt _ _ _ e⟩
  have hw0 : w0.heap.size ≤ w.heap.size := h.bel.size
  have h1 : Rel w0 st ts R' (w.alloc (.cells cells el)) := by
    refine h.handsStep (R' := R') (fun T hT => ?_) (fun _ => id) rfl rfl (fun b o _ ho => heap_alloc_old ho) ?_ ?_ ?_ ?_ ?_ (h.bel.alloc hw0 _)
    · have : T ≠ K := by rintro rfl; exact hT hK
      simp only [R', if_neg this]
    · intro T T' b n m e1 e2
      rcases sb e1 with ⟨k1, b1⟩ | ⟨k1, b1⟩ <;> rcases sb e2 with ⟨k2, b2⟩ | ⟨k2, b2⟩
      · rw [k1, k2]
      · omega
      · omega
      · exact h.inj _ _ _ _ _ k1 k2
    · intro b hb T n e
      rcases sb e with ⟨_, b1⟩ | ⟨k1, _⟩
      · have := h.zlt b hb; omega
      · exact h.zd b hb T n k1
    · intro T b n e
      rcases sb e with ⟨_, b1⟩ | ⟨k1, _⟩
      · omega
      · exact h.lo _ _ _ k1
    · intro T b n e
      rcases sb e with ⟨_, b1⟩ | ⟨k1, b1⟩ <;> omega
    · intro b hb; have := h.zlt b hb; omega
  have fr : ∀ K' v cs, (¬ K.under K') → VR R v K' cs → VR R' v K' cs := by
    intro K' v cs hk hv
    refine VR.frameHands (R' := R') h (fun _ => id) rfl (fun T hT => ?_) (fun T hT => ?_) hold hv
    · have : T ≠ K := by rintro rfl; exact hT hK
      simp only [R', if_neg this]
    · have : T ≠ K := by rintro rfl; exact hk hT
      simp only [R', if_neg this]
  refine ⟨R', h1, ?_, fr⟩
  simp only [VR, OR]
  refine .inr ⟨w.heap.size, cap, cells, el, by simp only [R', if_true], rfl, hl, hcap, heap_alloc_new _ _, ?_⟩
  clear hl hcap h1
  have key : ∀ (l : List e.den) (i : Nat) (cs : List Value), SegI (fun i x c => OR R e o (K.child (.ix i e.size)) x c) i l cs → SegI (fun i x c => OR R' e o (K.child (.ix i e.size)) x c) i l cs := by
    intro l
    induction l with
    | nil => intro _ _ _; trivial
    | cons x xs ih =>
      intro i cs hs
      obtain ⟨c, r, rfl, h1, h2⟩ := hs
      refine ⟨c, r, rfl, ?_, ih _ _ h2⟩
      have := fr (K.child (.ix i e.size)) (unpack e o x) c ?_ ((unpack_VR _ _ _ _ _).2 h1)
      · exact (unpack_VR _ _ _ _ _).1 this
      · intro hu
        have := hu.2.2.2.length_le
        simp [Key.child] at this
        omega
  exact key _ _ _ hs

end Go.Proofs.Ytgebhckfdcajoaa.Ev

/- Slice literals and 'make', the operations. -/
namespace Go.Proofs.Ytgebhckfdcajoaa.Ev
open Go
set_option linter.unusedSimpArgs false
set_option linter.unusedVariables false

def ElemR (nest : Bool) (e : Sh) (v : AV) (x : e.den) : Prop := ∃ w : Pk, v.pack = some w ∧ ∃ h : w.s = e, w.low nest = e.low nest ∧ castDen h w.x = x

def ElemsR (nest : Bool) (e : Sh) : List AV → List e.den → Prop
  | [], [] => True
  | v :: vs, x :: xs => ElemR nest e v x ∧ ElemsR nest e vs xs
  | _, _ => False

theorem elems_wp {C : Orc} {nest : Bool} {e : Sh} : ∀ {vs : List AV} {st : St} {k : List e.den → St → Prop}, (elems nest e vs).wp C st k → ∃ l, k l st ∧ ElemsR nest e vs l := by
  intro vs
  induction vs with
  | nil => intro st k h; exact ⟨[], h, trivial⟩
  | cons v vs ih =>
    intro st k h
    simp only [elems] at h
    split at h
    · rename_i w hw
      split at h
      · rename_i hc
        rw [M.wp_bind] at h
        obtain ⟨l, hk, hl⟩ := ih h
        exact ⟨_, hk, ⟨w, hw, hc.1, hc.2, rfl⟩, hl⟩
      · exact h.elim
    · exact h.elim

theorem AV.pack_good {v : AV} {w : Pk} (h : v.pack = some w) : v.isBad = false := by cases v <;> first | rfl | (simp [AV.pack] at h)

theorem castDen_DR {Z : Nat → Prop} {h : Array Obj} {s e : Sh} (hs : s = e) {x : s.den} {c : List Value} : DR Z h s x c → DR Z h e (castDen hs x) c := by
  subst hs; exact id

theorem ElemsR.length {nest : Bool} {e : Sh} : ∀ {vs : List AV} {l : List e.den}, ElemsR nest e vs l → l.length = vs.length := by
  intro vs
  induction vs with
  | nil => intro l h; cases l <;> first | rfl | exact h.elim
  | cons v vs ih => intro l h; cases l with
    | nil => exact h.elim
    | cons x l => simp only [List.length_cons, ih h.2]

/-- Elements out of hands, frozen. -/
theorem elems_fz {w0 : Base} {w : World} {st : St} {ts : List (Array Value)} {R : Cx} (h : Rel w0 st ts R w) {e : Sh} : ∀ {us : List (Nat × Value)} {vs : List (Nat × AV)} {j : Nat} {l : List e.den},
    PartsR R st j us vs → ElemsR false e (vs.map (·.2)) l → ∀ (K : Key) (i : Nat), SegI (fun i x c => OR (R.freezeHands st) e (e.low false) (K.child (.ix i e.size)) x c) i l (us.flatMap fun u => u.2.cells.toList) := by
  intro us
  induction us with
  | nil =>
    intro vs j l hp he K i
    cases vs with
    | nil => cases l <;> first | trivial | exact he.elim
    | cons => exact hp.elim
  | cons u us ih =>
    intro vs j l hp he K i
    cases vs with
    | nil => exact hp.elim
    | cons v vs =>
      cases l with
      | nil => exact he.elim
      | cons x l =>
        obtain ⟨_, h2, h3⟩ := hp
        obtain ⟨⟨w', hw, hs, _, hx⟩, he⟩ := he
        refine ⟨_, _, rfl, ?_, ih h3 he K (i + 1)⟩
        have h2 := (pack_VR _ _ hw _ _).1 (SV_cells (AV.pack_good hw) h2)
        have := h2.freeze (Z' := (R.freezeHands st).Z) (fun b hb => .inl hb) (fun T b n hT hr => .inr ⟨T, n, isHand_under hT (isHand_hand st j), hr⟩)
        show OR (R.freezeHands st) e .fz _ x _
        rw [OR_fz, ← hx]
        exact castDen_DR hs this

/-- Elements out of hands, owned in turn. -/
theorem elems_ow {w0 : Base} {w : World} {st : St} {ts : List (Array Value)} {e : Sh} {K : Key} (hK : st.isHand K) (hKs : K.s = (st.hand 0).s) : ∀ {us : List (Nat × Value)} {vs : List (Nat × AV)} {j i : Nat} {l : List e.den} {R : Cx}, Rel w0 st ts R w → 1 ≤ j →
    PartsR R st j us vs → ElemsR true e (vs.map (·.2)) l → ∃ R', Rel w0 st ts R' w ∧ SegI (fun i x c => OR R' e (e.low true) (K.child (.ix i e.size)) x c) i l (us.flatMap fun u => u.2.cells.toList) ∧
      (∀ K' v cs, (∀ m, i ≤ m → K'.apart (K.child (.ix m e.size))) → (∀ m, j ≤ m → K'.apart (st.hand m)) → VR R v K' cs → VR R' v K' cs) := by
  intro us
  induction us with
  | nil =>
    intro vs j i l R h hj hp he
    cases vs with
    | nil => cases l <;> first | exact ⟨R, h, trivial, fun _ _ _ _ _ => id⟩ | exact he.elim
    | cons => exact hp.elim
  | cons u us ih =>
    intro vs j i l R h hj hp he
    cases vs with
    | nil => exact hp.elim
    | cons v vs =>
      cases l with
      | nil => exact he.elim
      | cons x l =>
        obtain ⟨_, h2, h3⟩ := hp
        obtain ⟨⟨w', hw, hs, hlow, hx⟩, he⟩ := he
        have hlow : w'.o = e.low true := by simpa [Pk.low] using hlow
        have hA := isHand_hand st j
        have hB : st.isHand (K.child (.ix i e.size)) := isHand_under (Key.child_under _ _) hK
        have hcs : (K.child (.ix i e.size)).s = (st.hand 0).s := hKs
        have h2 := SV_cells (AV.pack_good hw) h2
        let R1 := R.mv (st.hand j) (K.child (.ix i e.size))
        have h1 : Rel w0 st ts R1 w := h.mvHands hA hB
        have hv1 : VR R1 v.2 (K.child (.ix i e.size)) u.2.cells.toList := VR.mvHands h hA hB h2
        have kept : ∀ K' v cs, K'.apart (st.hand j) → K'.apart (K.child (.ix i e.size)) → VR R v K' cs → VR R1 v K' cs := fun K' v cs a b hv => VR.keptHands h hA hB a b hv
        have h3' : PartsR R1 st (j + 1) us vs := by
          refine PartsR.mono ?_ h3
          intro m v u hm hv
          refine SV.mv_other (hand_apart st (by omega)) (Key.apart_symm (hand_child_apart (K := K.child (.ix i e.size)) hcs (by omega))) ?_ hv
          intro T e hT; rw [isHand_fl h (isHand_under hT hB)] at e; simp at e
        obtain ⟨R2, r1, r2, r3⟩ := ih (i := i + 1) h1 (by omega : 1 ≤ j + 1) h3' he
        refine ⟨R2, r1, ⟨_, _, rfl, ?_, r2⟩, ?_⟩
        · have := r3 (K.child (.ix i e.size)) v.2 _ (fun m hm => Key.child_apart (by simp; omega)) (fun m hm => hand_child_apart (K := K.child (.ix i e.size)) hcs (by omega)) hv1
          have := (pack_VR _ _ hw _ _).1 this
          rw [hlow] at this
          rw [← hx]
          exact castDen_OR hs this
        · intro K' v cs a b hv
          exact r3 K' v cs (fun m hm => a m (by omega)) (fun m hm => b m (by omega)) (kept K' v cs (b j (Nat.le_refl _)) (a i (Nat.le_refl _)) hv)

theorem partsR_idx {R : Cx} {st : St} : ∀ {us : List (Nat × Value)} {vs : List (Nat × AV)} {j : Nat}, PartsR R st j us vs → us.map (·.1) = vs.map (·.1) := by
  intro us
  induction us with
  | nil => intro vs j h; cases vs <;> first | rfl | exact h.elim
  | cons u us ih => intro vs j h; cases vs with
    | nil => exact h.elim
    | cons v vs => simp only [List.map_cons, ih h.2.2, h.1]

theorem zip_of_idx : ∀ (us : List (Nat × Value)) (i : Nat), us.map (·.1) = List.range' i us.length → us = ((us.map (·.2)).zipIdx i).map fun x => (x.2, x.1) := by
  intro us
  induction us with
  | nil => intro i _; rfl
  | cons u us ih =>
    intro i h
    simp only [List.map_cons, List.length_cons, List.range'_succ, List.cons.injEq] at h
    simp only [List.map_cons, List.zipIdx_cons, List.cons.injEq]
    exact ⟨by rw [← h.1], ih (i + 1) h.2⟩

theorem partsR_sizes {R : Cx} {st : St} {nest : Bool} {e : Sh} : ∀ {us : List (Nat × Value)} {vs : List (Nat × AV)} {j : Nat} {l : List e.den}, PartsR R st j us vs → ElemsR nest e (vs.map (·.2)) l → ∀ v ∈ us.map (·.2), v.cells.size = e.size := by
  intro us
  induction us with
  | nil => intro vs j l _ _ v hv; simp at hv
  | cons u us ih =>
    intro vs j l hp he v hv
    cases vs with
    | nil => exact hp.elim
    | cons x vs =>
      cases l with
      | nil => exact he.elim
      | cons y l =>
        obtain ⟨_, h2, h3⟩ := hp
        obtain ⟨⟨w', hw, hs, _, _⟩, he⟩ := he
        simp only [List.map_cons, List.mem_cons] at hv
        rcases hv with rfl | hv
        · have := OR.length ((pack_VR _ _ hw _ _).1 (SV_cells (AV.pack_good hw) h2))
          rw [hs] at this
          simpa using this
        · exact ih h3 he v hv

theorem OpOk.buildSlice {P : Program} {E : Env} (hE : EnvOk P E) {C : Orc} {o : Oper} {t : TypeId} {n : Nat} {ps : Array (Nat × Operand)} (ho : o.op = .buildSlice t n ps) : OpOk P E C o := by
  intro w0 st a ts R w k next Q h hw hn
  simp only [evOp, ho] at hw
  split at hw
  · rename_i e hs
    rw [M.wp_bind] at hw
    obtain ⟨vs, st1, R1, hk, h1, hl, hh, _, hps⟩ := takeParts_ok _ 1 h hw
    by_cases hc : vs.length = n ∧ vs.map (·.1) = List.range n ∧ n * e.size ≤ 16777216
    · rw [if_pos hc, M.wp_bind] at hk
      obtain ⟨c1, c2, c3⟩ := hc
      replace hk := elems_wp hk
      obtain ⟨l, hk, hl⟩ := hk
      obtain ⟨et, ie, u1, u2, u3, u4, u5, _⟩ := sl_info hE hs
      obtain ⟨i', z, u6, _, hz, hzc⟩ := tyB_info (hE.sh _ _ u2)
      rw [u4] at u6
      cases u6
      have hlen := hl.length
      simp only [List.length_map] at hlen
      have hidx := partsR_idx hps
      let us := ps.toList.map fun x => (x.1, a.eval x.2)
      have hus : us.length = n := by
        have := congrArg List.length hidx
        simp only [List.length_map] at this
        simp only [us, List.length_map]; omega
      let cells : Array Value := (us.flatMap fun u => u.2.cells.toList).toArray
      have hsizes := partsR_sizes hps hl
      have hcs : cells.size = n * e.size := by
        have key : ∀ us : List (Nat × Value), (∀ v ∈ us.map (·.2), v.cells.size = e.size) → (us.flatMap fun u => u.2.cells.toList).length = us.length * e.size := by
          intro us
          induction us with
          | nil => intro _; simp
          | cons u us ih =>
            intro h
            have h1 := h u.2 (by simp)
            have h2 := ih (fun v hv => h v (by simp only [List.map_cons, List.mem_cons]; exact .inr hv))
            simp only [List.flatMap_cons, List.length_append, h2, List.length_cons, Nat.succ_mul, Array.length_toList, h1]; omega
        have := key us hsizes
        rw [hus] at this
        simpa [cells] using this
      -- what the machine does
      have hparts : (ps.map fun (i, x) => (i, a.eval x)).toList = us := by rw [Array.toList_map]
      have huz : us = ((us.map (·.2)).zipIdx 0).map fun x => (x.2, x.1) := zip_of_idx us 0 (by rw [hidx, c2, hus, List.range_eq_range'])
      have hfmap : (us.map (·.2)).flatMap (fun v => v.cells.toList) = us.flatMap fun u => u.2.cells.toList := by rw [List.flatMap_map]
      have hrun : (Instr.buildSlice t n (ps.map fun (i, x) => (i, a.eval x))).run P w = .ok (.slice (some ⟨w.heap.size, 0, none⟩) n n) (w.alloc (.cells cells et)) := by
        by_cases hn0 : n = 0
        · have : us = [] := by rw [← List.length_eq_zero_iff, hus, hn0]
          have hcells : cells = #[] := by simp [cells, this]
          have hpe : (ps.map fun (i, x) => (i, a.eval x)).toList = [] := by rw [hparts, this]
          rw [hcells, hn0]
          simp only [Instr.buildSlice, Sem.run_bind, run_underlying u1, Result.andThen_ok, run_size u4, Nat.zero_mul, hpe]
          simp [Instr.fill, newRow, Array.range_zero']
        · have hpos : ¬ n * ie.size = 0 := by
            rw [u5]; intro e0
            rcases Nat.mul_eq_zero.1 e0 with e0 | e0
            · exact hn0 e0
            · exact u3 e0
          refine run_buildSlice w t et n _ cells ie z u1 u4 hz (by rw [u5]; omega) hpos ?_
          rw [hparts]
          have := Great.fill_whole (s := ie.size) (by rw [u5]; omega) (us.map (·.2)) ((Array.range (n * ie.size)).map (z.cells[· % z.cells.size]!)) (by rw [u5]; exact hsizes) (by simp [hus])
          rw [← huz, hfmap] at this
          exact this
      have hrun' : (execOp a.eval o).run P w = .ok (.value (.slice (some ⟨w.heap.size, 0, none⟩) n n)) (w.alloc (.cells cells et)) := by
        simp only [execOp, ho, Sem.run_bind, hrun, Result.andThen_ok]; rfl
      have seg : ∃ R2, Rel w0 st1 (a.tmps :: ts) R2 w ∧ SegI (fun i x c => OR R2 e (e.low E.nest) ((st1.hand 0).child (.ix i e.size)) x c) 0 l cells.toList := by
        cases hne : E.nest with
        | false => rw [hne] at hl; exact ⟨_, h1.freezeHands, elems_fz h1 hps hl _ 0⟩
        | true =>
          rw [hne] at hl
          obtain ⟨R2, r1, r2, _⟩ := elems_ow (isHand_hand st1 0) rfl (i := 0) h1 (Nat.le_refl 1) hps hl
          exact ⟨R2, r1, r2⟩
      obtain ⟨R2, h2, hseg⟩ := seg
      obtain ⟨R3, h3, hv, _⟩ := h2.ownNew (isHand_hand st1 0) et (cap := n) (by omega) (by rw [hcs]; exact Nat.le_refl _) hseg
      have hln : l.length = n := by omega
      rw [hln] at hv
      obtain ⟨st2, R4, hk, h4⟩ := dstT_ok h3 hk (j := 0) (val := .slice (some ⟨w.heap.size, 0, none⟩) n n) hv
      simp only [Oper.wp, hrun', Oper.upon]
      exact hn _ st2 R4 _ (put_defers _ _ _) h4 hk
    · rw [if_neg hc] at hk; exact hk.elim
  · exact hw.elim

/-! ### make -/

theorem madeCells_eq (z : Array Value) : ∀ c : Nat, (madeCells z (c * z.size)).toList = (List.replicate c z.toList).flatten := by
  intro c
  induction c with
  | zero => simp [madeCells]
  | succ c ih =>
    have e : (c + 1) * z.size = z.size + c * z.size := by rw [Nat.succ_mul]; omega
    rw [List.replicate_succ, List.flatten_cons, ← ih, e]
    simp only [madeCells, Array.toList_map, Array.toList_range, List.range_add, List.map_append, List.map_map]
    congr 1
    · apply List.ext_getElem?
      intro i
      rw [List.getElem?_map]
      by_cases hi : i < z.size
      · rw [List.getElem?_range hi]
        simp [Nat.mod_eq_of_lt hi, hi]
      · rw [List.getElem?_eq_none (by simp; omega)]
        simp; omega
    · apply List.map_congr_left
      intro i _
      simp

theorem seg_replicate {α : Type} {Q : Nat → α → List Value → Prop} {d : α} {zc : List Value} (h : ∀ i, Q i d zc) : ∀ (n i c : Nat), n ≤ c → SegI Q i (List.replicate n d) (List.replicate c zc).flatten := by
  intro n
  induction n with
  | zero => intro i c _; trivial
  | succ n ih =>
    intro i c hc
    cases c with
    | zero => omega
    | succ c =>
      rw [List.replicate_succ, List.replicate_succ, List.flatten_cons]
      exact ⟨zc, _, rfl, h i, ih (i + 1) c (by omega)⟩

theorem DR_zero {Z : Nat → Prop} {h : Array Obj} : ∀ s : Sh, DR Z h s s.dflt (zeroCells s) := by
  intro s
  induction s with
  | pair a b iha ihb => exact ⟨_, _, rfl, iha, ihb⟩
  | sl e ih => exact .inl ⟨rfl, none, 0, rfl⟩
  | _ => exact rfl

theorem OR_full_zero {R : Cx} : ∀ (s : Sh) (K : Key), (∀ T, T.under K → R.ρ T = some .nil) → OR R s s.full K s.dflt (zeroCells s) := by
  intro s
  induction s with
  | pair a b iha ihb =>
    intro K hK
    rw [Sh.full, Ow.pr'_OR]
    exact ⟨_, _, rfl, iha _ (fun T hT => hK T (Key.under_trans hT (Key.child_under _ _))), ihb _ (fun T hT => hK T (Key.under_trans hT (Key.child_under _ _)))⟩
  | sl e ih => intro K hK; simp only [Sh.full, OR]; exact .inl ⟨hK K (Key.under_refl _), rfl, rfl⟩
  | _ => intro K _; exact rfl

theorem OR_low_zero {R : Cx} (nest : Bool) (s : Sh) (K : Key) (hK : ∀ T, T.under K → R.ρ T = some .nil) : OR R s (s.low nest) K s.dflt (zeroCells s) := by
  cases nest with
  | true => exact OR_full_zero s K hK
  | false => exact OR_fz.2 (DR_zero s)

/-- Everything at a hand's key is nil. -/
theorem Rel.nilAt {w0 : Base} {w : World} {st : St} {ts : List (Array Value)} {R : Cx} (h : Rel w0 st ts R w) {B : Key} (hB : st.isHand B) :
    ∃ R', Rel w0 st ts R' w ∧ (∀ T, T.under B → R'.ρ T = some .nil) := by
  let R' : Cx := { R with ρ := fun K => if K.under B then some .nil else R.ρ K }
  have some_blk : ∀ {K b n}, R'.ρ K = some (.blk b n) → R.ρ K = some (.blk b n) := by
    intro K b n e
    simp only [R'] at e
    split at e
    · simp at e
    · exact e
  have h1 := h.handsStep (R' := R') (w' := w) (fun K hK => by simp only [R', if_neg (fun e => hK (isHand_under e hB))]) (fun _ => id) rfl h.hh (fun _ _ _ => id)
    (fun K K' b n m e1 e2 => h.inj _ _ _ _ _ (some_blk e1) (some_blk e2)) (fun b hb K n e => h.zd b hb K n (some_blk e)) (fun K b n e => h.lo K b n (some_blk e)) (fun K b n e => h.lt K b n (some_blk e)) h.zlt h.bel
  exact ⟨R', h1, fun T hT => by simp only [R', if_pos hT]⟩

theorem OpOk.makeSlice {P : Program} {E : Env} (hE : EnvOk P E) {C : Orc} {o : Oper} {t : TypeId} {xl xc : Operand} (ho : o.op = .makeSlice t xl xc) : OpOk P E C o := by
  intro w0 st a ts R w k next Q h hw hn
  simp only [evOp, ho] at hw
  split at hw
  · rename_i e hs
    rw [M.wp_bind] at hw
    obtain ⟨v, hk, ⟨K, hK, hv⟩, hq1, hq2⟩ := rawOp_ok h hw
    rw [M.wp_bind] at hk
    replace hk := rawOp_ok h hk
    obtain ⟨u, hk, ⟨K', hK', hu⟩, hq3, hq4⟩ := hk
    split at hk
    · rename_i n m
      obtain ⟨⟨g1, g2, g3, g4⟩, hk⟩ := hk
      have e1 := SV_int hv
      have e2 := SV_int hu
      obtain ⟨et, ie, u1, u2, u3, u4, u5, u7⟩ := sl_info hE hs
      obtain ⟨i', z, u6, _, hz, hzc⟩ := tyB_info (hE.sh _ _ u2)
      rw [u4] at u6
      cases u6
      have hzcells : z.cells.toList = zeroCells e := by
        rcases hzc with ⟨_, cs, rfl, e'⟩ | ⟨_, e'⟩
        · exact e'
        · have : z.oneCell' = true := (DR_zero (Z := fun _ => False) (h := #[]) e).one z (by rw [← e']; simp)
          rw [cells_one this]; exact e'
      have hzs : z.cells.size = ie.size := by rw [u5, ← zeroCells_length, ← hzcells]; simp
      have hb : (ie.bytes : Int) * m ≤ 281474976710656 := by rw [u7, Int.mul_comm]; exact Int.le_trans g3 (by decide)
      have h63 : m ≤ (9223372036854775807 : Int) := g4
      have hrun := run_make (P := P) w t et ie z u1 u4 hz .i64 .i64 n m g1 g2 hb h63
      have hrun' : (execOp a.eval o).run P w = .ok (.value (.slice (some ⟨w.heap.size, 0, none⟩) (Int.toNat n) (Int.toNat m))) (w.alloc (.cells (madeCells z.cells (Int.toNat m * ie.size)) et)) := by
        simp only [execOp, ho, e1, e2, Sem.run_bind, hrun, Result.andThen_ok]; rfl
      obtain ⟨R1, h1, hnil⟩ := h.nilAt (isHand_hand st 0)
      have hcells : (madeCells z.cells (Int.toNat m * ie.size)).toList = (List.replicate (Int.toNat m) (zeroCells e)).flatten := by
        rw [← hzs, madeCells_eq, hzcells]
      have hnm : Int.toNat n ≤ Int.toNat m := Int.toNat_le_toNat g2
      obtain ⟨R2, h2, hv2, _⟩ := h1.ownNew (isHand_hand st 0) et (e := e) (o := e.low E.nest) (l := List.replicate (Int.toNat n) e.dflt) (cells := madeCells z.cells (Int.toNat m * ie.size)) (cap := Int.toNat m) (by simpa using hnm) (by rw [size_madeCells, u5]; exact Nat.le_refl _)
        (by rw [hcells]; exact seg_replicate (Q := fun i x c => OR R1 e (e.low E.nest) ((st.hand 0).child (.ix i e.size)) x c) (fun i => OR_low_zero _ _ _ (fun T hT => hnil T (Key.under_trans hT (Key.child_under _ _)))) _ _ _ hnm)
      simp only [List.length_replicate] at hv2
      obtain ⟨st2, R4, hk, h4⟩ := dstT_ok h2 hk (j := 0) (val := .slice (some ⟨w.heap.size, 0, none⟩) (Int.toNat n) (Int.toNat m)) hv2
      simp only [Oper.wp, hrun', Oper.upon]
      exact hn _ st2 R4 _ (put_defers _ _ _) h4 hk
    · exact hk.elim
  · exact hw.elim

end Go.Proofs.Ytgebhckfdcajoaa.Ev

/- Slices taken out of their places. -/
namespace Go.Proofs.Ytgebhckfdcajoaa.Ev
open Go
set_option linter.unusedSimpArgs false
set_option linter.unusedVariables false

theorem Cx.ok_mv' {R : Cx} {A B K : Key} (b : AV) (h1 : ∀ T : Key, T.under K → ¬ T.under A) (h2 : K.apart B) (h3 : ∀ T : Key, R.fl T.lv T.s T.bx = true → ¬ T.under B) : R.Ok (R.mv A B) K b :=
  Cx.ok_mv b h1 h2 (fun T _ => h3 T)

/-- What is left when a part is taken. -/
theorem upd_take {C : Orc} {R : Cx} {A B : Key} (hB : ∀ T : Key, R.fl T.lv T.s T.bx = true → ¬ T.under B) : ∀ (path : List Stp) {a : AV} {K : Key} {cs : List Value} {st : St} {k : AV → St → Prop}, flat path = true →
    (AV.upd .undef path a).wp C st k → A = K.ext path → K.apart B → VR R a K cs → ∃ u, k u st ∧ u.size = a.size ∧ (path ≠ [] → u.isAgg = a.isAgg ∧ u.isBad = false) ∧ VR (R.mv A B) u K cs := by
  intro path
  induction path with
  | nil =>
    intro a K cs st k _ hw hK hap ha
    simp only [AV.upd] at hw
    split at hw
    · rename_i hs
      have hl := VR.length ha
      rw [← hs] at hl
      obtain ⟨v, rfl⟩ := List.length_eq_one_iff.1 hl
      exact ⟨_, hw, hs, (fun e => absurd rfl e), v, rfl, ha.one v (by simp)⟩
    · exact hw.elim
  | cons i p ih =>
    intro a K cs st k hf hw hK hap ha
    simp only [flat, List.all_cons, Bool.and_eq_true] at hf
    have hK' : A = (K.child i).ext p := by rw [hK, Key.ext_cons]
    have hAu : A.under (K.child i) := hK' ▸ Key.ext_under _ _
    have hBc : ∀ j, (K.child j).apart B := fun j => Key.apart_sub hap (Key.child_under _ _)
    have other : ∀ j, j ≠ i → ∀ x : AV, R.Ok (R.mv A B) (K.child j) x := by
      intro j hj x
      exact Cx.ok_mv' x (fun T h1 h2 => Key.child_apart hj T h1 (Key.under_trans h2 hAu)) (hBc j) hB
    cases a with
    | pair x y =>
      obtain ⟨c1, c2, rfl, h1, h2⟩ := ha
      cases i with
      | l =>
        simp only [AV.upd, M.wp_bind] at hw
        obtain ⟨u, hk, us, _, hu⟩ := ih hf.2 hw hK' (hBc _) h1
        obtain ⟨q1, q2⟩ := other (.r x.size) (by simp) y
        exact ⟨_, hk, by simp only [AV.size, us], fun _ => ⟨rfl, rfl⟩, _, _, rfl, hu, by rw [us]; exact VR.frame (AV.le_refl _) q1 (fun T hT => q2 T ((AV.hits_lv (K := K.child (.r x.size)) (K' := K.child (.r x.size)) rfl).1 hT)) h2⟩
      | r n =>
        simp only [AV.upd] at hw
        split at hw
        · rename_i hn
          subst hn
          rw [M.wp_bind] at hw
          obtain ⟨u, hk, us, _, hu⟩ := ih hf.2 hw hK' (hBc _) h2
          obtain ⟨q1, q2⟩ := other .l (by simp) x
          exact ⟨_, hk, by simp only [AV.size, us], fun _ => ⟨rfl, rfl⟩, _, _, rfl, VR.frame (AV.le_refl _) q1 q2 h1, hu⟩
        · exact hw.elim
      | ix i z => exact hw.elim
    | d s x =>
      cases s with
      | pair s t =>
        obtain ⟨c1, c2, rfl, h1, h2⟩ := ha
        cases i with
        | l =>
          simp only [AV.upd, M.wp_bind] at hw
          obtain ⟨u, hk, us, _, hu⟩ := ih (a := .d s x.1) hf.2 hw hK' (hBc _) h1
          exact ⟨_, hk, by simp only [AV.size, us, Sh.size], fun _ => ⟨rfl, rfl⟩, _, _, rfl, hu, h2⟩
        | r n =>
          simp only [AV.upd] at hw
          split at hw
          · rename_i hn
            subst hn
            rw [M.wp_bind] at hw
            obtain ⟨u, hk, us, _, hu⟩ := ih (a := .d t x.2) hf.2 hw hK' (hBc _) h2
            exact ⟨_, hk, by simp only [AV.size, us, Sh.size], fun _ => ⟨rfl, rfl⟩, _, _, rfl, h1, hu⟩
          · exact hw.elim
        | ix i z => exact hw.elim
      | _ => cases i <;> exact hw.elim
    | own e o l =>
      cases i with
      | ix i z => simp [Stp.isIx] at hf
      | l => exact hw.elim
      | r n => exact hw.elim
    | _ => cases i <;> exact hw.elim

theorem flat_of_ixIn {p : List Stp} (h : ixIn p = false) : flat p = true := by
  simp only [ixIn, List.any_eq_false, flat, List.all_eq_true, Bool.not_eq_true'] at h ⊢
  intro x hx
  simpa using h x hx

theorem kv_isHand {st : St} {i s : Nat} {sl : Slot} (hg : st.get i s = some sl) {B : Key} (hB : st.isHand B) : (st.kv i s).apart B :=
  fun T h1 h2 => isHand_kv hg h1 (isHand_under h2 hB)

theorem kb_isHand {st : St} {i s : Nat} {B : Key} (hB : st.isHand B) : (st.kb i s).apart B :=
  fun T h1 h2 => isHand_kb h1 (isHand_under h2 hB)

theorem apart_isHand {st : St} {q : Pl} {s : Slot} (hs : st.get q.r.k q.r.s = some s) {B : Key} (hB : st.isHand B) : (st.key q).apart B := by
  have hK : (st.key q).under (st.key ⟨q.r, []⟩) := ⟨rfl, rfl, rfl, List.nil_suffix⟩
  refine Key.apart_sub ?_ hK
  cases hbx : q.r.bx with
  | false =>
    have : st.key ⟨q.r, []⟩ = st.kv q.r.k q.r.s := by simp [St.key, St.kv, hbx]
    rw [this]; exact kv_isHand hs hB
  | true =>
    have : st.key ⟨q.r, []⟩ = st.kb q.r.k q.r.s := by simp [St.key, St.kb, hbx]
    rw [this]; exact kb_isHand hB

/-- The slice at a place comes into a hand. -/
theorem takePl_ok {C : Orc} {w0 : Base} {w : World} {st : St} {ts : List (Array Value)} {R : Cx} (h : Rel w0 st ts R w) {q : Pl} {k : AV → St → Prop} (hw : (takePl q).wp C st k) {B : Key} (hB : st.isHand B) :
    ∃ x st1, k x st1 ∧ st1.length = st.length ∧ (∀ i, st1.hand i = st.hand i) ∧ Rel w0 st1 ts (R.mv (st.key q) B) w ∧ (x.isBad = false → ∃ c, VR R x (st.key q) c) ∧ (st.key q).lv = B.lv ∧ ∀ B', st.isHand B' → (st.key q).apart B' := by
  unfold takePl at hw
  by_cases hc : q.r.k ≠ 0 ∨ ixIn q.p = true
  · rw [if_pos hc] at hw; exact hw.elim
  rw [if_neg hc, M.wp_bind] at hw
  have hk0 : q.r.k = 0 := by omega
  have hfl : flat q.p = true := flat_of_ixIn (by simpa using fun e => hc (.inr e))
  replace hw := getPl_ok h hw
  obtain ⟨x, hw, _, hx⟩ := hw
  rw [put_wp, M.wp_rd] at hw
  obtain ⟨s, hs, hw⟩ := hw
  rw [M.wp_bind] at hw
  have hs' : st.get q.r.k q.r.s = some s := by rw [hk0]; exact hs
  have hN : 0 < st.length := St.get_lt hs
  let A := st.key q
  have hall : ∀ B', st.isHand B' → A.apart B' := fun B' hB' => apart_isHand hs' hB'
  have hap : A.apart B := hall B hB
  have nh : ∀ T : Key, R.fl T.lv T.s T.bx = true → ¬ T.under B := by
    intro T e hT; rw [isHand_fl h (isHand_under hT hB)] at e; simp at e
  obtain ⟨f1, f2, f3⟩ := Cx.mv_facts (A := A) (B := B) h.zd h.lo h.lt
  have hAreg : A.lv = st.length - 1 ∧ A.s = q.r.s ∧ A.bx = q.r.bx := ⟨by simp [A, St.key, hk0], rfl, rfl⟩
  have regv : ∀ i n sl, st.get i n = some sl → ¬ (i = 0 ∧ n = q.r.s ∧ q.r.bx = false) → ∀ x : AV, R.Ok (R.mv A B) (st.kv i n) x := by
    intro i n sl hg hne x
    refine Cx.ok_mv' x ?_ (kv_isHand hg hB) nh
    intro T h1 h2
    have := St.get_lt hg
    have e1 := h1.1.symm.trans h2.1
    have e2 := h1.2.1.symm.trans h2.2.1
    have e3 := h1.2.2.1.symm.trans h2.2.2.1
    rw [hAreg.1] at e1
    rw [hAreg.2.1] at e2
    rw [hAreg.2.2] at e3
    simp only [St.kv] at e1 e2 e3
    exact hne ⟨by omega, e2, e3.symm⟩
  have regb : ∀ i n sl, st.get i n = some sl → ¬ (i = 0 ∧ n = q.r.s ∧ q.r.bx = true) → ∀ x : AV, R.Ok (R.mv A B) (st.kb i n) x := by
    intro i n sl hg hne x
    refine Cx.ok_mv' x ?_ (kb_isHand hB) nh
    intro T h1 h2
    have := St.get_lt hg
    have e1 := h1.1.symm.trans h2.1
    have e2 := h1.2.1.symm.trans h2.2.1
    have e3 := h1.2.2.1.symm.trans h2.2.2.1
    rw [hAreg.1] at e1
    rw [hAreg.2.1] at e2
    rw [hAreg.2.2] at e3
    simp only [St.kb] at e1 e2 e3
    exact hne ⟨by omega, e2, e3.symm⟩
  let K0 : Key := st.key ⟨q.r, []⟩
  have hext : A = K0.ext q.p.reverse := by simp [A, K0, St.key, Key.ext]
  have hfr : flat q.p.reverse = true := flat_reverse hfl
  have hapB : K0.apart B := by
    rcases hbx : q.r.bx with _ | _
    · have : K0 = st.kv 0 q.r.s := by simp [K0, St.key, St.kv, hbx, hk0]
      rw [this]; exact kv_isHand hs hB
    · have : K0 = st.kb 0 q.r.s := by simp [K0, St.key, St.kb, hbx, hk0]
      rw [this]; exact kb_isHand hB
  have hgood : q.p ≠ [] → (s.at q.r.bx).isBad = false := by
    intro hne
    cases e : q.p.reverse with
    | nil => exact absurd (by simpa using e) hne
    | cons i p => rw [e] at hw; exact le_nil_upd hw
  have hlen : ∀ u, (st.set 0 q.r.s (s.put q.r.bx u)).length = st.length := fun u => St.length_set ..
  have hput : ∀ (u : AV) (bx : Bool), (s.put q.r.bx u).flag bx = s.flag bx := by intro u bx; cases q.r.bx <;> cases bx <;> rfl
  cases hbx : q.r.bx with
  | false =>
    have hK0 : K0 = st.kv 0 q.r.s := by simp [K0, St.key, St.kv, hbx, hk0]
    have new : ∃ u, ((M.wr 0 q.r.s (s.put q.r.bx u) (.pure x)) : M AV).wp C st k ∧ ∀ t, ts[0]? = some t → SV (R.mv A B) u (st.kv 0 q.r.s) (t.getD q.r.s undef) := by
      by_cases hne : q.p = []
      · simp only [hne, List.reverse_nil, AV.upd] at hw
        split at hw
        · exact ⟨_, hw, fun _ _ => trivial⟩
        · exact hw.elim
      · have hg := hgood hne
        simp only [Slot.at, hbx, Bool.false_eq_true, if_false] at hg hw
        obtain ⟨g1, g2⟩ := AV.notBad hg
        have hlt : 0 < ts.length := by rw [← h.len]; exact hN
        obtain ⟨t, ht⟩ : ∃ t, ts[0]? = some t := ⟨_, List.getElem?_eq_getElem hlt⟩
        have hsv := h.slot 0 q.r.s s t hs ht
        rw [SV_VV g2, VV_iff g1] at hsv
        by_cases hag : s.v.isAgg = true
        · rw [if_pos hag] at hsv
          obtain ⟨arr, e, hv⟩ := hsv
          obtain ⟨u, hk, _, hu1, hu2⟩ := upd_take (A := A) nh q.p.reverse hfr hw hext hapB (by rw [hK0]; exact hv)
          obtain ⟨hu1, hub⟩ := hu1 (by simpa using hne)
          obtain ⟨b1, b2⟩ := AV.notBad hub
          refine ⟨u, by rw [hbx]; exact hk, fun t' ht' => ?_⟩
          rw [ht] at ht'; cases ht'
          rw [SV_VV b2, VV_iff b1, hu1, if_pos hag]
          exact ⟨arr, e, by rw [← hK0]; exact hu2⟩
        · rw [if_neg hag] at hsv
          obtain ⟨u, hk, _, hu1, hu2⟩ := upd_take (A := A) nh q.p.reverse hfr hw hext hapB (by rw [hK0]; exact hsv)
          obtain ⟨hu1, hub⟩ := hu1 (by simpa using hne)
          obtain ⟨b1, b2⟩ := AV.notBad hub
          refine ⟨u, by rw [hbx]; exact hk, fun t' ht' => ?_⟩
          rw [ht] at ht'; cases ht'
          rw [SV_VV b2, VV_iff b1, hu1, if_neg hag]
          rw [← hK0]; exact hu2
    obtain ⟨u, hw, hu⟩ := new
    rw [M.wp_wr] at hw
    refine ⟨x, _, hw.2, hlen u, fun i => St.hand_set .., ?_, fun hb => ?_, hAreg.1.trans hB.1.symm, hall⟩
    · refine h.step2 (hlen u) (fun i => St.frames_set ..) h.hh ?_ ?_ ?_ (h.inj.mv _ _) f1 f2 f3 h.zlt h.bel
      · intro lv n bx; show R.fl lv n bx = _; rw [h.fl, St.fl_set_same hs (hput u)]
      · intro i n sl' hg
        rw [St.get_set] at hg
        split at hg
        · rename_i hc
          obtain ⟨rfl, rfl⟩ := hc
          simp only [hs, Option.map_some, Option.some.injEq] at hg
          subst hg
          refine ⟨s, hs, .inr ?_⟩
          rw [hbx]
          exact hu
        · rename_i hc
          exact ⟨sl', hg, .inl ⟨AV.le_refl _, regv i n sl' hg (fun e => hc ⟨e.1, e.2.1⟩) _⟩⟩
      · intro i n sl' hg
        rw [St.get_set] at hg
        split at hg
        · rename_i hc
          obtain ⟨rfl, rfl⟩ := hc
          simp only [hs, Option.map_some, Option.some.injEq] at hg
          subst hg
          exact ⟨s, hs, .inl ⟨by rw [hbx]; exact AV.le_refl _, regb _ _ s hs (fun e => by rw [hbx] at e; simp at e) _⟩⟩
        · rename_i hc
          exact ⟨sl', hg, .inl ⟨AV.le_refl _, regb i n sl' hg (fun e => hc ⟨e.1, e.2.1⟩) _⟩⟩
    · obtain ⟨c, hc, _⟩ := hx hb; exact ⟨c, hc⟩
  | true =>
    have hK0 : K0 = st.kb 0 q.r.s := by simp [K0, St.key, St.kb, hbx, hk0]
    have new : ∃ u, ((M.wr 0 q.r.s (s.put q.r.bx u) (.pure x)) : M AV).wp C st k ∧ BoxR (R.mv A B) u (st.kb 0 q.r.s) := by
      by_cases hne : q.p = []
      · simp only [hne, List.reverse_nil, AV.upd] at hw
        split at hw
        · exact ⟨_, hw, .inl rfl⟩
        · exact hw.elim
      · have hg := hgood hne
        simp only [Slot.at, hbx, if_true] at hg hw
        obtain ⟨g1, g2⟩ := AV.notBad hg
        rcases h.box 0 q.r.s s hs with e | ⟨b, arr, el, e1, e2, e3⟩
        · exact absurd e g1
        obtain ⟨u, hk, _, hu1, hu2⟩ := upd_take (A := A) nh q.p.reverse hfr hw hext hapB (by rw [hK0]; exact e3)
        refine ⟨u, by rw [hbx]; exact hk, .inr ⟨b, arr, el, ?_, e2, by rw [← hK0]; exact hu2⟩⟩
        rw [← e1]
        refine R.mv_off ?_ ?_
        · intro hu
          have := hu.2.2.2.length_le
          simp only [A, St.key, St.kb, List.length_nil, Nat.le_zero, List.length_eq_zero_iff] at this
          exact hne this
        · rw [← hK0]; exact fun hu => hapB _ (Key.under_refl _) hu
    obtain ⟨u, hw, hu⟩ := new
    rw [M.wp_wr] at hw
    refine ⟨x, _, hw.2, hlen u, fun i => St.hand_set .., ?_, fun hb => ?_, hAreg.1.trans hB.1.symm, hall⟩
    · refine h.step2 (hlen u) (fun i => St.frames_set ..) h.hh ?_ ?_ ?_ (h.inj.mv _ _) f1 f2 f3 h.zlt h.bel
      · intro lv n bx; show R.fl lv n bx = _; rw [h.fl, St.fl_set_same hs (hput u)]
      · intro i n sl' hg
        rw [St.get_set] at hg
        split at hg
        · rename_i hc
          obtain ⟨rfl, rfl⟩ := hc
          simp only [hs, Option.map_some, Option.some.injEq] at hg
          subst hg
          exact ⟨s, hs, .inl ⟨by rw [hbx]; exact AV.le_refl _, regv _ _ s hs (fun e => by rw [hbx] at e; simp at e) _⟩⟩
        · rename_i hc
          exact ⟨sl', hg, .inl ⟨AV.le_refl _, regv i n sl' hg (fun e => hc ⟨e.1, e.2.1⟩) _⟩⟩
      · intro i n sl' hg
        rw [St.get_set] at hg
        split at hg
        · rename_i hc
          obtain ⟨rfl, rfl⟩ := hc
          simp only [hs, Option.map_some, Option.some.injEq] at hg
          subst hg
          refine ⟨s, hs, .inr ?_⟩
          rw [hbx]
          exact hu
        · rename_i hc
          exact ⟨sl', hg, .inl ⟨AV.le_refl _, regb i n sl' hg (fun e => hc ⟨e.1, e.2.1⟩) _⟩⟩
    · obtain ⟨c, hc, _⟩ := hx hb; exact ⟨c, hc⟩

end Go.Proofs.Ytgebhckfdcajoaa.Ev

/- Appending. -/
namespace Go.Proofs.Ytgebhckfdcajoaa.Ev
open Go
set_option linter.unusedSimpArgs false
set_option linter.unusedVariables false

/-- Where a key's node lay ahead of the joining of two lists. -/
def joinSrc (K0 K1 : Key) (n : Nat) (T : Key) : Option Key :=
  if T.under K0 then (match T.p.getLast? with
    | some (.ix i z) => if i < n then some T else some { K1 with p := T.p.dropLast ++ [.ix (i - n) z] }
    | _ => some T)
  else if T.under K1 then none else some T

def Cx.join (R : Cx) (K0 K1 : Key) (n : Nat) : Cx := { R with ρ := fun T => (joinSrc K0 K1 n T).bind R.ρ }

theorem getLast_ix {p : List Stp} {i z : Nat} (h : p.getLast? = some (.ix i z)) : p = p.dropLast ++ [.ix i z] := by
  obtain ⟨q, hq⟩ := List.getLast?_eq_some_iff.1 h
  rw [hq]; simp

theorem joinSrc_inj {K0 K1 : Key} {n : Nat} (hs : K0.s ≠ K1.s) (hp1 : K1.p = []) {T T' S : Key} (h1 : joinSrc K0 K1 n T = some S) (h2 : joinSrc K0 K1 n T' = some S) : T = T' := by
  have cases : ∀ {T S : Key}, joinSrc K0 K1 n T = some S → (S = T ∧ ¬ T.under K1) ∨ (T.under K0 ∧ S.under K1 ∧ ∃ i z, n ≤ i ∧ T.p.getLast? = some (.ix i z) ∧ S = { K1 with p := T.p.dropLast ++ [.ix (i - n) z] }) := by
    intro T S h
    simp only [joinSrc] at h
    split at h
    · rename_i hu
      have nk : ¬ T.under K1 := fun hk => hs (hu.2.1.symm.trans hk.2.1)
      split at h
      · rename_i i z hl
        split at h
        · simp only [Option.some.injEq] at h; exact .inl ⟨h.symm, nk⟩
        · rename_i hi
          simp only [Option.some.injEq] at h
          subst h
          exact .inr ⟨hu, ⟨rfl, rfl, rfl, by rw [hp1]; exact List.nil_suffix⟩, i, z, by omega, hl, rfl⟩
      · simp only [Option.some.injEq] at h; exact .inl ⟨h.symm, nk⟩
    · split at h
      · simp at h
      · rename_i hk; simp only [Option.some.injEq] at h; exact .inl ⟨h.symm, hk⟩
  rcases cases h1 with ⟨rfl, n1⟩ | ⟨u1, k1, i, z, hi, hl, e1⟩ <;> rcases cases h2 with ⟨rfl, n2⟩ | ⟨u2, k2, i', z', hi', hl', e2⟩
  · rfl
  · exact absurd k2 n1
  · exact absurd k1 n2
  · rw [e1] at e2
    simp only [Key.mk.injEq, true_and] at e2
    have e3 := List.append_inj' e2 rfl
    simp only [List.cons.injEq, Stp.ix.injEq, and_true] at e3
    have e4 := getLast_ix hl
    have e5 := getLast_ix hl'
    have ei : i = i' := by omega
    cases T with | mk a b c p =>
    cases T' with | mk a' b' c' p' =>
    obtain ⟨q1, q2, q3, _⟩ := u1
    obtain ⟨r1, r2, r3, _⟩ := u2
    simp only at q1 q2 q3 r1 r2 r3 e4 e5 e3
    rw [e4, e5, e3.1, ei, e3.2.2, q1, q2, q3, r1, r2, r3]

theorem Rel.joined {w0 : Base} {w : World} {st : St} {ts : List (Array Value)} {R : Cx} (h : Rel w0 st ts R w) (n : Nat) : Rel w0 st ts (R.join (st.hand 0) (st.hand 1) n) w := by
  have hs : (st.hand 0).s ≠ (st.hand 1).s := by simp [St.hand]
  have sb : ∀ {T b m}, (R.join (st.hand 0) (st.hand 1) n).ρ T = some (.blk b m) → ∃ S, joinSrc (st.hand 0) (st.hand 1) n T = some S ∧ R.ρ S = some (.blk b m) := by
    intro T b m e
    simp only [Cx.join, Option.bind_eq_some_iff] at e
    exact e
  refine h.handsStep (R' := R.join (st.hand 0) (st.hand 1) n) (w' := w) ?_ (fun _ => id) rfl h.hh (fun _ _ _ => id) ?_ ?_ ?_ ?_ h.zlt h.bel
  · intro T hT
    have a0 : ¬ T.under (st.hand 0) := fun e => hT (isHand_under e (isHand_hand _ _))
    have a1 : ¬ T.under (st.hand 1) := fun e => hT (isHand_under e (isHand_hand _ _))
    simp only [Cx.join, joinSrc, if_neg a0, if_neg a1, Option.bind_some]
  · intro T T' b m m' e1 e2
    obtain ⟨S, s1, r1⟩ := sb e1
    obtain ⟨S', s2, r2⟩ := sb e2
    have := h.inj _ _ _ _ _ r1 r2
    subst this
    exact joinSrc_inj hs rfl s1 s2
  · intro b hb T m e
    obtain ⟨S, _, r1⟩ := sb e
    exact h.zd b hb S m r1
  · intro T b m e
    obtain ⟨S, _, r1⟩ := sb e
    exact h.lo _ _ _ r1
  · intro T b m e
    obtain ⟨S, _, r1⟩ := sb e
    exact h.lt _ _ _ r1

theorem join_left {R : Cx} {st : St} {n i z : Nat} (hi : i < n) (q : List Stp) : (R.join (st.hand 0) (st.hand 1) n).ρ (((st.hand 0).child (.ix i z)).plus q) = R.ρ (((st.hand 0).child (.ix i z)).plus q) := by
  have hu : (((st.hand 0).child (.ix i z)).plus q).under (st.hand 0) := Key.under_trans (Key.under_plus _ _) (Key.child_under _ _)
  have hl : (((st.hand 0).child (.ix i z)).plus q).p.getLast? = some (.ix i z) := by simp [Key.plus, Key.child, St.hand]
  simp only [Cx.join, joinSrc, if_pos hu, hl, if_pos hi, Option.bind_some]

theorem join_right {R : Cx} {st : St} {n j z : Nat} (q : List Stp) : (R.join (st.hand 0) (st.hand 1) n).ρ (((st.hand 0).child (.ix (n + j) z)).plus q) = R.ρ (((st.hand 1).child (.ix j z)).plus q) := by
  have hu : (((st.hand 0).child (.ix (n + j) z)).plus q).under (st.hand 0) := Key.under_trans (Key.under_plus _ _) (Key.child_under _ _)
  have hl : (((st.hand 0).child (.ix (n + j) z)).plus q).p.getLast? = some (.ix (n + j) z) := by simp [Key.plus, Key.child, St.hand]
  simp only [Cx.join, joinSrc, if_pos hu, hl, if_neg (by omega : ¬ n + j < n), Option.bind_some]
  have e : n + j - n = j := by omega
  rw [e]
  congr 1
  simp [Key.plus, Key.child, St.hand]

theorem join_root {R : Cx} {st : St} {n : Nat} : (R.join (st.hand 0) (st.hand 1) n).ρ (st.hand 0) = R.ρ (st.hand 0) := by
  have hl : (st.hand 0).p.getLast? = none := rfl
  simp only [Cx.join, joinSrc, if_pos (Key.under_refl _), hl, Option.bind_some]

theorem segI_append {α : Type} {Q : Nat → α → List Value → Prop} {z : Nat} (hz : ∀ i x c, Q i x c → c.length = z) : ∀ (l : List α) (i : Nat) (cs : List Value) (l' : List α) (cs' : List Value), SegI Q i l cs → cs.length = l.length * z → SegI Q (i + l.length) l' cs' → SegI Q i (l ++ l') (cs ++ cs') := by
  intro l
  induction l with
  | nil =>
    intro i cs l' cs' _ hl h
    have : cs = [] := by simpa using hl
    subst this
    simpa using h
  | cons x xs ih =>
    intro i cs l' cs' h hl h'
    obtain ⟨c, r, rfl, h1, h2⟩ := h
    have hc := hz _ _ _ h1
    refine ⟨c, r ++ cs', by simp, h1, ih (i + 1) r l' cs' h2 ?_ ?_⟩
    · simp only [List.length_append, List.length_cons, Nat.succ_mul] at hl; omega
    · have : i + 1 + xs.length = i + (x :: xs).length := by simp only [List.length_cons]; omega
      rw [this]; exact h'

theorem segI_tail {α : Type} {Q : Nat → α → List Value → Prop} : ∀ (l : List α) (i : Nat) (cs r : List Value), SegI Q i l cs → SegI Q i l (cs ++ r) := by
  intro l
  induction l with
  | nil => intro _ _ _ _; trivial
  | cons x xs ih =>
    intro i cs r h
    obtain ⟨c, r', rfl, h1, h2⟩ := h
    exact ⟨c, r' ++ r, by simp, h1, ih _ _ _ h2⟩

theorem segI_take {α : Type} {Q : Nat → α → List Value → Prop} {z : Nat} (hz : ∀ i x c, Q i x c → c.length = z) : ∀ (l : List α) (i : Nat) (cs : List Value), SegI Q i l cs → SegI Q i l (cs.take (l.length * z)) ∧ (cs.take (l.length * z)).length = l.length * z := by
  intro l
  induction l with
  | nil => intro i cs _; simp [SegI]
  | cons x xs ih =>
    intro i cs h
    obtain ⟨c, r, rfl, h1, h2⟩ := h
    have hc := hz _ _ _ h1
    obtain ⟨a, b⟩ := ih _ _ h2
    have e : (c ++ r).take ((x :: xs).length * z) = c ++ r.take (xs.length * z) := by
      simp only [List.length_cons, Nat.succ_mul]
      rw [List.take_append, List.take_of_length_le (by omega)]
      congr 2
      omega
    rw [e]
    exact ⟨⟨c, _, rfl, h1, a⟩, by simp only [List.length_append, b, List.length_cons, Nat.succ_mul]; omega⟩

theorem segI_imp {α : Type} {Q Q' : Nat → α → List Value → Prop} : ∀ (l : List α) (i : Nat) (cs : List Value), (∀ j x c, i ≤ j → j < i + l.length → Q j x c → Q' j x c) → SegI Q i l cs → SegI Q' i l cs := by
  intro l
  induction l with
  | nil => intro _ _ _ _; trivial
  | cons x xs ih =>
    intro i cs hq h
    obtain ⟨c, r, rfl, h1, h2⟩ := h
    exact ⟨c, r, rfl, hq _ _ _ (Nat.le_refl _) (by simp) h1, ih _ _ (fun j x c a b => hq j x c (by omega) (by simp only [List.length_cons]; omega)) h2⟩

theorem segI_shift {α : Type} {Q Q' : Nat → α → List Value → Prop} (n : Nat) (hq : ∀ j x c, Q j x c → Q' (n + j) x c) : ∀ (l : List α) (i : Nat) (cs : List Value), SegI Q i l cs → SegI Q' (n + i) l cs := by
  intro l
  induction l with
  | nil => intro _ _ _; trivial
  | cons x xs ih =>
    intro i cs h
    obtain ⟨c, r, rfl, h1, h2⟩ := h
    exact ⟨c, r, rfl, hq _ _ _ h1, by have := ih (i + 1) r h2; rwa [show n + (i + 1) = n + i + 1 by omega] at this⟩

/-- An owned array with more in it. -/
theorem Rel.ownSet {w0 : Base} {w : World} {st : St} {ts : List (Array Value)} {R : Cx} (h : Rel w0 st ts R w) {K : Key} (hK : st.isHand K) {e : Sh} {o : Ow} {l : List e.den} {b n cap : Nat} {arr : Array Value} {el : TypeId} {cells : List Value} (hρ : R.ρ K = some (.blk b n)) (hh : w.heap[b]? = some (.cells arr el (0, 0)))
    (hl : l.length ≤ cap) (hcap : cap * e.size ≤ cells.length) (hs : SegI (fun i x c => OR R e o (K.child (.ix i e.size)) x c) 0 l cells) :
    ∃ R', Rel w0 st ts R' (w.setRow b cells.toArray) ∧ VR R' (.own e o l) K [.slice (some ⟨b, 0, none⟩) l.length cap] := by
  let w' := w.setRow b cells.toArray
  let R' : Cx := { R with ρ := fun T => if T = K then some (.blk b l.length) else R.ρ T, h := w'.heap }
  have hb' : w'.heap[b]? = some (.cells cells.toArray el (0, 0)) := setRow_heap w b arr _ el _ hh
  have hoth : ∀ (b' : Nat) (o : Obj), b' ≠ b → w.heap[b']? = some o → w'.heap[b']? = some o := by
    intro b' o hb' ho; simp only [w']; rw [setRow_other w b b' _ hb']; exact ho
  have hsize : w'.heap.size = w.heap.size := by simp [w', World.setRow]
  have sb : ∀ {T b' m}, R'.ρ T = some (.blk b' m) → ∃ m', R.ρ T = some (.blk b' m') := by
    intro T b' m e
    simp only [R'] at e
    split at e
    · rename_i hT; simp only [Option.some.injEq, Nd.blk.injEq] at e; subst hT; rw [← e.1]; exact ⟨_, hρ⟩
    · exact ⟨_, e⟩
  have hne : ∀ {T b' m}, T ≠ K → R.ρ T = some (.blk b' m) → b' ≠ b := by
    rintro T b' m hT e rfl; exact hT (h.inj _ _ _ _ _ e hρ)
  have hzb : ∀ b', R.Z b' → b' ≠ b := by rintro b' hb rfl; exact h.zd _ hb _ _ hρ
  have h1 : Rel w0 st ts R' w' := by
    refine h.handsStep (R' := R') (fun T hT => ?_) (fun _ => id) rfl rfl ?_ ?_ ?_ ?_ ?_ (fun b hb => by rw [hsize]; exact h.zlt b hb) ?_
    · have : T ≠ K := by rintro rfl; exact hT hK
      simp only [R', if_neg this]
    · intro b' o hn ho
      refine hoth b' o ?_ ho
      rintro rfl; exact hn K n hK hρ
    · intro T T' b' m m' e1 e2
      obtain ⟨_, e1⟩ := sb e1
      obtain ⟨_, e2⟩ := sb e2
      exact h.inj _ _ _ _ _ e1 e2
    · intro b' hb T m e
      obtain ⟨_, e⟩ := sb e
      exact h.zd b' hb T _ e
    · intro T b' m e
      obtain ⟨_, e⟩ := sb e
      exact h.lo _ _ _ e
    · intro T b' m e
      obtain ⟨_, e⟩ := sb e
      rw [hsize]; exact h.lt _ _ _ e
    · exact h.bel.trans ⟨rfl, rfl, rfl, by rw [hsize]; exact Nat.le_refl _, fun k hk => setRow_other w b k _ (by have := h.lo _ _ _ hρ; omega)⟩
  refine ⟨R', h1, ?_⟩
  simp only [VR, OR]
  refine .inr ⟨b, cap, cells.toArray, el, by simp only [R', if_true], rfl, hl, by simpa using hcap, hb', ?_⟩
  simp only []
  refine segI_imp l 0 _ (fun j x c _ _ hx => ?_) hs
  refine OR.frame (R := R) (R' := R') ⟨fun _ => id, ?_, ?_, ?_⟩ hx
  · intro b' o hz ho; rw [h.hh] at ho; exact hoth b' o (hzb b' hz) ho
  · intro T hT
    have : T ≠ K := by
      rintro rfl
      have := hT.2.2.2.length_le
      simp [Key.child] at this
      omega
    simp only [R', if_neg this]
  · intro T b' m o hT hr ho
    rw [h.hh] at ho
    have : T ≠ K := by
      rintro rfl
      have := hT.2.2.2.length_le
      simp [Key.child] at this
      omega
    exact hoth b' o (hne this hr) ho

/-! ### The machine's append -/

theorem run_append_R {P : Program} {t ty et : TypeId} {i : TypeInfo} (ht : P.underlying t = some (.slice et)) (hi : P.info? et = some i) {w : World} {b n cap : Nat} {arr : Array Value} {el : TypeId} (hh : w.heap[b]? = some (.cells arr el (0, 0)))
    {ay : Option Addr} {m c : Nat} {news : List Value} (hfc : (Builtin.firstCells i.size m (.slice ay m c)).run P w = .ok news.toArray w) (h1 : ∀ u ∈ news, u.oneCell' = true) (hroom : n + m ≤ cap) (hfit : n * i.size + news.length ≤ arr.size) :
    (Builtin.append_ #[t, t] ty #[.slice (some ⟨b, 0, none⟩) n cap, .slice ay m c]).run P w = .ok (.slice (some ⟨b, 0, none⟩) (n + m) cap) (w.setRow b (repl arr.toList (n * i.size) news).toArray) := by
  have hst := run_storeCells_at P b (n * i.size) el news 0 arr w hh (by simpa using hfit) h1
  simp only [Nat.add_zero] at hst
  simp [Builtin.append_, run_underlying ht, sizeOf, typeInfo, hi, Builtin.lenOf, hroom, hfc, Addr.add_lit, hst, repl]

theorem run_append_N {P : Program} {t ty et : TypeId} {i : TypeInfo} (ht : P.underlying t = some (.slice et)) (hi : P.info? et = some i) {w : World}
    {ay : Option Addr} {c : Nat} {news : List Value} (hfc : (Builtin.firstCells i.size 0 (.slice ay 0 c)).run P w = .ok news.toArray w) :
    (Builtin.append_ #[t, t] ty #[.slice none 0 0, .slice ay 0 c]).run P w = .ok (.slice none 0 0) w := by
  simp [Builtin.append_, run_underlying ht, sizeOf, typeInfo, hi, Builtin.lenOf, hfc]

/-- What is appended, in memory. -/
structure More (P : Program) (R : Cx) (st : St) (w : World) (e : Sh) (o : Ow) (l : List e.den) (yv : Value) (news : List Value) : Prop where
  val : ∃ ay c, yv = .slice ay l.length c ∧ (l = [] ∨ ∃ a, ay = some a ∧ ∀ (j : Nat) (u : Value), news[j]? = some u → w.cell? (a.add j) = some u)
  len : news.length = l.length * e.size
  one : ∀ u ∈ news, u.oneCell' = true
  seg : SegI (fun i x c => OR R e o ((st.hand 1).child (.ix i e.size)) x c) 0 l news

theorem More.fc {P : Program} {R : Cx} {st : St} {w : World} {e : Sh} {o : Ow} {l : List e.den} {yv : Value} {news : List Value} (h : More P R st w e o l yv news) : ∃ ay c, yv = .slice ay l.length c ∧ (Builtin.firstCells e.size l.length (.slice ay l.length c)).run P w = .ok news.toArray w := by
  obtain ⟨ay, c, hy, hc⟩ := h.val
  refine ⟨ay, c, hy, ?_⟩
  rcases hc with rfl | ⟨a, rfl, hc⟩
  · have : news = [] := by have := h.len; simpa using this
    subst this
    cases ay with
    | none => exact run_firstCells_none _ _ _ _ _
    | some a => exact run_firstCells_some (P := P) w e.size 0 a 0 c [] (by simp) (fun j v hj => by simp at hj)
  · exact run_firstCells_some (P := P) w e.size l.length a l.length c news h.len hc

theorem append_run {P : Program} {E : Env} (hE : EnvOk P E) {w0 : Base} {w : World} {st : St} {ts : List (Array Value)} {R : Cx} (h : Rel w0 st ts R w) {t : TypeId} {e : Sh} (hs : E.sh t = some (.sl e)) {o : Ow} {l l' : List e.den} {sv yv : Value} {news : List Value}
    (hx : VR R (.own e o l) (st.hand 0) [sv]) (hy : More P R st w e o l' yv news) (hb : l' = [] ∨ ((l.length + l'.length) * E.bytes t ≤ 140737488355328 ∧ l.length + l'.length ≤ maxLen)) (ty : TypeId) :
    ∃ R' w' rv, (Builtin.append_ #[t, t] ty #[sv, yv]).run P w = .ok rv w' ∧ Rel w0 st ts R' w' ∧ VR R' (.own e o (l ++ l')) (st.hand 0) [rv] := by
  obtain ⟨et, ie, u1, u2, u3, u4, u5, u7⟩ := sl_info hE hs
  obtain ⟨i', z, u6, _, hz, hzc⟩ := tyB_info (hE.sh _ _ u2)
  rw [u4] at u6
  cases u6
  have hzs : z.cells.size = e.size := by
    have : z.cells.toList = zeroCells e := by
      rcases hzc with ⟨_, cs, rfl, e'⟩ | ⟨_, e'⟩
      · exact e'
      · have : z.oneCell' = true := (DR_zero (Z := fun _ => False) (h := #[]) e).one z (by rw [← e']; simp)
        rw [cells_one this]; exact e'
    rw [← zeroCells_length, ← this]; simp
  obtain ⟨ay, c, hyv, hfc⟩ := hy.fc
  rw [← u5] at hfc
  have hj := h.joined l.length
  let R1 := R.join (st.hand 0) (st.hand 1) l.length
  have hright : SegI (fun i x c => OR R1 e o ((st.hand 0).child (.ix i e.size)) x c) (l.length + 0) l' news := by
    refine segI_shift (Q := fun i x c => OR R e o ((st.hand 1).child (.ix i e.size)) x c) l.length ?_ l' 0 news hy.seg
    intro j x c hx
    exact OR.rekey (R := R) (R' := R1) (A := (st.hand 1).child (.ix j e.size)) (B := (st.hand 0).child (.ix (l.length + j) e.size)) (fun _ => id) rfl (fun q => join_right q) (q := []) hx
  simp only [VR, OR] at hx
  rcases hx with ⟨hρ, rfl, hsv⟩ | ⟨b, cap, arr, el, hρ, hsv, hl, hcap, hhp, hseg⟩
  · simp only [List.cons.injEq, and_true] at hsv
    subst hsv
    by_cases hl0 : l' = []
    · subst hl0
      refine ⟨R, w, .slice none 0 0, by rw [hyv]; exact run_append_N u1 u4 hfc, h, ?_⟩
      simp only [VR, OR]
      exact .inl ⟨hρ, by simp, by simp⟩
    · obtain ⟨b1, b2⟩ := hb.resolve_left hl0
      have hpos : 0 < l'.length := List.length_pos_iff.2 hl0
      obtain ⟨ay', c', hyv', hcc⟩ := hy.val
      rcases hcc with e0 | ⟨ad, rfl, hcc⟩
      · exact absurd e0 hl0
      simp only [List.length_nil, Nat.zero_add] at b1 b2 hright
      have hmx : (l'.length : Int) ≤ 9223372036854775807 := by simp only [maxLen] at b2; omega
      have hrun := run_append_nil (P := P) w t ty et ie z u1 u4 hz ad l'.length c' news (by rw [u5]; exact hy.len) hcc hpos hmx (by rw [u7]; omega)
      let cells : Array Value := news.toArray ++ Builtin.zeroCells z.cells (grownCap w l'.length 0 et - l'.length)
      have hge := grownCap_ge w l'.length 0 et
      have hsz : grownCap w l'.length 0 et * e.size ≤ cells.size := by
        simp only [cells, Array.size_append, List.size_toArray, size_zeroCells, hzs, hy.len, ← Nat.add_mul]
        exact Nat.mul_le_mul_right _ (by omega)
      have hd : Rel w0 st ts R1 w.drew := by
        refine hj.handsStep (R' := R1) (w' := w.drew) (fun _ _ => rfl) (fun _ => id) rfl hj.hh (fun _ _ _ => id) hj.inj hj.zd hj.lo hj.lt hj.zlt hj.bel.drew
      obtain ⟨R2, h2, hv2, _⟩ := hd.ownNew (isHand_hand st 0) et (e := e) (o := o) (l := l') (cells := cells) (cap := grownCap w l'.length 0 et) hge hsz (by
        simp only [cells, Array.toList_append]
        exact segI_tail _ _ _ _ (by simpa using hright))
      exact ⟨R2, _, _, by rw [hyv']; exact hrun, h2, by simpa using hv2⟩
  · simp only [List.cons.injEq, and_true] at hsv
    subst hsv
    have hleft : SegI (fun i x c => OR R1 e o ((st.hand 0).child (.ix i e.size)) x c) 0 l arr.toList := by
      refine segI_imp l 0 _ (fun j x c _ hjl hx => ?_) hseg
      exact OR.rekey (R := R) (R' := R1) (A := (st.hand 0).child (.ix j e.size)) (B := (st.hand 0).child (.ix j e.size)) (fun _ => id) rfl (fun q => join_left (by omega) q) (q := []) hx
    obtain ⟨t1, t2⟩ := segI_take (Q := fun i x c => OR R1 e o ((st.hand 0).child (.ix i e.size)) x c) (fun _ _ _ => OR.length) l 0 _ hleft
    have hboth := segI_append (Q := fun i x c => OR R1 e o ((st.hand 0).child (.ix i e.size)) x c) (fun _ _ _ => OR.length) l 0 _ l' news t1 t2 (by rw [Nat.zero_add]; simpa using hright)
    have hρ1 : R1.ρ (st.hand 0) = some (.blk b l.length) := by rw [← hρ]; exact join_root
    have hhw : w.heap[b]? = some (.cells arr el (0, 0)) := by rw [← h.hh]; exact hhp
    by_cases hroom : l.length + l'.length ≤ cap
    · have hfit : l.length * ie.size + news.length ≤ arr.size := by
        rw [u5, hy.len, ← Nat.add_mul]
        exact Nat.le_trans (Nat.mul_le_mul_right _ hroom) hcap
      have hrun := run_append_R (P := P) (ty := ty) u1 u4 hhw hfc hy.one hroom hfit
      have hrl : (repl arr.toList (l.length * ie.size) news).length = arr.toList.length := repl_length (by simpa using hfit)
      obtain ⟨R2, h2, hv2⟩ := hj.ownSet (isHand_hand st 0) (e := e) (o := o) (l := l ++ l') (cap := cap) (cells := repl arr.toList (l.length * ie.size) news) hρ1 hhw (by simpa using hroom) (by rw [hrl]; simpa using hcap) (by
        simp only [repl, u5]
        exact segI_tail _ _ _ _ hboth)
      refine ⟨R2, _, _, by rw [hyv]; exact hrun, h2, ?_⟩
      rw [List.length_append] at hv2
      exact hv2
    · have hl0 : l' ≠ [] := by rintro rfl; simp at hroom; omega
      obtain ⟨b1, b2⟩ := hb.resolve_left hl0
      obtain ⟨ay', c', hyv', hcc⟩ := hy.val
      rcases hcc with e0 | ⟨ad, rfl, hcc⟩
      · exact absurd e0 hl0
      have holds : ∀ (j : Nat) (u : Value), (arr.toList.take (l.length * e.size))[j]? = some u → w.cell? ((⟨b, 0, none⟩ : Addr).add j) = some u := by
        intro j u hu
        rw [addr_add, Nat.zero_add]
        simp only [World.cell?, hhw]
        rw [List.getElem?_take] at hu
        split at hu
        · simpa using hu
        · simp at hu
      have hmx : ((l.length + l'.length : Nat) : Int) ≤ 9223372036854775807 := by simp only [maxLen] at b2; omega
      have hrun := run_append_grow (P := P) w t ty et ie z u1 u4 hz ⟨b, 0, none⟩ l.length cap (arr.toList.take (l.length * e.size)) (by rw [u5]; exact t2) holds ad l'.length c' news (by rw [u5]; exact hy.len) hcc (by omega) hmx (growslice_fits (by omega) (by rw [u7]; exact b1))
      let cells : Array Value := (arr.toList.take (l.length * e.size)).toArray ++ news.toArray ++ Builtin.zeroCells z.cells (grownCap w (l.length + l'.length) cap et - (l.length + l'.length))
      have hge := grownCap_ge w (l.length + l'.length) cap et
      have hsz : grownCap w (l.length + l'.length) cap et * e.size ≤ cells.size := by
        simp only [cells, Array.size_append, List.size_toArray, size_zeroCells, hzs, hy.len, t2, ← Nat.add_mul]
        exact Nat.mul_le_mul_right _ (by omega)
      have hd : Rel w0 st ts R1 w.drew := by
        refine hj.handsStep (R' := R1) (w' := w.drew) (fun _ _ => rfl) (fun _ => id) rfl hj.hh (fun _ _ _ => id) hj.inj hj.zd hj.lo hj.lt hj.zlt hj.bel.drew
      obtain ⟨R2, h2, hv2, _⟩ := hd.ownNew (isHand_hand st 0) et (e := e) (o := o) (l := l ++ l') (cells := cells) (cap := grownCap w (l.length + l'.length) cap et) (by simpa using hge) hsz (by
        simp only [cells, Array.toList_append]
        exact segI_tail _ _ _ _ hboth)
      refine ⟨R2, _, _, by rw [hyv']; exact hrun, h2, ?_⟩
      rw [List.length_append] at hv2
      exact hv2

end Go.Proofs.Ytgebhckfdcajoaa.Ev

/- The operation 'append'. -/
namespace Go.Proofs.Ytgebhckfdcajoaa.Ev
open Go
set_option linter.unusedSimpArgs false
set_option linter.unusedVariables false

/-- The cells of a list that lies in an array. -/
theorem read_cells {w : World} {b off : Nat} {arr : Array Value} {el : TypeId} {fr : Nat × Nat} (hh : w.heap[b]? = some (.cells arr el fr)) {m : Nat} : ∀ (j : Nat) (u : Value), ((arr.toList.drop off).take m)[j]? = some u → w.cell? ((⟨b, off, none⟩ : Addr).add j) = some u := by
  intro j u hu
  rw [addr_add]
  simp only [World.cell?, hh]
  rw [List.getElem?_take] at hu
  split at hu
  · rw [List.getElem?_drop] at hu; simpa using hu
  · simp at hu

theorem seg_segI {α : Type} {Q : α → List Value → Prop} {Q' : Nat → α → List Value → Prop} (h : ∀ i x c, Q x c → Q' i x c) : ∀ (l : List α) (i : Nat) (cs : List Value), Seg Q l cs → SegI Q' i l cs := by
  intro l
  induction l with
  | nil => intro _ _ _; trivial
  | cons x xs ih =>
    intro i cs hs
    obtain ⟨c, r, rfl, h1, h2⟩ := hs
    exact ⟨c, r, rfl, h _ _ _ h1, ih _ _ h2⟩

theorem segI_seg {α : Type} {Q : Nat → α → List Value → Prop} {Q' : α → List Value → Prop} (h : ∀ i x c, Q i x c → Q' x c) : ∀ (l : List α) (i : Nat) (cs : List Value), SegI Q i l cs → Seg Q' l cs := by
  intro l
  induction l with
  | nil => intro _ _ _; trivial
  | cons x xs ih =>
    intro i cs hs
    obtain ⟨c, r, rfl, h1, h2⟩ := hs
    exact ⟨c, r, rfl, h _ _ _ h1, ih _ _ h2⟩

/-- From frozen cells. -/
theorem More.of_seg {P : Program} {R : Cx} {st : St} {w : World} {e : Sh} {l : List e.den} {b off cap : Nat} {arr : Array Value} {el : TypeId} {fr : Nat × Nat} (hh : w.heap[b]? = some (.cells arr el fr)) (hs : Seg (DR R.Z R.h e) l (arr.toList.drop off)) :
    More P R st w e .fz l (.slice (some ⟨b, off, none⟩) l.length cap) ((arr.toList.drop off).take (l.length * e.size)) := by
  have h1 : SegI (fun i x c => OR R e .fz ((st.hand 1).child (.ix i e.size)) x c) 0 l (arr.toList.drop off) := seg_segI (Q := DR R.Z R.h e) (Q' := fun i x c => OR R e .fz ((st.hand 1).child (.ix i e.size)) x c) (fun i x c hx => OR_fz.2 hx) l 0 _ hs
  obtain ⟨t1, t2⟩ := segI_take (Q := fun i x c => OR R e .fz ((st.hand 1).child (.ix i e.size)) x c) (fun _ _ _ => OR.length) l 0 _ h1
  refine ⟨⟨some ⟨b, off, none⟩, cap, rfl, .inr ⟨_, rfl, read_cells hh⟩⟩, t2, ?_, t1⟩
  have key : ∀ (l : List e.den) (i : Nat) (cs : List Value), SegI (fun i x c => OR R e .fz ((st.hand 1).child (.ix i e.size)) x c) i l cs → cs.length = l.length * e.size → ∀ u ∈ cs, u.oneCell' = true := by
    intro l
    induction l with
    | nil => intro i cs _ hl u hu; have : cs = [] := by simpa using hl
             subst this; simp at hu
    | cons x xs ih =>
      intro i cs hs hl u hu
      obtain ⟨c, r, rfl, a, b⟩ := hs
      rcases List.mem_append.1 hu with hu | hu
      · exact a.one u hu
      · refine ih _ _ b ?_ u hu
        have := OR.length a
        simp only [List.length_append, List.length_cons, Nat.succ_mul] at hl; omega
  exact key l 0 _ t1 t2

theorem segI_one {R : Cx} {e : Sh} {o : Ow} {K : Key} : ∀ (l : List e.den) (i : Nat) (cs : List Value), SegI (fun i x c => OR R e o (K.child (.ix i e.size)) x c) i l cs → cs.length = l.length * e.size → ∀ u ∈ cs, u.oneCell' = true := by
  intro l
  induction l with
  | nil => intro i cs _ hl u hu; have : cs = [] := by simpa using hl
           subst this; simp at hu
  | cons x xs ih =>
    intro i cs hs hl u hu
    obtain ⟨c, r, rfl, a, b⟩ := hs
    rcases List.mem_append.1 hu with hu | hu
    · exact a.one u hu
    · refine ih _ _ b ?_ u hu
      have := OR.length a
      simp only [List.length_append, List.length_cons, Nat.succ_mul] at hl; omega

def MoreV (P : Program) (R : Cx) (st : St) (w : World) (e : Sh) (yv : Value) : AV → Prop
  | .nils => yv = .slice none 0 0
  | .d s l => ∃ h : s = .sl e, ∃ news, More P R st w e .fz (castDen h l : (Sh.sl e).den) yv news
  | .own e' o l => ∃ h : e' = e, ∃ news, More P R st w e o (castDen (congrArg Sh.sl h) l : (Sh.sl e).den) yv news
  | _ => False

theorem moreAV_ok {P : Program} {C : Orc} {w0 : Base} {w : World} {st : St} {ts : List (Array Value)} {R : Cx} (h : Rel w0 st ts R w) {e : Sh} {v : AV} {yv : Value} (hv : SV R v (st.hand 1) yv) {k : AV → St → Prop} (hw : (moreAV e v).wp C st k) :
    ∃ u, k u st ∧ MoreV P R st w e yv u := by
  unfold moreAV at hw
  split at hw
  · rename_i q e1
    rw [M.wp_bind] at hw
    replace hw := getPl_ok h hw
    obtain ⟨x, hw, _, hx⟩ := hw
    split at hw
    · rename_i e2 o l
      by_cases hc : e1 = e ∧ e2 = e ∧ o = .fz
      · rw [if_pos hc] at hw
        obtain ⟨rfl, rfl, rfl⟩ := hc
        obtain ⟨c, hc, _⟩ := hx rfl
        obtain ⟨_, hh⟩ := vw_header h rfl hv hc
        refine ⟨_, hw, rfl, ?_⟩
        rcases hh with ⟨rfl, hval, _⟩ | ⟨b, cap, arr, el, hval, h2, h3, h4, _, h5⟩
        · exact ⟨[], ⟨none, 0, hval, .inl rfl⟩, by simp [castDen], by simp, trivial⟩
        · rw [hval]
          have := segI_seg (Q := fun i x c => OR R e2 .fz ((st.key q).child (.ix i e2.size)) x c) (Q' := DR R.Z R.h e2) (fun i x c hx => OR_fz.1 hx) l 0 _ h5
          have h6 : More P R st w e2 .fz l (.slice (some ⟨b, 0, none⟩) l.length cap) _ := More.of_seg (off := 0) h4 (by simpa using this)
          exact ⟨_, h6⟩
      · rw [if_neg hc] at hw; exact hw.elim
    · exact hw.elim
  · rename_i q e1 lo n
    rw [M.wp_bind] at hw
    replace hw := getPl_ok h hw
    obtain ⟨x, hw, _, hx⟩ := hw
    split at hw
    · rename_i e2 o l
      by_cases hc : e1 = e ∧ e2 = e ∧ o = .fz
      · rw [if_pos hc] at hw
        obtain ⟨rfl, rfl, rfl⟩ := hc
        obtain ⟨c, hc, _⟩ := hx rfl
        have hc0 := hc
        obtain ⟨_, hh⟩ := sub_header h rfl hv hc
        refine ⟨_, hw, rfl, ?_⟩
        rcases hh with ⟨rfl, hval, rfl, rfl, _⟩ | ⟨b, off, cap, hval, h2, h3, h4, hρ⟩
        · exact ⟨[], ⟨none, 0, by simpa [castDen] using hval, .inl (by simp [castDen])⟩, by simp [castDen], by simp, trivial⟩
        · simp only [VR, OR] at hc0
          rcases hc0 with ⟨hn, _⟩ | ⟨b', cap', arr, el, hρ', _, _, _, hhp, hseg⟩
          · rw [hn] at hρ; simp at hρ
          · rw [hρ] at hρ'
            simp only [Option.some.injEq, Nd.blk.injEq] at hρ'
            obtain ⟨rfl, _⟩ := hρ'
            rw [h.hh] at hhp
            have h5 := segI_seg (Q := fun i x c => DR R.Z R.h e2 x c) (Q' := DR R.Z R.h e2) (fun i x c hx => hx) l 0 _ hseg
            have hlen : ((l.drop lo).take n).length = n := by simp only [List.length_take, List.length_drop]; omega
            rw [hval]
            rcases h4 with h4 | h4
            · subst h4
              have e0 : (l.drop lo).take 0 = [] := by simp
              refine ⟨[], ⟨some ⟨b, off, none⟩, cap, by simp [castDen, e0], .inr ⟨_, rfl, fun j u hu => by simp at hu⟩⟩, by simp [castDen, e0], by simp, by simp [castDen, e0, SegI]⟩
            · have h6 := seg_take _ _ (seg_drop (fun _ _ => DR.length) l _ h5 lo (by omega)) n
              have := More.of_seg (P := P) (st := st) (cap := cap) (off := lo * e2.size) hhp h6
              rw [hlen, ← h4] at this
              exact ⟨_, this⟩
      · rw [if_neg hc] at hw; exact hw.elim
    · exact hw.elim
  · rename_i s l
    by_cases hs : s = .sl e
    · rw [if_pos hs] at hw
      subst hs
      refine ⟨_, hw, rfl, ?_⟩
      have hd : DR R.Z R.h (.sl e) l [yv] := hv
      simp only [DR] at hd
      rcases hd with ⟨rfl, ad, cp, hval⟩ | ⟨b, off, cap, arr, el, fr, hval, h2, h3, h4, h5⟩
      · simp only [List.cons.injEq, and_true] at hval
        exact ⟨[], ⟨ad, cp, hval, .inl rfl⟩, by simp [castDen], by simp, trivial⟩
      · simp only [List.cons.injEq, and_true] at hval
        rw [hval]
        rw [h.hh] at h4
        exact ⟨_, More.of_seg h4 h5⟩
    · rw [if_neg hs] at hw; exact hw.elim
  · rename_i e1 o l
    by_cases hs : e1 = e
    · rw [if_pos hs] at hw
      subst hs
      refine ⟨_, hw, rfl, ?_⟩
      have hd : OR R (.sl e1) (.ow o) (st.hand 1) l [yv] := hv
      simp only [OR] at hd
      rcases hd with ⟨_, rfl, hval⟩ | ⟨b, cap, arr, el, hρ, hval, hl, hcap, hhp, hseg⟩
      · simp only [List.cons.injEq, and_true] at hval
        exact ⟨[], ⟨none, 0, hval, .inl rfl⟩, by simp [castDen], by simp, trivial⟩
      · simp only [List.cons.injEq, and_true] at hval
        rw [hval]
        rw [h.hh] at hhp
        obtain ⟨t1, t2⟩ := segI_take (Q := fun i x c => OR R e1 o ((st.hand 1).child (.ix i e1.size)) x c) (fun _ _ _ => OR.length) l 0 _ hseg
        have := read_cells (off := 0) hhp (m := l.length * e1.size)
        simp only [List.drop_zero] at this
        exact ⟨_, ⟨some ⟨b, 0, none⟩, cap, rfl, .inr ⟨_, rfl, this⟩⟩, t2, segI_one l 0 _ t1 t2, t1⟩
    · rw [if_neg hs] at hw; exact hw.elim
  · refine ⟨_, hw, ?_⟩
    have hd : [yv] = [Value.slice none 0 0] := hv
    show yv = _
    simpa using hd
  · exact hw.elim

end Go.Proofs.Ytgebhckfdcajoaa.Ev

/- The operation 'append', whole. -/
namespace Go.Proofs.Ytgebhckfdcajoaa.Ev
open Go
set_option linter.unusedSimpArgs false
set_option linter.unusedVariables false

/-- What lies in another hand stays. -/
def KeptU (R R' : Cx) (st : St) (i : Nat) : Prop := ∀ (K : Key) (v : AV) (cs : List Value), K.under (st.hand i) → VR R v K cs → VR R' v K cs

theorem takeOp_keptU {C : Orc} {w0 : Base} {w : World} {st : St} {a : Act} {ts : List (Array Value)} {R : Cx} (h : Rel w0 st (a.tmps :: ts) R w) {x : Operand} {k : AV → St → Prop} (hw : (takeOp x).wp C st k) (j i : Nat) (hij : i ≠ j) :
    ∃ v st1 R1, k v st1 ∧ Rel w0 st1 (a.tmps :: ts) R1 w ∧ st1.length = st.length ∧ (∀ i, st1.hand i = st.hand i) ∧ KeptU R R1 st i ∧ SV R1 v (st.hand j) (a.eval x) := by
  cases x with
  | tmp t =>
    simp only [takeOp, M.wp_rd] at hw
    obtain ⟨s, hs, hk⟩ := hw
    by_cases ho : s.v.hasOwn = true
    · rw [if_pos ho, M.wp_wr] at hk
      obtain ⟨_, hk⟩ := hk
      obtain ⟨h1, h2⟩ := h.take hs j
      refine ⟨_, _, _, hk, h1, St.length_set .., fun i => St.hand_set .., ?_, h2⟩
      intro K v cs hK hv
      refine VR.mv_other (AV.le_refl _) (Key.apart_sub (Key.apart_symm (kv_hand_apart st t i hs)) hK) (Key.apart_sub (hand_apart st hij) hK) ?_ hv
      intro T _ e hT; rw [fl_under hT, h.fl_hand] at e; simp at e
    · rw [if_neg ho] at hk
      have ho : s.v.hasOwn = false := by simpa using ho
      exact ⟨_, _, R, hk, h, rfl, fun _ => rfl, fun _ _ _ _ => id, SV.move ho (by rw [kv_lv]; rfl) (h.slot 0 t s _ hs rfl)⟩
  | const c => exact ⟨_, _, R, hw, h, rfl, fun _ => rfl, fun _ _ _ _ => id, constAV_VR _ _ _⟩
  | global g => exact hw.elim
  | func f => exact ⟨_, _, R, hw, h, rfl, fun _ => rfl, fun _ _ _ _ => id, rfl⟩

theorem ownMore_ok {C : Orc} {w0 : Base} {w : World} {st : St} {ts : List (Array Value)} {R : Cx} (h : Rel w0 st ts R w) {v : AV} {yv : Value} (hv : SV R v (st.hand 1) yv) {k : AV → St → Prop} (hw : (ownMore v).wp C st k) :
    ∃ u st1 R1, k u st1 ∧ Rel w0 st1 ts R1 w ∧ st1.length = st.length ∧ (∀ i, st1.hand i = st.hand i) ∧ Kept R R1 st 1 ∧ SV R1 u (st.hand 1) yv := by
  unfold ownMore at hw
  split at hw
  · rename_i q e1
    rw [M.wp_bind] at hw
    replace hw := getPl_ok h hw
    obtain ⟨x, hw, hx0, hx1⟩ := hw
    clear hx0 hx1
    split at hw
    · rename_i e2 o l
      by_cases ho : o = .fz
      · rw [if_pos ho] at hw; exact ⟨_, st, R, hw, h, rfl, fun _ => rfl, Kept.refl _ _ _, hv⟩
      · rw [if_neg ho, M.wp_bind] at hw
        replace hw := takePl_ok h hw (isHand_hand st 1)
        obtain ⟨x', st2, hw, hl2, hh2, h2, hx2, hlv, hap⟩ := hw
        split at hw
        · rename_i e3 o3 l3
          by_cases he : e3 = e1
          · rw [if_pos he] at hw
            subst he
            obtain ⟨c, hcv⟩ := hx2 rfl
            obtain ⟨_, hcase⟩ := vw_header h rfl hv hcv
            have hnew : VR R (.own e3 o3 l3) (st.key q) [yv] := by
              simp only [VR, OR]
              rcases hcase with ⟨rfl, hval, hρ⟩ | ⟨b, cap, arr, el, hval, a2, a3, a4, hρ, a5⟩
              · exact .inl ⟨hρ, rfl, by rw [hval]⟩
              · exact .inr ⟨b, cap, arr, el, hρ, by rw [hval], a2, a3, by rw [h.hh]; exact a4, a5⟩
            refine ⟨_, st2, _, hw, h2, hl2, hh2, ?_, ?_⟩
            · intro i v' val hi hs
              refine SV.mv_other (Key.apart_symm (hap _ (isHand_hand st i))) (hand_apart st hi) ?_ hs
              intro T e hT; rw [fl_under hT, h.fl_hand] at e; simp at e
            · show VR _ _ _ _
              refine VR.mv_self (A := st.key q) (B := st.hand 1) hlv (q := []) ?_ hnew
              intro T _ e hT; rw [fl_under hT, h.fl_hand] at e; simp at e
          · rw [if_neg he] at hw; exact hw.elim
        · exact hw.elim
    · exact hw.elim
  · exact ⟨_, st, R, hw, h, rfl, fun _ => rfl, Kept.refl _ _ _, hv⟩

theorem takeMore_ok {C : Orc} {w0 : Base} {w : World} {st : St} {a : Act} {ts : List (Array Value)} {R : Cx} (h : Rel w0 st (a.tmps :: ts) R w) {x : Operand} {k : AV → St → Prop} (hw : ((takeOp x).bind ownMore).wp C st k) :
    ∃ v st1 R1, k v st1 ∧ Rel w0 st1 (a.tmps :: ts) R1 w ∧ st1.length = st.length ∧ (∀ i, st1.hand i = st.hand i) ∧ Kept R R1 st 1 ∧ SV R1 v (st.hand 1) (a.eval x) := by
  rw [M.wp_bind] at hw
  replace hw := takeOp_ok h hw 1
  obtain ⟨v, st1, R1, hw, h1, hl1, hh1, hk1, hv⟩ := hw
  rw [← hh1 1] at hv
  obtain ⟨u, st2, R2, hw, h2, hl2, hh2, hk2, hu⟩ := ownMore_ok h1 hv hw
  refine ⟨u, st2, R2, hw, h2, hl2.trans hl1, fun i => (hh2 i).trans (hh1 i), ?_, by rw [← hh1 1]; exact hu⟩
  intro i v' val hi hs
  have := hk2 i v' val hi (by rw [hh1 i]; exact hk1 i v' val hi hs)
  rw [hh1 i] at this
  exact this

theorem segI_keptU {R R' : Cx} {st : St} (hk : KeptU R R' st 1) {e : Sh} {o : Ow} : ∀ (l : List e.den) (i : Nat) (cs : List Value), SegI (fun i x c => OR R e o ((st.hand 1).child (.ix i e.size)) x c) i l cs → SegI (fun i x c => OR R' e o ((st.hand 1).child (.ix i e.size)) x c) i l cs :=
  fun l i cs h => segI_imp l i cs (fun j x c _ _ hx => (unpack_VR _ _ _ _ _).1 (hk _ _ _ (Key.child_under _ _) ((unpack_VR _ _ _ _ _).2 hx))) h

theorem More.mono {P : Program} {R R' : Cx} {st st' : St} (hh : ∀ i, st'.hand i = st.hand i) (hk : KeptU R R' st 1) {w : World} {e : Sh} {o : Ow} {l : List e.den} {yv : Value} {news : List Value} (h : More P R st w e o l yv news) : More P R' st' w e o l yv news :=
  ⟨h.val, h.len, h.one, by rw [hh]; exact segI_keptU hk l 0 _ h.seg⟩

theorem MoreV.mono {P : Program} {R R' : Cx} {st st' : St} (hh : ∀ i, st'.hand i = st.hand i) (hk : KeptU R R' st 1) {w : World} {e : Sh} {yv : Value} {u : AV} (h : MoreV P R st w e yv u) : MoreV P R' st' w e yv u := by
  cases u with
  | d s l => obtain ⟨h, news, hm⟩ := h; exact ⟨h, news, hm.mono hh hk⟩
  | own e' o l => obtain ⟨h, news, hm⟩ := h; exact ⟨h, news, hm.mono hh hk⟩
  | nils => exact h
  | _ => exact h.elim

theorem OpOk.append {P : Program} {E : Env} (hE : EnvOk P E) {C : Orc} {o : Oper} {c : Call} (ho : o.op = .call c) (hc : c.callee = .builtin .append) : OpOk P E C o := by
  intro w0 st a ts R w k next Q h hw hn
  simp only [evOp, ho, callAV, hc] at hw
  split at hw
  · rename_i x y t t' hargs htys
    by_cases htt : t' = t
    · rw [if_pos htt] at hw
      subst htt
      split at hw
      · rename_i e hs
        rw [M.wp_bind] at hw
        obtain ⟨v, hk, ⟨K, hK, hv⟩, hq1, hq2⟩ := rawOp_ok h hw
        rw [M.wp_bind] at hk
        replace hk := takeMore_ok h hk
        obtain ⟨vy, st1, R1, hk, h1, hl1, hh1, hkept1, hvy⟩ := hk
        rw [← hh1 1] at hvy
        rw [M.wp_bind] at hk
        replace hk := moreAV_ok (P := P) h1 hvy hk
        obtain ⟨more, hk, hmore⟩ := hk
        rw [M.wp_bind] at hk
        -- what is appended to comes into hand 0
        have base : ∃ (vx : AV) (st2 : St) (R2 : Cx), Rel w0 st2 (a.tmps :: ts) R2 w ∧ MoreV P R2 st2 w e (a.eval y) more ∧ (vx.isBad = false → VR R2 vx (st2.hand 0) [a.eval x]) ∧
            (match vx with | .own e1 o1 l => if e1 = e then (appendTo (E.bytes t') e1 o1 l more).bind (dstT o) else .fail | _ => .fail : M Unit).wp C st2 k := by
          split at hk
          · replace hk := takeOp_keptU h1 hk 0 1 (by omega)
            obtain ⟨vx, st2, R2, hk, h2, hl2, hh2, hkept2, hvx⟩ := hk
            refine ⟨vx, st2, R2, h2, hmore.mono hh2 hkept2, fun hb => ?_, hk⟩
            rw [hh2 0]
            obtain ⟨b1, b2⟩ := AV.notBad hb
            cases hg : vx.isAgg with
            | true => cases vx <;> simp [AV.isAgg] at hg <;> exact hk.elim
            | false => rw [SV_VV b2, VV_iff b1, hg] at hvx; exact hvx
          · rename_i q e1
            by_cases he : e1 = e
            · rw [if_pos he] at hk
              subst he
              have hv1 : SV R1 (.vw q e1) (st1.hand 0) (a.eval x) := by
                have hv0 : SV R (.vw q e1) (st.hand 0) (a.eval x) := SV.move rfl (by rw [hK]; rfl) hv
                rw [hh1 0]; exact hkept1 0 _ _ (by omega) hv0
              replace hk := takePl_ok h1 hk (isHand_hand st1 0)
              obtain ⟨vx, st2, hk, hl2, hh2, h2, hx, hlv, hap⟩ := hk
              have hkU : KeptU R1 (R1.mv (st1.key q) (st1.hand 0)) st1 1 := by
                intro K v cs hK hv
                refine VR.mv_other (AV.le_refl _) (Key.apart_sub (Key.apart_symm (hap _ (isHand_hand st1 1))) hK) (Key.apart_sub (hand_apart st1 (by omega)) hK) ?_ hv
                intro T _ e hT; rw [fl_under hT, h1.fl_hand] at e; simp at e
              refine ⟨vx, st2, _, h2, hmore.mono hh2 hkU, fun hb => ?_, hk⟩
              cases vx with
              | own e2 o2 l =>
                by_cases he2 : e2 = e1
                · subst he2
                  obtain ⟨c, hcv⟩ := hx hb
                  obtain ⟨_, hcase⟩ := vw_header h1 rfl hv1 hcv
                  have hnew : VR R1 (.own e2 o2 l) (st1.key q) [a.eval x] := by
                    simp only [VR, OR]
                    rcases hcase with ⟨rfl, hval, hρ⟩ | ⟨b, cap, arr, el, hval, a2, a3, a4, hρ, a5⟩
                    · exact .inl ⟨hρ, rfl, by rw [hval]⟩
                    · exact .inr ⟨b, cap, arr, el, hρ, by rw [hval], a2, a3, by rw [h1.hh]; exact a4, a5⟩
                  rw [hh2 0]
                  refine VR.mv_self (A := st1.key q) (B := st1.hand 0) hlv (q := []) ?_ hnew
                  intro T _ e hT; rw [fl_under hT, h1.fl_hand] at e; simp at e
                · simp only [if_neg he2] at hk; exact hk.elim
              | _ => exact hk.elim
            · rw [if_neg he] at hk; exact hk.elim
          · obtain ⟨R2, h2, hz, hkz⟩ := h1.zeroAt (isHand_hand st1 0) E.nest (.sl e)
            refine ⟨.own e (e.low E.nest) [], st1, R2, h2, hmore.mono (fun _ => rfl) (fun K v cs hK hv => hkz K v cs (Key.apart_sub (hand_apart st1 (by omega)) hK) hv), fun _ => ?_, hk⟩
            have hd : [a.eval x] = [Value.slice none 0 0] := hv
            rw [hd]
            exact hz
          · exact hk.elim
        obtain ⟨vx, st2, R2, h2, hmore2, hvx, hk2⟩ := base
        clear hk
        split at hk2
        · rename_i e1 o1 l
          by_cases he : e1 = e
          · rw [if_pos he, M.wp_bind] at hk2
            subst he
            have hvx := hvx rfl
            have fin : ∀ (l' : List e1.den) (news : List Value), More P R2 st2 w e1 o1 l' (a.eval y) news → (l' = [] ∨ ((l.length + l'.length) * E.bytes t' ≤ 140737488355328 ∧ l.length + l'.length ≤ maxLen)) →
                (dstT o (.own e1 o1 (l ++ l'))).wp C st2 k → o.wp P a w next Q := by
              intro l' news hm hb hk
              obtain ⟨R3, w', rv, hrun, h3, hv3⟩ := append_run hE h2 hs hvx hm hb o.type
              obtain ⟨st4, R4, hk, h4⟩ := dstT_ok h3 hk (j := 0) (val := rv) hv3
              have hrun' : (execOp a.eval o).run P w = .ok (.value rv) w' := by
                simp only [execOp, ho, resolve, hc, hargs, htys, invoke, builtin]
                simp [hrun]
              simp only [Oper.wp, hrun', Oper.upon]
              exact hn _ st4 R4 _ (put_defers _ _ _) h4 hk
            unfold appendTo at hk2
            split at hk2
            · rename_i e' l'
              split at hk2
              · rename_i hcc
                obtain ⟨rfl, rfl⟩ := hcc
                obtain ⟨⟨g1, g2⟩, hk2⟩ := hk2
                obtain ⟨_, news, hm⟩ := hmore2
                exact fin _ news hm (.inr ⟨g1, g2⟩) hk2
              · exact hk2.elim
            · rename_i e' o' l'
              split at hk2
              · rename_i hcc
                obtain ⟨rfl, rfl⟩ := hcc
                obtain ⟨⟨g1, g2⟩, hk2⟩ := hk2
                obtain ⟨_, news, hm⟩ := hmore2
                exact fin _ news hm (.inr ⟨g1, g2⟩) hk2
              · exact hk2.elim
            · have hy : a.eval y = .slice none 0 0 := hmore2
              refine fin [] [] ⟨⟨none, 0, hy, .inl rfl⟩, by simp, by simp, trivial⟩ (.inl rfl) ?_
              rw [List.append_nil]; exact hk2
            · exact hk2.elim
          · rw [if_neg he] at hk2; exact hk2.elim
        · exact hk2.elim
      · exact hw.elim
    · rw [if_neg htt] at hw; exact hw.elim
  · exact hw.elim

end Go.Proofs.Ytgebhckfdcajoaa.Ev

/- Parts of results. -/
namespace Go.Proofs.Ytgebhckfdcajoaa.Ev
open Go
set_option linter.unusedSimpArgs false
set_option linter.unusedVariables false

def tupPath : Nat → List Stp
  | 0 => [.l]
  | n + 1 => tupPath n ++ [.r 0]

theorem tupPath_under (K : Key) (n : Nat) : (K.plus (tupPath (n + 1))) = (K.child (.r 0)).plus (tupPath n) := by
  simp [Key.plus, Key.child, tupPath]

theorem tupR_get {R : Cx} : ∀ (i : Nat) {a v : AV} {K : Key} {vs : List Value}, TupR R a K vs → tupGet a i = some v → ∃ u, vs[i]? = some u ∧ VV R v (K.plus (tupPath i)) u := by
  intro i
  induction i with
  | zero =>
    intro a v K vs h hg
    cases a <;> simp only [tupGet, Option.some.injEq] at hg <;> try (simp at hg; done)
    subst hg
    obtain ⟨u, r, rfl, h1, h2⟩ := h
    exact ⟨u, rfl, h1⟩
  | succ i ih =>
    intro a v K vs h hg
    cases a <;> simp only [tupGet] at hg <;> try (simp at hg; done)
    obtain ⟨u, r, rfl, h1, h2⟩ := h
    obtain ⟨w, h3, h4⟩ := ih h2 hg
    exact ⟨w, by simpa using h3, by rw [tupPath_under]; exact h4⟩

theorem VV.okFrame {R R' : Cx} {K : Key} {v : AV} {u : Value} (ok : R.Ok R' K v) (h : VV R v K u) : VV R' v K u := VV.frame (AV.le_refl _) ok.1 ok.2 h

theorem TupR.okFrame {R R' : Cx} {K : Key} {v : AV} {us : List Value} (ok : R.Ok R' K v) (h : TupR R v K us) : TupR R' v K us := TupR.frame (AV.le_refl _) ok.1 ok.2 h

theorem tupR_set {R : Cx} {B : Key} (hB : ∀ T : Key, R.fl T.lv T.s T.bx = true → ¬ T.under B) : ∀ (i : Nat) {a v : AV} {K : Key} {vs : List Value}, TupR R a K vs → tupGet a i = some v → K.apart B → TupR (R.mv (K.plus (tupPath i)) B) (tupSet a i) K vs := by
  intro i
  induction i with
  | zero =>
    intro a v K vs h hg hap
    cases a <;> simp only [tupGet, Option.some.injEq] at hg <;> try (simp at hg; done)
    obtain ⟨u, r, rfl, h1, h2⟩ := h
    refine ⟨u, r, rfl, trivial, ?_⟩
    exact TupR.okFrame (Cx.ok_mv' _ (fun T a b => Key.child_apart (by simp) T a b) (Key.apart_sub hap (Key.child_under _ _)) hB) h2
  | succ i ih =>
    intro a v K vs h hg hap
    cases a <;> simp only [tupGet] at hg <;> try (simp at hg; done)
    obtain ⟨u, r, rfl, h1, h2⟩ := h
    rw [tupPath_under]
    refine ⟨u, r, rfl, ?_, ih h2 hg (Key.apart_sub hap (Key.child_under _ _))⟩
    refine VV.okFrame (Cx.ok_mv' _ ?_ (Key.apart_sub hap (Key.child_under _ _)) hB) h1
    intro T a b
    exact Key.child_apart (i := .l) (j := .r 0) (by simp) T a (Key.under_trans b (Key.under_plus _ _))

theorem OpOk.extract {P : Program} {E : Env} {C : Orc} {o : Oper} {x : Operand} {i : Nat} (ho : o.op = .extract x i) : OpOk P E C o := by
  intro w0 st a ts R w k next Q h hw hn
  simp only [evOp, ho] at hw
  split at hw
  · rename_i t
    obtain ⟨s, hs, b, hb, v, hv, hw⟩ := ExtP_iff.1 hw
    · have hsv := h.slot 0 t s _ hs rfl
      rw [hb] at hsv
      obtain ⟨vs, hval, htup⟩ := hsv
      obtain ⟨u, hu, hvv⟩ := tupR_get i htup hv
      have hrun : (execOp a.eval o).run P w = .ok (.value u) w := by
        have hu' : vs[i]? = some u := by simpa using hu
        have hval' : a.eval (.tmp t) = .tuple vs := hval
        simp only [execOp, ho, hval', Instr.extract, hu']; rfl
      have hnt : ∀ y, v ≠ .tup y := by
        rintro y rfl
        exact hvv
      by_cases hown : v.hasOwn = true
      · rw [hown, cond_true] at hw
        let A := (st.kv 0 t).plus (tupPath i)
        let B := st.hand 0
        have nh : ∀ T : Key, R.fl T.lv T.s T.bx = true → ¬ T.under B := by
          intro T e hT; rw [fl_under hT, h.fl_hand] at e; simp at e
        have hap := kv_hand_apart st t 0 hs
        obtain ⟨f1, f2, f3⟩ := Cx.mv_facts (A := A) (B := B) h.zd h.lo h.lt
        have hAu : A.under (st.kv 0 t) := Key.under_plus _ _
        have h1 : Rel w0 (st.set 0 t { s with v := .tup (tupSet b i) }) (a.tmps :: ts) (R.mv A B) w := by
          refine h.step2 (St.length_set ..) (fun i => St.frames_set ..) h.hh ?_ ?_ ?_ (h.inj.mv _ _) f1 f2 f3 h.zlt h.bel
          · intro lv n bx; show R.fl lv n bx = _; rw [h.fl, St.fl_set_same hs (fun bx => by cases bx <;> rfl)]
          · intro j n sl' hg
            rw [St.get_set] at hg
            split at hg
            · rename_i hc
              obtain ⟨rfl, rfl⟩ := hc
              simp only [hs, Option.map_some, Option.some.injEq] at hg
              subst hg
              refine ⟨s, hs, .inr ?_⟩
              intro t' ht'
              simp only [List.getElem?_cons_zero, Option.some.injEq] at ht'
              subst ht'
              exact ⟨vs, hval, tupR_set nh i htup hv hap⟩
            · rename_i hc
              exact ⟨sl', hg, .inl ⟨AV.le_refl _, Cx.ok_mv' _ (fun T a b => kv_apart (St.get_lt hg) (St.get_lt hs) hc T a (Key.under_trans b hAu)) (kv_hand_apart' st 0 hg) nh⟩⟩
          · intro j n sl' hg
            rw [St.get_set] at hg
            have hk : ∀ x : AV, R.Ok (R.mv A B) (st.kb j n) x := fun x => Cx.ok_mv' x (fun T a b => kb_kv_apart _ _ _ _ _ T a (Key.under_trans b hAu)) (kb_hand_apart _ _ _ _) nh
            split at hg
            · rename_i hc
              obtain ⟨rfl, rfl⟩ := hc
              simp only [hs, Option.map_some, Option.some.injEq] at hg
              subst hg
              exact ⟨s, hs, .inl ⟨AV.le_refl _, hk _⟩⟩
            · exact ⟨sl', hg, .inl ⟨AV.le_refl _, hk _⟩⟩
        have hsv : SV (R.mv A B) v ((st.set 0 t { s with v := .tup (tupSet b i) }).hand 0) u := by
          rw [St.hand_set, SV_VV hnt]
          have hall : ∀ T : Key, v.hits A T → R.fl T.lv T.s T.bx = true → ¬ T.under B := fun T _ e => nh T e
          exact VV.mv_self (A := A) (B := B) rfl (q := []) hall hvv
        exact OpOk.value (j := 0) hrun h1 hw hsv hn
      · have hown : v.hasOwn = false := by simpa using hown
        rw [hown, cond_false] at hw
        have hsv : SV R v (st.hand 0) u := by
          rw [SV_VV hnt]
          exact VV.move hown (by simp [Key.plus, St.kv, St.hand]) hvv
        exact OpOk.value (j := 0) hrun h hw hsv hn
  · exact hw.elim

end Go.Proofs.Ytgebhckfdcajoaa.Ev

/- Calls of functions that only read what they are handed. -/
namespace Go.Proofs.Ytgebhckfdcajoaa.Ev
open Go
set_option linter.unusedSimpArgs false
set_option linter.unusedVariables false

def Cx.bare (Z : Nat → Prop) (h : Array Obj) : Cx := ⟨fun _ => none, Z, h, fun _ _ _ => false⟩

def K00 : Key := ⟨0, 0, false, []⟩

def ArgsR (R : Cx) (K : Key) : List AV → List Value → Prop
  | [], [] => True
  | a :: as, v :: vs => SV R a K v ∧ ArgsR R K as vs
  | _, _ => False

/-- What a function does that is handed data and hands back what it made, or what it was handed. -/
structure PureC (P : Program) (tup : Bool) (f : Nat) (as : List AV) (r : Pk) : Prop where
  fn : ∃ fn, P.funcs[f]? = some fn ∧ (fn.name == "runtime.NumGoroutine") = false ∧ fn.body.isNone = false
  run : ∀ (w : World) (Z : Nat → Prop) (vals : List Value), (∀ b, Z b → b < w.heap.size) → ArgsR (Cx.bare Z w.heap) K00 as vals →
    Calls P f vals.toArray w fun e w' => ∃ v R', e = .returned v ∧ Rel ⟨w, Z⟩ [] [] R' w' ∧ SV R' (asTup tup (unpackT tup r)) K00 v

theorem OR.rekeyC {R R' : Cx} {A B : Key} (hh : R'.h = R.h) (hρ : ∀ q, R'.ρ (B.plus q) = R.ρ (A.plus q)) :
    ∀ {s : Sh} {o : Ow} {q : List Stp} {x : s.den} {cs : List Value}, closed s o = true → OR R s o (A.plus q) x cs → OR R' s o (B.plus q) x cs := by
  intro s
  induction s with
  | int | bool | str | unit => intro o q x cs _ h; simp only [OR, DR] at h ⊢; exact h
  | pair a b iha ihb =>
    intro o q x cs hc h
    have fz : closed (.pair a b) .fz = true → OR R (.pair a b) .fz (A.plus q) x cs → OR R' (.pair a b) .fz (B.plus q) x cs := by
      intro hc h
      rw [OR_fz] at h ⊢
      simp only [closed, Bool.and_eq_true] at hc
      obtain ⟨c1, c2, rfl, h1, h2⟩ := h
      exact ⟨c1, c2, rfl, OR_fz.1 (iha (q := q) hc.1 (OR_fz.2 h1)), OR_fz.1 (ihb (q := q) hc.2 (OR_fz.2 h2))⟩
    cases o with
    | pr o1 o2 =>
      simp only [closed, Bool.and_eq_true] at hc
      simp only [OR] at h ⊢
      obtain ⟨c1, c2, rfl, h1, h2⟩ := h
      exact ⟨c1, c2, rfl, iha (q := .l :: q) hc.1 h1, ihb (q := .r a.size :: q) hc.2 h2⟩
    | fz => exact fz hc h
    | ow o =>
      simp only [OR] at h ⊢
      have := fz hc (OR_fz.2 h)
      exact OR_fz.1 this
  | sl e ih =>
    intro o q l cs hc h
    cases o with
    | ow o =>
      simp only [OR] at h ⊢
      rw [hρ q, hh]
      rcases h with h | ⟨b, cap, arr, el, h1, h2, h3, h4, h5, hs⟩
      · exact .inl h
      · refine .inr ⟨b, cap, arr, el, h1, h2, h3, h4, h5, ?_⟩
        clear h1 h2 h3
        generalize arr.toList = cs at hs
        generalize 0 = i at hs ⊢
        induction l generalizing cs i with
        | nil => trivial
        | cons x xs ihl =>
          obtain ⟨c, r, rfl, hx, hr⟩ := hs
          exact ⟨c, r, rfl, ih (q := .ix i e.size :: q) (by simpa [closed] using hc) hx, ihl _ _ hr⟩
    | fz => simp [closed] at hc
    | pr o1 o2 => simp [closed] at hc

/-- A result at another key. -/
theorem OR.rekeyR {R R' : Cx} {A B : Key} {s : Sh} {o : Ow} (hz : (∀ b, R.Z b → R'.Z b) ∨ closed s o = true) (hh : R'.h = R.h) (hρ : ∀ q, R'.ρ (B.plus q) = R.ρ (A.plus q)) {q : List Stp} {x : s.den} {cs : List Value} (h : OR R s o (A.plus q) x cs) : OR R' s o (B.plus q) x cs := by
  rcases hz with hz | hc
  · exact OR.rekey hz hh hρ h
  · exact OR.rekeyC hh hρ hc h

theorem unpack_agg (s : Sh) (o : Ow) (x : s.den) : (unpack s o x).isAgg = s.isAgg := by
  cases s <;> cases o <;> rfl

theorem unpack_good (s : Sh) (o : Ow) (x : s.den) : (unpack s o x).isBad = false := by
  cases s <;> cases o <;> rfl

theorem unpack_VV {R : Cx} {s : Sh} {o : Ow} {K : Key} {x : s.den} {v : Value} : VV R (unpack s o x) K v ↔ (if s.isAgg then ∃ arr, v = .agg arr ∧ OR R s o K x arr.toList else OR R s o K x [v]) := by
  rw [VV_iff (AV.notBad (unpack_good s o x)).1, unpack_agg]
  simp only [unpack_VR]

theorem unpackVV_rekey {R R' : Cx} {A B : Key} {s : Sh} {o : Ow} (hz : (∀ b, R.Z b → R'.Z b) ∨ closed s o = true) (hh : R'.h = R.h) (hρ : ∀ q, R'.ρ (B.plus q) = R.ρ (A.plus q)) {q : List Stp} {x : s.den} {v : Value} (h : VV R (unpack s o x) (A.plus q) v) : VV R' (unpack s o x) (B.plus q) v := by
  rw [unpack_VV] at h ⊢
  split at h
  · rename_i hg; rw [if_pos hg]; obtain ⟨arr, e, h⟩ := h; exact ⟨arr, e, OR.rekeyR hz hh hρ h⟩
  · rename_i hg; rw [if_neg hg]; exact OR.rekeyR hz hh hρ h

theorem unpackC_rekey {R R' : Cx} {A B : Key} (hh : R'.h = R.h) (hρ : ∀ q, R'.ρ (B.plus q) = R.ρ (A.plus q)) : ∀ {s : Sh} {o : Ow} (hz : (∀ b, R.Z b → R'.Z b) ∨ closed s o = true) {q : List Stp} {x : s.den} {us : List Value}, TupR R (unpackC s o x) (A.plus q) us → TupR R' (unpackC s o x) (B.plus q) us := by
  intro s
  induction s with
  | pair a b iha ihb =>
    intro o hz q x us h
    cases o with
    | pr o1 o2 =>
      have hz1 : (∀ b, R.Z b → R'.Z b) ∨ (closed a o1 = true ∧ closed b o2 = true) := by simpa [closed] using hz
      simp only [unpackC] at h ⊢
      obtain ⟨u, r, rfl, h1, h2⟩ := h
      exact ⟨u, r, rfl, unpackVV_rekey (q := .l :: q) (hz1.imp id And.left) hh hρ h1, ihb (q := .r 0 :: q) (hz1.imp id And.right) h2⟩
    | fz =>
      have hz1 : (∀ b, R.Z b → R'.Z b) ∨ (closed a .fz = true ∧ closed b .fz = true) := by simpa [closed] using hz
      simp only [unpackC] at h ⊢
      obtain ⟨u, r, rfl, h1, h2⟩ := h
      exact ⟨u, r, rfl, unpackVV_rekey (q := .l :: q) (hz1.imp id And.left) hh hρ h1, ihb (q := .r 0 :: q) (hz1.imp id And.right) h2⟩
    | ow o1 =>
      have hz1 : (∀ b, R.Z b → R'.Z b) ∨ (closed a .fz = true ∧ closed b .fz = true) := by simpa [closed] using hz
      simp only [unpackC] at h ⊢
      obtain ⟨u, r, rfl, h1, h2⟩ := h
      exact ⟨u, r, rfl, unpackVV_rekey (q := .l :: q) (hz1.imp id And.left) hh hρ h1, ihb (q := .r 0 :: q) (hz1.imp id And.right) h2⟩
  | unit => intro o hz q x us h; cases o <;> exact h
  | sl e ih => intro o hz q x us h; cases o <;> exact h.elim
  | _ => intro o hz q x us h; cases o <;> exact h.elim

theorem ret_rekey {R R' : Cx} {A B : Key} {t : Bool} {r : Pk} (hz : (∀ b, R.Z b → R'.Z b) ∨ closed r.s r.o = true) (hh : R'.h = R.h) (hρ : ∀ q, R'.ρ (B.plus q) = R.ρ (A.plus q)) {v : Value} (h : SV R (asTup t (unpackT t r)) A v) : SV R' (asTup t (unpackT t r)) B v := by
  cases t with
  | true =>
    obtain ⟨vs, rfl, h⟩ := h
    exact ⟨vs, rfl, unpackC_rekey hh hρ hz (q := []) h⟩
  | false =>
    simp only [asTup, unpackT, Bool.false_eq_true, if_false] at h ⊢
    rw [SV_VV (AV.notBad (unpack_good _ _ _)).2] at h ⊢
    exact unpackVV_rekey hz hh hρ (q := []) h

/-- Everything owned, for a while counted as frozen. -/
def Cx.allZ (R : Cx) : Nat → Prop := fun b => R.Z b ∨ ∃ K n, R.ρ K = some (.blk b n)

theorem OR.allZ {R : Cx} {s : Sh} {o : Ow} {K : Key} {x : s.den} {cs : List Value} (h : OR R s o K x cs) : DR R.allZ R.h s x cs :=
  h.freeze (fun b hb => .inl hb) (fun T b n _ hr => .inr ⟨T, n, hr⟩)

theorem seg_allZ {R : Cx} {e : Sh} {o : Ow} {K : Key} {l : List e.den} {i : Nat} {cs : List Value} (h : SegI (fun i x c => OR R e o (K.child (.ix i e.size)) x c) i l cs) : Seg (DR R.allZ R.h e) l cs :=
  segI_seg (Q := fun i x c => OR R e o (K.child (.ix i e.size)) x c) (fun i x c hx => OR.allZ hx) l i cs h

/-- What a value's data are in memory. -/
theorem data_ok {C : Orc} {w0 : Base} {w : World} {st : St} {ts : List (Array Value)} {R : Cx} (h : Rel w0 st ts R w) : ∀ {v : AV} {k : AV → St → Prop}, (v.data).wp C st k → ∃ s x, k (.d s x) st ∧ s.size = v.size ∧ s.isAgg = v.isAgg ∧ v.isBad = false ∧ ∀ K cs, K.lv = st.length - 1 → VR R v K cs → DR R.allZ R.h s x cs := by
  intro v
  induction v with
  | d s x =>
    intro k hw
    exact ⟨s, x, hw, rfl, rfl, rfl, fun K cs _ hv => DR.frame (fun b hb => .inl hb) (fun _ _ _ => id) hv⟩
  | own e o l =>
    intro k hw
    exact ⟨.sl e, l, hw, rfl, rfl, rfl, fun K cs _ hv => OR.allZ (o := .ow o) (s := .sl e) hv⟩
  | vw q e =>
    intro k hw
    simp only [AV.data, M.wp_bind] at hw
    replace hw := getPl_ok h hw
    obtain ⟨x, hw, _, hx⟩ := hw
    split at hw
    · rename_i e' o l
      split at hw
      · rename_i he
        subst he
        refine ⟨.sl e', l, hw, rfl, rfl, rfl, fun K cs hK hv => ?_⟩
        obtain ⟨c, hc, _⟩ := hx rfl
        obtain ⟨u, rfl, hs, hvv⟩ := hv
        have hv' : SV R (.vw q e') K u := ⟨u, rfl, hs, hvv⟩
        obtain ⟨_, hcase⟩ := vw_header h hK hv' hc
        rcases hcase with ⟨rfl, hval, _⟩ | ⟨b, cap, arr, el, hval, a2, a3, a4, hρ, a5⟩
        · rw [hval]; exact .inl ⟨rfl, none, 0, rfl⟩
        · rw [hval]; exact .inr ⟨b, 0, cap, arr, el, _, rfl, a2, .inr ⟨_, _, hρ⟩, by rw [h.hh]; exact a4, by simpa using seg_allZ a5⟩
      · exact hw.elim
    · exact hw.elim
  | sub q e lo n =>
    intro k hw
    simp only [AV.data, M.wp_bind] at hw
    replace hw := getPl_ok h hw
    obtain ⟨x, hw, _, hx⟩ := hw
    split at hw
    · rename_i e' o l
      split at hw
      · rename_i he
        subst he
        obtain ⟨hlen, hw⟩ := hw
        refine ⟨.sl e', ((castDen rfl l : (Sh.sl e').den).drop lo).take n, hw, rfl, rfl, rfl, fun K cs hK hv => ?_⟩
        obtain ⟨c, hc, _⟩ := hx rfl
        have hc0 := hc
        obtain ⟨u, rfl, hs, hvv⟩ := hv
        have hv' : SV R (.sub q e' lo n) K u := ⟨u, rfl, hs, hvv⟩
        obtain ⟨_, hcase⟩ := sub_header h hK hv' hc
        rcases hcase with ⟨rfl, hval, rfl, rfl, _⟩ | ⟨b, off, cap, hval, a2, a3, a4, hρ⟩
        · rw [hval]; exact .inl ⟨by simp [castDen], none, 0, rfl⟩
        · simp only [VR, OR] at hc0
          rcases hc0 with ⟨hn, _⟩ | ⟨b', cap', arr, el, hρ', _, _, _, hhp, hseg⟩
          · rw [hn] at hρ; simp at hρ
          · rw [hρ] at hρ'
            simp only [Option.some.injEq, Nd.blk.injEq] at hρ'
            obtain ⟨rfl, _⟩ := hρ'
            have hl : (List.take n (List.drop lo l)).length = n := by simp only [List.length_take, List.length_drop]; omega
            rw [hval]
            refine .inr ⟨b, off, cap, arr, el, _, ?_, ?_, .inr ⟨_, _, hρ⟩, hhp, ?_⟩
            · show _ = [Value.slice _ (List.take n (List.drop lo l)).length cap]; rw [hl]
            · show (List.take n (List.drop lo l)).length ≤ cap; rw [hl]; exact a2
            · rcases a4 with a4 | a4
              · subst a4
                show Seg _ (List.take 0 (List.drop lo l)) _
                simp [Seg]
              · rw [a4]
                exact seg_take _ _ (seg_drop (fun _ _ => DR.length) l _ (seg_allZ hseg) lo (by omega)) n
      · exact hw.elim
    · exact hw.elim
  | pair a b iha ihb =>
    intro k hw
    simp only [AV.data, M.wp_bind] at hw
    obtain ⟨s, x, hw, e1, _, _, h1⟩ := iha hw
    obtain ⟨t, y, hw, e2, _, _, h2⟩ := ihb hw
    refine ⟨.pair s t, (x, y), hw, by simp only [Sh.size, AV.size, e1, e2], rfl, rfl, fun K cs hK hv => ?_⟩
    obtain ⟨c1, c2, rfl, g1, g2⟩ := hv
    exact ⟨c1, c2, rfl, h1 (K.child .l) _ hK g1, h2 (K.child (.r a.size)) _ hK g2⟩
  | unit =>
    intro k hw
    exact ⟨.unit, (), hw, rfl, rfl, rfl, fun K cs _ hv => hv⟩
  | _ => intro k hw; exact hw.elim

theorem viewArgs_ok {C : Orc} {w0 : Base} {w : World} {st : St} {a : Act} {ts : List (Array Value)} {R : Cx} (h : Rel w0 st (a.tmps :: ts) R w) : ∀ {xs : List Operand} {k : List AV → St → Prop}, (viewArgs xs).wp C st k → ∃ vs, k vs st ∧ vs.length = xs.length ∧ ∀ (i : Nat) (v : AV), vs[i]? = some v → ∃ K : Key, K.lv = st.length - 1 ∧ SV R v K ((xs.map a.eval).getD i undef) := by
  intro xs
  induction xs with
  | nil => intro k hw; exact ⟨[], hw, rfl, fun i v hv => by simp at hv⟩
  | cons x xs ih =>
    intro k hw
    simp only [viewArgs, M.wp_bind] at hw
    obtain ⟨v, hk, ⟨K, hK, hv⟩, hq1, hq2⟩ := rawOp_ok h hw
    obtain ⟨vs, hk, hl, hvs⟩ := ih hk
    refine ⟨_, hk, by simp [hl], ?_⟩
    intro i v' hi
    cases i with
    | zero => simp only [List.getElem?_cons_zero, Option.some.injEq] at hi; subst hi; exact ⟨K, hK, hv⟩
    | succ i => simpa using hvs i v' (by simpa using hi)

theorem d_SV {R : Cx} {Z : Nat → Prop} {h : Array Obj} {v : AV} {s : Sh} {x : s.den} {K : Key} {val : Value} (hag : s.isAgg = v.isAgg) (hb : v.isBad = false) (hd : ∀ cs, VR R v K cs → DR Z h s x cs) (hv : SV R v K val) (K' : Key) : SV (Cx.bare Z h) (.d s x) K' val := by
  obtain ⟨b1, b2⟩ := AV.notBad hb
  rw [SV_VV b2, VV_iff b1] at hv
  rw [SV_VV (by intro y e; cases e), VV_iff (by intro e; cases e)]
  show (if s.isAgg then _ else _)
  rw [hag]
  split at hv
  · rename_i hg; rw [if_pos hg]; obtain ⟨arr, e, hv⟩ := hv; exact ⟨arr, e, hd _ hv⟩
  · rename_i hg; rw [if_neg hg]; exact hd _ hv

theorem dataArgs_ok {C : Orc} {w0 : Base} {w : World} {st : St} {a : Act} {ts : List (Array Value)} {R : Cx} (h : Rel w0 st (a.tmps :: ts) R w) : ∀ {xs : List Operand} {vs : List AV} {k : List AV → St → Prop}, (dataArgs vs).wp C st k → vs.length = xs.length →
    (∀ (i : Nat) (v : AV), vs[i]? = some v → ∃ K : Key, K.lv = st.length - 1 ∧ SV R v K ((xs.map a.eval).getD i undef)) → ∃ ds, k ds st ∧ ArgsR (Cx.bare R.allZ R.h) K00 ds (xs.map a.eval) := by
  intro xs
  induction xs with
  | nil =>
    intro vs k hw hl _
    cases vs with
    | nil => exact ⟨[], hw, trivial⟩
    | cons => simp at hl
  | cons x xs ih =>
    intro vs k hw hl hvs
    cases vs with
    | nil => simp at hl
    | cons v vs =>
      simp only [dataArgs, M.wp_bind] at hw
      obtain ⟨s, y, hw, e1, e2, e3, hd⟩ := data_ok h hw
      obtain ⟨ds, hk, hds⟩ := ih hw (by simpa using hl) (fun i v hi => by simpa using hvs (i + 1) v (by simpa using hi))
      obtain ⟨K, hK, hv⟩ := hvs 0 v rfl
      exact ⟨_, hk, d_SV e2 e3 (fun cs hc => hd K cs hK hc) (by simpa using hv) _, hds⟩

theorem data_D {C : Orc} {R : Cx} : ∀ {v : AV} {st : St} {k : AV → St → Prop}, v.isD = true → (v.data).wp C st k → ∃ s x, k (.d s x) st ∧ s.size = v.size ∧ s.isAgg = v.isAgg ∧ v.isBad = false ∧ ∀ K cs, VR R v K cs → DR R.Z R.h s x cs := by
  intro v
  induction v with
  | d s x => intro st k _ hw; exact ⟨s, x, hw, rfl, rfl, rfl, fun K cs hv => hv⟩
  | pair a b iha ihb =>
    intro st k hd hw
    simp only [AV.isD, Bool.and_eq_true] at hd
    simp only [AV.data, M.wp_bind] at hw
    obtain ⟨s, x, hw, e1, _, _, h1⟩ := iha hd.1 hw
    obtain ⟨t, y, hw, e2, _, _, h2⟩ := ihb hd.2 hw
    refine ⟨.pair s t, (x, y), hw, by simp only [Sh.size, AV.size, e1, e2], rfl, rfl, fun K cs hv => ?_⟩
    obtain ⟨c1, c2, rfl, g1, g2⟩ := hv
    exact ⟨c1, c2, rfl, h1 (K.child .l) _ g1, h2 (K.child (.r a.size)) _ g2⟩
  | unit => intro st k _ hw; exact ⟨.unit, (), hw, rfl, rfl, rfl, fun K cs hv => hv⟩
  | _ => intro st k hd; simp [AV.isD] at hd

theorem dataArgs_D {C : Orc} {st : St} {a : Act} {R : Cx} : ∀ {xs : List Operand} {vs : List AV} {k : List AV → St → Prop}, (∀ v ∈ vs, v.isD = true) → (dataArgs vs).wp C st k → vs.length = xs.length →
    (∀ (i : Nat) (v : AV), vs[i]? = some v → ∃ K : Key, K.lv = st.length - 1 ∧ SV R v K ((xs.map a.eval).getD i undef)) → ∃ ds, k ds st ∧ ArgsR (Cx.bare R.Z R.h) K00 ds (xs.map a.eval) := by
  intro xs
  induction xs with
  | nil =>
    intro vs k _ hw hl _
    cases vs with
    | nil => exact ⟨[], hw, trivial⟩
    | cons => simp at hl
  | cons x xs ih =>
    intro vs k hD hw hl hvs
    cases vs with
    | nil => simp at hl
    | cons v vs =>
      simp only [dataArgs, M.wp_bind] at hw
      obtain ⟨s, y, hw, e1, e2, e3, hd⟩ := data_D (R := R) (hD v (by simp)) hw
      obtain ⟨ds, hk, hds⟩ := ih (fun v hv => hD v (by simp [hv])) hw (by simpa using hl) (fun i v hi => by simpa using hvs (i + 1) v (by simpa using hi))
      obtain ⟨K, hK, hv⟩ := hvs 0 v rfl
      exact ⟨_, hk, d_SV e2 e3 (fun cs hc => hd K cs hc) (by simpa using hv) _, hds⟩

/-- What comes back of a call goes into a hand. -/
theorem Rel.called {w0 : Base} {w w' : World} {st : St} {ts : List (Array Value)} {R R' : Cx} (h : Rel w0 st ts R w) {Z : Nat → Prop} (h' : Rel ⟨w, Z⟩ [] [] R' w') {t : Bool} {r : Pk} {v : Value} (hc : (∀ b, Z b → R.Z b) ∨ closed r.s r.o = true)
    (hv : SV R' (asTup t (unpackT t r)) K00 v) : ∃ R2, Rel w0 st ts R2 w' ∧ SV R2 (asTup t (unpackT t r)) (st.hand 0) v := by
  let B := st.hand 0
  let R2 : Cx := { ρ := fun K => if K.under B then R'.ρ (K00.plus (K.below B)) else R.ρ K, Z := fun b => R.Z b ∨ (R'.Z b ∧ w.heap.size ≤ b), h := w'.heap, fl := R.fl }
  have hB := isHand_hand st 0
  have hold : ∀ (b : Nat) (o : Obj), w.heap[b]? = some o → w'.heap[b]? = some o := by
    intro b o ho
    have := (Array.getElem?_eq_some_iff.1 ho).1
    rw [h'.bel.block b this]; exact ho
  have sb : ∀ {K b n}, R2.ρ K = some (.blk b n) → (K.under B ∧ R'.ρ (K00.plus (K.below B)) = some (.blk b n) ∧ w.heap.size ≤ b) ∨ (¬ K.under B ∧ R.ρ K = some (.blk b n) ∧ b < w.heap.size) := by
    intro K b n e
    simp only [R2] at e
    split at e
    · rename_i hu; exact .inl ⟨hu, e, h'.lo _ _ _ e⟩
    · rename_i hu; exact .inr ⟨hu, e, h.lt _ _ _ e⟩
  have hsz : w.heap.size ≤ w'.heap.size := h'.bel.size
  have h1 : Rel w0 st ts R2 w' := by
    refine h.handsStep (R' := R2) (fun K hK => ?_) (fun _ => .inl) rfl rfl (fun b o _ => hold b o) ?_ ?_ ?_ ?_ ?_ (h.bel.trans (h'.bel.mono h.bel.size)) (fun b hb => hb.elim .inl (fun ⟨_, e⟩ => .inr (Nat.le_trans h.bel.size e)))
    · have : ¬ K.under B := fun e => hK (isHand_under e hB)
      simp only [R2, if_neg this]
    · intro K K' b n m e1 e2
      rcases sb e1 with ⟨u1, r1, b1⟩ | ⟨u1, r1, b1⟩ <;> rcases sb e2 with ⟨u2, r2, b2⟩ | ⟨u2, r2, b2⟩
      · have := Key.plus_inj (h'.inj _ _ _ _ _ r1 r2)
        rw [← Key.plus_below u1, ← Key.plus_below u2, this]
      · omega
      · omega
      · exact h.inj _ _ _ _ _ r1 r2
    · rintro b (hb | ⟨hb, hb2⟩) K n e
      · rcases sb e with ⟨_, _, b1⟩ | ⟨_, r1, _⟩
        · have := h.zlt b hb; omega
        · exact h.zd b hb _ _ r1
      · rcases sb e with ⟨_, r1, _⟩ | ⟨_, _, b1⟩
        · exact h'.zd b hb _ _ r1
        · omega
    · intro K b n e
      rcases sb e with ⟨_, _, b1⟩ | ⟨_, r1, _⟩
      · have := h.bel.size; omega
      · exact h.lo _ _ _ r1
    · intro K b n e
      rcases sb e with ⟨_, r1, _⟩ | ⟨_, _, b1⟩
      · exact h'.lt _ _ _ r1
      · omega
    · rintro b (hb | ⟨hb, _⟩)
      · have := h.zlt b hb; omega
      · exact h'.zlt b hb
  refine ⟨R2, h1, ret_rekey (R := R') (R' := R2) (A := K00) (B := B) ?_ h'.hh.symm (fun q => ?_) hv⟩
  · refine hc.imp (fun hz b hb => ?_) id
    rcases h'.zlo b hb with hb2 | hb2
    · exact .inl (hz b hb2)
    · exact .inr ⟨hb, hb2⟩
  · simp only [R2, if_pos (Key.under_plus B q), Key.below_plus]

/-- What a function does that is handed views of outer places. -/
structure InlC (P : Program) (tup : Bool) (f : Nat) (vs : List AV) (st : St) (r : AV) (st' : St) : Prop where
  fn : ∃ fn, P.funcs[f]? = some fn ∧ (fn.name == "runtime.NumGoroutine") = false ∧ fn.body.isNone = false
  run : ∀ (w0 : Base) (w : World) (ts : List (Array Value)) (R : Cx) (vals : List Value), Rel w0 st ts R w → (∀ K : Key, K.lv = st.length - 1 → ArgsR R K vs vals) → (∀ v ∈ vs, v.hasOwn = false) →
    Calls P f vals.toArray w fun e w' => ∃ v R', e = .returned v ∧ Rel w0 st' ts R' w' ∧ st'.length = st.length ∧ SV R' (asTup tup r) (st'.hand 0) v

structure OrcOk (P : Program) (E : Env) (C : Orc) : Prop where
  pc : ∀ f as r, C.pc f as r → PureC P (E.tup f) f as r
  ic : ∀ f vs st r st', C.ic f vs st r st' → InlC P (E.tup f) f vs st r st'

theorem run_enter {P : Program} {o : Oper} {c : Call} {f : Nat} {a : Act} {w : World} (ho : o.op = .call c) (hc : c.callee = .value (.func f)) (hf : ∃ fn, P.funcs[f]? = some fn ∧ (fn.name == "runtime.NumGoroutine") = false ∧ fn.body.isNone = false) :
    (execOp a.eval o).run P w = .ok (.enter f (c.args.toList.map a.eval).toArray) w := by
  obtain ⟨fn, h1, h2, h3⟩ := hf
  have hargs : (#[] ++ c.args.map a.eval ++ #[] : Array Value) = (c.args.toList.map a.eval).toArray := by
    apply Array.ext'; simp
  have he : a.eval (.func f) = .func (.func f) #[] #[] := rfl
  simp only [execOp, ho, resolve, hc, he, Deferred.ofValue, Sem.run_bind, Sem.run_pure, Result.andThen_ok, invoke, hargs, callFunc]
  have h2' : ¬ fn.name = "runtime.NumGoroutine" := by simpa using h2
  have h3' : ¬ fn.body = none := by intro e; rw [e] at h3; simp at h3
  simp [h1, h2', h3']

end Go.Proofs.Ytgebhckfdcajoaa.Ev

/- The operation 'call' of a function that only reads. -/
namespace Go.Proofs.Ytgebhckfdcajoaa.Ev
open Go
set_option linter.unusedSimpArgs false
set_option linter.unusedVariables false

theorem Calls.mono' {P : Program} {f : FuncId} {args : Array Value} {w : World} {R R' : Ending → World → Prop} (h : Calls P f args w R) (hr : ∀ e w', R e w' → R' e w') : Calls P f args w R' := by
  intro cs
  obtain ⟨e, w', fr, h1, h2⟩ := h cs
  exact ⟨e, w', fr, hr _ _ h1, h2⟩

theorem OpOk.callPure {P : Program} {E : Env} {C : Orc} (hC : OrcOk P E C) {o : Oper} {c : Call} {f : Nat} (ho : o.op = .call c) (hc : c.callee = .value (.func f)) (hi : E.inl f = false) : OpOk P E C o := by
  intro w0 st a ts R w k next Q h hw hn
  simp only [evOp, ho, callAV, hc] at hw
  rw [if_neg (by rw [hi]; simp), M.wp_bind] at hw
  obtain ⟨vs, hk, hl, hvs⟩ := viewArgs_ok h hw
  rw [M.wp_bind] at hk
  have main : ∀ (Z : Nat → Prop) (ds : List AV) (r : Pk), (∀ b, Z b → b < w.heap.size) → ArgsR (Cx.bare Z w.heap) K00 ds (c.args.toList.map a.eval) → PureC P (E.tup f) f ds r → ((∀ b, Z b → R.Z b) ∨ closed r.s r.o = true) →
      (dstT o (asTup (E.tup f) (unpackT (E.tup f) r))).wp C st k → o.wp P a w next Q := by
    intro Z ds r hZ hargs hp hcl hk
    have hrun := run_enter (P := P) (o := o) (a := a) (w := w) ho hc hp.fn
    simp only [Oper.wp, hrun, Oper.upon]
    refine Calls.mono' (hp.run w Z _ hZ hargs) ?_
    rintro e w' ⟨v, R', rfl, h', hv⟩
    obtain ⟨R2, h2, hv2⟩ := h.called h' hcl hv
    obtain ⟨st3, R3, hk, h3⟩ := dstT_ok h2 hk hv2
    exact hn _ st3 R3 _ (put_defers _ _ _) h3 hk
  by_cases hD : vs.all AV.isD = true
  · obtain ⟨ds, hk, hargs⟩ := dataArgs_D (a := a) (R := R) (xs := c.args.toList) (fun v hv => List.all_eq_true.1 hD v hv) hk hl hvs
    obtain ⟨r, hr, _, hk⟩ := hk
    rw [h.hh] at hargs
    exact main R.Z ds r h.zlt hargs (hC.pc _ _ _ hr) (.inl fun _ => id) hk
  · obtain ⟨ds, hk, hargs⟩ := dataArgs_ok h hk hl hvs
    obtain ⟨r, hr, hcl, hk⟩ := hk
    rw [h.hh] at hargs
    refine main R.allZ ds r ?_ hargs (hC.pc _ _ _ hr) (.inr (hcl (by simpa using hD))) hk
    rintro b (hb | ⟨K, n, hb⟩)
    · exact h.zlt b hb
    · exact h.lt _ _ _ hb

end Go.Proofs.Ytgebhckfdcajoaa.Ev

/- All operations. -/
namespace Go.Proofs.Ytgebhckfdcajoaa.Ev
open Go
set_option linter.unusedSimpArgs false
set_option linter.unusedVariables false

theorem lookArgs_ok {C : Orc} {w0 : Base} {w : World} {st : St} {a : Act} {ts : List (Array Value)} {R : Cx} (h : Rel w0 st (a.tmps :: ts) R w) : ∀ {xs : List Operand} {k : List AV → St → Prop}, (lookArgs xs).wp C st k → ∃ vs, k vs st ∧ (∀ v ∈ vs, v.hasOwn = false) ∧ ∀ K : Key, K.lv = st.length - 1 → ArgsR R K vs (xs.map a.eval) := by
  intro xs
  induction xs with
  | nil => intro k hw; exact ⟨[], hw, (fun v hv => by simp at hv), fun K _ => trivial⟩
  | cons x xs ih =>
    intro k hw
    simp only [lookArgs, M.wp_bind] at hw
    obtain ⟨v, hk, ho, hv⟩ := viewOp_ok h hw
    obtain ⟨vs, hk, hos, hvs⟩ := ih hk
    exact ⟨_, hk, (fun u hu => by rcases List.mem_cons.1 hu with rfl | hu; exact ho; exact hos u hu), fun K hK => ⟨hv K hK, hvs K hK⟩⟩

theorem Rel.flag {w0 : Base} {w : World} {st : St} {ts : List (Array Value)} {R : Cx} (h : Rel w0 st ts R w) {t : Nat} {s : Slot} (hg : st.get 0 t = some s) : ∃ R', Rel w0 (st.set 0 t { s with fv := true }) ts R' w := by
  let st' : St := st.set 0 t { s with fv := true }
  let R' : Cx := { R with fl := st'.fl }
  have hfl : ∀ lv n bx, R.fl lv n bx = true → R'.fl lv n bx = true := by
    intro lv n bx e
    rw [h.fl] at e
    have hl : st'.length = st.length := St.length_set ..
    show st'.fl lv n bx = true
    simp only [St.fl, hl, Bool.and_eq_true] at e ⊢
    refine ⟨e.1, ?_⟩
    by_cases hc : st.length - 1 - lv = 0 ∧ n = t
    · have e2 := e.2
      rw [hc.1, hc.2, hg] at e2
      rw [hc.1, hc.2, St.get_set, if_pos ⟨rfl, rfl⟩, hg]
      cases bx
      · rfl
      · exact e2
    · rw [St.get_set, if_neg hc]; exact e.2
  have ok : ∀ K b, R.Ok R' K b := fun K b => ⟨⟨fun _ => id, fun _ _ _ => id, fun _ _ => rfl, fun _ _ _ _ _ _ => id⟩, fun T hT e => ⟨hfl _ _ _ e, .inr ⟨rfl, fun b n arr el _ e => ⟨arr, e, rfl⟩⟩⟩⟩
  refine ⟨R', h.step2 (St.length_set ..) (fun i => St.frames_set ..) h.hh (fun _ _ _ => rfl) ?_ ?_ h.inj h.zd h.lo h.lt h.zlt h.bel⟩
  · intro i n sl' hg'
    rw [St.get_set] at hg'
    split at hg'
    · rename_i hc
      obtain ⟨rfl, rfl⟩ := hc
      rw [hg] at hg'
      simp only [Option.map_some, Option.some.injEq] at hg'
      subst hg'
      exact ⟨s, hg, .inl ⟨AV.le_refl _, ok _ _⟩⟩
    · exact ⟨sl', hg', .inl ⟨AV.le_refl _, ok _ _⟩⟩
  · intro i n sl' hg'
    rw [St.get_set] at hg'
    split at hg'
    · rename_i hc
      obtain ⟨rfl, rfl⟩ := hc
      rw [hg] at hg'
      simp only [Option.map_some, Option.some.injEq] at hg'
      subst hg'
      exact ⟨s, hg, .inl ⟨AV.le_refl _, ok _ _⟩⟩
    · exact ⟨sl', hg', .inl ⟨AV.le_refl _, ok _ _⟩⟩

theorem flagOps_ok {C : Orc} {w0 : Base} {w : World} {ts : List (Array Value)} : ∀ {xs : List Operand} {st : St} {R : Cx} (h : Rel w0 st ts R w) {k : Unit → St → Prop}, (flagOps xs).wp C st k → ∃ st1 R1, k () st1 ∧ Rel w0 st1 ts R1 w := by
  intro xs
  induction xs with
  | nil => intro st R h k hw; exact ⟨st, R, hw, h⟩
  | cons x xs ih =>
    intro st R h k hw
    cases x with
    | tmp t =>
      simp only [flagOps, M.wp_rd] at hw
      obtain ⟨s, hs, hw⟩ := hw
      split at hw
      · rw [M.wp_wr] at hw
        obtain ⟨R1, h1⟩ := h.flag hs
        exact ih h1 hw.2
      · exact ih h hw
    | _ => exact ih h hw

theorem OpOk.callInl {P : Program} {E : Env} {C : Orc} (hC : OrcOk P E C) {o : Oper} {c : Call} {f : Nat} (ho : o.op = .call c) (hc : c.callee = .value (.func f)) (hi : E.inl f = true) : OpOk P E C o := by
  intro w0 st a ts R w k next Q h hw hn
  simp only [evOp, ho, callAV, hc] at hw
  rw [if_pos hi, M.wp_bind] at hw
  obtain ⟨st0, R0, hw, h⟩ := flagOps_ok h hw
  rw [M.wp_bind] at hw
  obtain ⟨vs, hk, hos, hvs⟩ := lookArgs_ok h hw
  obtain ⟨r, st', hr, hk⟩ := hk
  rw [St.forceK_eq, AV.force_eq] at hk
  have hp := hC.ic _ _ _ _ _ hr
  have hrun := run_enter (P := P) (o := o) (a := a) (w := w) ho hc hp.fn
  simp only [Oper.wp, hrun, Oper.upon]
  refine Calls.mono' (hp.run w0 w _ R0 _ h hvs hos) ?_
  rintro e w' ⟨v, R', rfl, h', hl, hv⟩
  obtain ⟨st3, R3, hk, h3⟩ := dstT_ok h' hk hv
  exact hn _ st3 R3 _ (put_defers _ _ _) h3 hk

theorem opOk {P : Program} {E : Env} (hE : EnvOk P E) {C : Orc} (hC : OrcOk P E C) (o : Oper) : OpOk P E C o := by
  have bad : (evOp E o = .fail) → OpOk P E C o := by
    intro e w0 st a ts R w k next Q h hw hn
    rw [e] at hw; exact hw.elim
  cases ho : o.op with
  | move x => exact OpOk.move ho
  | assign x => exact OpOk.assign ho
  | pick c x y => exact OpOk.pick ho
  | alloc t => exact OpOk.alloc hE ho
  | box t x => exact OpOk.box ho
  | build t ps => exact OpOk.build hE ho
  | buildSlice t n ps => exact OpOk.buildSlice hE ho
  | load t x => exact OpOk.load hE ho
  | store t p x => exact OpOk.store hE ho
  | nilCheck x => exact OpOk.nilCheck ho
  | binOp op t x y t' => exact OpOk.binOp hE ho
  | unOp op t x => exact OpOk.unOp ho
  | convert f t x => exact OpOk.convert hE ho
  | makeSlice t l c => exact OpOk.makeSlice hE ho
  | slice t x lo hi mx =>
    cases mx with
    | none => exact OpOk.slice hE ho
    | some m => exact bad (by simp only [evOp, ho])
  | fieldAddr t x n => exact OpOk.fieldAddr hE ho
  | field t x n => exact OpOk.field hE ho
  | indexAddr t x y => exact OpOk.indexAddr hE ho
  | index t x y => exact OpOk.index hE ho
  | extract x i => exact OpOk.extract ho
  | call c =>
    cases hc : c.callee with
    | builtin b =>
      cases b with
      | len => exact OpOk.len hE ho hc
      | append => exact OpOk.append hE ho hc
      | max => exact OpOk.max ho hc
      | min => exact OpOk.min ho hc
      | _ => exact bad (by simp only [evOp, ho, callAV, hc])
    | value x =>
      cases x with
      | func f =>
        cases hi : E.inl f with
        | true => exact OpOk.callInl hC ho hc hi
        | false => exact OpOk.callPure hC ho hc hi
      | _ => exact bad (by simp only [evOp, ho, callAV, hc])
    | _ => exact bad (by simp only [evOp, ho, callAV, hc])
  | _ => exact bad (by simp only [evOp, ho])

/-! ### Regions -/

theorem St.set_self {st : St} {k s : Nat} {v : Slot} (hg : st.get k s = some v) : st.set k s v = st := by
  apply List.ext_getElem?
  intro i
  simp only [St.set, List.getElem?_modify]
  by_cases hi : k = i
  · subst hi
    simp only [St.get] at hg
    cases hf : st[k]? with
    | none => simp
    | some f =>
      simp only [hf, Option.bind_some] at hg
      simp only [if_true]
      show some (f.set s v) = some f
      congr 1
      apply List.ext_getElem?
      intro j
      by_cases hj : s = j
      · subst hj
        have := (List.getElem?_eq_some_iff.1 hg).1
        rw [List.getElem?_set_self this, hg]
      · simp [hj]
  · simp [hi]

theorem slot_eta {s : Slot} {v : AV} (h : s.v = v) : ({ s with v := v } : Slot) = s := by cases s; simp at h; simp [h]

/-- A slot of an operation that is skipped. -/
theorem skip_SV {R : Cx} {K : Key} : SV R (.tup .unit) K undef := ⟨#[], rfl, rfl⟩

theorem SV_skip {R : Cx} {K : Key} {v : Value} (h : SV R (.tup .unit) K v) : v = .tuple #[] := by
  obtain ⟨vs, rfl, h⟩ := h
  have h : vs.toList = [] := h
  rw [show vs = #[] from by cases vs; simp_all]

theorem evOps_ok {P : Program} {E : Env} (hE : EnvOk P E) {C : Orc} (hC : OrcOk P E C) {ops : Array Oper} : ∀ (r : List Oper) (n : Nat), ops.toList.drop n = r →
    ∀ {w0 : Base} {w : World} {st : St} {a : Act} {ts : List (Array Value)} {R : Cx} {k : Unit → St → Prop} {Q : Exit → Act → World → Prop}, Rel w0 st (a.tmps :: ts) R w → (evOps E ops.toList r).wp C st k →
    (∀ (a' : Act) (st' : St) (R' : Cx) (w' : World), a'.defers = a.defers → Rel w0 st' (a'.tmps :: ts) R' w' → k () st' → Q .normal a' w') →
    wpOps P ops Q (List.range' n r.length) a w := by
  intro r
  induction r with
  | nil =>
    intro n hd w0 w st a ts R k Q h hw hn
    exact hn a st R w rfl h hw
  | cons o r ih =>
    intro n hd w0 w st a ts R k Q h hw hn
    have hget : ops[n]? = some o := by
      have : ops.toList[n]? = some o := by
        have e : (ops.toList.drop n)[0]? = some o := by rw [hd]; rfl
        rw [List.getElem?_drop] at e
        simpa using e
      simpa using this
    have hd' : ops.toList.drop (n + 1) = r := by
      rw [← List.drop_drop, hd]; rfl
    simp only [List.length_cons, List.range'_succ, wpOps, hget]
    have step : ∀ {k' : Unit → St → Prop}, Region.wanted o (yielded ops a.tmps) = true → (evOp E o).wp C st (fun _ st' => (evOps E ops.toList r).wp C st' k) →
        (if Region.wanted o (yielded ops a.tmps) = true then o.wp P a w (wpOps P ops Q (List.range' (n + 1) r.length)) Q ∨ (o.asks P a w ∧ LetsOut Q) else wpOps P ops Q (List.range' (n + 1) r.length) (a.put o.dst undef) w) := by
      intro k' hwant hw
      rw [if_pos hwant]
      refine .inl (opOk hE hC o w0 st a ts R w _ _ Q h hw ?_)
      intro a' st' R' w' hdf h' hk
      exact ih (n + 1) hd' h' hk (fun a'' st'' R'' w'' hdf' h'' hk' => hn a'' st'' R'' w'' (hdf'.trans hdf) h'' hk')
    simp only [evOps] at hw
    cases hg : o.guard with
    | none =>
      rw [hg] at hw
      simp only [M.wp_bind] at hw
      exact step (k' := k) (by simp [Region.wanted, hg]) hw
    | some jw =>
      obtain ⟨j, want⟩ := jw
      rw [hg] at hw
      simp only at hw
      split at hw
      · rename_i t ht
        rw [M.wp_rd] at hw
        obtain ⟨s, hs, hw⟩ := hw
        split at hw
        · rename_i b hb
          have hsv := h.slot 0 t s _ hs rfl
          rw [hb] at hsv
          have hval := SV_bool hsv
          have hlt := h.size_lt hs
          have hy : yielded ops a.tmps j = some b := by
            have ht' : ((ops[j]?).bind (·.dst)) = some t := by rw [← Array.getElem?_toList]; exact ht
            have hv' : a.tmps[t]? = some (.bool b) := by
              rw [Array.getD_eq_getD_getElem?] at hval
              rw [Array.getElem?_eq_getElem hlt] at hval ⊢
              simpa using hval
            simp only [yielded, ht', Option.bind_some, hv']
          by_cases hbw : (b == want) = true
          · simp only [M.wp, hbw, cond_true] at hw
            have hbe : b = want := by simpa using hbw
            rw [Slot.force_eq, St.setK_eq, hs] at hw
            rw [slot_eta (by rw [hb, hbe]), St.set_self hs] at hw
            simp only [M.wp_bind] at hw
            exact step (k' := k) (by simp [Region.wanted, hg, hy, hbe]) hw
          · have hbw' : (b == want) = false := by simpa using hbw
            simp only [M.wp, hbw', cond_false] at hw
            have hbe : b = !want := by cases b <;> cases want <;> simp at hbw' ⊢
            rw [Slot.force_eq, St.setK_eq, hs] at hw
            rw [slot_eta (by rw [hb, hbe]), St.set_self hs] at hw
            have hnw : ¬ Region.wanted o (yielded ops a.tmps) = true := by
              simp only [Region.wanted, hg, hy]
              intro e
              have : b = want := by simpa using e
              rw [this] at hbw'; simp at hbw'
            rw [if_neg hnw]
            simp only [M.wp_bind] at hw
            obtain ⟨st1, R1, hk, h1⟩ := dstT_ok h hw (j := 0) (val := undef) skip_SV
            exact ih (n + 1) hd' h1 hk (fun a'' st'' R'' w'' hdf' h'' hk' => hn a'' st'' R'' w'' (hdf'.trans (put_defers _ _ _)) h'' hk')
        · rename_i hb
          have hsv := h.slot 0 t s _ hs rfl
          rw [hb] at hsv
          have hval := SV_skip hsv
          have hlt := h.size_lt hs
          have hy : yielded ops a.tmps j = none := by
            have ht' : ((ops[j]?).bind (·.dst)) = some t := by rw [← Array.getElem?_toList]; exact ht
            have hv' : a.tmps[t]? = some (.tuple #[]) := by
              rw [Array.getD_eq_getD_getElem?] at hval
              rw [Array.getElem?_eq_getElem hlt] at hval ⊢
              simpa using hval
            simp only [yielded, ht', Option.bind_some, hv']
          have hnw : ¬ Region.wanted o (yielded ops a.tmps) = true := by simp [Region.wanted, hg, hy]
          rw [if_neg hnw]
          simp only [M.wp_bind] at hw
          obtain ⟨st1, R1, hk, h1⟩ := dstT_ok h hw (j := 0) (val := undef) skip_SV
          exact ih (n + 1) hd' h1 hk (fun a'' st'' R'' w'' hdf' h'' hk' => hn a'' st'' R'' w'' (hdf'.trans (put_defers _ _ _)) h'' hk')
        · exact hw.elim
      · exact hw.elim

end Go.Proofs.Ytgebhckfdcajoaa.Ev

/- Regions that draw their order: every order comes to what the text's order comes to. -/
namespace Go.Proofs.Ytgebhckfdcajoaa.Ev
open Go
set_option linter.unusedSimpArgs false
set_option linter.unusedVariables false

/-! ### Parts -/

/-- A value that falls into two. -/
def AV.two : AV → Option (AV × AV)
  | .pair x y => some (x, y)
  | .d (.pair s t) v => some (.d s v.1, .d t v.2)
  | _ => none

/-- Another part at a path through no element. -/
def updLR (v : AV) : List Stp → AV → AV
  | [], a => if v.size = a.size then v else a
  | .l :: p, a => match a.two with
    | some (x, y) => .pair (updLR v p x) y
    | none => a
  | .r _ :: p, a => match a.two with
    | some (x, y) => .pair x (updLR v p y)
    | none => a
  | .ix _ _ :: _, a => a

theorem two_size {a x y : AV} (h : a.two = some (x, y)) : a.size = x.size + y.size := by
  cases a with
  | pair u w => cases h; rfl
  | d s v => cases s <;> simp only [AV.two] at h <;> first | (cases h; rfl) | (simp at h; done)
  | _ => simp [AV.two] at h

theorem updLR_size {v : AV} : ∀ {p : List Stp} {a : AV}, (updLR v p a).size = a.size := by
  intro p
  induction p with
  | nil => intro a; simp only [updLR]; split <;> simp_all
  | cons i p ih =>
    intro a
    cases i with
    | l =>
      simp only [updLR]
      cases h : a.two with
      | none => rfl
      | some xy => obtain ⟨x, y⟩ := xy; rw [two_size h]; simp only [AV.size, ih]
    | r n =>
      simp only [updLR]
      cases h : a.two with
      | none => rfl
      | some xy => obtain ⟨x, y⟩ := xy; rw [two_size h]; simp only [AV.size, ih]
    | ix j z => rfl

theorem ex2 {u w : AV} {P : AV → AV → Prop} : (∃ x y, (u = x ∧ w = y) ∧ P x y) ↔ P u w := ⟨fun ⟨_, _, ⟨rfl, rfl⟩, h⟩ => h, fun h => ⟨u, w, ⟨rfl, rfl⟩, h⟩⟩

theorem part_l {a : AV} {p : List Stp} {K : AV → Prop} : PartP (.l :: p) a K ↔ ∃ x y, a.two = some (x, y) ∧ PartP p x K := by
  cases a with
  | pair u w => simp [PartP, AV.stepP, AV.two]
  | d s v => cases s <;> simp [PartP, AV.stepP, AV.two]
  | _ => simp [PartP, AV.stepP, AV.two]

theorem part_r {a : AV} {n : Nat} {p : List Stp} {K : AV → Prop} : PartP (.r n :: p) a K ↔ ∃ x y, a.two = some (x, y) ∧ x.size = n ∧ PartP p y K := by
  have one : ∀ {c : Prop} [Decidable c] {b : Prop}, (if c then b else False) ↔ c ∧ b := by intro c _ b; split <;> simp_all
  cases a with
  | pair u w => simp [PartP, AV.stepP, AV.two, one, ex2]
  | d s v => cases s <;> simp [PartP, AV.stepP, AV.two, one, ex2, AV.size]
  | _ => simp [PartP, AV.stepP, AV.two]

theorem part_pair_l {x y : AV} {p : List Stp} {K : AV → Prop} : PartP (.l :: p) (.pair x y) K ↔ PartP p x K := by rw [part_l]; simp [AV.two]
theorem part_pair_r {x y : AV} {n : Nat} {p : List Stp} {K : AV → Prop} : PartP (.r n :: p) (.pair x y) K ↔ x.size = n ∧ PartP p y K := by rw [part_r]; simp [AV.two, ex2]

theorem PartP_fun : ∀ {p : List Stp} {a b c : AV}, PartP p a (fun x => x = b) → PartP p a (fun x => x = c) → b = c := by
  intro p
  induction p with
  | nil => intro a b c h1 h2; exact h1.symm.trans h2
  | cons i p ih =>
    intro a b c h1 h2
    simp only [PartP] at h1 h2
    obtain ⟨x, h3, h4⟩ := stepP_iff.1 h1
    obtain ⟨y, h5, h6⟩ := stepP_iff.1 h2
    have : x = y := by
      cases i with
      | l => cases a with
        | pair u w => exact (h3 : u = x).symm.trans h5
        | d s v => cases s <;> first | exact (h3 : AV.d _ _ = x).symm.trans h5 | exact h3.elim
        | _ => exact h3.elim
      | r n => cases a with
        | pair u w => simp only [AV.stepP] at h3 h5; split at h3 <;> simp_all
        | d s v => cases s <;> first | (simp only [AV.stepP] at h3 h5; split at h3 <;> simp_all; done) | exact h3.elim
        | _ => exact h3.elim
      | ix j z => cases a with
        | own e o l =>
          by_cases e1 : e.size = z
          · simp only [AV.stepP, if_pos e1] at h3 h5; exact h3.2.symm.trans h5.2
          · simp only [AV.stepP, if_neg e1] at h3
        | d s v => cases s <;> exact h3.elim
        | _ => exact h3.elim
    subst this
    exact ih h4 h6

theorem part_upd_off {v : AV} {K : AV → Prop} : ∀ {p q : List Stp} {a : AV}, parting p q = true → (PartP p (updLR v q a) K ↔ PartP p a K) := by
  intro p
  induction p with
  | nil => intro q a h; simp [parting] at h
  | cons i p ih =>
    intro q a h
    cases q with
    | nil => cases i <;> simp [parting] at h
    | cons j q =>
      cases i with
      | ix => simp [parting] at h
      | l => cases j with
        | ix => simp [parting] at h
        | l =>
          simp only [updLR]
          cases ht : a.two with
          | none => rfl
          | some xy => obtain ⟨x, y⟩ := xy; rw [part_pair_l, part_l, ih h]; simp [ht]
        | r m =>
          simp only [updLR]
          cases ht : a.two with
          | none => rfl
          | some xy => obtain ⟨x, y⟩ := xy; rw [part_pair_l, part_l]; simp [ht]
      | r n => cases j with
        | ix => simp [parting] at h
        | l =>
          simp only [updLR]
          cases ht : a.two with
          | none => rfl
          | some xy => obtain ⟨x, y⟩ := xy; rw [part_pair_r, part_r, updLR_size]; simp [ht, ex2]
        | r m =>
          simp only [updLR]
          cases ht : a.two with
          | none => rfl
          | some xy => obtain ⟨x, y⟩ := xy; rw [part_pair_r, part_r, ih h]; simp [ht, ex2]

theorem updLR_comm {u v : AV} : ∀ {p q : List Stp} {a : AV}, parting p q = true → updLR u p (updLR v q a) = updLR v q (updLR u p a) := by
  intro p
  induction p with
  | nil => intro q a h; simp [parting] at h
  | cons i p ih =>
    intro q a h
    cases q with
    | nil => cases i <;> simp [parting] at h
    | cons j q =>
      cases i with
      | ix => simp [parting] at h
      | l => cases j with
        | ix => simp [parting] at h
        | l => simp only [updLR]; cases ht : a.two with
          | none => simp [ht]
          | some xy => simp only [AV.two]; rw [ih h]
        | r m => simp only [updLR]; cases ht : a.two with
          | none => simp [ht]
          | some xy => simp only [AV.two]
      | r n => cases j with
        | ix => simp [parting] at h
        | l => simp only [updLR]; cases ht : a.two with
          | none => simp [ht]
          | some xy => simp only [AV.two]
        | r m => simp only [updLR]; cases ht : a.two with
          | none => simp [ht]
          | some xy => simp only [AV.two]; rw [ih h]

/-- The same part put into two values that agree there: what agreed goes on agreeing. -/
theorem part_upd_both {u o : AV} : ∀ {q p : List Stp} {a a2 : AV}, PartP q a (fun x => x = o) → PartP q a2 (fun x => x = o) → (∀ y, PartP p a (fun x => x = y) ↔ PartP p a2 (fun x => x = y)) →
    ∀ y, PartP p (updLR u q a) (fun x => x = y) ↔ PartP p (updLR u q a2) (fun x => x = y) := by
  intro q
  induction q with
  | nil => intro p a a2 h1 h2 h y; have h1 : a = o := h1; have h2 : a2 = o := h2; subst h1; subst h2; exact Iff.rfl
  | cons j q ih =>
    intro p a a2 h1 h2 h y
    cases j with
    | ix => exact h y
    | l =>
      obtain ⟨x, w, ht, g1⟩ := part_l.1 h1
      obtain ⟨x2, w2, ht2, g2⟩ := part_l.1 h2
      simp only [updLR, ht, ht2]
      cases p with
      | nil => have : a = a2 := ((h a2).2 rfl); subst this; rw [ht] at ht2; cases ht2; exact Iff.rfl
      | cons i p =>
        cases i with
        | ix => simp [PartP, AV.stepP]
        | l =>
          rw [part_pair_l, part_pair_l]
          refine ih g1 g2 (fun y => ?_) y
          have := h y
          rw [part_l, part_l, ht, ht2] at this
          simpa [ex2] using this
        | r n =>
          rw [part_pair_r, part_pair_r, updLR_size, updLR_size]
          have := h y
          rw [part_r, part_r, ht, ht2] at this
          simpa [ex2] using this
    | r m =>
      obtain ⟨x, w, ht, e1, g1⟩ := part_r.1 h1
      obtain ⟨x2, w2, ht2, e2, g2⟩ := part_r.1 h2
      simp only [updLR, ht, ht2]
      cases p with
      | nil => have : a = a2 := ((h a2).2 rfl); subst this; rw [ht] at ht2; cases ht2; exact Iff.rfl
      | cons i p =>
        cases i with
        | ix => simp [PartP, AV.stepP]
        | l =>
          rw [part_pair_l, part_pair_l]
          have := h y
          rw [part_l, part_l, ht, ht2] at this
          simpa [ex2] using this
        | r n =>
          rw [part_pair_r, part_pair_r, e1, e2]
          refine and_congr_right fun e => ?_
          refine ih g1 g2 (fun y => ?_) y
          have := h y
          rw [part_r, part_r, ht, ht2] at this
          simpa [ex2, e1, e2, e] using this

/-! ### Steps of a place, and its part -/

theorem lrs_spec : ∀ (p a : List Stp), ∃ post, p.reverse ++ a = lrs p a ++ post ∧ (post = [] ∨ ∃ j z r, post = .ix j z :: r) := by
  intro p
  induction p with
  | nil => intro a; exact ⟨[], by simp [lrs], .inl rfl⟩
  | cons i p ih =>
    intro a
    cases i with
    | l => obtain ⟨post, h1, h2⟩ := ih (.l :: a); exact ⟨post, by simpa [lrs] using h1, h2⟩
    | r n => obtain ⟨post, h1, h2⟩ := ih (.r n :: a); exact ⟨post, by simpa [lrs] using h1, h2⟩
    | ix j z =>
      obtain ⟨post, h1, h2⟩ := ih []
      refine ⟨post ++ .ix j z :: a, ?_, ?_⟩
      · simp only [List.append_nil] at h1
        simp [lrs, h1]
      · rcases h2 with rfl | ⟨j', z', r', rfl⟩
        · exact .inr ⟨j, z, a, rfl⟩
        · exact .inr ⟨j', z', _, rfl⟩

def allLR (p : List Stp) : Prop := ∀ i ∈ p, i.isLR = true
theorem lrs_LR : ∀ (p a : List Stp), allLR a → allLR (lrs p a) := by
  intro p
  induction p with
  | nil => intro a h; exact h
  | cons i p ih =>
    intro a h
    cases i with
    | l => exact ih _ (fun i hi => by rcases List.mem_cons.1 hi with rfl | hi; rfl; exact h i hi)
    | r n => exact ih _ (fun i hi => by rcases List.mem_cons.1 hi with rfl | hi; rfl; exact h i hi)
    | ix j z => exact ih _ (fun i hi => by simp at hi)

theorem part_app {K : AV → Prop} {post : List Stp} : ∀ {pre : List Stp} {a : AV}, PartP (pre ++ post) a K ↔ ∃ o, PartP pre a (fun x => x = o) ∧ PartP post o K := by
  intro pre
  induction pre with
  | nil => intro a; simp [PartP]
  | cons i pre ih =>
    intro a
    simp only [List.cons_append, PartP]
    constructor
    · intro h
      obtain ⟨b, h1, h2⟩ := stepP_iff.1 h
      obtain ⟨o, h3, h4⟩ := ih.1 h2
      exact ⟨o, stepP_iff.2 ⟨b, h1, h3⟩, h4⟩
    · rintro ⟨o, h1, h2⟩
      obtain ⟨b, h3, h4⟩ := stepP_iff.1 h1
      exact stepP_iff.2 ⟨b, h3, ih.2 ⟨o, h4, h2⟩⟩

theorem upd_l {v a : AV} {p : List Stp} {K : AV → Prop} : UpdP v (.l :: p) a K ↔ ∃ x y, a.two = some (x, y) ∧ UpdP v p x fun x' => K (.pair x' y) := by
  cases a with
  | pair u w => simp [UpdP, AV.two, ex2]
  | d s v => cases s <;> simp [UpdP, AV.two, ex2]
  | _ => simp [UpdP, AV.two]

theorem upd_r {v a : AV} {n : Nat} {p : List Stp} {K : AV → Prop} : UpdP v (.r n :: p) a K ↔ ∃ x y, a.two = some (x, y) ∧ x.size = n ∧ UpdP v p y fun y' => K (.pair x y') := by
  have one : ∀ {c : Prop} [Decidable c] {b : Prop}, (if c then b else False) ↔ c ∧ b := by intro c _ b; split <;> simp_all
  cases a with
  | pair u w => simp [UpdP, AV.two, one, ex2]
  | d s v => cases s <;> simp [UpdP, AV.two, one, ex2, AV.size]
  | _ => simp [UpdP, AV.two]

theorem upd_app {v : AV} {post : List Stp} : ∀ {pre : List Stp} {a : AV} {K : AV → Prop}, allLR pre → (UpdP v (pre ++ post) a K ↔ ∃ o, PartP pre a (fun x => x = o) ∧ ∃ o', UpdP v post o (fun x => x = o') ∧ o'.size = o.size ∧ K (updLR o' pre a)) := by
  have size : ∀ {p : List Stp} {a w : AV}, UpdP v p a (fun x => x = w) → w.size = a.size := by
    intro p
    induction p with
    | nil => intro a w h; simp only [UpdP] at h; split at h <;> simp_all
    | cons i p ih =>
      intro a w h
      cases i with
      | l =>
        obtain ⟨x, y, ht, h⟩ := upd_l.1 h
        obtain ⟨b, h1, h2⟩ := UpdP_iff.1 h
        subst h2
        rw [two_size ht]; simp only [AV.size, ih h1]
      | r n =>
        obtain ⟨x, y, ht, _, h⟩ := upd_r.1 h
        obtain ⟨b, h1, h2⟩ := UpdP_iff.1 h
        subst h2
        rw [two_size ht]; simp only [AV.size, ih h1]
      | ix j z =>
        cases a with
        | own e o l =>
          simp only [UpdP] at h
          split at h
          · obtain ⟨b, h1, h2⟩ := UpdP_iff.1 h.2
            simp only [putElemP] at h2
            split at h2
            · split at h2
              · subst h2; rfl
              · exact h2.elim
            · exact h2.elim
          · exact h.elim
        | d s x => cases s <;> simp [UpdP] at h
        | _ => simp [UpdP] at h
  intro pre
  induction pre with
  | nil =>
    intro a K _
    simp only [List.nil_append, PartP]
    constructor
    · intro h
      obtain ⟨w, h1, h2⟩ := UpdP_iff.1 h
      have e := size h1
      exact ⟨a, rfl, w, h1, e, by simp only [updLR, if_pos e]; exact h2⟩
    · rintro ⟨o, rfl, o', h1, e, h2⟩
      simp only [updLR, if_pos e] at h2
      exact UpdP_iff.2 ⟨o', h1, h2⟩
  | cons i pre ih =>
    intro a K hl
    have hl' : allLR pre := fun x hx => hl x (List.mem_cons_of_mem _ hx)
    cases i with
    | ix => have := hl _ List.mem_cons_self; simp [Stp.isLR] at this
    | l =>
      simp only [List.cons_append]
      rw [upd_l]
      constructor
      · rintro ⟨x, y, ht, h⟩
        obtain ⟨o, h1, o', h2, h3, h4⟩ := (ih hl').1 h
        exact ⟨o, part_l.2 ⟨x, y, ht, h1⟩, o', h2, h3, by simp only [updLR, ht]; exact h4⟩
      · rintro ⟨o, h1, o', h2, h3, h4⟩
        obtain ⟨x, y, ht, h1⟩ := part_l.1 h1
        simp only [updLR, ht] at h4
        exact ⟨x, y, ht, (ih hl').2 ⟨o, h1, o', h2, h3, h4⟩⟩
    | r n =>
      simp only [List.cons_append]
      rw [upd_r]
      constructor
      · rintro ⟨x, y, ht, e, h⟩
        obtain ⟨o, h1, o', h2, h3, h4⟩ := (ih hl').1 h
        exact ⟨o, part_r.2 ⟨x, y, ht, e, h1⟩, o', h2, h3, by simp only [updLR, ht]; exact h4⟩
      · rintro ⟨o, h1, o', h2, h3, h4⟩
        obtain ⟨x, y, ht, e, h1⟩ := part_r.1 h1
        simp only [updLR, ht] at h4
        exact ⟨x, y, ht, e, (ih hl').2 ⟨o, h1, o', h2, h3, h4⟩⟩

/-- The part that was put is the part that is there. -/
theorem part_upd_self {u : AV} : ∀ {p : List Stp} {a o : AV}, PartP p a (fun x => x = o) → u.size = o.size → allLR p → PartP p (updLR u p a) (fun x => x = u) := by
  intro p
  induction p with
  | nil => intro a o h e _; have h : a = o := h; subst h; simp [updLR, PartP, e]
  | cons i p ih =>
    intro a o h e hl
    have hl' : allLR p := fun x hx => hl x (List.mem_cons_of_mem _ hx)
    cases i with
    | ix => have := hl _ List.mem_cons_self; simp [Stp.isLR] at this
    | l => obtain ⟨x, y, ht, h⟩ := part_l.1 h; simp only [updLR, ht]; rw [part_pair_l]; exact ih h e hl'
    | r n => obtain ⟨x, y, ht, e1, h⟩ := part_r.1 h; simp only [updLR, ht]; rw [part_pair_r]; exact ⟨e1, ih h e hl'⟩

/-- A slot has views of a region. -/
def Slot.hasR (s : Slot) (c : Nat) : Prop := (s.regA 0).testBit c = true

theorem regA_or (v : AV) : ∀ (m c : Nat), (v.regA m).testBit c = (m.testBit c || (v.regA 0).testBit c) := by
  have one : ∀ (q : Pl) (m c : Nat), (q.regA m).testBit c = (m.testBit c || (q.regA 0).testBit c) := by
    intro q m c; simp [Pl.regA, Nat.testBit_or]
  induction v with
  | vw q e => exact one q
  | sub q e lo n => exact one q
  | ptr q => exact one q
  | pair a b iha ihb => intro m c; simp only [AV.regA]; rw [ihb, iha, ihb (a.regA 0), Bool.or_assoc]
  | tup a ih => exact ih
  | fn f a ih => exact ih
  | _ => intro m c; simp [AV.regA]

theorem slot_regA_or (s : Slot) (m c : Nat) : (s.regA m).testBit c = (m.testBit c || (s.regA 0).testBit c) := by
  simp only [Slot.regA]
  rw [regA_or s.b, regA_or s.v, regA_or s.b (s.v.regA 0), Bool.or_assoc]

/-- Where a value has no views of a region, striking them changes nothing. -/
theorem noR_clean {r : Reg} {p : List Stp} : ∀ {v : AV}, (v.regA 0).testBit (Reg.code r.k r.s r.bx) = false → v.clean r p = true := by
  have one : ∀ {q : Pl} {c : Bool}, (q.regA 0).testBit (Reg.code r.k r.s r.bx) = false → cond (q.r.same r) (!c) true = true := by
    intro q c h
    cases hs : q.r.same r with
    | false => rfl
    | true =>
      have := Reg.same_iff.1 hs
      rw [Pl.regA, this] at h
      simp [Nat.testBit_or, Nat.testBit_two_pow] at h
  intro v
  induction v with
  | vw q e => exact one
  | sub q e lo n => exact one
  | ptr q => exact one
  | pair a b iha ihb =>
    intro h
    simp only [AV.regA] at h
    rw [regA_or] at h
    simp only [Bool.or_eq_false_iff] at h
    simp only [AV.clean, iha h.1, ihb h.2, Bool.and_self]
  | tup a ih => exact ih
  | fn f a ih => exact ih
  | _ => intro _; rfl


/-! ### Values with fewer views of a region -/

inductive Sub (c : Nat) : AV → AV → Prop
  | same (a : AV) : Sub c a a
  | none {a b : AV} : (a.regA 0).testBit c = false → Sub c a b
  | pair {a b a' b' : AV} : Sub c a a' → Sub c b b' → Sub c (.pair a b) (.pair a' b')
  | tup {a a' : AV} : Sub c a a' → Sub c (.tup a) (.tup a')

theorem pair_reg {a b : AV} {c : Nat} : ((AV.pair a b).regA 0).testBit c = false ↔ (a.regA 0).testBit c = false ∧ (b.regA 0).testBit c = false := by
  simp only [AV.regA]; rw [regA_or]; simp

theorem Sub.reg {c : Nat} {a b : AV} (h : Sub c a b) : (b.regA 0).testBit c = false → (a.regA 0).testBit c = false := by
  induction h with
  | same a => exact id
  | none h => exact fun _ => h
  | pair _ _ ih1 ih2 => rw [pair_reg, pair_reg]; exact fun ⟨h1, h2⟩ => ⟨ih1 h1, ih2 h2⟩
  | tup _ ih => exact ih

theorem Sub.trans {c : Nat} {a b : AV} (h : Sub c a b) : ∀ {d : AV}, Sub c b d → Sub c a d := by
  induction h with
  | same a => exact fun g => g
  | none h => exact fun _ => .none h
  | @pair a b a' b' h1 h2 ih1 ih2 =>
    intro d g
    generalize e : AV.pair a' b' = x at g
    cases g with
    | same => subst e; exact .pair h1 h2
    | none g => subst e; exact .none ((Sub.pair h1 h2).reg g)
    | pair g1 g2 => cases e; exact .pair (ih1 g1) (ih2 g2)
    | tup g => cases e
  | @tup a a' h ih =>
    intro d g
    generalize e : AV.tup a' = x at g
    cases g with
    | same => subst e; exact .tup h
    | none g => subst e; exact .none ((Sub.tup h).reg g)
    | pair g1 g2 => cases e
    | tup g => cases e; exact .tup (ih g)

theorem Sub.clean {c : Nat} {r : Reg} {p : List Stp} {a b : AV} (hc : Reg.code r.k r.s r.bx = c) (h : Sub c a b) : b.clean r p = true → a.clean r p = true := by
  induction h with
  | same a => exact id
  | none h => exact fun _ => noR_clean (by rw [hc]; exact h)
  | pair _ _ ih1 ih2 => simp only [AV.clean, Bool.and_eq_true]; exact fun ⟨h1, h2⟩ => ⟨ih1 h1, ih2 h2⟩
  | tup _ ih => simp only [AV.clean]; exact ih

theorem d_reg {s : Sh} {x : s.den} {c : Nat} : ((AV.d s x).regA 0).testBit c = false := by simp [AV.regA]

theorem two_reg {a x y : AV} {c : Nat} (h : a.two = some (x, y)) : (a.regA 0).testBit c = false ↔ (x.regA 0).testBit c = false ∧ (y.regA 0).testBit c = false := by
  cases a with
  | pair u w => cases h; exact pair_reg
  | d s v => cases s <;> simp only [AV.two] at h <;> first | (cases h; simp [d_reg]; done) | (simp at h; done)
  | _ => simp [AV.two] at h

/-- A pair against what falls into two. -/
theorem Sub.two {c : Nat} {a x y x' y' : AV} (h : a.two = some (x, y)) (h1 : Sub c x' x) (h2 : Sub c y' y) : Sub c (.pair x' y') a := by
  cases a with
  | pair u w => cases h; exact .pair h1 h2
  | d s v => cases s <;> simp only [AV.two] at h <;> first | (cases h; exact .none (pair_reg.2 ⟨h1.reg d_reg, h2.reg d_reg⟩)) | (simp at h; done)
  | _ => simp [AV.two] at h
theorem Sub.two' {c : Nat} {a x y x' y' : AV} (h : a.two = some (x, y)) (h1 : Sub c x x') (h2 : Sub c y y') : Sub c a (.pair x' y') := by
  cases a with
  | pair u w => cases h; exact .pair h1 h2
  | d s v => cases s <;> simp only [AV.two] at h <;> first | (cases h; exact .none d_reg) | (simp at h; done)
  | _ => simp [AV.two] at h
theorem Sub.parts {c : Nat} {a a2 x y x2 y2 : AV} (h : Sub c a2 a) (e : a.two = some (x, y)) (e2 : a2.two = some (x2, y2)) : Sub c x2 x ∧ Sub c y2 y := by
  cases h with
  | same => rw [e] at e2; cases e2; exact ⟨.same _, .same _⟩
  | none h => obtain ⟨h1, h2⟩ := (two_reg e2).1 h; exact ⟨.none h1, .none h2⟩
  | pair h1 h2 => cases e; cases e2; exact ⟨h1, h2⟩
  | tup _ => simp [AV.two] at e

theorem Sub.upd_both {c : Nat} {u o : AV} : ∀ {p : List Stp} {a a2 : AV}, PartP p a (fun x => x = o) → PartP p a2 (fun x => x = o) → Sub c a2 a → Sub c (updLR u p a2) (updLR u p a) := by
  intro p
  induction p with
  | nil => intro a a2 h1 h2 _; have h1 : a = o := h1; have h2 : a2 = o := h2; subst h1; subst h2; exact .same _
  | cons i p ih =>
    intro a a2 h1 h2 h
    cases i with
    | ix => exact h
    | l =>
      obtain ⟨x, y, e, g⟩ := part_l.1 h1
      obtain ⟨x2, y2, e2, g2⟩ := part_l.1 h2
      obtain ⟨s1, s2⟩ := h.parts e e2
      simp only [updLR, e, e2]
      exact .pair (ih g g2 s1) s2
    | r n =>
      obtain ⟨x, y, e, _, g⟩ := part_r.1 h1
      obtain ⟨x2, y2, e2, _, g2⟩ := part_r.1 h2
      obtain ⟨s1, s2⟩ := h.parts e e2
      simp only [updLR, e, e2]
      exact .pair s1 (ih g g2 s2)

theorem Sub.upd_new {c : Nat} {u : AV} (hu : (u.regA 0).testBit c = false) : ∀ {p : List Stp} {a : AV}, Sub c (updLR u p a) a := by
  intro p
  induction p with
  | nil => intro a; simp only [updLR]; split; exact .none hu; exact .same _
  | cons i p ih =>
    intro a
    cases i with
    | ix => exact .same _
    | l => simp only [updLR]; cases e : a.two with
      | none => exact .same _
      | some xy => obtain ⟨x, y⟩ := xy; exact Sub.two e ih (.same _)
    | r n => simp only [updLR]; cases e : a.two with
      | none => exact .same _
      | some xy => obtain ⟨x, y⟩ := xy; exact Sub.two e (.same _) ih

theorem Sub.upd_old {c : Nat} {u o : AV} (ho : (o.regA 0).testBit c = false) : ∀ {p : List Stp} {a : AV}, PartP p a (fun x => x = o) → Sub c a (updLR u p a) := by
  intro p
  induction p with
  | nil => intro a h; have h : a = o := h; subst h; exact .none ho
  | cons i p ih =>
    intro a h
    cases i with
    | ix => exact .same _
    | l =>
      obtain ⟨x, y, e, g⟩ := part_l.1 h
      simp only [updLR, e]
      exact Sub.two' e (ih g) (.same _)
    | r n =>
      obtain ⟨x, y, e, _, g⟩ := part_r.1 h
      simp only [updLR, e]
      exact Sub.two' e (.same _) (ih g)

/-! ### Parts of bundles -/

def TupQ : List Stp → AV → AV → Prop
  | [.l], .pair x _, v => x = v
  | .r 0 :: p, .pair _ y, v => TupQ p y v
  | _, _, _ => False

/-- Does a bundle hold a value at a part? -/
def TupT (p : List Stp) (a v : AV) : Prop :=
  match a with
  | .tup b => TupQ p b v
  | _ => False

theorem tupPt_ne (i : Nat) : tupPt i ≠ [] := by cases i <;> simp [tupPt]

theorem tupQ_pt : ∀ {i : Nat} {a v : AV}, TupQ (tupPt i) a v ↔ tupGet a i = some v := by
  intro i
  induction i with
  | zero => intro a v; cases a <;> simp [tupPt, TupQ, tupGet]
  | succ i ih => intro a v; cases a <;> simp [tupPt, TupQ, tupGet, ih]

theorem tupT_pt {i : Nat} {a v : AV} (h : TupT (tupPt i) a v) : ∃ b, a = .tup b ∧ tupGet b i = some v := by
  cases a <;> simp only [TupT] at h
  exact ⟨_, rfl, tupQ_pt.1 h⟩

theorem part_tup {p : List Stp} {b o : AV} (h : p ≠ []) : ¬ PartP p (.tup b) (fun x => x = o) := by
  cases p with
  | nil => exact absurd rfl h
  | cons i p => intro h; simp [PartP, AV.stepP] at h

theorem upd_tup {p : List Stp} {b u : AV} (h : p ≠ []) : updLR u p (.tup b) = .tup b := by
  cases p with
  | nil => exact absurd rfl h
  | cons i p => cases i <;> simp [updLR, AV.two]

theorem upd_untup {p : List Stp} {a u : AV} (h : p ≠ []) (ha : ∀ b, a ≠ .tup b) : ∀ b, updLR u p a ≠ .tup b := by
  cases p with
  | nil => exact absurd rfl h
  | cons i p =>
    intro b
    cases i with
    | ix => exact ha b
    | l => simp only [updLR]; cases a.two with
      | none => exact ha b
      | some xy => simp
    | r n => simp only [updLR]; cases a.two with
      | none => exact ha b
      | some xy => simp

theorem tupT_upd {p q : List Stp} {a u o : AV} (h : q ≠ []) : TupT p (updLR u q a) o ↔ TupT p a o := by
  cases a with
  | tup b => rw [upd_tup h]
  | _ =>
    constructor
    · intro g
      unfold TupT at g
      split at g
      · rename_i b e; exact absurd e (upd_untup h (by simp) b)
      · exact g.elim
    · intro g; exact g.elim

theorem tupQ_off : ∀ {i : Nat} {p : List Stp} {a o : AV}, parting p (tupPt i) = true → (TupQ p (tupSet a i) o ↔ TupQ p a o) := by
  intro i
  induction i with
  | zero =>
    intro p a o h
    cases p with
    | nil => simp [parting] at h
    | cons j p => cases j with
      | l => cases p <;> simp [parting, tupPt] at h
      | ix => simp [parting, tupPt] at h
      | r n =>
        cases a <;> try exact Iff.rfl
        cases n <;> exact Iff.rfl
  | succ i ih =>
    intro p a o h
    cases p with
    | nil => simp [parting] at h
    | cons j p => cases j with
      | l =>
        cases a <;> try exact Iff.rfl
        cases p <;> exact Iff.rfl
      | ix => simp [parting, tupPt] at h
      | r n =>
        cases a <;> try exact Iff.rfl
        cases n with
        | zero => exact ih h
        | succ n => exact Iff.rfl

theorem tupQ_both : ∀ {i : Nat} {p : List Stp} {a a2 v : AV}, tupGet a i = some v → tupGet a2 i = some v → (∀ o, TupQ p a o ↔ TupQ p a2 o) → ∀ o, TupQ p (tupSet a i) o ↔ TupQ p (tupSet a2 i) o := by
  intro i
  induction i with
  | zero =>
    intro p a a2 v h1 h2 h o
    cases a <;> simp only [tupGet] at h1 <;> try (simp at h1; done)
    cases a2 <;> simp only [tupGet] at h2 <;> try (simp at h2; done)
    cases p with
    | nil => exact Iff.rfl
    | cons j p => cases j with
      | l => cases p <;> exact Iff.rfl
      | ix => exact Iff.rfl
      | r n => cases n with
        | zero => exact h o
        | succ n => exact Iff.rfl
  | succ i ih =>
    intro p a a2 v h1 h2 h o
    cases a <;> simp only [tupGet] at h1 <;> try (simp at h1; done)
    cases a2 <;> simp only [tupGet] at h2 <;> try (simp at h2; done)
    cases p with
    | nil => exact Iff.rfl
    | cons j p => cases j with
      | l => cases p with
        | nil => exact h o
        | cons k p => exact Iff.rfl
      | ix => exact Iff.rfl
      | r n => cases n with
        | zero => exact ih h1 h2 h o
        | succ n => exact Iff.rfl

theorem tupSet_comm : ∀ {i j : Nat} {a : AV}, parting (tupPt i) (tupPt j) = true → tupSet (tupSet a i) j = tupSet (tupSet a j) i := by
  intro i
  induction i with
  | zero =>
    intro j a h
    cases j with
    | zero => simp [parting, tupPt] at h
    | succ j => cases a <;> rfl
  | succ i ih =>
    intro j a h
    cases j with
    | zero => cases a <;> rfl
    | succ j =>
      cases a <;> try rfl
      simp only [tupSet]
      rw [ih h]

theorem Sub.tupSet_new {c : Nat} : ∀ {i : Nat} {a : AV}, Sub c (tupSet a i) a := by
  intro i
  induction i with
  | zero => intro a; cases a <;> first | exact .same _ | exact .pair (.none (by simp [AV.regA])) (.same _)
  | succ i ih => intro a; cases a <;> first | exact .same _ | exact .pair (.same _) ih

theorem Sub.tupSet_old {c : Nat} : ∀ {i : Nat} {a v : AV}, tupGet a i = some v → (v.regA 0).testBit c = false → Sub c a (tupSet a i) := by
  intro i
  induction i with
  | zero =>
    intro a v h hv
    cases a <;> simp only [tupGet] at h <;> try (simp at h; done)
    cases h
    exact .pair (.none hv) (.same _)
  | succ i ih =>
    intro a v h hv
    cases a <;> simp only [tupGet] at h <;> try (simp at h; done)
    exact .pair (.same _) (ih h hv)

theorem Sub.tupSet_both {c : Nat} : ∀ {i : Nat} {a a2 v : AV}, tupGet a i = some v → tupGet a2 i = some v → Sub c a2 a → Sub c (tupSet a2 i) (tupSet a i) := by
  intro i
  induction i with
  | zero =>
    intro a a2 v h1 h2 h
    cases a <;> simp only [tupGet] at h1 <;> try (simp at h1; done)
    cases a2 <;> simp only [tupGet] at h2 <;> try (simp at h2; done)
    obtain ⟨_, s2⟩ := h.parts rfl rfl
    exact .pair (.same _) s2
  | succ i ih =>
    intro a a2 v h1 h2 h
    cases a <;> simp only [tupGet] at h1 <;> try (simp at h1; done)
    cases a2 <;> simp only [tupGet] at h2 <;> try (simp at h2; done)
    obtain ⟨s1, s2⟩ := h.parts rfl rfl
    exact .pair s1 (ih h1 h2 s2)

theorem Sub.untup {c : Nat} {a a2 : AV} (h : Sub c (.tup a2) (.tup a)) : Sub c a2 a := by
  generalize e1 : AV.tup a2 = x at h
  generalize e2 : AV.tup a = y at h
  cases h with
  | same => subst e1; cases e2; exact .same _
  | none h => subst e1; exact .none h
  | pair _ _ => cases e1
  | tup h => cases e1; cases e2; exact h

/-! ### Runs -/

def Lg.has (l : Lg) (k s : Nat) : Prop := l.r.testBit (Lg.code k s) = true ∨ l.w.testBit (Lg.code k s) = true
def Lg.hasW (l : Lg) (k s : Nat) : Prop := l.w.testBit (Lg.code k s) = true

/-- One log holds another. -/
structure Lg.le (a b : Lg) : Prop where
  r : ∀ n, a.r.testBit n = true → b.r.testBit n = true
  w : ∀ n, a.w.testBit n = true → b.w.testBit n = true
  v : ∀ n, a.v.testBit n = true → b.v.testBit n = true
  sc : ∀ n, a.sc.testBit n = true → b.sc.testBit n = true
  ps : ∀ x ∈ a.ps, x ∈ b.ps
  qs : ∀ x ∈ a.qs, x ∈ b.qs
  all : a.all = true → b.all = true

theorem Lg.le_refl (a : Lg) : a.le a := ⟨fun _ => id, fun _ => id, fun _ => id, fun _ => id, fun _ => id, fun _ => id, id⟩
theorem Lg.le_trans {a b c : Lg} (h : a.le b) (g : b.le c) : a.le c := ⟨fun n e => g.r n (h.r n e), fun n e => g.w n (h.w n e), fun n e => g.v n (h.v n e), fun n e => g.sc n (h.sc n e), fun n e => g.ps n (h.ps n e), fun n e => g.qs n (h.qs n e), fun e => g.all (h.all e)⟩
theorem Lg.le_saw (l : Lg) (k s : Nat) : l.le (l.saw k s) := ⟨fun n e => by simp [Lg.saw, Nat.testBit_or, e], fun _ => id, fun _ => id, fun _ => id, fun _ => id, fun _ => id, id⟩
theorem Lg.le_wrote (l : Lg) (k s m : Nat) : l.le (l.wrote k s m) := ⟨fun _ => id, fun n e => by simp [Lg.wrote, Nat.testBit_or, e], fun n e => by simp [Lg.wrote, Nat.testBit_or, e], fun _ => id, fun _ => id, fun _ => id, id⟩
theorem Lg.le_sawP (l : Lg) (x : Pt) : l.le (l.sawP x) := ⟨fun _ => id, fun _ => id, fun _ => id, fun _ => id, fun _ h => List.mem_cons_of_mem _ h, fun _ => id, id⟩
theorem Lg.le_wroteP (l : Lg) (x : Pt) (m : Nat) : l.le (l.wroteP x m) := ⟨fun _ => id, fun _ => id, fun n e => by simp [Lg.wroteP, Nat.testBit_or, e], fun _ => id, fun _ h => List.mem_cons_of_mem _ h, fun _ h => List.mem_cons_of_mem _ h, id⟩
theorem Lg.le_more (l : Lg) : l.le l.more := ⟨fun _ => id, fun _ => id, fun _ => id, fun _ => id, fun _ => id, fun _ => id, fun _ => rfl⟩
theorem Lg.le_struck (l : Lg) (c : Nat) : l.le (l.struck c) := ⟨fun _ => id, fun _ => id, fun _ => id, fun n e => by simp [Lg.struck, Nat.testBit_or, e], fun _ => id, fun _ => id, id⟩

def M.Run {α : Type} (C : Orc) (m : M α) (st : St) (l0 : Lg) (a : α) (st' : St) (l : Lg) : Prop := m.wpL C st l0 fun a' s l' => a' = a ∧ s = st' ∧ l' = l

theorem wpL_run {α : Type} {C : Orc} {k : α → St → Lg → Prop} (m : M α) : ∀ {st : St} {l0 : Lg}, m.wpL C st l0 k → ∃ a st' l, m.Run C st l0 a st' l ∧ k a st' l := by
  induction m with
  | pure a => intro st l0 h; exact ⟨a, st, l0, ⟨rfl, rfl, rfl⟩, h⟩
  | rd n s g ih =>
    intro st l0 h
    simp only [M.wpL, M.Run, St.getK_eq] at h ⊢
    cases hg : st.get n s with
    | none => rw [hg] at h; exact h.elim
    | some v => rw [hg] at h; exact ih v h
  | wr n s v m ih =>
    intro st l0 h
    rw [wpL_wr] at h
    obtain ⟨u, h1, h2⟩ := h
    obtain ⟨a, st', l, h3, h4⟩ := ih h2
    refine ⟨a, st', l, ?_, h4⟩
    unfold M.Run
    rw [wpL_wr]
    exact ⟨u, h1, h3⟩
  | get q g ih =>
    intro st l0 h
    simp only [M.wpL, M.Run, Pl.ptK_eq, AV.force_eq, GetP_iff] at h ⊢
    obtain ⟨s, h1, v, h2, h3⟩ := h
    obtain ⟨a, st', l, h4, h5⟩ := ih v h3
    exact ⟨a, st', l, ⟨s, h1, v, h2, h4⟩, h5⟩
  | look q g ih =>
    intro st l0 h
    simp only [M.wpL, M.Run, Pl.ptK_eq, AV.force_eq, LookP_iff] at h ⊢
    obtain ⟨s, h1, v, h2, g1, g2, h3⟩ := h
    obtain ⟨a, st', l, h4, h5⟩ := ih v h3
    exact ⟨a, st', l, ⟨s, h1, v, h2, g1, g2, h4⟩, h5⟩
  | put q u m ih =>
    intro st l0 h
    rw [wpL_put] at h
    obtain ⟨s, h1, o, g1, v, h2, o', g2, h3⟩ := h
    obtain ⟨a, st', l, h4, h5⟩ := ih h3
    refine ⟨a, st', l, ?_, h5⟩
    unfold M.Run
    rw [wpL_put]
    exact ⟨s, h1, o, g1, v, h2, o', g2, h4⟩
  | scr s b p m ih =>
    intro st l0 h
    simp only [M.wpL, M.Run] at h ⊢
    cases hc : st.clean s b p with
    | true => rw [hc] at h; exact ih h
    | false => rw [hc] at h; exact ih h
  | ext t i g ih =>
    intro st l0 h
    rw [wpL_ext] at h
    obtain ⟨s, h1, b, h2, v, h3, h4⟩ := h
    obtain ⟨a, st', l, h5, h6⟩ := ih v h4
    refine ⟨a, st', l, ?_, h6⟩
    unfold M.Run
    rw [wpL_ext]
    exact ⟨s, h1, b, h2, v, h3, h5⟩
  | grd c m ih => intro st l0 h; obtain ⟨a, st', l, h1, h2⟩ := ih h.2; exact ⟨a, st', l, ⟨h.1, h1⟩, h2⟩
  | br b x y ihx ihy =>
    intro st l0 h
    cases b
    · exact ihy h
    · exact ihx h
  | call n as z g ih => intro st l0 h; obtain ⟨r, h1, h2, h3⟩ := h; obtain ⟨a, st', l, h4, h5⟩ := ih r h3; exact ⟨a, st', l, ⟨r, h1, h2, h4⟩, h5⟩
  | inl n as g ih => intro st l0 h; obtain ⟨r, s1, h1, h3⟩ := h; rw [St.forceK_eq, AV.force_eq] at h3; obtain ⟨a, st', l, h4, h5⟩ := ih r h3; exact ⟨a, st', l, ⟨r, s1, h1, by rw [St.forceK_eq, AV.force_eq]; exact h4⟩, h5⟩
  | fail => intro st l0 h; exact h.elim

theorem run_wp {α : Type} {C : Orc} (m : M α) : ∀ {st : St} {l0 : Lg} {a : α} {st' : St} {l : Lg}, m.Run C st l0 a st' l → m.wp C st fun a' s => a' = a ∧ s = st' := by
  induction m with
  | pure a => intro st l0 a' st' l h; exact ⟨h.1, h.2.1⟩
  | rd n s g ih =>
    intro st l0 a st' l h
    simp only [M.wpL, M.Run, M.wp, St.getK_eq] at h ⊢
    cases hg : st.get n s with
    | none => rw [hg] at h; exact h.elim
    | some v => rw [hg] at h; exact ih v h
  | wr n s v m ih =>
    intro st l0 a st' l h
    unfold M.Run at h
    rw [wpL_wr] at h
    obtain ⟨u, h1, h2⟩ := h
    rw [M.wp_wr]
    exact ⟨⟨u, h1⟩, ih h2⟩
  | get q g ih =>
    intro st l0 a st' l h
    simp only [M.wpL, M.Run, M.wp, Pl.ptK_eq, AV.force_eq, GetP_iff] at h ⊢
    obtain ⟨s, h1, v, h2, h3⟩ := h
    exact ⟨s, h1, v, h2, ih v h3⟩
  | look q g ih =>
    intro st l0 a st' l h
    simp only [M.wpL, M.Run, M.wp, Pl.ptK_eq, AV.force_eq, LookP_iff] at h ⊢
    obtain ⟨s, h1, v, h2, g1, g2, h3⟩ := h
    exact ⟨s, h1, v, h2, g1, g2, ih v h3⟩
  | put q u m ih =>
    intro st l0 a st' l h
    unfold M.Run at h
    rw [wpL_put] at h
    obtain ⟨s, h1, o, _, v, h2, o', _, h3⟩ := h
    simp only [M.wp, PutP_iff]
    exact ⟨s, h1, v, h2, ih h3⟩
  | scr s b p m ih =>
    intro st l0 a st' l h
    simp only [M.wpL, M.Run] at h
    cases hc : st.clean s b p with
    | true =>
      rw [hc] at h
      have := ih h
      show m.wp C (st.scrub s b p) _
      rw [St.clean_scrub hc]; exact this
    | false => rw [hc] at h; exact ih h
  | ext t i g ih =>
    intro st l0 a st' l h
    unfold M.Run at h
    rw [wpL_ext] at h
    obtain ⟨s, h1, b, h2, v, h3, h4⟩ := h
    exact ExtP_iff.2 ⟨s, h1, b, h2, v, h3, ih v h4⟩
  | grd c m ih => intro st l0 a st' l h; exact ⟨h.1, ih h.2⟩
  | br b x y ihx ihy =>
    intro st l0 a st' l h
    cases b
    · exact ihy h
    · exact ihx h
  | call n as z g ih => intro st l0 a st' l h; obtain ⟨r, h1, h2, h3⟩ := h; exact ⟨r, h1, h2, ih r h3⟩
  | inl n as g ih => intro st l0 a st' l h; obtain ⟨r, s1, h1, h3⟩ := h; rw [St.forceK_eq, AV.force_eq] at h3; exact ⟨r, s1, h1, by rw [St.forceK_eq, AV.force_eq]; exact ih r h3⟩
  | fail => intro st l0 a st' l h; exact h.elim

/-! ### What a run does to the slots -/

inductive Eff where
  | whole (k s : Nat) (v : Slot)
  | part (x : Pt) (u : AV)
  | tk (t i : Nat)
def Eff.k : Eff → Nat
  | .whole k _ _ => k
  | .part x _ => x.k
  | .tk _ _ => 0
def Eff.s : Eff → Nat
  | .whole _ s _ => s
  | .part x _ => x.s
  | .tk t _ => t
/-- What a bundle keeps. -/
def tkS (i : Nat) (sl : Slot) : Slot :=
  match sl with
  | ⟨.tup a, b, fv, fb⟩ => ⟨.tup (tupSet a i), b, fv, fb⟩
  | sl => sl
def Eff.f : Eff → Slot → Slot
  | .whole _ _ v, _ => v
  | .part x u, sl => sl.put x.bx (updLR u x.p (sl.at x.bx))
  | .tk _ i, sl => tkS i sl

def St.mod (st : St) (k s : Nat) (f : Slot → Slot) : St := st.modify k fun r => r.modify s f
def app (ws : List Eff) (st : St) : St := ws.foldl (fun st e => st.mod e.k e.s e.f) st

theorem St.set_mod (st : St) (k s : Nat) (v : Slot) : st.set k s v = st.mod k s fun _ => v := by
  unfold St.set St.mod
  congr 1
  funext f
  apply List.ext_getElem?
  intro i
  rw [List.getElem?_modify, List.getElem?_set]
  by_cases h : s = i
  · subst h
    by_cases h2 : s < f.length
    · simp [h2]
    · simp [h2]
  · simp only [if_neg h]; cases f[i]? <;> rfl

theorem mod_of_get {st : St} {k s : Nat} {u : Slot} {f : Slot → Slot} (h : st.get k s = some u) : st.set k s (f u) = st.mod k s f := by
  rw [St.set_mod]
  unfold St.mod
  apply List.ext_getElem?
  intro i
  rw [List.getElem?_modify, List.getElem?_modify]
  by_cases hi : k = i
  · subst hi
    simp only [St.get] at h
    cases hr : st[k]? with
    | none => rfl
    | some r =>
      rw [hr] at h
      have h : r[s]? = some u := h
      simp only [ite_true, eq_self, Option.map_eq_map, Option.map_some, Option.some.injEq]
      apply List.ext_getElem?
      intro j
      rw [List.getElem?_modify, List.getElem?_modify]
      by_cases hj : s = j
      · subst hj; rw [h]; rfl
      · simp only [if_neg hj]
  · simp only [if_neg hi]

theorem put_at (s : Slot) (bx : Bool) : s.put bx (s.at bx) = s := by cases bx <;> rfl

theorem get_mod (st : St) (k s : Nat) (f : Slot → Slot) (k' s' : Nat) : (st.mod k s f).get k' s' = if k' = k ∧ s' = s then (st.get k s).map f else st.get k' s' := by
  simp only [St.get, St.mod, List.getElem?_modify]
  by_cases h1 : k = k'
  · subst h1
    simp only [if_pos rfl, true_and]
    cases st[k]? with
    | none => simp
    | some r =>
      show (List.modify r s f)[s']? = if s' = s then Option.map f r[s]? else r[s']?
      rw [List.getElem?_modify]
      by_cases h2 : s = s'
      · subst h2; cases r[s]? <;> simp
      · rw [if_neg (fun e : s' = s => h2 e.symm)]; cases r[s']? <;> simp [h2]
  · simp only [if_neg h1]
    rw [if_neg (fun e => h1 e.1.symm)]
    cases st[k']? <;> simp

theorem mod_comm (st : St) {k s k' s' : Nat} {f g : Slot → Slot} (h : ¬ (k = k' ∧ s = s') ∨ ∀ v, f (g v) = g (f v)) : (st.mod k s f).mod k' s' g = (st.mod k' s' g).mod k s f := by
  apply List.ext_getElem?
  intro i
  simp only [St.mod, List.getElem?_modify]
  by_cases h1 : k = i <;> by_cases h2 : k' = i
  · subst h1; subst h2
    cases st[k']? with
    | none => simp
    | some r =>
      simp only [ite_true, eq_self, Option.map_eq_map, Option.map_some, Option.some.injEq]
      apply List.ext_getElem?
      intro j
      simp only [List.getElem?_modify]
      by_cases h3 : s = j <;> by_cases h4 : s' = j
      · subst h3; subst h4
        rcases h with h | h
        · exact absurd ⟨rfl, rfl⟩ h
        · cases r[s']? <;> simp [h]
      all_goals (cases r[j]? <;> simp [h3, h4])
  all_goals (cases st[i]? <;> simp [h1, h2])

def Eff.ok (l : Lg) : Eff → Prop
  | .whole k s _ => l.hasW k s
  | .part x _ => x ∈ l.qs
  | .tk t i => tupAt t i ∈ l.qs

/-- Two states agree on a part. -/
def PEq (x : Pt) (st st2 : St) : Prop :=
  (st.get x.k x.s = none ↔ st2.get x.k x.s = none) ∧ ∀ sl sl2, st.get x.k x.s = some sl → st2.get x.k x.s = some sl2 → sl2.flag x.bx = sl.flag x.bx ∧ ∀ o, (PartP x.p (sl.at x.bx) (fun u => u = o) ↔ PartP x.p (sl2.at x.bx) (fun u => u = o)) ∧ (TupT x.p (sl.at x.bx) o ↔ TupT x.p (sl2.at x.bx) o)

/-- The first state's slots hold no views of a region but where the other one's do. -/
def SubS (c : Nat) (st2 st : St) : Prop := ∀ k s sl2, st2.get k s = some sl2 → ∃ sl, st.get k s = some sl ∧ Sub c sl2.v sl.v ∧ Sub c sl2.b sl.b

theorem SubS.refl (c : Nat) (st : St) : SubS c st st := fun k s sl h => ⟨sl, h, .same _, .same _⟩
theorem SubS.trans {c : Nat} {a b d : St} (h : SubS c a b) (g : SubS c b d) : SubS c a d := by
  intro k s sl h1
  obtain ⟨sl1, h2, h3, h4⟩ := h k s sl h1
  obtain ⟨sl2, h5, h6, h7⟩ := g k s sl1 h2
  exact ⟨sl2, h5, h3.trans h6, h4.trans h7⟩

structure Agree (l : Lg) (st st2 : St) : Prop where
  sl : ∀ k s, l.has k s → st2.get k s = st.get k s
  pt : ∀ x ∈ l.ps, PEq x st st2
  sb : ∀ c, l.sc.testBit c = true → SubS c st2 st

theorem at_put (s : Slot) (bx : Bool) (v : AV) : (s.put bx v).at bx = v := by cases bx <;> rfl
theorem at_put_ne (s : Slot) {bx bx' : Bool} (h : bx ≠ bx') (v : AV) : (s.put bx v).at bx' = s.at bx' := by cases bx <;> cases bx' <;> first | rfl | exact absurd rfl h
theorem flag_put (s : Slot) (bx bx' : Bool) (v : AV) : (s.put bx v).flag bx' = s.flag bx' := by cases bx <;> cases bx' <;> rfl
theorem put_sub {c : Nat} {s s2 : Slot} {bx : Bool} {v v2 : AV} (hv : Sub c s2.v s.v) (hb : Sub c s2.b s.b) (h : Sub c v2 v) : Sub c (s2.put bx v2).v (s.put bx v).v ∧ Sub c (s2.put bx v2).b (s.put bx v).b := by
  cases bx
  · exact ⟨h, hb⟩
  · exact ⟨hv, h⟩
theorem at_sub {c : Nat} {s s2 : Slot} (bx : Bool) (hv : Sub c s2.v s.v) (hb : Sub c s2.b s.b) : Sub c (s2.at bx) (s.at bx) := by
  cases bx
  · exact hv
  · exact hb

theorem Agree.whole {l : Lg} {st st2 : St} (h : Agree l st st2) {n s : Nat} {u v : Slot} (hw : l.hasW n s) (hg : st.get n s = some u) : st2.get n s = some u ∧ Agree l (st.mod n s fun _ => v) (st2.mod n s fun _ => v) := by
  have hg2 : st2.get n s = some u := by rw [h.sl n s (.inr hw)]; exact hg
  refine ⟨hg2, ?_, ?_, ?_⟩
  · intro k t ht
    rw [get_mod, get_mod, hg2, hg, h.sl k t ht]
  · intro x hx
    unfold PEq
    rw [get_mod, get_mod, hg, hg2]
    by_cases e : x.k = n ∧ x.s = s
    · simp only [if_pos e, Option.map_some]
      exact ⟨by simp, fun sl sl2 h1 h2 => by cases h1; cases h2; exact ⟨rfl, fun _ => ⟨Iff.rfl, Iff.rfl⟩⟩⟩
    · simp only [if_neg e]
      exact h.pt x hx
  · intro c hc k t sl2
    rw [get_mod, get_mod, hg, hg2]
    split
    · intro e; cases e; exact ⟨v, rfl, .same _, .same _⟩
    · exact h.sb c hc k t sl2

theorem Agree.part {l : Lg} {st st2 : St} (h : Agree l st st2) {x : Pt} {u o : AV} {sl sl2 : Slot} (hg : st.get x.k x.s = some sl) (hg2 : st2.get x.k x.s = some sl2) (hp : PartP x.p (sl.at x.bx) (fun v => v = o)) (hp2 : PartP x.p (sl2.at x.bx) (fun v => v = o)) :
    Agree l (st.mod x.k x.s (Eff.part x u).f) (st2.mod x.k x.s (Eff.part x u).f) := by
  refine ⟨?_, ?_, ?_⟩
  · intro k t ht
    rw [get_mod, get_mod, h.sl k t ht]
    split
    · rename_i e
      rw [e.1, e.2] at ht
      rw [h.sl _ _ ht]
    · rfl
  · intro y hy
    have hpy := h.pt y hy
    unfold PEq at hpy ⊢
    rw [get_mod, get_mod, hg, hg2]
    by_cases e : y.k = x.k ∧ y.s = x.s
    · simp only [if_pos e, Option.map_some]
      refine ⟨by simp, fun a b h1 h2 => ?_⟩
      cases h1; cases h2
      rw [e.1, e.2] at hpy
      obtain ⟨f1, f2⟩ := hpy.2 sl sl2 hg hg2
      simp only [Eff.f]
      refine ⟨by rw [flag_put, flag_put]; exact f1, ?_⟩
      by_cases eb : x.bx = y.bx
      · rw [← eb, at_put, at_put]
        rw [← eb] at f2
        refine fun o' => ⟨part_upd_both hp hp2 (fun o => (f2 o).1) o', ?_⟩
        by_cases hx : x.p = []
        · rw [hx] at hp hp2 ⊢
          have e1 : sl.at x.bx = o := hp
          have e2 : sl2.at x.bx = o := hp2
          rw [e1, e2]
        · rw [tupT_upd hx, tupT_upd hx]; exact (f2 o').2
      · rw [at_put_ne _ eb, at_put_ne _ eb]; exact f2
    · simp only [if_neg e]
      exact hpy
  · intro c hc k t a2
    rw [get_mod, get_mod, hg, hg2]
    split
    · intro e; cases e
      obtain ⟨sl', g1, g2, g3⟩ := h.sb c hc x.k x.s sl2 hg2
      rw [hg] at g1; cases g1
      exact ⟨_, rfl, put_sub g2 g3 (Sub.upd_both hp hp2 (at_sub _ g2 g3))⟩
    · exact h.sb c hc k t a2

theorem tkS_eq {sl : Slot} {a : AV} {i : Nat} (h : sl.v = .tup a) : tkS i sl = { sl with v := .tup (tupSet a i) } := by
  obtain ⟨v, b, fv, fb⟩ := sl
  have h : v = .tup a := h
  subst h; rfl

theorem Agree.take {l : Lg} {st st2 : St} (h : Agree l st st2) {t i : Nat} {a a2 v : AV} {sl sl2 : Slot} (hg : st.get 0 t = some sl) (hg2 : st2.get 0 t = some sl2) (ha : sl.v = .tup a) (ha2 : sl2.v = .tup a2) (hv : tupGet a i = some v) (hv2 : tupGet a2 i = some v) :
    Agree l (st.mod 0 t (tkS i)) (st2.mod 0 t (tkS i)) := by
  refine ⟨?_, ?_, ?_⟩
  · intro k n ht
    rw [get_mod, get_mod, h.sl k n ht]
    split
    · rename_i e
      rw [e.1, e.2] at ht
      rw [h.sl _ _ ht]
    · rfl
  · intro y hy
    have hpy := h.pt y hy
    unfold PEq at hpy ⊢
    rw [get_mod, get_mod, hg, hg2]
    by_cases e : y.k = 0 ∧ y.s = t
    · simp only [if_pos e, Option.map_some]
      refine ⟨by simp, fun u w h1 h2 => ?_⟩
      cases h1; cases h2
      rw [e.1, e.2] at hpy
      obtain ⟨f1, f2⟩ := hpy.2 sl sl2 hg hg2
      rw [tkS_eq ha, tkS_eq ha2]
      cases eb : y.bx with
      | true => rw [eb] at f1 f2; exact ⟨f1, f2⟩
      | false =>
        rw [eb] at f1 f2
        refine ⟨f1, fun o => ?_⟩
        have f2 : ∀ o, (PartP y.p sl.v (fun u => u = o) ↔ PartP y.p sl2.v (fun u => u = o)) ∧ (TupT y.p sl.v o ↔ TupT y.p sl2.v o) := f2
        rw [ha, ha2] at f2
        show (PartP y.p (.tup (tupSet a i)) (fun u => u = o) ↔ PartP y.p (.tup (tupSet a2 i)) (fun u => u = o)) ∧ (TupQ y.p (tupSet a i) o ↔ TupQ y.p (tupSet a2 i) o)
        refine ⟨?_, tupQ_both hv hv2 (fun o => (f2 o).2) o⟩
        by_cases hp : y.p = []
        · rw [hp] at f2 ⊢
          have : AV.tup a2 = .tup a := (f2 (.tup a)).1.1 rfl
          cases this
          exact Iff.rfl
        · exact ⟨fun g => absurd g (part_tup hp), fun g => absurd g (part_tup hp)⟩
    · simp only [if_neg e]
      exact hpy
  · intro c hc k n w
    rw [get_mod, get_mod, hg, hg2]
    split
    · intro e; cases e
      obtain ⟨sl', g1, g2, g3⟩ := h.sb c hc 0 t sl2 hg2
      rw [hg] at g1; cases g1
      rw [ha, ha2] at g2
      refine ⟨_, rfl, ?_⟩
      rw [tkS_eq ha, tkS_eq ha2]
      exact ⟨.tup (Sub.tupSet_both hv hv2 g2.untup), g3⟩
    · exact h.sb c hc k n w

theorem clean_iff {s : Nat} {bx : Bool} {p : List Stp} {st : St} : st.clean s bx p = true ↔ ∀ n sl, st.get 0 n = some sl → sl.v.clean ⟨0, s, bx⟩ p = true ∧ sl.b.clean ⟨0, s, bx⟩ p = true := by
  cases st with
  | nil => simp [St.clean, St.get]
  | cons f o =>
    have key : ∀ {f : Frm}, Frm.clean ⟨0, s, bx⟩ p f = true ↔ ∀ (n : Nat) (sl : Slot), f[n]? = some sl → sl.v.clean ⟨0, s, bx⟩ p = true ∧ sl.b.clean ⟨0, s, bx⟩ p = true := by
      intro f
      induction f with
      | nil => simp [Frm.clean]
      | cons a f ih =>
        simp only [Frm.clean, Bool.and_eq_true, ih]
        constructor
        · rintro ⟨h1, h2⟩ n sl hn
          cases n with
          | zero => simp at hn; subst hn; exact h1
          | succ n => exact h2 n sl (by simpa using hn)
        · intro h
          exact ⟨h 0 a rfl, fun n sl hn => h (n + 1) sl (by simpa using hn)⟩
    simpa [St.clean, St.get] using key


theorem le_bit {l0 l : Lg} (hl : l.all = false) (hle : l0.le l) : l0.all = false := by
  cases e : l0.all with
  | false => rfl
  | true => rw [hle.all e] at hl; simp at hl
theorem saw_has {l0 l : Lg} {n s : Nat} (hle : (l0.saw n s).le l) : l.has n s := .inl (hle.r _ (by simp [Lg.saw, Nat.testBit_or, Nat.testBit_two_pow]))
theorem wrote_has {l0 l : Lg} {n s m : Nat} (hle : (l0.wrote n s m).le l) : l.hasW n s ∧ ∀ c, l.v.testBit c = false → m.testBit c = false :=
  ⟨hle.w _ (by simp [Lg.wrote, Nat.testBit_or, Nat.testBit_two_pow]), fun c e => by
    cases h : m.testBit c with
    | false => rfl
    | true => rw [hle.v c (by simp [Lg.wrote, Nat.testBit_or, h])] at e; simp at e⟩
theorem sawP_has {l0 l : Lg} {x : Pt} (hle : (l0.sawP x).le l) : x ∈ l.ps := hle.ps _ List.mem_cons_self
theorem wroteP_has {l0 l : Lg} {x : Pt} {m : Nat} (hle : (l0.wroteP x m).le l) : x ∈ l.ps ∧ x ∈ l.qs ∧ ∀ c, l.v.testBit c = false → m.testBit c = false :=
  ⟨hle.ps _ List.mem_cons_self, hle.qs _ List.mem_cons_self, fun c e => by
    cases h : m.testBit c with
    | false => rfl
    | true => rw [hle.v c (by simp [Lg.wroteP, Nat.testBit_or, h])] at e; simp at e⟩

/-- What a place finds is told by the part that it lies in. -/
theorem PEq.get {q : Pl} {st st2 : St} {s : Slot} {v : AV} (h : PEq q.pt st st2) (hg : st.get q.r.k q.r.s = some s) (hp : PartP q.p.reverse (s.at q.r.bx) (fun u => u = v)) :
    ∃ s2, st2.get q.r.k q.r.s = some s2 ∧ PartP q.p.reverse (s2.at q.r.bx) (fun u => u = v) ∧ s2.flag q.r.bx = s.flag q.r.bx := by
  cases hg2 : st2.get q.r.k q.r.s with
  | none => have := h.1.2 hg2; rw [show st.get q.pt.k q.pt.s = some s from hg] at this; simp at this
  | some s2 =>
    obtain ⟨h1, h2⟩ := h.2 s s2 hg hg2
    refine ⟨s2, rfl, ?_, h1⟩
    obtain ⟨post, e, _⟩ := lrs_spec q.p []
    rw [List.append_nil] at e
    rw [e, part_app] at hp ⊢
    obtain ⟨o, g1, g2⟩ := hp
    exact ⟨o, (h2 o).1.1 g1, g2⟩

/-- What a run needs of the state is what its log tells. -/
theorem run_frame {α : Type} {C : Orc} (m : M α) : ∀ {st : St} {l0 : Lg} {a : α} {st' : St} {l : Lg}, m.Run C st l0 a st' l → l.all = false →
    l0.le l ∧ ∃ ws : List Eff, st' = app ws st ∧ (∀ e ∈ ws, e.ok l) ∧ (∀ c, l.v.testBit c = false → SubS c st' st ∧ SubS c st st') ∧
      ∀ st2 : St, Agree l st st2 → m.Run C st2 l0 a (app ws st2) l := by
  induction m with
  | pure a =>
    intro st l0 a' st' l h hl
    obtain ⟨rfl, rfl, rfl⟩ := h
    exact ⟨Lg.le_refl _, [], rfl, (fun u hu => by simp at hu), (fun c _ => ⟨.refl _ _, .refl _ _⟩), fun st2 _ => ⟨rfl, rfl, rfl⟩⟩
  | rd n s g ih =>
    intro st l0 a st' l h hl
    simp only [M.wpL, M.Run, St.getK_eq] at h
    cases hg : st.get n s with
    | none => rw [hg] at h; exact h.elim
    | some v =>
      rw [hg] at h
      obtain ⟨hle, ws, h1, h2, h3, h5⟩ := ih v h hl
      refine ⟨Lg.le_trans (Lg.le_saw _ _ _) hle, ws, h1, h2, h3, fun st2 hs => ?_⟩
      simp only [M.wpL, M.Run, St.getK_eq]
      rw [hs.sl n s (saw_has hle), hg]
      exact h5 st2 hs
  | wr n s v m ih =>
    intro st l0 a st' l h hl
    unfold M.Run at h
    rw [wpL_wr, ] at h
    obtain ⟨u, hg, h⟩ := h
    rw [St.set_mod] at h
    obtain ⟨hle, ws, h1, h2, h3, h5⟩ := ih h hl
    obtain ⟨hw, hv⟩ := wrote_has hle
    refine ⟨Lg.le_trans (Lg.le_wrote _ _ _ _) hle, .whole n s v :: ws, h1, ?_, ?_, fun st2 hs => ?_⟩
    · intro x hx
      rcases List.mem_cons.1 hx with rfl | hx
      · exact hw
      · exact h2 x hx
    · intro c hc
      obtain ⟨g1, g2⟩ := h3 c hc
      have hno := hv c hc
      rw [slot_regA_or] at hno
      simp only [Bool.or_eq_false_iff] at hno
      have spl : ∀ {t : Slot}, (t.regA 0).testBit c = false → (t.v.regA 0).testBit c = false ∧ (t.b.regA 0).testBit c = false := by
        intro t ht
        simp only [Slot.regA] at ht
        rw [regA_or] at ht
        simpa using ht
      have e1 : SubS c (st.mod n s fun _ => v) st := by
        intro k t sl2 h
        rw [get_mod, hg] at h
        split at h
        · rename_i e; cases h; rw [e.1, e.2]; exact ⟨u, hg, .none (spl hno.2).1, .none (spl hno.2).2⟩
        · exact ⟨sl2, h, .same _, .same _⟩
      have e2 : SubS c st (st.mod n s fun _ => v) := by
        intro k t sl2 h
        rw [get_mod, hg]
        split
        · rename_i e; rw [e.1, e.2, hg] at h; cases h; exact ⟨v, rfl, .none (spl hno.1).1, .none (spl hno.1).2⟩
        · exact ⟨sl2, h, .same _, .same _⟩
      exact ⟨g1.trans e1, e2.trans g2⟩
    · obtain ⟨hg2, hs'⟩ := hs.whole (v := v) hw hg
      unfold M.Run
      rw [wpL_wr]
      refine ⟨u, hg2, ?_⟩
      rw [St.set_mod]
      exact h5 _ hs'
  | get q g ih =>
    intro st l0 a st' l h hl
    simp only [M.wpL, M.Run, Pl.ptK_eq, AV.force_eq, GetP_iff] at h
    obtain ⟨s0, g1, v, g2, g3⟩ := h
    obtain ⟨hle, ws, h1, h2, h3, h5⟩ := ih v g3 hl
    refine ⟨Lg.le_trans (Lg.le_sawP _ _) hle, ws, h1, h2, h3, fun st2 hs => ?_⟩
    obtain ⟨s2, k1, k2, _⟩ := (hs.pt _ (sawP_has hle)).get g1 g2
    simp only [M.wpL, M.Run, Pl.ptK_eq, AV.force_eq, GetP_iff]
    exact ⟨s2, k1, v, k2, h5 st2 hs⟩
  | look q g ih =>
    intro st l0 a st' l h hl
    simp only [M.wpL, M.Run, Pl.ptK_eq, AV.force_eq, LookP_iff] at h
    obtain ⟨s0, g1, v, g2, e1, e2, g3⟩ := h
    obtain ⟨hle, ws, h1, h2, h3, h5⟩ := ih v g3 hl
    refine ⟨Lg.le_trans (Lg.le_sawP _ _) hle, ws, h1, h2, h3, fun st2 hs => ?_⟩
    obtain ⟨s2, k1, k2, k3⟩ := (hs.pt _ (sawP_has hle)).get g1 g2
    simp only [M.wpL, M.Run, Pl.ptK_eq, AV.force_eq, LookP_iff]
    exact ⟨s2, k1, v, k2, e1, by rw [k3]; exact e2, h5 st2 hs⟩
  | put q u m ih =>
    intro st l0 a st' l h hl
    unfold M.Run at h
    rw [wpL_put] at h
    obtain ⟨s0, g1, o, go, w, gw, o', go', g3⟩ := h
    obtain ⟨post, e, _⟩ := lrs_spec q.p []
    rw [List.append_nil] at e
    have hLR : allLR (lrs q.p []) := lrs_LR _ _ (fun i hi => by simp at hi)
    rw [e] at gw
    obtain ⟨o1, k1, o2, k2, k3, k4⟩ := (upd_app hLR).1 gw
    have k4 : updLR o2 (lrs q.p []) (s0.at q.r.bx) = w := k4
    cases PartP_fun go k1
    have k5 := part_upd_self k1 k3 hLR
    rw [k4] at k5
    cases PartP_fun go' k5
    have hset : ∀ (t : St) (s : Slot), t.get q.r.k q.r.s = some s → t.set q.r.k q.r.s (s.put q.r.bx (updLR o' (lrs q.p []) (s.at q.r.bx))) = t.mod q.pt.k q.pt.s (Eff.part q.pt o').f :=
      fun t s hs => mod_of_get (f := (Eff.part q.pt o').f) hs
    rw [← k4, hset st s0 g1] at g3
    obtain ⟨hle, ws, h1, h2, h3, h5⟩ := ih g3 hl
    obtain ⟨hps, hqs, hv⟩ := wroteP_has hle
    refine ⟨Lg.le_trans (Lg.le_wroteP _ _ _) hle, .part q.pt o' :: ws, h1, ?_, ?_, fun st2 hs => ?_⟩
    · intro x hx
      rcases List.mem_cons.1 hx with rfl | hx
      · exact hqs
      · exact h2 x hx
    · intro c hc
      obtain ⟨j1, j2⟩ := h3 c hc
      have hno := hv c hc
      rw [regA_or] at hno
      simp only [Bool.or_eq_false_iff] at hno
      have e1 : SubS c (st.mod q.pt.k q.pt.s (Eff.part q.pt o').f) st := by
        intro k t sl2 h
        rw [get_mod, show st.get q.pt.k q.pt.s = some s0 from g1] at h
        split at h
        · rename_i e; cases h; rw [e.1, e.2]
          have := put_sub (s := s0) (s2 := s0) (bx := q.r.bx) (.same _) (.same _) (Sub.upd_new (c := c) hno.2 (p := lrs q.p []) (a := s0.at q.r.bx))
          rw [put_at] at this
          exact ⟨s0, g1, this⟩
        · exact ⟨sl2, h, .same _, .same _⟩
      have e2 : SubS c st (st.mod q.pt.k q.pt.s (Eff.part q.pt o').f) := by
        intro k t sl2 h
        rw [get_mod, show st.get q.pt.k q.pt.s = some s0 from g1]
        split
        · rename_i e; rw [e.1, e.2, show st.get q.pt.k q.pt.s = some s0 from g1] at h; cases h
          have := put_sub (s := s0) (s2 := s0) (bx := q.r.bx) (.same _) (.same _) (Sub.upd_old (c := c) (u := o') hno.1 go)
          rw [put_at] at this
          exact ⟨_, rfl, this⟩
        · exact ⟨sl2, h, .same _, .same _⟩
      exact ⟨j1.trans e1, e2.trans j2⟩
    · have hpe := hs.pt _ hps
      cases hg2 : st2.get q.r.k q.r.s with
      | none => have := hpe.1.2 hg2; rw [show st.get q.pt.k q.pt.s = some s0 from g1] at this; simp at this
      | some s2 =>
        have kp : PartP (lrs q.p []) (s2.at q.r.bx) (fun x => x = o) := ((hpe.2 s0 s2 g1 hg2).2 o).1.1 go
        unfold M.Run
        rw [wpL_put]
        refine ⟨s2, hg2, o, kp, updLR o' (lrs q.p []) (s2.at q.r.bx), ?_, o', part_upd_self kp k3 hLR, ?_⟩
        · rw [e]; exact (upd_app hLR).2 ⟨o, kp, o', k2, k3, rfl⟩
        · rw [hset st2 s2 hg2]
          exact h5 _ (hs.part (x := q.pt) (u := o') g1 hg2 go kp)
  | scr s b p m ih =>
    intro st l0 a st' l h hl
    simp only [M.wpL, M.Run] at h
    cases hc : st.clean s b p with
    | false =>
      rw [hc] at h
      obtain ⟨hle, _⟩ := ih h hl
      have := hle.all rfl
      rw [this] at hl; simp at hl
    | true =>
      rw [hc] at h
      obtain ⟨hle, ws, h1, h2, h3, h5⟩ := ih h hl
      refine ⟨Lg.le_trans (Lg.le_struck _ _) hle, ws, h1, h2, h3, fun st2 hs => ?_⟩
      have hbit : l.sc.testBit (Reg.code 0 s b) = true := hle.sc _ (by simp [Lg.struck, Nat.testBit_or, Nat.testBit_two_pow])
      have hc2 : st2.clean s b p = true := by
        rw [clean_iff] at hc ⊢
        intro n sl hn
        obtain ⟨sl1, e1, e2, e3⟩ := hs.sb _ hbit 0 n sl hn
        obtain ⟨c1, c2⟩ := hc n sl1 e1
        exact ⟨e2.clean rfl c1, e3.clean rfl c2⟩
      simp only [M.wpL, M.Run, hc2, cond_true]
      exact h5 st2 hs
  | ext t i g ih =>
    intro st l0 a st' l h hl
    unfold M.Run at h
    rw [wpL_ext] at h
    obtain ⟨s, g1, b, g2, v, g3, g4⟩ := h
    have hT : TupT (tupPt i) (s.at false) v := by
      show TupT (tupPt i) s.v v
      rw [g2]; exact tupQ_pt.2 g3
    have other : ∀ {st2 : St}, PEq (tupAt t i) st st2 → ∃ s2, st2.get 0 t = some s2 ∧ ∃ b2, s2.v = .tup b2 ∧ tupGet b2 i = some v := by
      intro st2 hpe
      cases hg2 : st2.get 0 t with
      | none => have := hpe.1.2 hg2; rw [show st.get (tupAt t i).k (tupAt t i).s = some s from g1] at this; simp at this
      | some s2 =>
        obtain ⟨b2, e1, e2⟩ := tupT_pt (((hpe.2 s s2 g1 hg2).2 v).2.1 hT)
        exact ⟨s2, rfl, b2, e1, e2⟩
    cases ho : v.hasOwn with
    | false =>
      simp only [extLg, ho, cond_false] at g4
      obtain ⟨hle, ws, h1, h2, h3, h5⟩ := ih v g4 hl
      refine ⟨Lg.le_trans (Lg.le_sawP _ _) hle, ws, h1, h2, h3, fun st2 hs => ?_⟩
      obtain ⟨s2, k1, b2, k2, k3⟩ := other (hs.pt _ (sawP_has hle))
      unfold M.Run
      rw [wpL_ext]
      refine ⟨s2, k1, b2, k2, v, k3, ?_⟩
      simp only [extLg, ho, cond_false]
      exact h5 st2 hs
    | true =>
      simp only [extLg, ho, cond_true] at g4
      have hset : ∀ {st : St} {s : Slot} {b : AV}, st.get 0 t = some s → s.v = .tup b → st.set 0 t { s with v := .tup (tupSet b i) } = st.mod 0 t (tkS i) := by
        intro st s b e1 e2
        rw [← tkS_eq e2]
        exact mod_of_get (f := tkS i) e1
      rw [hset g1 g2] at g4
      obtain ⟨hle, ws, h1, h2, h3, h5⟩ := ih v g4 hl
      obtain ⟨hps, hqs, hv⟩ := wroteP_has hle
      refine ⟨Lg.le_trans (Lg.le_wroteP _ _ _) hle, .tk t i :: ws, h1, ?_, ?_, fun st2 hs => ?_⟩
      · intro x hx
        rcases List.mem_cons.1 hx with rfl | hx
        · exact hqs
        · exact h2 x hx
      · intro c hc
        obtain ⟨j1, j2⟩ := h3 c hc
        have hno := hv c hc
        have e1 : SubS c (st.mod 0 t (tkS i)) st := by
          intro k n sl2 h
          rw [get_mod, g1] at h
          split at h
          · rename_i e; cases h; rw [e.1, e.2]
            refine ⟨s, g1, ?_⟩
            rw [tkS_eq g2, g2]
            exact ⟨.tup Sub.tupSet_new, .same _⟩
          · exact ⟨sl2, h, .same _, .same _⟩
        have e2 : SubS c st (st.mod 0 t (tkS i)) := by
          intro k n sl2 h
          rw [get_mod, g1]
          split
          · rename_i e; rw [e.1, e.2, g1] at h; cases h
            refine ⟨_, rfl, ?_⟩
            rw [tkS_eq g2, g2]
            exact ⟨.tup (Sub.tupSet_old g3 hno), .same _⟩
          · exact ⟨sl2, h, .same _, .same _⟩
        exact ⟨j1.trans e1, e2.trans j2⟩
      · obtain ⟨s2, k1, b2, k2, k3⟩ := other (hs.pt _ hps)
        unfold M.Run
        rw [wpL_ext]
        refine ⟨s2, k1, b2, k2, v, k3, ?_⟩
        simp only [extLg, ho, cond_true]
        rw [hset k1 k2]
        exact h5 _ (hs.take g1 k1 g2 k2 g3 k3)
  | grd c m ih =>
    intro st l0 a st' l h hl
    obtain ⟨hle, ws, h1, h2, h3, h5⟩ := ih h.2 hl
    exact ⟨hle, ws, h1, h2, h3, fun st2 hs => ⟨h.1, h5 st2 hs⟩⟩
  | br b x y ihx ihy =>
    intro st l0 a st' l h hl
    cases b
    · exact ihy h hl
    · exact ihx h hl
  | call n as z g ih =>
    intro st l0 a st' l h hl
    obtain ⟨r, g1, g2, g3⟩ := h
    obtain ⟨hle, ws, h1, h2, h3, h5⟩ := ih r g3 hl
    exact ⟨hle, ws, h1, h2, h3, fun st2 hs => ⟨r, g1, g2, h5 st2 hs⟩⟩
  | inl n as g ih =>
    intro st l0 a st' l h hl
    obtain ⟨r, s1, g1, g3⟩ := h
    rw [St.forceK_eq, AV.force_eq] at g3
    obtain ⟨hle, _⟩ := ih r g3 hl
    have := hle.all rfl
    rw [this] at hl; simp at hl
  | fail => intro st l0 a st' l h; exact h.elim

theorem PEq.refl (x : Pt) (st : St) : PEq x st st := ⟨Iff.rfl, fun a b h1 h2 => by rw [h1] at h2; cases h2; exact ⟨rfl, fun _ => ⟨Iff.rfl, Iff.rfl⟩⟩⟩
theorem PEq.symm {x : Pt} {a b : St} (h : PEq x a b) : PEq x b a := ⟨h.1.symm, fun s t h1 h2 => ⟨(h.2 t s h2 h1).1.symm, fun o => ⟨((h.2 t s h2 h1).2 o).1.symm, ((h.2 t s h2 h1).2 o).2.symm⟩⟩⟩
theorem PEq.trans {x : Pt} {a b c : St} (h : PEq x a b) (g : PEq x b c) : PEq x a c := by
  refine ⟨h.1.trans g.1, fun s t h1 h2 => ?_⟩
  cases hb : b.get x.k x.s with
  | none => rw [h.1.2 hb] at h1; simp at h1
  | some u =>
    obtain ⟨e1, e2⟩ := h.2 s u h1 hb
    obtain ⟨e3, e4⟩ := g.2 u t hb h2
    exact ⟨e3.trans e1, fun o => ⟨(e2 o).1.trans (e4 o).1, (e2 o).2.trans (e4 o).2⟩⟩

/-- An effect does not touch a slot, or a part. -/
def Eff.offS (e : Eff) (k s : Nat) : Prop := ¬ (e.k = k ∧ e.s = s)
def Eff.offP : Eff → Pt → Prop
  | .whole k s _, x => ¬ (k = x.k ∧ s = x.s)
  | .part y _, x => y.k = x.k ∧ y.s = x.s ∧ y.bx = x.bx → parting x.p y.p = true
  | .tk t i, x => 0 = x.k ∧ t = x.s ∧ false = x.bx → parting x.p (tupPt i) = true

theorem get_app {k s : Nat} : ∀ {ws : List Eff} {st : St}, (∀ e ∈ ws, e.offS k s) → (app ws st).get k s = st.get k s := by
  intro ws
  induction ws with
  | nil => intro st _; rfl
  | cons e ws ih =>
    intro st h
    show (app ws (st.mod e.k e.s e.f)).get k s = _
    rw [ih (fun x hx => h x (List.mem_cons_of_mem _ hx)), get_mod, if_neg]
    rintro ⟨e1, e2⟩
    exact h e List.mem_cons_self ⟨e1.symm, e2.symm⟩

theorem PEq_mod {e : Eff} {x : Pt} {st : St} (h : e.offP x) : PEq x st (st.mod e.k e.s e.f) := by
  unfold PEq
  rw [get_mod]
  by_cases hs : x.k = e.k ∧ x.s = e.s
  · simp only [if_pos hs]
    rw [hs.1, hs.2]
    refine ⟨by simp, fun a b h1 h2 => ?_⟩
    rw [h1] at h2
    cases h2
    cases e with
    | whole k s v => exact absurd ⟨hs.1.symm, hs.2.symm⟩ h
    | part y u =>
      simp only [Eff.f]
      refine ⟨flag_put _ _ _ _, fun o => ?_⟩
      by_cases eb : y.bx = x.bx
      · have hp := h ⟨hs.1.symm, hs.2.symm, eb⟩
        have hne : y.p ≠ [] := by intro e; rw [e] at hp; cases hx : x.p with
          | nil => rw [hx] at hp; simp [parting] at hp
          | cons i r => rw [hx] at hp; cases i <;> simp [parting] at hp
        rw [eb, at_put]; exact ⟨(part_upd_off hp).symm, (tupT_upd hne).symm⟩
      · rw [at_put_ne _ eb]; exact ⟨Iff.rfl, Iff.rfl⟩
    | tk t i =>
      have hrfl : ∀ {s : Slot} (bx : Bool), s.flag bx = s.flag bx ∧ ∀ o, (PartP x.p (s.at bx) (fun u => u = o) ↔ PartP x.p (s.at bx) (fun u => u = o)) ∧ (TupT x.p (s.at bx) o ↔ TupT x.p (s.at bx) o) := fun _ => ⟨rfl, fun _ => ⟨Iff.rfl, Iff.rfl⟩⟩
      show (tkS i a).flag x.bx = a.flag x.bx ∧ ∀ o, (PartP x.p (a.at x.bx) (fun u => u = o) ↔ PartP x.p ((tkS i a).at x.bx) (fun u => u = o)) ∧ (TupT x.p (a.at x.bx) o ↔ TupT x.p ((tkS i a).at x.bx) o)
      obtain ⟨v, b, fv, fb⟩ := a
      cases v <;> try exact hrfl _
      rename_i b'
      cases eb : x.bx with
      | true => exact hrfl (s := ⟨.tup b', b, fv, fb⟩) true
      | false =>
        have hp := h ⟨hs.1.symm, hs.2.symm, eb.symm⟩
        have hne : x.p ≠ [] := by intro e; rw [e] at hp; simp [parting] at hp
        exact ⟨rfl, fun o => ⟨⟨fun g => absurd g (part_tup hne), fun g => absurd g (part_tup hne)⟩, (tupQ_off hp).symm⟩⟩
  · simp only [if_neg hs]
    exact ⟨by simp, (PEq.refl x st).2⟩

theorem PEq_app {x : Pt} : ∀ {ws : List Eff} {st : St}, (∀ e ∈ ws, e.offP x) → PEq x st (app ws st) := by
  intro ws
  induction ws with
  | nil => intro st _; exact PEq.refl _ _
  | cons e ws ih =>
    intro st h
    exact (PEq_mod (h e List.mem_cons_self)).trans (ih (fun y hy => h y (List.mem_cons_of_mem _ hy)))

/-- Two effects may change places. -/
def Eff.comm (e g : Eff) : Prop := ¬ (e.k = g.k ∧ e.s = g.s) ∨ ∀ v, e.f (g.f v) = g.f (e.f v)

theorem mod_app {e : Eff} : ∀ {ws : List Eff} {st : St}, (∀ g ∈ ws, e.comm g) → app ws (st.mod e.k e.s e.f) = (app ws st).mod e.k e.s e.f := by
  intro ws
  induction ws with
  | nil => intro st _; rfl
  | cons g ws ih =>
    intro st h
    show app ws ((st.mod e.k e.s e.f).mod g.k g.s g.f) = (app ws (st.mod g.k g.s g.f)).mod e.k e.s e.f
    rw [mod_comm st (h g List.mem_cons_self), ih (fun x hx => h x (List.mem_cons_of_mem _ hx))]

theorem app_comm {ws : List Eff} : ∀ {vs : List Eff} {st : St}, (∀ e ∈ vs, ∀ g ∈ ws, e.comm g) → app ws (app vs st) = app vs (app ws st) := by
  intro vs
  induction vs with
  | nil => intro st _; rfl
  | cons v vs ih =>
    intro st h
    show app ws (app vs (st.mod v.k v.s v.f)) = app vs ((app ws st).mod v.k v.s v.f)
    rw [ih (fun e he => h e (List.mem_cons_of_mem _ he)), mod_app (h v List.mem_cons_self)]

theorem offs_spec {m : Nat} : ∀ {l : List Pt}, offs l m = true → ∀ x ∈ l, m.testBit (Lg.code x.k x.s) = false := by
  intro l
  induction l with
  | nil => intro _ x hx; simp at hx
  | cons y l ih =>
    intro h x hx
    obtain ⟨k, s, bx, p⟩ := y
    simp only [offs] at h
    cases hb : m.testBit (Lg.code k s) with
    | true => rw [hb] at h; simp at h
    | false =>
      rw [hb] at h
      rcases List.mem_cons.1 hx with rfl | hx
      · exact hb
      · exact ih h x hx

theorem off_spec {x y : Pt} (h : x.off y = true) : x.k = y.k ∧ x.s = y.s ∧ x.bx = y.bx → parting x.p y.p = true := by
  obtain ⟨k, s, bx, p⟩ := x
  obtain ⟨k', s', bx', p'⟩ := y
  rintro ⟨e1, e2, e3⟩
  simp only at e1 e2 e3
  subst e1; subst e2; subst e3
  simpa [Pt.off] using h

theorem offL_spec {x : Pt} : ∀ {l : List Pt}, offL x l = true → ∀ y ∈ l, x.off y = true := by
  intro l
  induction l with
  | nil => intro _ x hx; simp at hx
  | cons z l ih =>
    intro h y hy
    simp only [offL] at h
    cases hb : x.off z with
    | false => rw [hb] at h; simp at h
    | true =>
      rw [hb] at h
      rcases List.mem_cons.1 hy with rfl | hy
      · exact hb
      · exact ih h y hy

theorem offLL_spec {m : List Pt} : ∀ {l : List Pt}, offLL l m = true → ∀ x ∈ l, ∀ y ∈ m, x.off y = true := by
  intro l
  induction l with
  | nil => intro _ x hx; simp at hx
  | cons z l ih =>
    intro h x hx
    simp only [offLL] at h
    cases hb : offL z m with
    | false => rw [hb] at h; simp at h
    | true =>
      rw [hb] at h
      rcases List.mem_cons.1 hx with rfl | hx
      · exact offL_spec hb
      · exact ih h x hx

theorem parting_symm : ∀ {p q : List Stp}, parting p q = parting q p := by
  intro p
  induction p with
  | nil => intro q; cases q with
    | nil => rfl
    | cons j q => cases j <;> rfl
  | cons i p ih =>
    intro q
    cases q with
    | nil => cases i <;> rfl
    | cons j q => cases i <;> cases j <;> simp only [parting, ih]

/-- One run's writes lie off the other one's reads and writes. -/
structure Off (a b : Lg) : Prop where
  ww : ∀ k s, a.hasW k s → ¬ b.has k s
  wp : ∀ x ∈ b.ps, ¬ a.hasW x.k x.s
  qr : ∀ x ∈ a.qs, ¬ b.has x.k x.s
  qp : ∀ x ∈ a.qs, ∀ y ∈ b.ps, x.off y = true
  sv : ∀ c, b.sc.testBit c = true → a.v.testBit c = false

/-- What a log says was written lies among what it says was read. -/
def Lg.wf (l : Lg) : Prop := ∀ x ∈ l.qs, x ∈ l.ps

theorem Lg.apart_spec {a b : Lg} (ha : a.wf) (hb : b.wf) (h : a.apart b = true) : a.all = false ∧ b.all = false ∧ Off a b ∧ Off b a := by
  simp only [Lg.apart, Bool.and_eq_true, Bool.not_eq_true'] at h
  obtain ⟨⟨⟨⟨⟨⟨⟨⟨⟨⟨⟨h1, h2⟩, h3⟩, h4⟩, h5⟩, h6⟩, h7⟩, h8⟩, h9⟩, h10⟩, h11⟩, h12⟩ := h
  have zero : ∀ {x y : Nat}, x &&& y = 0 → ∀ n, x.testBit n = true → y.testBit n = false := by
    intro x y e n hx
    have := congrArg (fun x => x.testBit n) e
    simpa [Nat.testBit_and, hx] using this
  have g3 := zero (Nat.eq_of_beq_eq_true h3)
  have g4 := zero (Nat.eq_of_beq_eq_true h4)
  have t : ∀ {x : Bool}, x = false → ¬ x = true := by intro x h; simp [h]
  refine ⟨h1, h2, ⟨?_, fun x hx => t (offs_spec h8 x hx), ?_, offLL_spec h11, zero (Nat.eq_of_beq_eq_true h6)⟩, ⟨?_, fun x hx => t (offs_spec h7 x hx), ?_, offLL_spec h12, zero (Nat.eq_of_beq_eq_true h5)⟩⟩
  · intro k s hw hh
    have := g3 _ hw
    simp only [Nat.testBit_or, Bool.or_eq_false_iff] at this
    rcases hh with hh | hh
    · rw [this.1] at hh; simp at hh
    · rw [this.2] at hh; simp at hh
  · intro x hx hh
    rcases hh with hh | hh
    · rw [offs_spec h9 x hx] at hh; simp at hh
    · rw [offs_spec h7 x (ha x hx)] at hh; simp at hh
  · intro k s hw hh
    rcases hh with hh | hh
    · rw [g4 _ hw] at hh; simp at hh
    · have := g3 _ hh
      simp only [Nat.testBit_or, Bool.or_eq_false_iff] at this
      have hw : b.w.testBit (Lg.code k s) = true := hw
      rw [this.2] at hw; simp at hw
  · intro x hx hh
    rcases hh with hh | hh
    · rw [offs_spec h10 x hx] at hh; simp at hh
    · rw [offs_spec h8 x (hb x hx)] at hh; simp at hh

theorem Off.agree {a b : Lg} (h : Off a b) {ws : List Eff} (hw : ∀ e ∈ ws, e.ok a) {st st2 : St} (hs : ∀ c, b.sc.testBit c = true → SubS c st2 st) (he : st2 = app ws st ∨ st = app ws st2) : Agree b st st2 := by
  have o1 : ∀ k s, b.has k s → ∀ e ∈ ws, e.offS k s := by
    intro k s hh e he ⟨e1, e2⟩
    cases e with
    | whole n t v => simp only [Eff.k, Eff.s] at e1 e2; subst e1; subst e2; exact h.ww _ _ (hw _ he) hh
    | part x u => simp only [Eff.k, Eff.s] at e1 e2; subst e1; subst e2; exact h.qr x (hw _ he) hh
    | tk t i => simp only [Eff.k, Eff.s] at e1 e2; subst e1; subst e2; exact h.qr (tupAt t i) (hw _ he) hh
  have o2 : ∀ x ∈ b.ps, ∀ e ∈ ws, e.offP x := by
    intro x hx e he
    cases e with
    | whole n t v => rintro ⟨e1, e2⟩; have := hw _ he; subst e1; subst e2; exact h.wp x hx this
    | part y u => intro e; rw [parting_symm]; exact off_spec (h.qp y (hw _ he) x hx) e
    | tk t i => intro e; rw [parting_symm]; exact off_spec (h.qp (tupAt t i) (hw _ he) x hx) e
  refine ⟨fun k s hh => ?_, fun x hx => ?_, hs⟩
  · rcases he with rfl | rfl
    · exact get_app (o1 k s hh)
    · exact (get_app (o1 k s hh)).symm
  · rcases he with rfl | rfl
    · exact PEq_app (o2 x hx)
    · exact (PEq_app (o2 x hx)).symm

theorem parting_ne {p q : List Stp} (h : parting p q = true) : p ≠ [] ∧ q ≠ [] := by
  constructor
  · intro e; rw [e] at h; simp [parting] at h
  · intro e; rw [e] at h; cases p with
    | nil => simp [parting] at h
    | cons i r => cases i <;> simp [parting] at h

theorem tk_part {x : Pt} {u : AV} {t i : Nat} (h : x.bx = false → parting x.p (tupPt i) = true) (sl : Slot) : (Eff.tk t i).f ((Eff.part x u).f sl) = (Eff.part x u).f ((Eff.tk t i).f sl) := by
  obtain ⟨v, b, fv, fb⟩ := sl
  simp only [Eff.f]
  cases eb : x.bx with
  | true => cases v <;> rfl
  | false =>
    obtain ⟨hne, _⟩ := parting_ne (h eb)
    show tkS i ⟨updLR u x.p v, b, fv, fb⟩ = _
    by_cases hv : ∃ w, v = .tup w
    · obtain ⟨w, rfl⟩ := hv
      rw [upd_tup hne]
      show _ = Slot.mk (updLR u x.p (.tup (tupSet w i))) b fv fb
      rw [upd_tup hne]; rfl
    · have h1 : ∀ w, v ≠ .tup w := fun w e => hv ⟨w, e⟩
      have h2 := upd_untup (u := u) hne h1
      have nt : ∀ {v : AV}, (∀ w, v ≠ .tup w) → tkS i ⟨v, b, fv, fb⟩ = ⟨v, b, fv, fb⟩ := by
        intro v h; cases v <;> first | rfl | exact absurd rfl (h _)
      rw [nt h2, nt h1]; rfl

theorem Off.comm {a b : Lg} (ha : Off a b) (hb : Off b a) (hbw : b.wf) {e g : Eff} (he : e.ok a) (hg : g.ok b) : e.comm g := by
  cases e with
  | whole k s v =>
    cases g with
    | whole k' s' v' => exact .inl fun ⟨e1, e2⟩ => by simp only [Eff.k, Eff.s] at e1 e2; subst e1; subst e2; exact ha.ww _ _ he (.inr hg)
    | part y u => exact .inl fun ⟨e1, e2⟩ => by simp only [Eff.k, Eff.s] at e1 e2; subst e1; subst e2; exact hb.qr y hg (.inr he)
    | tk t i => exact .inl fun ⟨e1, e2⟩ => by simp only [Eff.k, Eff.s] at e1 e2; subst e1; subst e2; exact hb.qr (tupAt s i) hg (.inr he)
  | part x u =>
    cases g with
    | whole k' s' v' => exact .inl fun ⟨e1, e2⟩ => by simp only [Eff.k, Eff.s] at e1 e2; subst e1; subst e2; exact ha.qr x he (.inr hg)
    | part y w =>
      have hoff := off_spec (ha.qp x he y (hbw y hg))
      by_cases hs : x.k = y.k ∧ x.s = y.s
      · refine .inr fun sl => ?_
        simp only [Eff.f]
        by_cases eb : x.bx = y.bx
        · have hp := hoff ⟨hs.1, hs.2, eb⟩
          rw [← eb, at_put, at_put, updLR_comm hp]
          cases x.bx <;> rfl
        · rw [at_put_ne _ (fun e => eb e.symm), at_put_ne _ eb]
          cases hx : x.bx <;> cases hy : y.bx <;> simp only [hx, hy] at eb ⊢ <;> first | rfl | simp at eb
      · exact .inl hs
    | tk t i =>
      have hoff := off_spec (ha.qp x he (tupAt t i) (hbw _ hg))
      by_cases hs : x.k = 0 ∧ x.s = t
      · exact .inr fun sl => (tk_part (fun eb => hoff ⟨hs.1, hs.2, eb⟩) sl).symm
      · exact .inl hs
  | tk t i =>
    cases g with
    | whole k' s' v' => exact .inl fun ⟨e1, e2⟩ => by simp only [Eff.k, Eff.s] at e1 e2; subst e1; subst e2; exact ha.qr (tupAt t i) he (.inr hg)
    | part y w =>
      have hoff := off_spec (ha.qp (tupAt t i) he y (hbw y hg))
      by_cases hs : 0 = y.k ∧ t = y.s
      · exact .inr fun sl => tk_part (fun eb => by rw [parting_symm]; exact hoff ⟨hs.1, hs.2, eb.symm⟩) sl
      · exact .inl hs
    | tk t' j =>
      have hoff := off_spec (ha.qp (tupAt t i) he (tupAt t' j) (hbw _ hg))
      by_cases hs : t = t'
      · refine .inr fun sl => ?_
        have hp := hoff ⟨rfl, hs, rfl⟩
        obtain ⟨v, b, fv, fb⟩ := sl
        simp only [Eff.f]
        cases v <;> try rfl
        simp only [tkS]
        rw [tupSet_comm (by rw [parting_symm]; exact hp)]
      · exact .inl fun e => hs e.2

theorem run_wf {α : Type} {C : Orc} (m : M α) : ∀ {st : St} {l0 : Lg} {a : α} {st' : St} {l : Lg}, m.Run C st l0 a st' l → l0.wf → l.wf := by
  induction m with
  | pure a => intro st l0 a' st' l h hw; obtain ⟨_, _, rfl⟩ := h; exact hw
  | rd n s g ih =>
    intro st l0 a st' l h hw
    simp only [M.wpL, M.Run, St.getK_eq] at h
    cases hg : st.get n s with
    | none => rw [hg] at h; exact h.elim
    | some v => rw [hg] at h; exact ih v h hw
  | wr n s v m ih =>
    intro st l0 a st' l h hw
    unfold M.Run at h
    rw [wpL_wr] at h
    obtain ⟨u, h1, h2⟩ := h
    exact ih h2 hw
  | get q g ih =>
    intro st l0 a st' l h hw
    simp only [M.wpL, M.Run, Pl.ptK_eq, AV.force_eq, GetP_iff] at h
    obtain ⟨s, h1, v, h2, h3⟩ := h
    exact ih v h3 (fun x hx => List.mem_cons_of_mem _ (hw x hx))
  | look q g ih =>
    intro st l0 a st' l h hw
    simp only [M.wpL, M.Run, Pl.ptK_eq, AV.force_eq, LookP_iff] at h
    obtain ⟨s, h1, v, h2, g1, g2, h3⟩ := h
    exact ih v h3 (fun x hx => List.mem_cons_of_mem _ (hw x hx))
  | put q u m ih =>
    intro st l0 a st' l h hw
    unfold M.Run at h
    rw [wpL_put] at h
    obtain ⟨s, h1, o, _, v, h2, o', _, h3⟩ := h
    refine ih h3 (fun x hx => ?_)
    rcases List.mem_cons.1 hx with rfl | hx
    · exact List.mem_cons_self
    · exact List.mem_cons_of_mem _ (hw x hx)
  | scr s b p m ih =>
    intro st l0 a st' l h hw
    simp only [M.wpL, M.Run] at h
    cases hc : st.clean s b p with
    | true => rw [hc] at h; exact ih h hw
    | false => rw [hc] at h; exact ih h hw
  | ext t i g ih =>
    intro st l0 a st' l h hw
    unfold M.Run at h
    rw [wpL_ext] at h
    obtain ⟨s, h1, b, h2, v, h3, h4⟩ := h
    refine ih v h4 ?_
    unfold extLg
    cases v.hasOwn with
    | true =>
      intro x hx
      rcases List.mem_cons.1 hx with rfl | hx
      · exact List.mem_cons_self
      · exact List.mem_cons_of_mem _ (hw x hx)
    | false => exact fun x hx => List.mem_cons_of_mem _ (hw x hx)
  | grd c m ih => intro st l0 a st' l h hw; exact ih h.2 hw
  | br b x y ihx ihy =>
    intro st l0 a st' l h hw
    cases b
    · exact ihy h hw
    · exact ihx h hw
  | call n as z g ih => intro st l0 a st' l h hw; obtain ⟨r, h1, h2, h3⟩ := h; exact ih r h3 hw
  | inl n as g ih => intro st l0 a st' l h hw; obtain ⟨r, s1, h1, h3⟩ := h; rw [St.forceK_eq, AV.force_eq] at h3; exact ih r h3 hw
  | fail => intro st l0 a st' l h; exact h.elim

/-- Two runs that do not touch each other may change places. -/
theorem run_swap {C : Orc} {A B : M Unit} {st st1 st2 : St} {la lb : Lg} (ha : A.Run C st Lg.nil () st1 la) (hb : B.Run C st1 Lg.nil () st2 lb) (hap : la.apart lb = true) :
    ∃ st1', B.Run C st Lg.nil () st1' lb ∧ A.Run C st1' Lg.nil () st2 la := by
  have nil : Lg.nil.wf := fun x hx => by simp [Lg.nil] at hx
  have fa := run_wf _ ha nil
  have fb := run_wf _ hb nil
  obtain ⟨h1, h2, h3, h4⟩ := Lg.apart_spec fa fb hap
  obtain ⟨_, wa, rfl, wa1, wa2, wa3⟩ := run_frame _ ha h1
  obtain ⟨_, wb, rfl, wb1, wb2, wb3⟩ := run_frame _ hb h2
  have hB := wb3 st (h3.agree wa1 (fun c hc => (wa2 c (h3.sv c hc)).2) (.inr rfl))
  obtain ⟨_, vb, _, _, vb2, _⟩ := run_frame _ hB h2
  refine ⟨app wb st, hB, ?_⟩
  have hA := wa3 (app wb st) (h4.agree wb1 (fun c hc => (vb2 c (h4.sv c hc)).1) (.inl rfl))
  rw [app_comm (fun e he g hg => h4.comm h3 fa (wb1 e he |> fun x => x) (wa1 g hg))] at hA
  exact hA

/-! ### Chains of runs -/

def Chain (E : Env) (C : Orc) (ops : List Oper) : List (Nat × Lg) → St → St → Prop
  | [], st, st' => st = st'
  | (i, l) :: r, st, st' => ∃ o st1, ops[i]? = some o ∧ (evG E ops o).Run C st Lg.nil () st1 l ∧ Chain E C ops r st1 st'

theorem chain_front {E : Env} {C : Orc} {ops : List Oper} {i : Nat} {l : Lg} {post : List (Nat × Lg)} : ∀ {pre : List (Nat × Lg)} {st st' : St}, Chain E C ops (pre ++ (i, l) :: post) st st' → (∀ x ∈ pre, x.2.apart l = true) → Chain E C ops ((i, l) :: (pre ++ post)) st st' := by
  intro pre
  induction pre with
  | nil => intro st st' h _; exact h
  | cons x pre ih =>
    intro st st' h hap
    obtain ⟨j, lj⟩ := x
    obtain ⟨o, st1, ho, hr, h⟩ := h
    obtain ⟨oi, st2, hoi, hri, h⟩ := ih h (fun y hy => hap y (List.mem_cons_of_mem _ hy))
    obtain ⟨s', g1, g2⟩ := run_swap hr hri (hap (j, lj) (by simp))
    exact ⟨oi, s', hoi, g1, o, st2, ho, g2, h⟩

/-- The logs of a text's order. -/
theorem evDraw_chain {E : Env} {C : Orc} {ops : List Oper} {ms : List Nat} {k : St → Prop} : ∀ (r : List Oper) (i : Nat) (ls : List (Nat × Lg)) (st : St), ops.drop i = r → evDraw E C ops ms i ls r st k →
    ∃ (L : List (Nat × Lg)) (st' : St), L.map (·.1) = List.range' i r.length ∧ Chain E C ops L st st' ∧ k st' ∧ (∀ x ∈ L, ∀ y ∈ ls, (ms.getD x.1 0).testBit y.1 = true ∨ y.2.apart x.2 = true) ∧
      L.Pairwise (fun y x => (ms.getD x.1 0).testBit y.1 = true ∨ y.2.apart x.2 = true) := by
  intro r
  induction r with
  | nil => intro i ls st _ h; exact ⟨[], st, rfl, rfl, h, (fun x hx => by simp at hx), List.Pairwise.nil⟩
  | cons o r ih =>
    intro i ls st hd h
    have hget : ops[i]? = some o := by
      have e : (ops.drop i)[0]? = some o := by rw [hd]; rfl
      rw [List.getElem?_drop] at e
      simpa using e
    have hd' : ops.drop (i + 1) = r := by rw [← List.drop_drop, hd]; rfl
    obtain ⟨u, st1, l, hr, h⟩ := wpL_run _ h
    have key : ∀ (ls : List (Nat × Lg)), fits (ms.getD i 0) l ls = true → ∀ y ∈ ls, (ms.getD i 0).testBit y.1 = true ∨ y.2.apart l = true := by
      intro ls
      induction ls with
      | nil => intro _ y hy; simp at hy
      | cons z ls ihl =>
        intro hf y hy
        obtain ⟨j, l'⟩ := z
        simp only [fits] at hf
        cases hb : (ms.getD i 0).testBit j with
        | true =>
          rw [hb] at hf
          rcases List.mem_cons.1 hy with rfl | hy
          · exact .inl hb
          · exact ihl hf y hy
        | false =>
          rw [hb] at hf
          simp only [cond_false, Bool.and_eq_true] at hf
          rcases List.mem_cons.1 hy with rfl | hy
          · exact .inr hf.1
          · exact ihl hf.2 y hy
    cases hf : fits (ms.getD i 0) l ls with
    | false => rw [hf] at h; exact h.elim
    | true =>
      rw [hf] at h
      obtain ⟨L, st', h1, h2, h3, h4, h5⟩ := ih (i + 1) ((i, l) :: ls) st1 hd' h
      refine ⟨(i, l) :: L, st', ?_, ⟨o, st1, hget, hr, h2⟩, h3, ?_, ?_⟩
      · simp only [List.map_cons, List.length_cons, List.range'_succ, h1]
      · intro x hx y hy
        rcases List.mem_cons.1 hx with rfl | hx
        · exact key ls hf y hy
        · exact h4 x hx y (List.mem_cons_of_mem _ hy)
      · refine List.Pairwise.cons ?_ h5
        intro x hx
        exact h4 x hx (i, l) (by simp)

/-! ### The machine's orders -/

theorem masks_spec {ops : List Oper} {ms : List Nat} : ∀ {r : List Oper} {i : Nat}, ops.drop i = r → masksOk ms i r = true → ∀ (n : Nat) (o : Oper), i ≤ n → ops[n]? = some o → ms.getD n 0 = maskOf ms o ∧ ∀ e ∈ o.after.toList, Region.binds .any e = true → e.on < n := by
  intro r
  induction r with
  | nil =>
    intro i hd _ n o hn ho
    have : ops.length ≤ i := by simpa using hd
    have := (List.getElem?_eq_some_iff.1 ho).1
    omega
  | cons x r ih =>
    intro i hd h n o hn ho
    simp only [masksOk, Bool.and_eq_true] at h
    by_cases hi : n = i
    · subst hi
      have e : (ops.drop n)[0]? = some x := by rw [hd]; rfl
      rw [List.getElem?_drop, Nat.add_zero, ho] at e
      cases e
      refine ⟨Nat.eq_of_beq_eq_true h.1.1, fun e he hb => ?_⟩
      have := List.all_eq_true.1 h.1.2 e he
      simpa [Nat.blt_eq, hb] using this
    · exact ih (i := i + 1) (by rw [← List.drop_drop, hd]; rfl) h.2 n o (by omega) ho

theorem rank_spec {md : Region.Mode} {rk : Nat → Nat} {N : Nat} {ops : List Oper} : ∀ {r : List Oper} {i : Nat}, ops.drop i = r → rankOk md rk N i r = true → ∀ (n : Nat) (o : Oper), i ≤ n → ops[n]? = some o → ∀ e ∈ o.after.toList, Region.binds md e = true → e.on < N ∧ rk e.on < rk n := by
  intro r
  induction r with
  | nil =>
    intro i hd _ n o hn ho
    have : ops.length ≤ i := by simpa using hd
    have := (List.getElem?_eq_some_iff.1 ho).1
    omega
  | cons x r ih =>
    intro i hd h n o hn ho
    simp only [rankOk, Bool.and_eq_true] at h
    by_cases hi : n = i
    · subst hi
      have e : (ops.drop n)[0]? = some x := by rw [hd]; rfl
      rw [List.getElem?_drop, Nat.add_zero, ho] at e
      cases e
      intro e he hb
      have := List.all_eq_true.1 h.1 e he
      simpa [Nat.blt_eq, hb] using this
    · exact ih (i := i + 1) (by rw [← List.drop_drop, hd]; rfl) h.2 n o (by omega) ho

theorem maskOf_spec {ms : List Nat} {o : Oper} {j : Nat} (h : (maskOf ms o).testBit j = true) : ∃ e ∈ o.after.toList, Region.binds .any e = true ∧ (e.on = j ∨ (ms.getD e.on 0).testBit j = true) := by
  unfold maskOf at h
  have key : ∀ (es : List Edge) (s : Nat), (es.foldl (fun s e => cond (Region.binds .any e) (s ||| 2 ^ e.on ||| ms.getD e.on 0) s) s).testBit j = true →
      s.testBit j = true ∨ ∃ e ∈ es, Region.binds .any e = true ∧ (e.on = j ∨ (ms.getD e.on 0).testBit j = true) := by
    intro es
    induction es with
    | nil => intro s h; exact .inl h
    | cons e es ih =>
      intro s h
      rcases ih _ h with h | ⟨e', h1, h2⟩
      · simp only at h
        cases hb : Region.binds .any e with
        | false => rw [hb] at h; exact .inl h
        | true =>
          rw [hb] at h
          simp only [cond_true, Nat.testBit_or, Bool.or_eq_true, Nat.testBit_two_pow, decide_eq_true_eq] at h
          rcases h with (h | h) | h
          · exact .inl h
          · exact .inr ⟨e, by simp, hb, .inl h⟩
          · exact .inr ⟨e, by simp, hb, .inr h⟩
      · exact .inr ⟨e', List.mem_cons_of_mem _ h1, h2⟩
  rcases key _ _ h with h | h
  · simp at h
  · exact h

theorem binds_any {md : Region.Mode} {e : Edge} (h : Region.binds .any e = true) : Region.binds md e = true := by
  unfold Region.binds at h ⊢
  split at h <;> first | (simp at h; done) | rfl | (split <;> simp_all)

theorem mem_ready {md : Region.Mode} {ops : Array Oper} {listed : Array Bool} {i : Nat} : i ∈ Region.ready md ops listed ↔ i < ops.size ∧ listed.getD i true = false ∧ ∃ o, ops[i]? = some o ∧ ∀ e ∈ o.after.toList, Region.binds md e = true → listed.getD e.on false = true := by
  simp only [Region.ready, List.mem_filter, List.mem_range, Bool.and_eq_true, Bool.not_eq_true']
  refine and_congr_right fun hi => and_congr_right fun _ => ?_
  have : ops[i]? = some ops[i] := by simp [hi]
  rw [this]
  simp only [Option.map_some, Option.getD_some, Array.all_eq_true_iff_forall_mem, Bool.or_eq_true, Bool.not_eq_true', Option.some.injEq, exists_eq_left', Array.mem_toList_iff]
  refine forall_congr' fun e => imp_congr_right fun _ => ?_
  cases Region.binds md e <;> simp

theorem evG_ok {P : Program} {E : Env} (hE : EnvOk P E) {C : Orc} (hC : OrcOk P E C) {ops : Array Oper} {i : Nat} {o : Oper} (hget : ops[i]? = some o) {w0 : Base} {w : World} {st : St} {a : Act} {ts : List (Array Value)} {R : Cx} {k : Unit → St → Prop} {K : Act → World → Prop} {Q : Exit → Act → World → Prop}
    (h : Rel w0 st (a.tmps :: ts) R w) (hw : (evG E ops.toList o).wp C st k) (hn : ∀ (a' : Act) (st' : St) (R' : Cx) (w' : World), a'.defers = a.defers → Rel w0 st' (a'.tmps :: ts) R' w' → k () st' → K a' w') :
    wpOp P ops Q i K a w := by
  simp only [wpOp, hget]
  simp only [evG] at hw
  cases hg : o.guard with
  | none =>
    rw [hg] at hw
    rw [if_pos (by simp [Region.wanted, hg])]
    exact .inl (opOk hE hC o w0 st a ts R w _ _ Q h hw hn)
  | some jw =>
    obtain ⟨j, want⟩ := jw
    rw [hg] at hw
    simp only at hw
    split at hw
    · rename_i t ht
      rw [M.wp_rd] at hw
      obtain ⟨s, hs, hw⟩ := hw
      split at hw
      · rename_i b hb
        have hsv := h.slot 0 t s _ hs rfl
        rw [hb] at hsv
        have hval := SV_bool hsv
        have hlt := h.size_lt hs
        have hy : yielded ops a.tmps j = some b := by
          have ht' : ((ops[j]?).bind (·.dst)) = some t := by rw [← Array.getElem?_toList]; exact ht
          have hv' : a.tmps[t]? = some (.bool b) := by
            rw [Array.getD_eq_getD_getElem?] at hval
            rw [Array.getElem?_eq_getElem hlt] at hval ⊢
            simpa using hval
          simp only [yielded, ht', Option.bind_some, hv']
        by_cases hbw : (b == want) = true
        · simp only [M.wp, hbw, cond_true] at hw
          have hbe : b = want := by simpa using hbw
          rw [if_pos (by simp [Region.wanted, hg, hy, hbe])]
          exact .inl (opOk hE hC o w0 st a ts R w _ _ Q h hw hn)
        · have hbw' : (b == want) = false := by simpa using hbw
          simp only [M.wp, hbw', cond_false] at hw
          have hnw : ¬ Region.wanted o (yielded ops a.tmps) = true := by
            simp only [Region.wanted, hg, hy]
            intro e
            have : b = want := by simpa using e
            rw [this] at hbw'; simp at hbw'
          rw [if_neg hnw]
          obtain ⟨st1, R1, hk, h1⟩ := dstT_ok h hw (j := 0) (val := undef) skip_SV
          exact hn _ st1 R1 w (put_defers _ _ _) h1 hk
      · rename_i hb
        have hsv := h.slot 0 t s _ hs rfl
        rw [hb] at hsv
        have hval := SV_skip hsv
        have hlt := h.size_lt hs
        have hy : yielded ops a.tmps j = none := by
          have ht' : ((ops[j]?).bind (·.dst)) = some t := by rw [← Array.getElem?_toList]; exact ht
          have hv' : a.tmps[t]? = some (.tuple #[]) := by
            rw [Array.getD_eq_getD_getElem?] at hval
            rw [Array.getElem?_eq_getElem hlt] at hval ⊢
            simpa using hval
          simp only [yielded, ht', Option.bind_some, hv']
        have hnw : ¬ Region.wanted o (yielded ops a.tmps) = true := by simp [Region.wanted, hg, hy]
        rw [if_neg hnw]
        obtain ⟨st1, R1, hk, h1⟩ := dstT_ok h hw (j := 0) (val := undef) skip_SV
        exact hn _ st1 R1 w (put_defers _ _ _) h1 hk
      · exact hw.elim
    · exact hw.elim

theorem split_at {L : List (Nat × Lg)} {i : Nat} (h : i ∈ L.map (·.1)) : ∃ pre l post, L = pre ++ (i, l) :: post := by
  rw [List.mem_map] at h
  obtain ⟨⟨j, l⟩, hm, rfl⟩ := h
  obtain ⟨pre, post, e⟩ := List.append_of_mem hm
  exact ⟨pre, l, post, e⟩

theorem draw_any {P : Program} {E : Env} (hE : EnvOk P E) {C : Orc} (hC : OrcOk P E C) {ops : Array Oper} {ms : List Nat} (hms : masksOk ms 0 ops.toList = true) {md : Region.Mode} {rk : Nat → Nat} (hrk : rankOk md rk ops.size 0 ops.toList = true) {w0 : Base} {ts : List (Array Value)} {Q : Exit → Act → World → Prop} {d : List Deferred} {st' : St} : 
    ∀ (fuel : Nat) (L : List (Nat × Lg)) (listed : Array Bool) {st : St} {a : Act} {R : Cx} {w : World}, L.length = fuel → listed.size = ops.size → (∀ n, n < ops.size → (n ∈ L.map (·.1) ↔ listed.getD n true = false)) → (L.map (·.1)).Nodup →
      L.Pairwise (fun y x => (ms.getD x.1 0).testBit y.1 = true ∨ y.2.apart x.2 = true) → (∀ x ∈ L, x.1 < ops.size) →
      (∀ n, n < ops.size → listed.getD n true = true → ∀ j, (ms.getD n 0).testBit j = true → listed.getD j false = true) →
      Rel w0 st (a.tmps :: ts) R w → a.defers = d → Chain E C ops.toList L st st' →
      (∀ (a' : Act) (R' : Cx) (w' : World), a'.defers = d → Rel w0 st' (a'.tmps :: ts) R' w' → Q .normal a' w') → wpAny P md ops Q fuel listed a w := by
  have spec : ∀ (n : Nat) (o : Oper), ops[n]? = some o → ms.getD n 0 = maskOf ms o ∧ ∀ e ∈ o.after.toList, Region.binds .any e = true → e.on < n :=
    fun n o ho => masks_spec (ops := ops.toList) (i := 0) rfl hms n o (Nat.zero_le _) (by simpa using ho)
  have rspec : ∀ (n : Nat) (o : Oper), ops[n]? = some o → ∀ e ∈ o.after.toList, Region.binds md e = true → e.on < ops.size ∧ rk e.on < rk n :=
    fun n o ho => rank_spec (ops := ops.toList) (i := 0) rfl hrk n o (Nat.zero_le _) (by simpa using ho)
  intro fuel
  induction fuel with
  | zero =>
    intro L listed st a R w hl hsz hmem hnd hpw hlt hcl h hd hc hq
    cases L with
    | cons => simp at hl
    | nil =>
      cases hc
      refine ⟨?_, hq a R w hd h⟩
      cases hr : Region.ready md ops listed with
      | nil => rfl
      | cons i r =>
        have : i ∈ Region.ready md ops listed := by rw [hr]; simp
        obtain ⟨h1, h2, _⟩ := mem_ready.1 this
        have := (hmem i h1).2 h2
        simp at this
  | succ fuel ih =>
    intro L listed st a R w hl hsz hmem hnd hpw hlt hcl h hd hc hq
    refine ⟨fun hr => ?_, fun i hi => ?_⟩
    · exfalso
      -- the least one that is not listed is ready
      have : ∀ m n, rk n = m → n < ops.size → listed.getD n true = true := by
        intro m
        induction m using Nat.strongRecOn with
        | _ m ihn =>
          intro n hm hn
          cases e : listed.getD n true with
          | true => rfl
          | false =>
            have : n ∈ Region.ready md ops listed := by
              refine mem_ready.2 ⟨hn, e, ops[n], by simp [hn], fun x hx hxb => ?_⟩
              obtain ⟨hx1, hx'⟩ := rspec n ops[n] (by simp [hn]) x hx hxb
              have := ihn (rk x.on) (by omega) x.on rfl hx1
              rw [Array.getD_eq_getD_getElem?] at this ⊢
              rw [Array.getElem?_eq_getElem (by omega)] at this ⊢
              simpa using this
            rw [hr] at this; simp at this
      cases L with
      | nil => simp at hl
      | cons x L =>
        have hx := hlt x (by simp)
        have e1 := (hmem x.1 hx).1 (by simp)
        rw [this _ x.1 rfl hx] at e1; simp at e1
    · obtain ⟨hi1, hi2, o, ho, hedge⟩ := mem_ready.1 hi
      have hm := (hmem i hi1).2 hi2
      obtain ⟨pre, l, post, rfl⟩ := split_at hm
      obtain ⟨sp1, sp2⟩ := spec i o ho
      -- what stands ahead of it is listed
      have ahead : ∀ j, (ms.getD i 0).testBit j = true → listed.getD j false = true := by
        intro j hj
        rw [sp1] at hj
        obtain ⟨e, he, hb, hj⟩ := maskOf_spec hj
        have hl1 := hedge e he (binds_any hb)
        have hon := sp2 e he hb
        rcases hj with rfl | hj
        · exact hl1
        · refine hcl e.on (by omega) ?_ j hj
          rw [Array.getD_eq_getD_getElem?] at hl1 ⊢
          rw [Array.getElem?_eq_getElem (by omega)] at hl1 ⊢
          simpa using hl1
      have hpre : ∀ x ∈ pre, x.2.apart l = true := by
        intro x hx
        have := (List.pairwise_append.1 hpw).2.2 x hx (i, l) (by simp)
        rcases this with hb | hb
        · have h1 := ahead x.1 hb
          have hxl := hlt x (by simp [hx])
          have h2 := (hmem x.1 hxl).1 (List.mem_map.2 ⟨x, by simp [hx], rfl⟩)
          rw [Array.getD_eq_getD_getElem?] at h1 h2
          rw [Array.getElem?_eq_getElem (by omega)] at h1 h2
          simp at h1 h2
          rw [h1] at h2; simp at h2
        · exact hb
      obtain ⟨o', st1, ho', hrun, hc'⟩ := chain_front hc hpre
      have : o' = o := by
        have : ops.toList[i]? = some o := by simpa using ho
        rw [this] at ho'; exact (Option.some.inj ho').symm
      subst this
      have hndm : (List.map (·.1) (pre ++ (i, l) :: post)).Nodup := hnd
      refine evG_ok hE hC ho h (run_wp _ hrun) ?_
      rintro a' s R' w' hdf h' ⟨_, rfl⟩
      refine ih (pre ++ post) (listed.setIfInBounds i true) (by simp at hl ⊢; omega) (by simp [hsz]) ?_ ?_ ?_ ?_ ?_ h' (hdf.trans hd) hc' hq
      · intro n hn
        simp only [List.map_append, List.map_cons] at hmem hndm
        have hnot : i ∉ pre.map (·.1) ++ post.map (·.1) := by
          have := (List.perm_middle.nodup_iff).1 hndm
          exact (List.nodup_cons.1 this).1
        by_cases hni : n = i
        · subst hni
          simp only [List.map_append]
          refine ⟨fun e => absurd e hnot, fun e => ?_⟩
          rw [Array.getD_eq_getD_getElem?, Array.getElem?_setIfInBounds] at e
          simp [hsz, hn] at e
        · have e1 := hmem n hn
          have e2 : (listed.setIfInBounds i true).getD n true = listed.getD n true := by
            rw [Array.getD_eq_getD_getElem?, Array.getD_eq_getD_getElem?, Array.getElem?_setIfInBounds_ne (fun e => hni e.symm)]
          rw [e2, ← e1]
          simp [hni]
      · simp only [List.map_append, List.map_cons] at hndm ⊢
        exact (List.nodup_cons.1 ((List.perm_middle.nodup_iff).1 hndm)).2
      · have := List.pairwise_append.1 hpw
        refine List.pairwise_append.2 ⟨this.1, (List.pairwise_cons.1 this.2.1).2, fun x hx y hy => this.2.2 x hx y (by simp [hy])⟩
      · intro x hx
        refine hlt x ?_
        rcases List.mem_append.1 hx with hx | hx
        · simp [hx]
        · simp [hx]
      · intro n hn hl' j hj
        have up : ∀ j, listed.getD j false = true → (listed.setIfInBounds i true).getD j false = true := by
          intro j hj
          rw [Array.getD_eq_getD_getElem?] at hj ⊢
          by_cases hji : i = j
          · subst hji
            rw [Array.getElem?_setIfInBounds_self]
            simp [hsz, hi1]
          · rw [Array.getElem?_setIfInBounds_ne hji]; exact hj
        by_cases hni : n = i
        · subst hni
          exact up j (ahead j hj)
        · rw [Array.getD_eq_getD_getElem?, Array.getElem?_setIfInBounds_ne (fun e => hni e.symm), ← Array.getD_eq_getD_getElem?] at hl'
          exact up j (hcl n hn hl' j hj)

theorem Rel.drew {w0 : Base} {w : World} {st : St} {ts : List (Array Value)} {R : Cx} (h : Rel w0 st ts R w) (n : Nat) : Rel w0 st ts R { w with drawn := n } := by
  refine ⟨h.hh, h.fl, h.len, h.sz, h.slot, h.box, h.inj, h.zd, h.lo, h.lt, h.zlt, ?_, h.zlo⟩
  have := h.bel
  exact ⟨this.os, this.tape, this.output, this.size, this.block⟩

theorem evDraw_ok {P : Program} {E : Env} (hE : EnvOk P E) {C : Orc} (hC : OrcOk P E C) {id : Nat} {ops : Array Oper} {ms : List Nat} (hok : drawOk ops.toList ms = true) {w0 : Base} {ts : List (Array Value)} {d : List Deferred} {st : St} {a : Act} {R : Cx} {w : World} {k : St → Prop} {Q : Exit → Act → World → Prop}
    (h : Rel w0 st (a.tmps :: ts) R w) (hd : a.defers = d) (hw : evDraw E C ops.toList ms 0 [] ops.toList st k) (hq : ∀ st' a' R' w', k st' → a'.defers = d → Rel w0 st' (a'.tmps :: ts) R' w' → Q .normal a' w') : (Code.region id ops true).wp P Q a w := by
  obtain ⟨L, st', h1, h2, h3, _, h5⟩ := evDraw_chain ops.toList 0 [] st rfl hw
  refine wp_region_draw fun t => ?_
  have hlen : L.length = ops.size := by
    have := congrArg List.length h1
    simpa using this
  simp only [drawOk, Bool.and_eq_true] at hok
  obtain ⟨⟨hms, htext⟩, hgc⟩ := hok
  have all : ∀ md rk, rankOk md rk ops.size 0 ops.toList = true → ∀ t, wpOps P ops Q (Region.linearise md ops t) a { w with drawn := w.drawn + 1 } := by
    intro md rk hrk t
    refine wpAny_sound (md := md) ops.size t _ a _ ?_
    refine draw_any hE hC hms hrk ops.size L _ hlen (by simp) ?_ ?_ h5 ?_ ?_ (h.drew _) hd h2 (fun a' R' w' hd' h' => hq st' a' R' w' h3 hd' h')
    · intro n hn
      rw [h1]
      simp [Array.getD_eq_getD_getElem?, hn]
    · rw [h1]; exact List.nodup_range'
    · intro x hx
      have : x.1 ∈ L.map (·.1) := List.mem_map.2 ⟨x, hx, rfl⟩
      rw [h1] at this
      simpa using this
    · intro n hn e
      simp [Array.getD_eq_getD_getElem?, hn] at e
  have hany : rankOk .any (fun i => i) ops.size 0 ops.toList = true := by
    have key : ∀ (r : List Oper) (i : Nat), rankOk .text (fun i => i) ops.toList.length i r = true → rankOk .any (fun i => i) ops.size i r = true := by
      intro r
      induction r with
      | nil => intro i _; rfl
      | cons o r ih =>
        intro i h
        simp only [rankOk, Bool.and_eq_true] at h ⊢
        refine ⟨List.all_eq_true.2 fun e he => ?_, ih _ h.2⟩
        have := List.all_eq_true.1 h.1 e he
        cases hb : Region.binds .any e with
        | false => rfl
        | true => rw [binds_any hb] at this; simpa using this
    exact key _ _ htext
  unfold Region.schedule
  split
  · exact all _ _ hany _
  · split
    · exact all _ _ (by simpa using htext) _
    · exact all _ _ (by simpa using hgc) _

end Go.Proofs.Ytgebhckfdcajoaa.Ev
