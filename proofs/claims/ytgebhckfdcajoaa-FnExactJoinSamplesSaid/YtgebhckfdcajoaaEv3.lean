/- A proved evaluator for translated functions, part 3: what it computes is what the machine does. No conditions. -/
import Derived.Test.YtgebhckfdcajoaaEv2
/- Code. -/
namespace Go.Proofs.Ytgebhckfdcajoaa.Ev
open Go
set_option linter.unusedSimpArgs false
set_option linter.unusedVariables false

theorem strike_le (keep : List Nat) (a : AV) : (a.strike keep).le a := by
  induction a with
  | pair a b iha ihb => exact ⟨iha, ihb⟩
  | tup a ih => exact ih
  | fn f a ih => exact ⟨rfl, ih⟩
  | vw q e => simp only [AV.strike]; split <;> simp [AV.le]
  | sub q e lo n => simp only [AV.strike]; split <;> simp [AV.le]
  | ptr q => simp only [AV.strike]; split <;> simp [AV.le]
  | _ => simp [AV.le, AV.strike]

theorem strike_hits {keep : List Nat} : ∀ {a : AV} {K T : Key}, (a.strike keep).hits K T → T.lv = K.lv → keep.contains T.s = true := by
  have one : ∀ {q : Pl} {K : Key}, goneR keep q.r = false → (K.at q).lv = K.lv → q.r.k ≤ K.lv → keep.contains (K.at q).s = true := by
    intro q K hg hl hk
    simp only [Key.at] at hl
    have : q.r.k = 0 := by omega
    simp only [goneR, this, beq_self_eq_true, Bool.true_and, Bool.not_eq_false'] at hg
    exact hg
  intro a
  induction a with
  | vw q e =>
    intro K T h hl
    simp only [AV.strike] at h
    split at h
    · exact h.elim
    · rename_i hg; obtain ⟨rfl, hk⟩ := h; exact one (by simpa using hg) hl hk
  | sub q e lo n =>
    intro K T h hl
    simp only [AV.strike] at h
    split at h
    · exact h.elim
    · rename_i hg; obtain ⟨rfl, hk⟩ := h; exact one (by simpa using hg) hl hk
  | ptr q =>
    intro K T h hl
    simp only [AV.strike] at h
    split at h
    · exact h.elim
    · rename_i hg; obtain ⟨rfl, hk⟩ := h; exact one (by simpa using hg) hl hk
  | pair a b iha ihb =>
    intro K T h hl
    rcases h with h | h
    · exact iha h hl
    · exact ihb h hl
  | tup a ih => intro K T h hl; exact ih h hl
  | fn f a ih => intro K T h hl; exact ih h hl
  | _ => intro K T h; exact h.elim

theorem gcFrm_get (keep : List Nat) : ∀ (f : Frm) (i n : Nat), (gcFrm keep i f)[n]? = (f[n]?).map fun s => if keep.contains (i + n) then { s with v := s.v.strike keep, b := s.b.strike keep } else ⟨.undef, .undef, false, false⟩ := by
  intro f
  induction f with
  | nil => intro i n; simp [gcFrm]
  | cons s r ih =>
    intro i n
    cases n with
    | zero => simp [gcFrm]
    | succ n =>
      simp only [gcFrm, List.getElem?_cons_succ, ih]
      have : i + 1 + n = i + (n + 1) := by omega
      rw [this]

theorem gcFrm_length (keep : List Nat) : ∀ (f : Frm) (i : Nat), (gcFrm keep i f).length = f.length := by
  intro f
  induction f with
  | nil => intro i; rfl
  | cons s r ih => intro i; simp only [gcFrm, List.length_cons, ih]

theorem gc_get (keep : List Nat) (st : St) (i n : Nat) : (st.gc keep).get i n = if i = 0 then (st.get 0 n).map fun s => if keep.contains n then { s with v := s.v.strike keep, b := s.b.strike keep } else ⟨.undef, .undef, false, false⟩ else st.get i n := by
  cases st with
  | nil => simp [St.gc, St.get]
  | cons f o =>
    cases i with
    | zero => simp [St.gc, St.get, gcFrm_get]
    | succ i => simp [St.gc, St.get]

theorem gc_length (keep : List Nat) (st : St) : (st.gc keep).length = st.length := by cases st <;> rfl

theorem Rel.gc {w0 : Base} {w : World} {st : St} {ts : List (Array Value)} {R : Cx} (h : Rel w0 st ts R w) (keep : List Nat) : ∃ R', Rel w0 (st.gc keep) ts R' w := by
  let R' : Cx := { R with fl := (st.gc keep).fl }
  have hfl : ∀ T : Key, R.fl T.lv T.s T.bx = true → (T.lv = st.length - 1 → keep.contains T.s = true) → R'.fl T.lv T.s T.bx = true := by
    intro T e hk
    rw [h.fl] at e
    simp only [R', St.fl, gc_length, gc_get] at e ⊢
    simp only [Bool.and_eq_true, decide_eq_true_eq] at e ⊢
    refine ⟨e.1, ?_⟩
    by_cases hc : st.length - 1 - T.lv = 0
    · rw [if_pos hc]
      have hl : T.lv = st.length - 1 := by have := e.1; omega
      have e2 := e.2
      rw [hc] at e2
      cases hg : st.get 0 T.s with
      | none => rw [hg] at e2; simp at e2
      | some s =>
        rw [hg] at e2
        simp only [Option.map_some, if_pos (hk hl)]
        cases hb : T.bx <;> rw [hb] at e2 <;> exact e2
    · rw [if_neg hc]; exact e.2
  have ok : ∀ K b, (∀ T : Key, b.hits K T → T.lv = st.length - 1 → keep.contains T.s = true) → R.Ok R' K b := by
    intro K b hk
    exact ⟨⟨fun _ => id, fun _ _ _ => id, fun _ _ => rfl, fun _ _ _ _ _ _ => id⟩, fun T hT e => ⟨hfl T e (hk T hT), .inr ⟨rfl, fun b n arr el _ e => ⟨arr, e, rfl⟩⟩⟩⟩
  refine ⟨R', h.step2 (gc_length ..) ?_ h.hh (fun _ _ _ => rfl) ?_ ?_ h.inj h.zd h.lo h.lt h.zlt h.bel⟩
  · intro i
    cases st with
    | nil => rfl
    | cons f o => cases i <;> simp [St.gc, gcFrm_length]
  · intro i n sl' hg
    rw [gc_get] at hg
    split at hg
    · rename_i hi
      subst hi
      cases hs : st.get 0 n with
      | none => rw [hs] at hg; simp at hg
      | some s =>
        rw [hs] at hg
        simp only [Option.map_some, Option.some.injEq] at hg
        subst hg
        refine ⟨s, rfl, ?_⟩
        split
        · exact .inl ⟨strike_le _ _, ok _ _ (fun T hT hl => strike_hits hT (by rw [hl]; simp [St.kv]))⟩
        · exact .inr (fun _ _ => trivial)
    · rename_i hi
      refine ⟨sl', hg, .inl ⟨AV.le_refl _, ok _ _ (fun T hT hl => ?_)⟩⟩
      have := hits_lv_le hT
      have := St.get_lt hg
      simp only [St.kv] at *
      omega
  · intro i n sl' hg
    rw [gc_get] at hg
    split at hg
    · rename_i hi
      subst hi
      cases hs : st.get 0 n with
      | none => rw [hs] at hg; simp at hg
      | some s =>
        rw [hs] at hg
        simp only [Option.map_some, Option.some.injEq] at hg
        subst hg
        refine ⟨s, rfl, ?_⟩
        split
        · exact .inl ⟨strike_le _ _, ok _ _ (fun T hT hl => strike_hits hT (by rw [hl]; simp [St.kb]))⟩
        · exact .inr (.inl rfl)
    · rename_i hi
      refine ⟨sl', hg, .inl ⟨AV.le_refl _, ok _ _ (fun T hT hl => ?_)⟩⟩
      have := hits_lv_le hT
      have := St.get_lt hg
      simp only [St.kb] at *
      omega

def exOf : Ex → Exit
  | .normal => .normal
  | .exit id => .exit id
  | .ret => .ret

/-- A loop, from its body on. -/
def LoopWp (P : Program) (c : Code) (Q : Exit → Act → World → Prop) (a : Act) (w : World) : Prop :=
  ∀ (b : Frame) (k : List Item) (cs : List Frame), ∃ e a' w', Q e a' w' ∧ Arrives P (lone (b.at a (.code c :: .inLoop c :: k)) cs w) b k cs e a' w'

theorem LoopWp.loop {P : Program} {c : Code} {Q : Exit → Act → World → Prop} {a : Act} {w : World} (h : LoopWp P c Q a w) : (Code.loop c).wp P Q a w := by
  intro b k cs
  obtain ⟨e, a', w', hq, harr⟩ := h b k cs
  exact ⟨e, a', w', hq, .of_steps (.one step_loop) harr⟩

theorem LoopWp.round {P : Program} {c : Code} {Q : Exit → Act → World → Prop} {a : Act} {w : World} (h : c.wp P (Exit.then (fun a' w' => LoopWp P c Q a' w') Q) a w) : LoopWp P c Q a w := by
  intro b k cs
  obtain ⟨e, a₁, w₁, hq, harr⟩ := h b (.inLoop c :: k) cs
  cases e with
  | normal =>
    obtain ⟨e₂, a₂, w₂, hq₂, harr₂⟩ := hq b k cs
    exact ⟨e₂, a₂, w₂, hq₂, .of_steps (Steps.trans harr (.one step_inLoop)) harr₂⟩
  | exit id => exact ⟨_, a₁, w₁, hq, .pass (x := .inLoop c) rfl (fun _ _ => .inl (by simp)) harr⟩
  | goto l => exact ⟨_, a₁, w₁, hq, .pass (x := .inLoop c) rfl (fun _ _ => .inl (by simp)) harr⟩
  | ret => exact ⟨_, a₁, w₁, hq, .pass (x := .inLoop c) rfl (fun _ _ => .inl (by simp)) harr⟩
  | panic ch => exact ⟨_, a₁, w₁, hq, .pass (x := .inLoop c) rfl (fun _ _ => .inl (by simp)) harr⟩
  | outgrown => exact ⟨_, a₁, w₁, hq, .pass (x := .inLoop c) rfl (fun _ _ => .inl (by simp)) harr⟩

theorem evCode_ok {P : Program} {E : Env} (hE : EnvOk P E) {C : Orc} (hC : OrcOk P E C) {keep : Nat → List Nat} {w0 : Base} {ts : List (Array Value)} (d : List Deferred) : ∀ (c : Code) {st : St} {a : Act} {R : Cx} {w : World} {k : Ex → St → Prop} {Q : Exit → Act → World → Prop},
    Rel w0 st (a.tmps :: ts) R w → a.defers = d → evCode E C keep c st k → (∀ e st' a' R' w', k e st' → a'.defers = d → Rel w0 st' (a'.tmps :: ts) R' w' → Q (exOf e) a' w') → c.wp P Q a w := by
  intro c
  induction c with
  | skip => intro st a R w k Q h hd hw hq; exact wp_skip (hq .normal st a R w hw hd h)
  | region id ops dr =>
    intro st a R w k Q h hd hw hq
    cases dr with
    | true =>
      simp only [evCode] at hw
      cases hm : drawOk ops.toList (mkMasks ops.toList []) with
      | false => rw [hm] at hw; exact hw.elim
      | true =>
        rw [hm] at hw
        exact evDraw_ok hE hC hm h hd hw (fun st' a' R' w' hk hd' h' => hq .normal st' a' R' w' hk hd' h')
    | false =>
      refine wp_region ?_
      rw [List.range_eq_range']
      have := evOps_ok hE hC (ops := ops) ops.toList 0 rfl h hw (Q := Q) (fun a' st' R' w' hdf h' hk => hq .normal st' a' R' w' hk (hdf.trans hd) h')
      simpa using this
  | seq x y ihx ihy =>
    intro st a R w k Q h hd hw hq
    refine wp_seq (ihx h hd hw ?_)
    intro e st' a' R' w' hk hd' h'
    cases e with
    | normal => exact ihy h' hd' hk hq
    | exit id => exact hq (.exit id) st' a' R' w' hk hd' h'
    | ret => exact hq .ret st' a' R' w' hk hd' h'
  | cond cx x y ihx ihy =>
    intro st a R w k Q h hd hw hq
    obtain ⟨v, hk, ⟨K, hK, hv⟩, hq1, hq2⟩ := rawOp_ok h hw
    clear hq1 hq2
    split at hk
    · rename_i b
      have hc := SV_bool hv
      refine wp_cond hc ?_
      have hbb : b = true ∨ b = false := by cases (b : Bool) <;> simp
      rcases hbb with hb | hb <;> rw [hb] at hk ⊢
      · exact ihx h hd hk hq
      · exact ihy h hd hk hq
    · exact hk.elim
  | block id b ih =>
    intro st a R w k Q h hd hw hq
    refine wp_block (ih h hd hw ?_)
    intro e st' a' R' w' hk hd' h'
    cases e with
    | normal => exact hq .normal st' a' R' w' hk hd' h'
    | exit j =>
      simp only [exOf, Exit.inBlock]
      by_cases hj : j = id
      · simp only [hj, if_true] at hk ⊢; exact hq .normal st' a' R' w' hk hd' h'
      · simp only [hj, if_false] at hk ⊢; exact hq (.exit j) st' a' R' w' hk hd' h'
    | ret => exact hq .ret st' a' R' w' hk hd' h'
  | loop b ih =>
    intro st a R w k Q h hd hw hq
    refine LoopWp.loop ?_
    have key : ∀ (a : Act) (R : Cx) (w : World), Rel w0 (st.gc (keep (loopKey b))) (a.tmps :: ts) R w → a.defers = d → LoopWp P b Q a w := by
      refine hw.all (fun s => ∀ (a : Act) (R : Cx) (w : World), Rel w0 s (a.tmps :: ts) R w → a.defers = d → LoopWp P b Q a w) ?_
      intro s hs a R w h hd
      refine LoopWp.round (ih h hd hs ?_)
      intro e st' a' R' w' hk hd' h'
      cases e with
      | normal =>
        obtain ⟨R2, h2⟩ := h'.gc (keep (loopKey b))
        exact hk a' R2 w' h2 hd'
      | exit id => exact hq (.exit id) st' a' R' w' hk hd' h'
      | ret => exact hq .ret st' a' R' w' hk hd' h'
    obtain ⟨R2, h2⟩ := h.gc (keep (loopKey b))
    exact key a R2 w h2 hd
  | exit id => intro st a R w k Q h hd hw hq; exact wp_exit (hq (.exit id) st a R w hw hd h)
  | ret => intro st a R w k Q h hd hw hq; exact wp_ret (hq .ret st a R w hw hd h)
  | rangeFunc => intro st a R w k Q h hd hw hq; exact hw.elim
  | scope => intro st a R w k Q h hd hw hq; exact hw.elim
  | label => intro st a R w k Q h hd hw hq; exact hw.elim
  | goto => intro st a R w k Q h hd hw hq; exact hw.elim
  | refuse => intro st a R w k Q h hd hw hq; exact hw.elim

end Go.Proofs.Ytgebhckfdcajoaa.Ev

/- Results. -/
namespace Go.Proofs.Ytgebhckfdcajoaa.Ev
open Go
set_option linter.unusedSimpArgs false
set_option linter.unusedVariables false

theorem resolve_ok {C : Orc} {w0 : Base} {w : World} {ts : List (Array Value)} : ∀ {v : AV} {st : St} {R : Cx} (h : Rel w0 st ts R w) {K : Key} (hK : st.isHand K) {cs : List Value} (hv : VR R v K cs) {k : AV → St → Prop}, (v.resolve).wp C st k →
    ∃ u st1 R1, k u st1 ∧ Rel w0 st1 ts R1 w ∧ st1.length = st.length ∧ (∀ i, st1.hand i = st.hand i) ∧ u.size = v.size ∧ u.isAgg = v.isAgg ∧ (v.isBad = false → u.isBad = false) ∧ VR R1 u K cs ∧
      (∀ (K' : Key) v' cs', st.isHand K' → K'.apart K → VR R v' K' cs' → VR R1 v' K' cs') := by
  intro v
  induction v with
  | vw q e =>
    intro st R h K hK cs hv k hw
    simp only [AV.resolve] at hw
    by_cases hk0 : q.r.k = 0
    case neg =>
      rw [if_neg hk0] at hw
      exact ⟨_, st, R, hw, h, rfl, fun _ => rfl, rfl, rfl, id, hv, fun _ _ _ _ _ => id⟩
    rw [if_pos hk0, M.wp_bind] at hw
    replace hw := takePl_ok h hw hK
    obtain ⟨x, st1, hw, hl, hh, h1, hx, hlv, hap⟩ := hw
    split at hw
    · rename_i e' o l
      by_cases he : e' = e
      · rw [if_pos he] at hw
        subst he
        obtain ⟨c, hc⟩ := hx rfl
        obtain ⟨u, rfl, hs, hvv⟩ := hv
        have hv' : SV R (.vw q e') K u := ⟨u, rfl, hs, hvv⟩
        obtain ⟨_, hcase⟩ := vw_header h hK.1 hv' hc
        have hnew : VR R (.own e' o l) (st.key q) [u] := by
          simp only [VR, OR]
          rcases hcase with ⟨rfl, hval, hρ⟩ | ⟨b, cap, arr, el, hval, a2, a3, a4, hρ, a5⟩
          · exact .inl ⟨hρ, rfl, by rw [hval]⟩
          · exact .inr ⟨b, cap, arr, el, hρ, by rw [hval], a2, a3, by rw [h.hh]; exact a4, a5⟩
        have nh : ∀ T : Key, R.fl T.lv T.s T.bx = true → ¬ T.under K := by
          intro T e hT; rw [isHand_fl h (isHand_under hT hK)] at e; simp at e
        refine ⟨_, st1, _, hw, h1, hl, hh, rfl, rfl, fun _ => rfl, ?_, ?_⟩
        · exact VR.mv_self (A := st.key q) (B := K) hlv (q := []) (fun T _ e => nh T e) hnew
        · intro K' v' cs' hK' hap' hv'
          exact VR.mv_other (AV.le_refl _) (Key.apart_symm (hap K' hK')) hap' (fun T _ e => nh T e) hv'
      · rw [if_neg he] at hw; exact hw.elim
    · exact hw.elim
  | pair a b iha ihb =>
    intro st R h K hK cs hv k hw
    simp only [AV.resolve, M.wp_bind] at hw
    obtain ⟨c1, c2, rfl, g1, g2⟩ := hv
    have hKl : st.isHand (K.child .l) := isHand_under (Key.child_under _ _) hK
    have hKr : st.isHand (K.child (.r a.size)) := isHand_under (Key.child_under _ _) hK
    have hlr : (K.child .l).apart (K.child (.r a.size)) := Key.child_apart (by simp)
    obtain ⟨x, st1, R1, hw, h1, hl1, hh1, s1, _, _, v1, k1⟩ := iha h hKl g1 hw
    have g2' := k1 _ _ _ hKr (Key.apart_symm hlr) g2
    have hand1 : ∀ K', st.isHand K' → st1.isHand K' := by
      intro K' hK'
      have e0 := hh1 0
      simp only [St.hand, Key.mk.injEq, and_true] at e0
      exact ⟨by rw [hK'.1, hl1], by have := hK'.2.1; omega, hK'.2.2⟩
    obtain ⟨y, st2, R2, hw, h2, hl2, hh2, s2, _, _, v2, k2⟩ := ihb h1 (hand1 _ hKr) g2' hw
    refine ⟨_, st2, R2, hw, h2, hl2.trans hl1, fun i => (hh2 i).trans (hh1 i), by simp only [AV.size, s1, s2], rfl, fun _ => rfl, ?_, ?_⟩
    · exact ⟨c1, c2, rfl, k2 _ _ _ (hand1 _ hKl) hlr v1, by rw [s1]; exact v2⟩
    · intro K' v' cs' hK' hap hv'
      exact k2 _ _ _ (hand1 _ hK') (fun T hT hT' => hap T hT (Key.under_trans hT' (Key.child_under _ _))) (k1 _ _ _ hK' (fun T hT hT' => hap T hT (Key.under_trans hT' (Key.child_under _ _))) hv')
  | _ =>
    intro st R h K hK cs hv k hw
    exact ⟨_, st, R, hw, h, rfl, fun _ => rfl, rfl, rfl, id, hv, fun _ _ _ _ _ => id⟩

theorem isHand_of {st st1 : St} (hl : st1.length = st.length) (hh : ∀ i, st1.hand i = st.hand i) {K : Key} : st1.isHand K ↔ st.isHand K := by
  have e0 := hh 0
  simp only [St.hand, Key.mk.injEq, and_true] at e0
  simp only [St.isHand, hl]
  constructor
  · rintro ⟨a, b, c⟩; exact ⟨a, by omega, c⟩
  · rintro ⟨a, b, c⟩; exact ⟨a, by omega, c⟩

/-- One result into a key of hand 0. -/
theorem retOne_ok {C : Orc} {E : Env} {w0 : Base} {w : World} {st : St} {t0 : Array Value} {ts : List (Array Value)} {R : Cx} (h : Rel w0 st (t0 :: ts) R w) {s : Sh} {t : Nat} {K : Key} (hK : st.isHand K) (hKs : K.s = (st.hand 0).s) {k : AV → St → Prop} (hw : (retOne E s (.tmp t)).wp C st k) :
    ∃ u st1 R1, k u st1 ∧ Rel w0 st1 (t0 :: ts) R1 w ∧ st1.length = st.length ∧ (∀ i, st1.hand i = st.hand i) ∧ (u.isBad = false → VV R1 u K (t0.getD t undef)) ∧
      (∀ (K' : Key) v' cs', st.isHand K' → K'.s = (st.hand 0).s → K'.apart K → VR R v' K' cs' → VR R1 v' K' cs') := by
  let a : Act := { tmps := t0, defers := [] }
  have h : Rel w0 st (a.tmps :: ts) R w := h
  simp only [retOne, M.wp_bind] at hw
  -- the slot's value into hand 1
  have hstart : ∃ v st1 R1, ((typed E.nest (some s) v).bind AV.resolve).wp C st1 k ∧ Rel w0 st1 (a.tmps :: ts) R1 w ∧ st1.length = st.length ∧ (∀ i, st1.hand i = st.hand i) ∧ SV R1 v (st.hand 1) (t0.getD t undef) ∧
      (∀ (K' : Key) v' cs', K'.under (st.hand 0) → VR R v' K' cs' → VR R1 v' K' cs') := by
    obtain ⟨v, st1, R1, hk, h1, hl, hh, hkept, hv⟩ := takeOp_keptU h hw 1 0 (by omega)
    exact ⟨v, st1, R1, by rw [M.wp_bind]; exact hk, h1, hl, hh, hv, fun K' v' cs' hu hv' => hkept K' v' cs' hu hv'⟩
  obtain ⟨v, st1, R1, hk, h1, hl1, hh1, hv, hkept⟩ := hstart
  have hand0 : ∀ K' : Key, st.isHand K' → K'.s = (st.hand 0).s → K'.under (st.hand 0) := fun K' a b => ⟨a.1, b, a.2.2, List.nil_suffix⟩
  -- from there into the key
  by_cases hb : v.isBad = true
  · -- nothing is known of it
    rw [M.wp_bind] at hk
    have hk' : k v st1 := by
      cases v <;> simp [AV.isBad] at hb <;> exact hk
    exact ⟨v, st1, R1, hk', h1, hl1, hh1, fun e => by rw [hb] at e; simp at e, fun K' v' cs' a b _ hv' => hkept K' v' cs' (hand0 K' a b) hv'⟩
  have hb : v.isBad = false := by simpa using hb
  obtain ⟨b1, b2⟩ := AV.notBad hb
  have hA := isHand_hand st 1
  have hA1 : st1.isHand (st.hand 1) := (isHand_of hl1 hh1).2 hA
  have hK1 : st1.isHand K := (isHand_of hl1 hh1).2 hK
  have h2 := h1.mvHands hA1 hK1
  have kept2 : ∀ (K' : Key) v' cs', st.isHand K' → K'.s = (st.hand 0).s → K'.apart K → VR R v' K' cs' → VR (R1.mv (st.hand 1) K) v' K' cs' := by
    intro K' v' cs' a b c hv'
    exact VR.keptHands h1 hA1 hK1 (hand_child_apart b (by omega)) c (hkept K' v' cs' (hand0 K' a b) hv')
  have nilcase : v = .nils ∨ v ≠ .nils := by cases v <;> simp
  rw [M.wp_bind] at hk
  rcases nilcase with rfl | hnn
  · simp only [typed] at hk
    split at hk
    · rename_i e he
      have hval : [t0.getD t undef] = [Value.slice none 0 0] := hv
      obtain ⟨R3, h3, hz, hkz⟩ := h1.zeroAt hK1 E.nest (.sl e)
      refine ⟨_, st1, R3, hk, h3, hl1, hh1, fun _ => ?_, fun K' v' cs' a b c hv' => hkz K' v' cs' c (hkept K' v' cs' (hand0 K' a b) hv')⟩
      simp only [List.cons.injEq, and_true] at hval
      rw [hval]
      exact hz
    · exact hk.elim
  · have hk : (v.resolve).wp C st1 k := by
      cases v <;> first | exact hk | exact absurd rfl hnn
    rw [SV_VV b2, VV_iff b1] at hv
    have fin : ∀ cs, VR R1 v (st.hand 1) cs → ∃ u st1' R2, k u st1' ∧ Rel w0 st1' (a.tmps :: ts) R2 w ∧ st1'.length = st.length ∧ (∀ i, st1'.hand i = st.hand i) ∧ u.isAgg = v.isAgg ∧ u.isBad = false ∧ VR R2 u K cs ∧
        (∀ (K' : Key) v' cs', st.isHand K' → K'.s = (st.hand 0).s → K'.apart K → VR R v' K' cs' → VR R2 v' K' cs') := by
      intro cs hcs
      have hv2 : VR (R1.mv (st.hand 1) K) v K cs := VR.mvHands h1 hA1 hK1 hcs
      obtain ⟨u, st2, R2, hk, h3, hl2, hh2, _, hg, hb', hv3, hk3⟩ := resolve_ok h2 hK1 hv2 hk
      exact ⟨u, st2, R2, hk, h3, hl2.trans hl1, fun i => (hh2 i).trans (hh1 i), hg, hb' hb, hv3, fun K' v' cs' a b c hv' => hk3 K' v' cs' ((isHand_of hl1 hh1).2 a) c (kept2 K' v' cs' a b c hv')⟩
    split at hv
    · rename_i hg
      obtain ⟨arr, e, hv⟩ := hv
      obtain ⟨u, st2, R2, a1, a2, a3, a4, a5, a6, a7, a8⟩ := fin _ hv
      refine ⟨u, st2, R2, a1, a2, a3, a4, fun hbu => ?_, a8⟩
      rw [VV_iff (AV.notBad a6).1, a5, if_pos hg]
      exact ⟨arr, e, a7⟩
    · rename_i hg
      obtain ⟨u, st2, R2, a1, a2, a3, a4, a5, a6, a7, a8⟩ := fin _ hv
      refine ⟨u, st2, R2, a1, a2, a3, a4, fun hbu => ?_, a8⟩
      rw [VV_iff (AV.notBad a6).1, a5, if_neg hg]
      exact a7

end Go.Proofs.Ytgebhckfdcajoaa.Ev

/- Functions that end. -/
namespace Go.Proofs.Ytgebhckfdcajoaa.Ev
open Go
set_option linter.unusedSimpArgs false
set_option linter.unusedVariables false

theorem pack_agg : ∀ {v : AV} {w : Pk}, v.pack = some w → w.s.isAgg = v.isAgg := by
  intro v w h
  cases v <;> simp only [AV.pack] at h <;> try (simp at h; done)
  · simp only [Option.some.injEq] at h; subst h; rfl
  · simp only [Option.some.injEq] at h; subst h; rfl
  · split at h
    · simp only [Option.some.injEq] at h; subst h; rfl
    · simp at h
  · simp only [Option.some.injEq] at h; subst h; rfl

theorem pack_VV {R : Cx} {v : AV} {w : Pk} (h : v.pack = some w) {K : Key} {u : Value} (hv : VV R v K u) : VV R (unpack w.s w.o w.x) K u := by
  rw [VV_iff (AV.notBad (AV.pack_good h)).1] at hv
  rw [unpack_VV, pack_agg h]
  split at hv
  · rename_i hg; rw [if_pos hg]; obtain ⟨arr, e, hv⟩ := hv; exact ⟨arr, e, (pack_VR _ _ h _ _).1 hv⟩
  · rename_i hg; rw [if_neg hg]; exact (pack_VR _ _ h _ _).1 hv

theorem unpackC_pr {R : Cx} {a b : Sh} {o1 o2 : Ow} {x : (Sh.pair a b).den} {K : Key} {us : List Value} (h : TupR R (.pair (unpack a o1 x.1) (unpackC b o2 x.2)) K us) : TupR R (unpackC (.pair a b) (Ow.pr' o1 o2) x) K us := by
  cases o1 <;> cases o2 <;> exact h

theorem packC {R : Cx} : ∀ {v : AV} {w : Pk}, v.pack = some w → ∀ {K : Key} {us : List Value}, TupR R v K us → TupR R (unpackC w.s w.o w.x) K us := by
  intro v
  induction v with
  | pair x y ihx ihy =>
    intro w h K us ht
    simp only [AV.pack] at h
    split at h
    · rename_i wx wy hx hy
      simp only [Option.some.injEq] at h
      subst h
      obtain ⟨u, r, rfl, h1, h2⟩ := ht
      exact unpackC_pr ⟨u, r, rfl, pack_VV hx h1, ihy hy h2⟩
    · simp at h
  | unit => intro w h K us ht; simp only [AV.pack, Option.some.injEq] at h; subst h; exact ht
  | _ => intro w h K us ht; exact ht.elim

theorem pack_pair {x y : AV} {w : Pk} (h : (AV.pair x y).pack = some w) : (∃ wx, x.pack = some wx) ∧ ∃ wy, y.pack = some wy := by
  simp only [AV.pack] at h
  split at h
  · rename_i wx wy hx hy; exact ⟨⟨wx, hx⟩, wy, hy⟩
  · simp at h

/-- What a result variable holds. -/
def ResR (P : Program) (w : World) (t0 : Array Value) : ResultVar → Value → Prop
  | .tmp t, v => v = t0.getD t undef
  | .cell a t, v => (do loadVar t (← asAddr (t0.getD a undef)) : Sem Value).run P w = .ok v w

def ResAll (P : Program) (w : World) (t0 : Array Value) : List ResultVar → List Value → Prop
  | [], [] => True
  | r :: rs, v :: vs => ResR P w t0 r v ∧ ResAll P w t0 rs vs
  | _, _ => False

theorem retRes_ok {P : Program} {E : Env} (hE : EnvOk P E) {C : Orc} {w0 : Base} {w : World} {st : St} {t0 : Array Value} {ts : List (Array Value)} {R : Cx} (h : Rel w0 st (t0 :: ts) R w) {s : Sh} {r : ResultVar} {K : Key} (hK : st.isHand K) (hKs : K.s = (st.hand 0).s) {k : AV → St → Prop} (hw : (retOne E s r).wp C st k) :
    ∃ v u st1 R1, ResR P w t0 r v ∧ k u st1 ∧ Rel w0 st1 (t0 :: ts) R1 w ∧ st1.length = st.length ∧ (∀ i, st1.hand i = st.hand i) ∧ (u.isBad = false → VV R1 u K v) ∧
      (∀ (K' : Key) v' cs', st.isHand K' → K'.s = (st.hand 0).s → K'.apart K → VR R v' K' cs' → VR R1 v' K' cs') := by
  cases r with
  | tmp t =>
    obtain ⟨u, st1, R1, a1, a2, a3, a4, a5, a6⟩ := retOne_ok h hK hKs hw
    exact ⟨_, u, st1, R1, rfl, a1, a2, a3, a4, a5, a6⟩
  | cell a t =>
    simp only [retOne, M.wp_rd] at hw
    obtain ⟨sl, hs, hw⟩ := hw
    rw [M.wp_bind] at hw
    have hsv := h.slot 0 a sl _ hs rfl
    cases hv : sl.v with
    | ptr q =>
      rw [hv] at hw hsv
      simp only [loadAV] at hw
      by_cases hm : q.mem = true
      · rw [if_pos hm] at hw
        obtain ⟨y, hy, _, hb, c, hc, ha⟩ := lookPl_ok h hw
        simp only [AV.isPtr, and_true] at hy
        by_cases hz : E.sz t = some (y.size, y.isAgg)
        · rw [if_pos hz] at hy
          have hlen := St.get_lt hs
          obtain ⟨b, arr, el, rest, e1, e2, e3, _⟩ := ptr_at h (K := st.kv 0 a) (by simp [St.kv]) hsv (ha hm)
          have hyv := hc K (by rw [hK.1])
          obtain ⟨i, d, h1, h2, h3, h4⟩ := hE.sz hz
          obtain ⟨l1, l2⟩ := run_load_cells (P := P) h1 h3 h4 e2 e3 (by rw [h2, VR.length hyv])
          obtain ⟨u, st1, R1, a1, a2, a3, a4, a5, a6, a7, a8, a9⟩ := resolve_ok h hK hyv hy
          have hub := a7 hb
          have hrun : ∀ v, (Instr.loadAt t (.pointer (some ⟨b, offOf q.p, none⟩))).run P w = .ok v w → ResR P w t0 (.cell a t) v := by
            intro v hv
            simp only [ResR, e1, asAddr]
            simpa [Instr.loadAt, Instr.sureAddr] using hv
          cases hg : y.isAgg with
          | true =>
            refine ⟨_, u, st1, R1, hrun _ (l1 hg), a1, a2, a3, a4, fun _ => ?_, fun K' v' cs' x1 x2 x3 x4 => a9 K' v' cs' x1 x3 x4⟩
            rw [VV_iff (AV.notBad hub).1, a6, hg, if_pos rfl]
            exact ⟨_, rfl, by simpa using a8⟩
          | false =>
            obtain ⟨v1, hv1⟩ : ∃ v1, c = [v1] := by
              have e1 := VR.length hyv
              have e2 : y.size = 1 := AV.size_one hg
              rw [e2] at e1
              exact List.length_eq_one_iff.1 e1
            refine ⟨v1, u, st1, R1, hrun _ (l2 hg v1 hv1), a1, a2, a3, a4, fun _ => ?_, fun K' v' cs' x1 x2 x3 x4 => a9 K' v' cs' x1 x3 x4⟩
            rw [VV_iff (AV.notBad hub).1, a6, hg]
            subst hv1
            simpa using a8
        · rw [if_neg hz] at hy; exact hy.elim
      · rw [if_neg hm] at hw; exact hw.elim
    | dp s' x' => rw [hv] at hw; simp only [loadAV] at hw; have hw : ((if E.sz t = some (_, _) ∧ (AV.dp s' x').isPtr = true then _ else M.fail) : M AV).wp C st k := hw; rw [if_neg (by simp [AV.isPtr])] at hw; exact hw.elim
    | _ => rw [hv] at hw; exact hw.elim

/-- A chain of results, of each of which something is known. -/
def AV.chainOk : AV → Bool
  | .pair x y => !x.isBad && y.chainOk
  | _ => true

theorem pack_chainOk : ∀ {v : AV} {w : Pk}, v.pack = some w → v.chainOk = true := by
  intro v
  induction v with
  | pair x y ihx ihy =>
    intro w h
    obtain ⟨⟨wx, hx⟩, wy, hy⟩ := pack_pair h
    simp only [AV.chainOk, AV.pack_good hx, ihy hy, Bool.not_false, Bool.and_self]
  | _ => intro w _; rfl

/-- Several results, in a chain. -/
theorem retAll_ok {P : Program} {E : Env} (hE : EnvOk P E) {C : Orc} {w0 : Base} {w : World} {t0 : Array Value} {ts : List (Array Value)} : ∀ {ss : List Sh} {rs : List ResultVar} {st : St} {R : Cx} (h : Rel w0 st (t0 :: ts) R w) {K : Key} (hK : st.isHand K) (hKs : K.s = (st.hand 0).s) {k : AV → St → Prop}, (retAll E ss rs).wp C st k →
    ∃ vs u st1 R1, ResAll P w t0 rs vs ∧ k u st1 ∧ Rel w0 st1 (t0 :: ts) R1 w ∧ st1.length = st.length ∧ (∀ i, st1.hand i = st.hand i) ∧ (u.chainOk = true → TupR R1 u K vs) ∧
      (∀ (K' : Key) v' cs', st.isHand K' → K'.s = (st.hand 0).s → K'.apart K → VR R v' K' cs' → VR R1 v' K' cs') := by
  intro ss
  induction ss with
  | nil =>
    intro rs st R h K hK hKs k hw
    cases rs with
    | nil => exact ⟨[], _, st, R, trivial, hw, h, rfl, fun _ => rfl, fun _ => rfl, fun _ _ _ _ _ _ => id⟩
    | cons => exact hw.elim
  | cons s ss ih =>
    intro rs st R h K hK hKs k hw
    cases rs with
    | nil => exact hw.elim
    | cons r rs =>
      simp only [retAll, M.wp_bind] at hw
      have hKl : st.isHand (K.child .l) := isHand_under (Key.child_under _ _) hK
      have hKr : st.isHand (K.child (.r 0)) := isHand_under (Key.child_under _ _) hK
      have hlr : (K.child .l).apart (K.child (.r 0)) := Key.child_apart (by simp)
      replace hw := retRes_ok (P := P) hE h hKl hKs hw
      obtain ⟨v1, u, st1, R1, hv0, hw, h1, hl1, hh1, hv1, k1⟩ := hw
      have hs0 : (st1.hand 0).s = (st.hand 0).s := by rw [hh1 0]
      replace hw := ih h1 ((isHand_of hl1 hh1).2 hKr) (by rw [hs0]; exact hKs) hw
      obtain ⟨vs, y, st2, R2, hvs, hw, h2, hl2, hh2, hv2, k2⟩ := hw
      refine ⟨v1 :: vs, _, st2, R2, ⟨hv0, hvs⟩, hw, h2, hl2.trans hl1, fun i => (hh2 i).trans (hh1 i), ?_, ?_⟩
      · intro hp
        simp only [AV.chainOk, Bool.and_eq_true, Bool.not_eq_true'] at hp
        have hg := hp.1
        have hvv := hv1 hg
        refine ⟨_, _, rfl, ?_, hv2 hp.2⟩
        rw [VV_iff (AV.notBad hg).1] at hvv ⊢
        have kk : ∀ cs, VR R1 u (K.child .l) cs → VR R2 u (K.child .l) cs := fun cs hc => k2 _ _ _ ((isHand_of hl1 hh1).2 hKl) (by rw [hs0]; exact hKs) hlr hc
        split at hvv
        · rename_i hag; rw [if_pos hag]; obtain ⟨arr, e, hvv⟩ := hvv; exact ⟨arr, e, kk _ hvv⟩
        · rename_i hag; rw [if_neg hag]; exact kk _ hvv
      · intro K' v' cs' a b c hv'
        have c1 : K'.apart (K.child .l) := fun T hT hT' => c T hT (Key.under_trans hT' (Key.child_under _ _))
        have c2 : K'.apart (K.child (.r 0)) := fun T hT hT' => c T hT (Key.under_trans hT' (Key.child_under _ _))
        exact k2 K' v' cs' ((isHand_of hl1 hh1).2 a) (by rw [hs0]; exact b) c2 (k1 K' v' cs' a b c1 hv')

theorem run_results {P : Program} {fn : Func} {t0 : Array Value} {w : World} {vs : List Value} (hr : ResAll P w t0 fn.results.toList vs) : (results fn t0).run P w = .ok (if h : vs.length = 1 then vs[0]'(by omega) else .tuple vs.toArray) w := by
  have key : ∀ (f : ResultVar → Sem Value), (∀ r v, ResR P w t0 r v → (f r).run P w = .ok v w) → ∀ (rs : List ResultVar) (vs : List Value), ResAll P w t0 rs vs → (rs.mapM f).run P w = .ok vs w := by
    intro f hf rs
    induction rs with
    | nil => intro vs h; cases vs with | nil => simp | cons => exact h.elim
    | cons r rs ih =>
      intro vs h
      cases vs with
      | nil => exact h.elim
      | cons v vs =>
        have h1 := hf _ _ h.1
        have h2 := ih vs h.2
        simp [List.mapM_cons, h1, h2]
  unfold results
  rw [Array.mapM_eq_mapM_toList]
  rw [Sem.run_bind, Sem.run_map, key _ (fun r v hv => by cases r with | tmp t => simp only [ResR] at hv; subst hv; rfl | cell a t => exact hv) fn.results.toList vs hr]
  simp only [Result.andThen_ok, Sem.run_pure, List.size_toArray, List.getElem_toArray]

theorem ResAll.length {P : Program} {w : World} {t0 : Array Value} : ∀ {rs : List ResultVar} {vs : List Value}, ResAll P w t0 rs vs → vs.length = rs.length := by
  intro rs
  induction rs with
  | nil => intro vs h; cases vs with | nil => rfl | cons => exact h.elim
  | cons r rs ih => intro vs h; cases vs with | nil => exact h.elim | cons v vs => simp [ih h.2]

end Go.Proofs.Ytgebhckfdcajoaa.Ev

/- Functions that are handed data: what is evaluated is what they do. -/
namespace Go.Proofs.Ytgebhckfdcajoaa.Ev
open Go
set_option linter.unusedSimpArgs false
set_option linter.unusedVariables false

/-- The running frame is left: what lay in its hand lies in the caller's. -/
theorem Rel.popped {w0 : Base} {w : World} {f : Frm} {o : St} {t : Array Value} {ts : List (Array Value)} {R : Cx} (h : Rel w0 (f :: o) (t :: ts) R w) :
    ∃ R', Rel w0 o ts R' w ∧ R'.Z = R.Z ∧ R'.h = R.h ∧ (∀ q, R'.ρ ((o.hand 0).plus q) = R.ρ ((St.hand (f :: o) 0).plus q)) ∧ ∀ T : Key, T.lv < o.length → R.fl T.lv T.s T.bx = true → R'.fl T.lv T.s T.bx = true ∧ R'.ρ T = R.ρ T := by
  let A := St.hand (f :: o) 0
  let B := o.hand 0
  let R' : Cx := { R with ρ := fun T => if T.under B then R.ρ (A.plus (T.below B)) else if o.length ≤ T.lv then none else R.ρ T, fl := o.fl }
  have hAl : A.lv = o.length := by simp [A, St.hand]
  have sb : ∀ {T b n}, R'.ρ T = some (.blk b n) → (T.under B ∧ R.ρ (A.plus (T.below B)) = some (.blk b n)) ∨ (¬ T.under B ∧ T.lv < o.length ∧ R.ρ T = some (.blk b n)) := by
    intro T b n e
    simp only [R'] at e
    split at e
    · rename_i hu; exact .inl ⟨hu, e⟩
    · rename_i hu
      split at e
      · simp at e
      · exact .inr ⟨hu, by omega, e⟩
  have some' : ∀ {T b n}, R'.ρ T = some (.blk b n) → ∃ S, R.ρ S = some (.blk b n) := by
    intro T b n e
    rcases sb e with ⟨_, e⟩ | ⟨_, _, e⟩
    · exact ⟨_, e⟩
    · exact ⟨_, e⟩
  have hget : ∀ i s, St.get (f :: o) (i + 1) s = o.get i s := by intro i s; simp [St.get]
  have hfl : ∀ lv n bx, lv < o.length → St.fl (f :: o) lv n bx = o.fl lv n bx := by
    intro lv n bx hl
    have e : o.length + 1 - 1 - lv = (o.length - 1 - lv) + 1 := by omega
    simp only [St.fl, List.length_cons, e, hget]
    have h1 : decide (lv < o.length + 1) = true := by simp; omega
    have h2 : decide (lv < o.length) = true := by simp; omega
    rw [h1, h2]
  have ok : ∀ (K : Key) (b : AV), K.lv < o.length → (∀ T : Key, T.under K → ¬ T.under B) → R.Ok R' K b := by
    intro K b hl hB
    refine ⟨⟨fun _ => id, fun _ _ _ => id, fun T hT => ?_, fun _ _ _ _ _ _ => id⟩, fun T hT e => ?_⟩
    · have : T.lv < o.length := by rw [hT.1]; exact hl
      simp only [R', if_neg (hB T hT), if_neg (by omega : ¬ o.length ≤ T.lv)]
    · have hTl : T.lv < o.length := Nat.lt_of_le_of_lt (hits_lv_le hT) hl
      have e' : o.fl T.lv T.s T.bx = true := by rw [← hfl _ _ _ hTl, ← h.fl]; exact e
      refine ⟨e', .inr ⟨?_, fun b n arr el _ e => ⟨arr, e, rfl⟩⟩⟩
      have hnB : ¬ T.under B := by
        intro hu
        have h1 := hu.1
        have h2 := hu.2.1
        have h3 := hu.2.2.1
        rw [h1, h2, h3] at e'
        have := St.fl_hand o 0 false
        simp only [B, St.hand] at e'
        rw [this] at e'
        simp at e'
      simp only [R', if_neg hnB, if_neg (by omega : ¬ o.length ≤ T.lv)]
  refine ⟨R', ⟨h.hh, fun _ _ _ => rfl, by have := h.len; simpa using this, ?_, ?_, ?_, ?_, ?_, ?_, ?_, h.zlt, h.bel, h.zlo⟩, rfl, rfl, fun q => ?_, fun T hTl e => ?_⟩
  · intro i g t' hg ht
    exact h.sz (i + 1) g t' (by simpa using hg) (by simpa using ht)
  · intro i s sl t' hg ht
    have := h.slot (i + 1) s sl t' (by rw [hget]; exact hg) (by simpa using ht)
    have hi := St.get_lt hg
    have e : St.kv (f :: o) (i + 1) s = o.kv i s := by simp only [St.kv, List.length_cons, Key.mk.injEq, and_true]; omega
    rw [e] at this
    obtain ⟨q1, q2⟩ := ok (o.kv i s) sl.v (by simp only [St.kv]; omega) (kv_hand_apart' o 0 hg)
    exact SV.frame (AV.le_refl _) q1 q2 this
  · intro i s sl hg
    have := h.box (i + 1) s sl (by rw [hget]; exact hg)
    have hi := St.get_lt hg
    have e : St.kb (f :: o) (i + 1) s = o.kb i s := by simp only [St.kb, List.length_cons, Key.mk.injEq, and_true]; omega
    rw [e] at this
    obtain ⟨q1, q2⟩ := ok (o.kb i s) sl.b (by simp only [St.kb]; omega) (kb_hand_apart _ _ _ _)
    exact BoxR.frame (AV.le_refl _) q1 q2 this
  · intro T T' b n m e1 e2
    rcases sb e1 with ⟨u1, r1⟩ | ⟨u1, l1, r1⟩ <;> rcases sb e2 with ⟨u2, r2⟩ | ⟨u2, l2, r2⟩
    · have := Key.plus_inj (h.inj _ _ _ _ _ r1 r2)
      rw [← Key.plus_below u1, ← Key.plus_below u2, this]
    · have := h.inj _ _ _ _ _ r1 r2
      rw [← this] at l2
      have : (A.plus (T.below B)).lv = o.length := hAl
      omega
    · have := h.inj _ _ _ _ _ r1 r2
      rw [this] at l1
      have : (A.plus (T'.below B)).lv = o.length := hAl
      omega
    · exact h.inj _ _ _ _ _ r1 r2
  · intro b hb T n e
    obtain ⟨S, e⟩ := some' e
    exact h.zd b hb S n e
  · intro T b n e
    obtain ⟨S, e⟩ := some' e
    exact h.lo _ _ _ e
  · intro T b n e
    obtain ⟨S, e⟩ := some' e
    exact h.lt _ _ _ e
  · show (if (B.plus q).under B then R.ρ (A.plus ((B.plus q).below B)) else if o.length ≤ (B.plus q).lv then none else R.ρ (B.plus q)) = _
    rw [if_pos (Key.under_plus B q), Key.below_plus]
  · have e' : o.fl T.lv T.s T.bx = true := by rw [← hfl _ _ _ hTl, ← h.fl]; exact e
    refine ⟨e', ?_⟩
    have hnB : ¬ T.under B := by
      intro hu
      have h1 := hu.1
      have h2 := hu.2.1
      have h3 := hu.2.2.1
      rw [h1, h2, h3] at e'
      have := St.fl_hand o 0 false
      simp only [B, St.hand] at e'
      rw [this] at e'
      simp at e'
    simp only [R', if_neg hnB, if_neg (by omega : ¬ o.length ≤ T.lv)]

/-- What comes back, in the caller's hand. -/
theorem ret_ok {P : Program} {C : Orc} {E : Env} (hE : EnvOk P E) {fn : Func} {ss : List Sh} {rs : List ResultVar} (hrs : fn.results.toList = rs) {w0 : Base} {w : World} {st : St} {t0 : Array Value} {ts : List (Array Value)} {R : Cx} (h : Rel w0 st (t0 :: ts) R w) {k : Pk → St → Prop}
    (hw : (retM E ss rs).wp C st fun v st' => ∃ w r, v.pack = some w ∧ w.as (rs.length == 1) r ∧ k r st'.tail) :
    ∃ v r st' R', (results fn t0).run P w = .ok v w ∧ k r st'.tail ∧ st'.length = st.length ∧ Rel w0 st' (t0 :: ts) R' w ∧ SV R' (asTup (rs.length != 1) (unpackT (rs.length != 1) r)) (st'.hand 0) v := by
  have hK := isHand_hand st 0
  by_cases h1 : ∃ s r, ss = [s] ∧ rs = [r]
  · obtain ⟨s, r0, rfl, rfl⟩ := h1
    replace hw := retRes_ok (P := P) hE h hK rfl hw
    obtain ⟨v, u, st1, R1, hres, ⟨wp, r, hp, has, hk⟩, h1, hl, hh, hv, _⟩ := hw
    have hvv := pack_VV hp (hv (AV.pack_good hp))
    have hr : (results fn t0).run P w = .ok v w := by
      rw [run_results (vs := [v]) (by rw [hrs]; exact ⟨hres, trivial⟩)]
      simp
    rcases has with rfl | ⟨_, ho, hs, hx⟩
    · refine ⟨_, wp, st1, R1, hr, hk, hl, h1, ?_⟩
      show SV R1 (unpack wp.s wp.o wp.x) (st1.hand 0) _
      rw [SV_VV (AV.notBad (unpack_good _ _ _)).2, hh 0]
      exact hvv
    · refine ⟨_, r, st1, R1.freezeHands st1, hr, hk, hl, h1.freezeHands, ?_⟩
      show SV (R1.freezeHands st1) (unpack r.s r.o r.x) (st1.hand 0) _
      rw [SV_VV (AV.notBad (unpack_good _ _ _)).2, unpack_VV]
      rw [unpack_VV] at hvv
      obtain ⟨rs', ro, rx⟩ := r
      obtain ⟨ws, wo, wx⟩ := wp
      simp only at ho hs hx hvv ⊢
      subst ho hs
      simp only [castDen] at hx
      subst hx
      have fz : ∀ cs, OR R1 ws wo (st.hand 0) wx cs → OR (R1.freezeHands st1) ws .fz (st1.hand 0) wx cs := by
        intro cs hc
        rw [OR_fz]
        exact OR.freeze (R := R1) (Z' := (R1.freezeHands st1).Z) (fun b hb => .inl hb) (fun T b n hT hr => .inr ⟨T, n, isHand_under hT ((isHand_of hl hh).2 hK), hr⟩) hc
      split at hvv
      · rename_i hg; rw [if_pos hg]; obtain ⟨arr, e, hvv⟩ := hvv; exact ⟨arr, e, fz _ hvv⟩
      · rename_i hg; rw [if_neg hg]; exact fz _ hvv
  · have hne : rs.length ≠ 1 := by
      intro hl1
      obtain ⟨r, rfl⟩ := List.length_eq_one_iff.1 hl1
      cases ss with
      | nil => exact hw
      | cons s ss =>
        cases ss with
        | nil => exact h1 ⟨s, r, rfl, rfl⟩
        | cons s' ss =>
          simp only [retM, retAll, M.wp_bind] at hw
          obtain ⟨v, u, st1, R1, _, hw, _⟩ := retRes_ok (P := P) hE h (K := st.hand 0) hK rfl hw
          exact hw
    have hw : (retAll E ss rs).wp C st fun v st' => ∃ w r, v.pack = some w ∧ w.as (rs.length == 1) r ∧ k r st'.tail := by
      unfold retM at hw
      split at hw
      · simp at hne
      · exact hw
    obtain ⟨vs, u, st1, R1, hres, ⟨wp, r, hp, has, hk⟩, h1, hl, hh, hv, _⟩ := retAll_ok (P := P) hE h hK rfl hw
    have hrw : wp = r := by
      rcases has with e | ⟨e, _⟩
      · exact e
      · simp at e; exact absurd e hne
    subst hrw
    have hb : (rs.length != 1) = true := by simpa using hne
    have hvl := hres.length
    refine ⟨_, wp, st1, R1, run_results (by rw [hrs]; exact hres), hk, hl, h1, ?_⟩
    rw [hb, dif_neg (by omega)]
    refine ⟨_, rfl, ?_⟩
    simp only [unpackT, if_true]
    rw [hh 0]
    simpa using packC hp (hv (pack_chainOk hp))

/-- What comes back of a function that was handed views. -/
theorem ret_okI {P : Program} {C : Orc} {E : Env} (hE : EnvOk P E) {fn : Func} {ss : List Sh} {rs : List ResultVar} (hrs : fn.results.toList = rs) {w0 : Base} {w : World} {st : St} {t0 : Array Value} {ts : List (Array Value)} {R : Cx} (h : Rel w0 st (t0 :: ts) R w) {k : AV → St → Prop}
    (hw : (retM E ss rs).wp C st fun v st' => ∃ r, v.lower = some r ∧ k r st'.tail) :
    ∃ v u r st' R', (results fn t0).run P w = .ok v w ∧ u.lower = some r ∧ k r st'.tail ∧ st'.length = st.length ∧ Rel w0 st' (t0 :: ts) R' w ∧ SV R' (asTup (rs.length != 1) u) (st'.hand 0) v := by
  have hK := isHand_hand st 0
  have good : ∀ {u r : AV}, u.lower = some r → u.isBad = false := by intro u r e; cases u <;> simp [AV.lower] at e <;> rfl
  have chain : ∀ {u r : AV}, u.lower = some r → u.chainOk = true := by
    intro u
    induction u with
    | pair x y ihx ihy =>
      intro r e
      simp only [AV.lower] at e
      split at e
      · rename_i x' y' hx hy
        simp only [AV.chainOk, good hx, ihy hy, Bool.not_false, Bool.and_self]
      · simp at e
    | _ => intro r _; rfl
  by_cases h1 : ∃ s r, ss = [s] ∧ rs = [r]
  · obtain ⟨s, r0, rfl, rfl⟩ := h1
    replace hw := retRes_ok (P := P) hE h hK rfl hw
    obtain ⟨v, u, st1, R1, hres, ⟨r, hp, hk⟩, h1, hl, hh, hv, _⟩ := hw
    have hr : (results fn t0).run P w = .ok v w := by
      rw [run_results (vs := [v]) (by rw [hrs]; exact ⟨hres, trivial⟩)]
      simp
    refine ⟨_, u, r, st1, R1, hr, hp, hk, hl, h1, ?_⟩
    show SV R1 u (st1.hand 0) _
    rw [SV_VV (AV.notBad (good hp)).2, hh 0]
    exact hv (good hp)
  · have hne : rs.length ≠ 1 := by
      intro hl1
      obtain ⟨r, rfl⟩ := List.length_eq_one_iff.1 hl1
      cases ss with
      | nil => exact hw
      | cons s ss =>
        cases ss with
        | nil => exact h1 ⟨s, r, rfl, rfl⟩
        | cons s' ss =>
          simp only [retM, retAll, M.wp_bind] at hw
          obtain ⟨v, u, st1, R1, _, hw, _⟩ := retRes_ok (P := P) hE h (K := st.hand 0) hK rfl hw
          exact hw
    have hw : (retAll E ss rs).wp C st fun v st' => ∃ r, v.lower = some r ∧ k r st'.tail := by
      unfold retM at hw
      split at hw
      · simp at hne
      · exact hw
    obtain ⟨vs, u, st1, R1, hres, ⟨r, hp, hk⟩, h1, hl, hh, hv, _⟩ := retAll_ok (P := P) hE h hK rfl hw
    have hb : (rs.length != 1) = true := by simpa using hne
    have hvl := hres.length
    refine ⟨_, u, r, st1, R1, run_results (by rw [hrs]; exact hres), hp, hk, hl, h1, ?_⟩
    rw [hb, dif_neg (by omega)]
    refine ⟨_, rfl, ?_⟩
    rw [hh 0]
    simpa using hv (chain hp)

theorem lower_size : ∀ {u r : AV}, u.lower = some r → r.size = u.size ∧ r.isAgg = u.isAgg ∧ r.isBad = false ∧ u.isBad = false := by
  intro u
  induction u with
  | pair x y ihx ihy =>
    intro r e
    simp only [AV.lower] at e
    split at e
    · rename_i x' y' hx hy
      simp only [Option.some.injEq] at e
      subst e
      exact ⟨by simp only [AV.size, (ihx hx).1, (ihy hy).1], rfl, rfl, rfl⟩
    · simp at e
  | fn f a ih =>
    intro r e
    simp only [AV.lower] at e
    split at e
    · simp only [Option.some.injEq] at e; subst e; exact ⟨rfl, rfl, rfl, rfl⟩
    · simp at e
  | vw q e0 => intro r e; simp only [AV.lower] at e; split at e <;> simp at e; subst e; exact ⟨rfl, rfl, rfl, rfl⟩
  | sub q e0 lo n => intro r e; simp only [AV.lower] at e; split at e <;> simp at e; subst e; exact ⟨rfl, rfl, rfl, rfl⟩
  | ptr q => intro r e; simp only [AV.lower] at e; split at e <;> simp at e; subst e; exact ⟨rfl, rfl, rfl, rfl⟩
  | tup a ih => intro r e; simp [AV.lower] at e
  | undef => intro r e; simp [AV.lower] at e
  | _ => intro r e; simp only [AV.lower, Option.some.injEq] at e; subst e; exact ⟨rfl, rfl, rfl, rfl⟩

/-- What a function hands back, in the caller's hand. -/
theorem lower_VR {R R' : Cx} {A B : Key} {N : Nat} (hA : A.lv = N) (hB : B.lv = N - 1) (hN : 0 < N) (hZ : R'.Z = R.Z) (hh : R'.h = R.h) (hρ : ∀ q, R'.ρ (B.plus q) = R.ρ (A.plus q))
    (hT : ∀ T : Key, T.lv < N → R.fl T.lv T.s T.bx = true → R'.fl T.lv T.s T.bx = true ∧ R'.ρ T = R.ρ T) : ∀ {u r : AV}, u.lower = some r → ∀ {q : List Stp} {cs : List Value}, VR R u (A.plus q) cs → VR R' r (B.plus q) cs := by
  have pl : ∀ {q : Pl} {p : List Stp}, q.r.k ≠ 0 → R.sees (A.plus p) q → R'.sees (B.plus p) q.low ∧ (B.plus p).at q.low = (A.plus p).at q ∧ R'.ρ ((A.plus p).at q) = R.ρ ((A.plus p).at q) ∧ R'.ρ ((A.plus p).at q).node = R.ρ ((A.plus p).at q).node := by
    intro q p hk ⟨h1, h2⟩
    have hAl : (A.plus p).lv = N := hA
    have hBl : (B.plus p).lv = N - 1 := hB
    rw [hAl] at h1 h2
    have e1 : N - 1 - (q.r.k - 1) = N - q.r.k := by omega
    have hlt : N - q.r.k < N := by omega
    have t1 := hT ((A.plus p).at q) (by show (A.plus p).lv - q.r.k < N; rw [hAl]; exact hlt) (by show R.fl ((A.plus p).lv - q.r.k) _ _ = true; rw [hAl]; exact h2)
    have t2 := hT ((A.plus p).at q).node (by show (A.plus p).lv - q.r.k < N; rw [hAl]; exact hlt) (by show R.fl ((A.plus p).lv - q.r.k) _ _ = true; rw [hAl]; exact h2)
    refine ⟨⟨?_, ?_⟩, ?_, t1.2, t2.2⟩
    · show q.r.k - 1 ≤ (B.plus p).lv; rw [hBl]; omega
    · show R'.fl ((B.plus p).lv - (q.r.k - 1)) q.r.s q.r.bx = true
      rw [hBl, e1]
      have := t1.1
      simp only [Key.at, hAl] at this
      exact this
    · simp only [Key.at, Pl.low, hAl, hBl, e1]
  intro u
  induction u with
  | d s x => intro r e q cs h; simp only [AV.lower, Option.some.injEq] at e; subst e; simp only [VR, hZ, hh] at h ⊢; exact h
  | own e0 o l =>
    intro r e q cs h
    simp only [AV.lower, Option.some.injEq] at e
    subst e
    exact OR.rekey (R := R) (R' := R') (A := A) (B := B) (s := .sl e0) (o := .ow o) (fun b hb => by rw [hZ]; exact hb) hh hρ h
  | vw q0 e0 =>
    intro r e q cs h
    simp only [AV.lower] at e
    split at e
    · simp at e
    · rename_i hk
      simp only [Option.some.injEq] at e
      subst e
      obtain ⟨v, rfl, hs, hv⟩ := h
      obtain ⟨s1, s2, s3, _⟩ := pl hk hs
      refine ⟨v, rfl, s1, ?_⟩
      rw [s2, s3]
      cases hq : R.ρ ((A.plus q).at q0) with
      | none => rw [hq] at hv; exact hv
      | some nd => rw [hq] at hv; cases nd with
        | nil => exact hv
        | blk b len => simp only [VwR, hh] at hv ⊢; exact hv
  | sub q0 e0 lo n =>
    intro r e q cs h
    simp only [AV.lower] at e
    split at e
    · simp at e
    · rename_i hk
      simp only [Option.some.injEq] at e
      subst e
      obtain ⟨v, rfl, hs, hv⟩ := h
      obtain ⟨s1, s2, s3, _⟩ := pl hk hs
      refine ⟨v, rfl, s1, ?_⟩
      rw [s2, s3]
      cases hq : R.ρ ((A.plus q).at q0) with
      | none => rw [hq] at hv; exact hv
      | some nd => rw [hq] at hv; cases nd with
        | nil => exact hv
        | blk b len => exact hv
  | ptr q0 =>
    intro r e q cs h
    simp only [AV.lower] at e
    split at e
    · simp at e
    · rename_i hk
      simp only [Option.some.injEq] at e
      subst e
      obtain ⟨v, rfl, hs, hv⟩ := h
      obtain ⟨s1, s2, _, s4⟩ := pl hk hs
      refine ⟨v, rfl, s1, ?_⟩
      rw [s2, s4]
      exact hv
  | dp s x => intro r e q cs h; simp only [AV.lower, Option.some.injEq] at e; subst e; simp only [VR, hZ, hh] at h ⊢; exact h
  | pair x y ihx ihy =>
    intro r e q cs h
    simp only [AV.lower] at e
    split at e
    · rename_i x' y' hx hy
      simp only [Option.some.injEq] at e
      subst e
      obtain ⟨c1, c2, rfl, h1, h2⟩ := h
      refine ⟨c1, c2, rfl, ihx hx (q := .l :: q) h1, ?_⟩
      rw [(lower_size hx).1]
      exact ihy hy (q := .r x.size :: q) h2
    · simp at e
  | unit => intro r e q cs h; simp only [AV.lower, Option.some.injEq] at e; subst e; exact h
  | tup a ih => intro r e q cs h; simp [AV.lower] at e
  | fn f a ih =>
    intro r e q cs h
    simp only [AV.lower] at e
    cases a <;> simp only [VR] at h <;> first | exact h.elim | skip
    simp only [AV.lower, Option.some.injEq] at e
    subst e
    exact h
  | nils => intro r e q cs h; simp only [AV.lower, Option.some.injEq] at e; subst e; exact h
  | undef => intro r e q cs h; simp [AV.lower] at e

theorem lower_VV {R R' : Cx} {A B : Key} {N : Nat} (hA : A.lv = N) (hB : B.lv = N - 1) (hN : 0 < N) (hZ : R'.Z = R.Z) (hh : R'.h = R.h) (hρ : ∀ q, R'.ρ (B.plus q) = R.ρ (A.plus q))
    (hT : ∀ T : Key, T.lv < N → R.fl T.lv T.s T.bx = true → R'.fl T.lv T.s T.bx = true ∧ R'.ρ T = R.ρ T) {u r : AV} (hl : u.lower = some r) {q : List Stp} {v : Value} (h : VV R u (A.plus q) v) : VV R' r (B.plus q) v := by
  obtain ⟨_, e2, e3, e4⟩ := lower_size hl
  rw [VV_iff (AV.notBad e4).1] at h
  rw [VV_iff (AV.notBad e3).1, e2]
  split at h
  · rename_i hg; rw [if_pos hg]; obtain ⟨arr, e, h⟩ := h; exact ⟨arr, e, lower_VR hA hB hN hZ hh hρ hT hl h⟩
  · rename_i hg; rw [if_neg hg]; exact lower_VR hA hB hN hZ hh hρ hT hl h

theorem lower_SV {R R' : Cx} {A B : Key} {N : Nat} (hA : A.lv = N) (hB : B.lv = N - 1) (hN : 0 < N) (hZ : R'.Z = R.Z) (hh : R'.h = R.h) (hρ : ∀ q, R'.ρ (B.plus q) = R.ρ (A.plus q))
    (hT : ∀ T : Key, T.lv < N → R.fl T.lv T.s T.bx = true → R'.fl T.lv T.s T.bx = true ∧ R'.ρ T = R.ρ T) {u r : AV} (hl : u.lower = some r) {t : Bool} {v : Value} (h : SV R (asTup t u) A v) : SV R' (asTup t r) B v := by
  have tupc : ∀ {u r : AV}, u.lower = some r → ∀ {q : List Stp} {vs : List Value}, TupR R u (A.plus q) vs → TupR R' r (B.plus q) vs := by
    intro u
    induction u with
    | pair x y ihx ihy =>
      intro r e q vs h
      simp only [AV.lower] at e
      split at e
      · rename_i x' y' hx hy
        simp only [Option.some.injEq] at e
        subst e
        obtain ⟨v, rr, rfl, h1, h2⟩ := h
        exact ⟨v, rr, rfl, lower_VV hA hB hN hZ hh hρ hT hx (q := .l :: q) h1, ihy hy (q := .r 0 :: q) h2⟩
      · simp at e
    | unit => intro r e q vs h; simp only [AV.lower, Option.some.injEq] at e; subst e; exact h
    | _ => intro r e q vs h; exact h.elim
  cases t with
  | true =>
    obtain ⟨vs, rfl, h⟩ := h
    exact ⟨vs, rfl, tupc hl (q := []) h⟩
  | false =>
    obtain ⟨_, _, e3, e4⟩ := lower_size hl
    have h : SV R u A v := h
    show SV R' r B v
    rw [SV_VV (AV.notBad e4).2] at h
    rw [SV_VV (AV.notBad e3).2]
    exact lower_VV hA hB hN hZ hh hρ hT hl (q := []) h

theorem ArgsR.length {R : Cx} {K : Key} : ∀ {as : List AV} {vs : List Value}, ArgsR R K as vs → as.length = vs.length := by
  intro as
  induction as with
  | nil => intro vs h; cases vs <;> first | rfl | exact h.elim
  | cons a as ih => intro vs h; cases vs with
    | nil => exact h.elim
    | cons v vs => simp only [List.length_cons, ih h.2]

theorem ArgsR.get {R : Cx} {K : Key} : ∀ {as : List AV} {vs : List Value}, ArgsR R K as vs → ∀ (i : Nat) (a : AV), as[i]? = some a → ∃ v, vs[i]? = some v ∧ SV R a K v := by
  intro as
  induction as with
  | nil => intro vs h i a hi; simp at hi
  | cons a as ih => intro vs h i b hi; cases vs with
    | nil => exact h.elim
    | cons v vs =>
      cases i with
      | zero => simp only [List.getElem?_cons_zero, Option.some.injEq] at hi; subst hi; exact ⟨v, rfl, h.1⟩
      | succ i => simpa using ih h.2 i b (by simpa using hi)

theorem isD_own : ∀ {v : AV}, v.isD = true → v.hasOwn = false := by
  intro v
  induction v with
  | pair a b iha ihb => intro h; simp only [AV.isD, Bool.and_eq_true] at h; simp only [AV.hasOwn, iha h.1, ihb h.2, Bool.or_self]
  | d s x => intro _; rfl
  | unit => intro _; rfl
  | _ => intro h; simp [AV.isD] at h

/-- A function that is handed data does what its evaluation says. -/
theorem pureC_of {P : Program} {E : Env} (hE : EnvOk P E) {C : Orc} (hC : OrcOk P E C) {keep : Nat → List Nat} {f : Nat} {fn : Func} (hf : P.funcs[f]? = some fn) (hname : (fn.name == "runtime.NumGoroutine") = false) {body : Code} (hb : fn.body = some body) {n : Nat} (hn : fn.ntmps = n)
    {rs : List ResultVar} (hrs : fn.results.toList = rs) {ss : List Sh} {args : List AV} (hargs : args.all AV.isD = true) (hlen : args.length ≤ n) {r : Pk} (hev : evFun E C keep ss rs n body args [] fun r' _ => r' = r) : PureC P (rs.length != 1) f args r := by
  refine ⟨⟨fn, hf, hname, by rw [hb]; rfl⟩, ?_⟩
  intro w Z vals hZ hvals
  have hvl := hvals.length
  refine calls_of_wp hf hb ?_
  let t0 : Array Value := vals.toArray ++ Array.replicate (fn.ntmps - vals.toArray.size) undef
  let st : St := [startFrm args n]
  let R : Cx := ⟨fun _ => none, Z, w.heap, st.fl⟩
  have hget : ∀ i s sl, st.get i s = some sl → i = 0 ∧ ((s < args.length ∧ ∃ a, args[s]? = some a ∧ sl = argSlot a) ∨ sl = emptySlot) := by
    intro i s sl hg
    cases i with
    | succ i => simp [st, St.get] at hg
    | zero =>
      refine ⟨rfl, ?_⟩
      simp only [st, St.get, List.getElem?_cons_zero, Option.bind_some, startFrm] at hg
      by_cases hs : s < args.length
      · rw [List.getElem?_append_left (by simpa using hs), List.getElem?_map] at hg
        cases ha : args[s]? with
        | none => rw [ha] at hg; simp at hg
        | some a => rw [ha] at hg; simp only [Option.map_some, Option.some.injEq] at hg; exact .inl ⟨hs, a, rfl, hg.symm⟩
      · rw [List.getElem?_append_right (by simpa using hs), List.getElem?_replicate] at hg
        split at hg
        · simp only [Option.some.injEq] at hg; exact .inr hg.symm
        · simp at hg
  have hrel : Rel ⟨w, Z⟩ st [t0] R w := by
    refine ⟨rfl, fun _ _ _ => rfl, rfl, ?_, ?_, ?_, ?_, ?_, ?_, ?_, hZ, RowKit.Below.refl _ _, fun b hb => .inl hb⟩
    · intro i g t hg ht
      cases i with
      | succ i => simp [st] at hg
      | zero =>
        simp only [st, List.getElem?_cons_zero, Option.some.injEq] at hg ht
        subst hg ht
        simp only [startFrm, t0, List.length_append, List.length_map, List.length_replicate, Array.size_append, List.size_toArray, Array.size_replicate, hvl, hn]
    · intro i s sl t hg ht
      obtain ⟨rfl, hc⟩ := hget i s sl hg
      simp only [List.getElem?_cons_zero, Option.some.injEq] at ht
      subst ht
      rcases hc with ⟨hs, a, ha, rfl⟩ | rfl
      · obtain ⟨v, hv, hsv⟩ := hvals.get s a ha
        have hD : a.isD = true := List.all_eq_true.1 hargs a (List.mem_of_getElem? ha)
        have hval : t0.getD s undef = v := by
          have : s < vals.length := by omega
          rw [Array.getD_eq_getD_getElem?]
          simp only [t0]
          rw [Array.getElem?_append_left (by simpa using this)]
          simp [hv]
        rw [hval]
        have h1 : SV R a K00 v := SV.frame (R := Cx.bare Z w.heap) (R' := R) (AV.le_refl a) ⟨fun _ => id, fun _ _ _ => id, fun _ _ => rfl, fun T b n o _ hr => by simp [Cx.bare] at hr⟩ (fun T hT => absurd hT (isD_hits hD)) hsv
        show SV R a (st.kv 0 s) v
        exact SV.move (K := K00) (K' := st.kv 0 s) (isD_own hD) rfl h1
      · trivial
    · intro i s sl hg
      obtain ⟨rfl, hc⟩ := hget i s sl hg
      rcases hc with ⟨hs, a, ha, rfl⟩ | rfl
      · exact .inl rfl
      · exact .inl rfl
    · intro K K' b n m e; simp [R] at e
    · intro b _ K n e; simp [R] at e
    · intro K b n e; simp [R] at e
    · intro K b n e; simp [R] at e
  unfold evFun at hev
  refine evCode_ok hE hC (w0 := ⟨w, Z⟩) (ts := []) [] body (a := { tmps := t0, defers := [] }) hrel rfl hev ?_
  intro e st' a' R' w' hk hd h'
  have fin : ((retM E ss rs).wp C st' fun v st' => ∃ w r', v.pack = some w ∧ w.as (rs.length == 1) r' ∧ r' = r) → a'.defers = [] ∧ ∃ v, (results fn a'.tmps).run P w' = .ok v w' ∧ ∃ v' R'', Ending.returned v = .returned v' ∧ Rel ⟨w, Z⟩ [] [] R'' w' ∧ SV R'' (asTup (rs.length != 1) (unpackT (rs.length != 1) r)) K00 v' := by
    intro hk
    obtain ⟨v, r', st2, R2, hrun, hrr, hl2, h2, hsv⟩ := ret_ok (P := P) hE hrs h' (k := fun r' _ => r' = r) hk
    subst hrr
    refine ⟨hd, v, hrun, v, ?_⟩
    have hlen2 : st2.length = 1 := by have := h2.len; simpa using this
    obtain ⟨g, rfl⟩ := List.length_eq_one_iff.1 hlen2
    obtain ⟨R3, h3, hz3, hh3, hρ3, _⟩ := h2.popped
    exact ⟨R3, rfl, h3, ret_rekey (R := R2) (R' := R3) (A := St.hand [g] 0) (B := K00) (.inl fun b hb => by rw [hz3]; exact hb) hh3 (fun q => hρ3 q) hsv⟩
  cases e with
  | normal => exact fin hk
  | exit id => exact hk.elim
  | ret => exact fin hk

end Go.Proofs.Ytgebhckfdcajoaa.Ev

/- Functions that are handed views of the caller's places. -/
namespace Go.Proofs.Ytgebhckfdcajoaa.Ev
open Go
set_option linter.unusedSimpArgs false
set_option linter.unusedVariables false

/-- A value as the called frame sees it. -/
def AV.inner (v : AV) : AV := viewOf ⟨⟨1, 0, false⟩, []⟩ v

theorem inlC_of {P : Program} {E : Env} (hE : EnvOk P E) {C : Orc} (hC : OrcOk P E C) {keep : Nat → List Nat} {f : Nat} {fn : Func} (hf : P.funcs[f]? = some fn) (hname : (fn.name == "runtime.NumGoroutine") = false) {body : Code} (hb : fn.body = some body) {n : Nat} (hn : fn.ntmps = n)
    {rs : List ResultVar} (hrs : fn.results.toList = rs) {ss : List Sh} {vs : List AV} {st : St} (hst : 0 < st.length) (hgood : vs.all (fun v => !v.isBad) = true) (hlen : vs.length ≤ n) {r : AV} {st2 : St}
    (hev : evInl E C keep ss rs n body (vs.map AV.inner) st fun r' st' => r' = r ∧ st' = st2) : InlC P (rs.length != 1) f vs st r st2 := by
  refine ⟨⟨fn, hf, hname, by rw [hb]; rfl⟩, ?_⟩
  intro w0 w ts R vals h hvals hos
  have hargs := hvals ⟨st.length - 1, 0, false, []⟩ rfl
  have hvl := hargs.length
  refine calls_of_wp hf hb ?_
  let t0 : Array Value := vals.toArray ++ Array.replicate (fn.ntmps - vals.toArray.size) undef
  let fr : Frm := startFrm (vs.map AV.inner) n
  let st1 : St := fr :: st
  let R1 : Cx := { R with fl := st1.fl }
  have hget : ∀ (s : Nat) (sl : Slot), fr[s]? = some sl → (∃ a : AV, vs[s]? = some a ∧ sl = argSlot a.inner) ∨ sl = emptySlot := by
    intro s sl hg
    simp only [fr, startFrm] at hg
    by_cases hs : s < vs.length
    · rw [List.getElem?_append_left (by simpa using hs), List.getElem?_map, List.getElem?_map] at hg
      cases ha : vs[s]? with
      | none => rw [ha] at hg; simp at hg
      | some a => rw [ha] at hg; simp only [Option.map_some, Option.some.injEq] at hg; exact .inl ⟨a, rfl, hg.symm⟩
    · rw [List.getElem?_append_right (by simpa using hs), List.getElem?_replicate] at hg
      split at hg
      · simp only [Option.some.injEq] at hg; exact .inr hg.symm
      · simp at hg
  have hfl : ∀ lv m bx, lv < st.length → st1.fl lv m bx = st.fl lv m bx := by
    intro lv m bx hl
    have e : st.length + 1 - 1 - lv = (st.length - 1 - lv) + 1 := by omega
    have hg : ∀ i s, St.get st1 (i + 1) s = st.get i s := by intro i s; simp [st1, St.get]
    simp only [St.fl, st1, List.length_cons, e]
    rw [show St.get (fr :: st) (st.length - 1 - lv + 1) m = st.get (st.length - 1 - lv) m from hg _ _]
    have h1 : decide (lv < st.length + 1) = true := by simp; omega
    have h2 : decide (lv < st.length) = true := by simp; omega
    rw [h1, h2]
  have frame : ∀ {K : Key} {v : AV}, K.lv < st.length → R.Ok R1 K v := by
    intro K v hl
    refine ⟨⟨fun _ => id, fun _ _ _ => id, fun _ _ => rfl, fun _ _ _ _ _ _ => id⟩, fun T hT e => ⟨?_, .inr ⟨rfl, fun b n arr el _ e => ⟨arr, e, rfl⟩⟩⟩⟩
    show st1.fl T.lv T.s T.bx = true
    rw [hfl _ _ _ (Nat.lt_of_le_of_lt (hits_lv_le hT) hl), ← h.fl]
    exact e
  have hrel : Rel w0 st1 (t0 :: ts) R1 w := by
    refine ⟨h.hh, fun _ _ _ => rfl, by simp [st1, h.len], ?_, ?_, ?_, h.inj, h.zd, h.lo, h.lt, h.zlt, h.bel, h.zlo⟩
    · intro i g t hg ht
      cases i with
      | zero =>
        simp only [st1, List.getElem?_cons_zero, Option.some.injEq] at hg ht
        subst hg ht
        simp only [fr, startFrm, t0, List.length_append, List.length_map, List.length_replicate, Array.size_append, List.size_toArray, Array.size_replicate, hvl, hn]
      | succ i => exact h.sz i g t (by simpa [st1] using hg) (by simpa using ht)
    · intro i s sl t hg ht
      cases i with
      | zero =>
        simp only [List.getElem?_cons_zero, Option.some.injEq] at ht
        subst ht
        have hg : fr[s]? = some sl := by simpa [st1, St.get] using hg
        rcases hget s sl hg with ⟨a, ha, rfl⟩ | rfl
        · obtain ⟨v, hv, hsv⟩ := hargs.get s a ha
          have hs : s < vals.length := by have := (List.getElem?_eq_some_iff.1 ha).1; omega
          have hval : t0.getD s undef = v := by
            rw [Array.getD_eq_getD_getElem?]
            simp only [t0]
            rw [Array.getElem?_append_left (by simpa using hs)]
            simp [hv]
          rw [hval]
          have hb : a.isBad = false := by
            have := List.all_eq_true.1 hgood a (List.mem_of_getElem? ha)
            simpa using this
          have ho := hos a (List.mem_of_getElem? ha)
          have h1 : SV R1 a ⟨st.length - 1, 0, false, []⟩ v := by
            obtain ⟨q1, q2⟩ := frame (K := ⟨st.length - 1, 0, false, []⟩) (v := a) (by show st.length - 1 < st.length; omega)
            exact SV.frame (AV.le_refl _) q1 q2 hsv
          show SV R1 a.inner (st1.kv 0 s) v
          refine viewOf_SV (q := ⟨⟨1, 0, false⟩, []⟩) (K := ⟨st.length - 1, 0, false, []⟩) ?_ ?_ (fun e => by rw [ho] at e; simp at e) hb h1
          · simp [Key.at, St.kv, st1]
          · simp [St.kv, st1]; omega
        · trivial
      | succ i =>
        have hg : st.get i s = some sl := by simpa [st1, St.get] using hg
        have := h.slot i s sl t hg (by simpa using ht)
        have hi := St.get_lt hg
        have e : St.kv st1 (i + 1) s = st.kv i s := by simp only [St.kv, st1, List.length_cons, Key.mk.injEq, and_true]; omega
        rw [e]
        obtain ⟨q1, q2⟩ := frame (K := st.kv i s) (v := sl.v) (by simp only [St.kv]; omega)
        exact SV.frame (AV.le_refl _) q1 q2 this
    · intro i s sl hg
      cases i with
      | zero =>
        have hg : fr[s]? = some sl := by simpa [st1, St.get] using hg
        rcases hget s sl hg with ⟨a, ha, rfl⟩ | rfl
        · exact .inl rfl
        · exact .inl rfl
      | succ i =>
        have hg : st.get i s = some sl := by simpa [st1, St.get] using hg
        have := h.box i s sl hg
        have hi := St.get_lt hg
        have e : St.kb st1 (i + 1) s = st.kb i s := by simp only [St.kb, st1, List.length_cons, Key.mk.injEq, and_true]; omega
        rw [e]
        obtain ⟨q1, q2⟩ := frame (K := st.kb i s) (v := sl.b) (by simp only [St.kb]; omega)
        exact BoxR.frame (AV.le_refl _) q1 q2 this
  unfold evInl at hev
  refine evCode_ok hE hC (w0 := w0) (ts := ts) [] body (a := { tmps := t0, defers := [] }) hrel rfl hev ?_
  intro e st' a' R' w' hk hd h'
  have fin : ((retM E ss rs).wp C st' fun v st' => ∃ r', v.lower = some r' ∧ r' = r ∧ st'.tail = st2) → a'.defers = [] ∧ ∃ v, (results fn a'.tmps).run P w' = .ok v w' ∧ ∃ v' R'', Ending.returned v = .returned v' ∧ Rel w0 st2 ts R'' w' ∧ st2.length = st.length ∧ SV R'' (asTup (rs.length != 1) r) (st2.hand 0) v' := by
    intro hk
    obtain ⟨v, u, r', st3, R2, hrun, hlow, ⟨hrr, htl⟩, hl2, h2, hsv⟩ := ret_okI (P := P) hE hrs h' (k := fun r' st' => r' = r ∧ st' = st2) hk
    subst hrr
    refine ⟨hd, v, hrun, v, ?_⟩
    have hlen2 : st3.length = ts.length + 1 := by have := h2.len; simpa using this
    have hts : st.length = ts.length := h.len
    cases st3 with
    | nil => simp at hlen2
    | cons g o =>
      simp only [List.tail_cons] at htl
      subst htl
      obtain ⟨R3, h3, hz3, hh3, hρ3, hT3⟩ := h2.popped
      have hol : o.length = ts.length := by simpa using hlen2
      have hlenpos : 0 < o.length := by rw [hol, ← hts]; exact hst
      refine ⟨R3, rfl, h3, by rw [hol, hts], lower_SV (A := St.hand (g :: o) 0) (B := St.hand o 0) (N := o.length) (by simp [St.hand]) (by simp [St.hand]) hlenpos hz3 hh3 hρ3 hT3 hlow hsv⟩
  cases e with
  | normal => exact fin hk
  | exit id => exact hk.elim
  | ret => exact fin hk

end Go.Proofs.Ytgebhckfdcajoaa.Ev

/- Arguments of a row, read as data. -/
namespace Go.Proofs.Ytgebhckfdcajoaa.Ev
open Go
set_option linter.unusedSimpArgs false
set_option linter.unusedVariables false

/-- Bytes that a value of a shape takes at least. -/
def bytesSh : Sh → Nat
  | .int k => k.bits / 8
  | .bool => 1
  | .str => 16
  | .sl _ => 24
  | .unit => 0
  | .pair a b => bytesSh a + bytesSh b

/-- The table tells no fewer bytes of a slice's elements. -/
def EnvB (E : Env) : Prop := ∀ t e, E.sh t = some (.sl e) → bytesSh e ≤ E.bytes t

/-- What data of a row's arguments are like. -/
def WfD : (s : Sh) → s.den → Prop
  | .int k, n => (Lit.int k n).wf = true
  | .str, x => x.size ≤ 140737488351232
  | .pair a b, x => WfD a x.1 ∧ WfD b x.2
  | .sl e, l => l.length * bytesSh e ≤ 140737488351232 ∧ l.length ≤ maxLen ∧ ∀ y, y ∈ l → WfD e y
  | _, _ => True

theorem mapM_cons_some {α β : Type} {f : α → Option β} {a : α} {l : List α} {r : List β} (h : (a :: l).mapM f = some r) : ∃ b r', f a = some b ∧ l.mapM f = some r' ∧ r = b :: r' := by
  simp only [List.mapM_cons, Option.bind_eq_bind, Option.pure_def, Option.bind_eq_some_iff, Option.some.injEq] at h
  obtain ⟨b, hb, r', hr, e⟩ := h
  exact ⟨b, r', hb, hr, e.symm⟩

theorem mapM_range_get {β : Type} {f : Nat → Option β} {n : Nat} {r : List β} (h : (List.range n).mapM f = some r) : r.length = n ∧ ∀ i, i < n → ∃ b, f i = some b ∧ r[i]? = some b := by
  have key : ∀ (m k : Nat) (r : List β), (List.range' k m).mapM f = some r → r.length = m ∧ ∀ i, i < m → ∃ b, f (k + i) = some b ∧ r[i]? = some b := by
    intro m
    induction m with
    | zero => intro k r h; simp at h; subst h; exact ⟨rfl, fun i hi => by omega⟩
    | succ m ih =>
      intro k r h
      rw [List.range'_succ] at h
      obtain ⟨b, r', hb, hr, rfl⟩ := mapM_cons_some h
      obtain ⟨h1, h2⟩ := ih (k + 1) r' hr
      refine ⟨by simp [h1], ?_⟩
      intro i hi
      cases i with
      | zero => exact ⟨b, hb, rfl⟩
      | succ i =>
        obtain ⟨b', e1, e2⟩ := h2 i (by omega)
        exact ⟨b', by rw [← e1]; congr 1; omega, by simpa using e2⟩
  rw [List.range_eq_range'] at h
  obtain ⟨h1, h2⟩ := key n 0 r h
  exact ⟨h1, fun i hi => by simpa using h2 i hi⟩

theorem cellsOf_eq {P : Program} {t : TypeId} {i : TypeInfo} (h : P.info? t = some i) : P.cellsOf t = i.size := by simp [Program.cellsOf, h]

/-- Cells read at an address. -/
theorem cells_at {w : World} {a : Addr} {n : Nat} {c : List Value} (h : w.cells? 0 a n = some c) : c.length = n ∧ (n ≠ 0 → ∃ arr el fr, a.spot = none ∧ w.heap[a.block]? = some (.cells arr el fr) ∧ ∃ r, arr.toList.drop a.off = c ++ r) := by
  unfold World.cells? at h
  rw [if_pos (Nat.zero_le _)] at h
  obtain ⟨h1, h2⟩ := mapM_range_get h
  refine ⟨h1, fun hn => ?_⟩
  have hspot : a.spot = none := by
    obtain ⟨b, e1, _⟩ := h2 0 (by omega)
    have e0 : a.add 0 = a := by unfold Addr.add; simp
    rw [e0] at e1
    unfold World.cell? at e1
    split at e1
    · by_cases hs : a.spot.isSome = true
      · rw [if_pos hs] at e1; simp at e1
      · simpa using hs
    · simp at e1
  have get : ∀ i, i < n → ∃ arr el fr, a.spot = none ∧ w.heap[a.block]? = some (.cells arr el fr) ∧ arr[a.off + i]? = c[i]? := by
    intro i hi
    obtain ⟨b, e1, e2⟩ := h2 i hi
    have ha : a.add i = ⟨a.block, a.off + i, none⟩ := by
      cases a with | mk b o s => simp only at hspot; subst hspot; exact addr_add b o i
    rw [ha] at e1
    unfold World.cell? at e1
    split at e1
    · rename_i arr el fr hh
      simp at e1
      exact ⟨arr, el, fr, hspot, hh, by rw [e2]; simpa using e1⟩
    · simp at e1
  obtain ⟨arr, el, fr, hs, hh, _⟩ := get 0 (by omega)
  refine ⟨arr, el, fr, hs, hh, (arr.toList.drop a.off).drop n, ?_⟩
  apply List.ext_getElem?
  intro i
  by_cases hi : i < n
  · obtain ⟨arr', el', fr', _, hh', e⟩ := get i hi
    rw [hh] at hh'
    cases hh'
    rw [List.getElem?_append_left (by omega), List.getElem?_drop, ← e]
    simp
  · rw [List.getElem?_append_right (by omega), h1]
    simp only [List.getElem?_drop]
    congr 1
    omega

theorem trod_fields {P : Program} {E : Env} (hE : EnvOk P E) {w : World} {α : Type} {g : TypeId → List Value → Option α} {ok : TypeId → α → Prop} (ih : ∀ {t : TypeId} {s : Sh} {cs : List Value} {y : α}, E.sh t = some s → g t cs = some y → ok t y → ∃ x, DR (fun b => b < w.heap.size) w.heap s x cs ∧ WfD s x) :
    ∀ {s : Sh} {fs : List Field} {off : Nat} {cs : List Value} {ys : List α}, fldB P E fs s off = true → fs.mapM (fun f => g f.type ((cs.drop f.offset).take (P.cellsOf f.type))) = some ys → (∀ (i : Nat) (f : Field) (y : α), fs[i]? = some f → ys[i]? = some y → ok f.type y) → ∃ x, DR (fun b => b < w.heap.size) w.heap s x ((cs.drop off).take s.size) ∧ WfD s x := by
  intro s
  induction s with
  | pair a b iha ihb =>
    intro fs off cs ys hb h hok
    cases fs with
    | nil => simp [fldB] at hb
    | cons f fs =>
      simp only [fldB, Bool.and_eq_true, beq_iff_eq, bne_iff_ne, ne_eq] at hb
      obtain ⟨⟨⟨h1, h2⟩, h3⟩, h4⟩ := hb
      obtain ⟨y, ys', e1, e2, rfl⟩ := mapM_cons_some h
      obtain ⟨i, z, hi, hsz, _⟩ := tyB_info (hE.sh _ _ h2)
      rw [cellsOf_eq hi, hsz, h1] at e1
      obtain ⟨x1, d1, w1⟩ := ih h2 e1 (hok 0 f y rfl rfl)
      obtain ⟨x2, d2, w2⟩ := ihb h4 e2 (fun i f y a b => hok (i + 1) f y (by simpa using a) (by simpa using b))
      refine ⟨(x1, x2), ⟨_, _, ?_, d1, d2⟩, w1, w2⟩
      rw [show (Sh.pair a b).size = a.size + b.size from rfl, List.take_add, List.drop_drop]
  | unit =>
    intro fs off cs ys hb h hok
    exact ⟨(), by simp [DR, Sh.size], trivial⟩
  | _ => intro fs off cs ys hb h; cases fs <;> simp [fldB] at hb

theorem segBuild {α : Type} {Q : α → List Value → Prop} {W : α → Prop} {cs : List Value} {off z : Nat} : ∀ (m k : Nat), (∀ i, k ≤ i → i < k + m → ∃ c r x, cs.drop (off + i * z) = c ++ r ∧ c.length = z ∧ Q x c ∧ W x) → ∃ l : List α, l.length = m ∧ Seg Q l (cs.drop (off + k * z)) ∧ ∀ y, y ∈ l → W y := by
  intro m
  induction m with
  | zero => intro k _; exact ⟨[], rfl, trivial, fun y hy => by simp at hy⟩
  | succ m ih =>
    intro k h
    obtain ⟨c, r, x, h1, h2, h3, h4⟩ := h k (Nat.le_refl _) (by omega)
    obtain ⟨l, l1, l2, l3⟩ := ih (k + 1) (fun i a b => h i (by omega) (by omega))
    refine ⟨x :: l, by simp [l1], ⟨c, r, h1, h3, ?_⟩, fun y hy => ?_⟩
    · have e : off + (k + 1) * z = off + k * z + z := by rw [Nat.succ_mul]; omega
      rw [e, ← List.drop_drop, h1, ← h2] at l2
      simpa using l2
    · rcases List.mem_cons.1 hy with rfl | hy
      · exact h4
      · exact l3 y hy

theorem weightsEach_get {H : Type} {P : Program} : ∀ {ts : List TypeId} {ds : List (DataW H)} (i : Nat) {t : TypeId} {d : DataW H}, ts[i]? = some t → ds[i]? = some d → ∀ n, n ∈ d.weights P t → n ∈ DataW.weightsEach P ts ds := by
  intro ts
  induction ts with
  | nil => intro ds i t d h; simp at h
  | cons t0 ts ih =>
    intro ds i t d h1 h2 n hn
    cases ds with
    | nil => simp at h2
    | cons d0 ds =>
      simp only [DataW.weightsEach, List.mem_append]
      cases i with
      | zero => simp only [List.getElem?_cons_zero, Option.some.injEq] at h1 h2; subst h1 h2; exact .inl hn
      | succ i => exact .inr (ih i (by simpa using h1) (by simpa using h2) n hn)

theorem weightsAll_get {H : Type} {P : Program} {e : TypeId} : ∀ {ds : List (DataW H)} {d : DataW H}, d ∈ ds → ∀ n, n ∈ d.weights P e → n ∈ DataW.weightsAll P e ds := by
  intro ds
  induction ds with
  | nil => intro d h; simp at h
  | cons d0 ds ih =>
    intro d h n hn
    simp only [DataW.weightsAll, List.mem_append]
    rcases List.mem_cons.1 h with rfl | h
    · exact .inl hn
    · exact .inr (ih h n hn)

/-- What a row reads as data is frozen data. -/
theorem trod_DR {P : Program} {E : Env} (hE : EnvOk P E) {H : Type} {enc : TypeId × Value → H} {w : World} {spare : Nat → Bool} {held : Bool} (hB : EnvB E) : ∀ (fuel : Nat) {t : TypeId} {s : Sh} {cs : List Value} {y : DataW H × List MemPlace}, E.sh t = some s →
    DataW.trod enc P w 0 spare held fuel t cs = some y → (∀ n, n ∈ y.1.weights P t → n ≤ reachBytes) → ∃ x, DR (fun b => b < w.heap.size) w.heap s x cs ∧ WfD s x := by
  intro fuel
  induction fuel with
  | zero => intro t s cs y _ h _; simp [DataW.trod] at h
  | succ fuel ih =>
    intro t s cs y hs h hwt
    have hty := hE.sh _ _ hs
    unfold DataW.trod at h
    cases s with
    | int k =>
      rw [(tyB_scalar hty).1 k rfl] at h
      split at h <;> rename_i e <;> simp at e <;> try (simp at h; done)
      subst e
      split at h
      · rename_i hc; obtain ⟨rfl, hwf⟩ := hc; exact ⟨_, rfl, hwf⟩
      · simp at h
    | bool =>
      rw [(tyB_scalar hty).2.2 rfl] at h
      split at h <;> rename_i e <;> simp at e <;> try (simp at h; done)
      exact ⟨_, rfl, trivial⟩
    | str =>
      rw [(tyB_scalar hty).2.1 rfl] at h
      split at h <;> rename_i e <;> simp at e <;> try (simp at h; done)
      split at h
      · rename_i s0 hc
        simp only [Option.some.injEq] at h
        subst h
        refine ⟨_, rfl, ?_⟩
        have := hwt s0.data.toList.length (by simp [DataW.weights])
        simp only [reachBytes] at this
        show s0.size ≤ _
        have e : s0.data.toList.length = s0.size := Array.length_toList
        omega
      · simp at h
    | unit =>
      obtain ⟨fs, hu, hb⟩ := tyB_fld hty rfl
      obtain ⟨i, z, hi, hsz, _⟩ := tyB_info hty
      rw [hu] at h
      have hst : ∃ ys, cs.length = P.cellsOf t ∧ (fs.toList.mapM fun f => DataW.trod enc P w 0 spare held fuel f.type ((cs.drop f.offset).take (P.cellsOf f.type))) = some ys ∧ y.1 = .agg (ys.map (·.1)) := by
        split at h
        all_goals first
          | (exfalso; simp_all; done)
          | skip
        rename_i fs' e
        simp only [Option.some.injEq, TypeDesc.struct.injEq] at e
        subst e
        split at h
        · rename_i hl
          simp only [Option.map_eq_some_iff] at h
          obtain ⟨ys, hys, rfl⟩ := h
          exact ⟨ys, hl, hys, rfl⟩
        · simp at h
      obtain ⟨ys, hl, hys, hagg⟩ := hst
      obtain ⟨x, hx, hw⟩ := trod_fields hE (w := w) (g := fun t cs => DataW.trod enc P w 0 spare held fuel t cs) (ok := fun t y => ∀ n, n ∈ y.1.weights P t → n ≤ reachBytes) (fun h1 h2 h3 => ih h1 h2 h3) hb hys (by
        intro i f y' h1 h2 n hn
        refine hwt n ?_
        rw [hagg]
        simp only [DataW.weights, hu]
        exact weightsEach_get i (t := f.type) (d := y'.1) (by rw [List.getElem?_map, h1]; rfl) (by rw [List.getElem?_map, h2]; rfl) n hn)
      rw [cellsOf_eq hi, hsz] at hl
      rw [List.drop_zero, ← hl, List.take_length] at hx
      exact ⟨x, hx, hw⟩
    | pair a b =>
      obtain ⟨fs, hu, hb⟩ := tyB_fld hty rfl
      obtain ⟨i, z, hi, hsz, _⟩ := tyB_info hty
      rw [hu] at h
      have hst : ∃ ys, cs.length = P.cellsOf t ∧ (fs.toList.mapM fun f => DataW.trod enc P w 0 spare held fuel f.type ((cs.drop f.offset).take (P.cellsOf f.type))) = some ys ∧ y.1 = .agg (ys.map (·.1)) := by
        split at h
        all_goals first
          | (exfalso; simp_all; done)
          | skip
        rename_i fs' e
        simp only [Option.some.injEq, TypeDesc.struct.injEq] at e
        subst e
        split at h
        · rename_i hl
          simp only [Option.map_eq_some_iff] at h
          obtain ⟨ys, hys, rfl⟩ := h
          exact ⟨ys, hl, hys, rfl⟩
        · simp at h
      obtain ⟨ys, hl, hys, hagg⟩ := hst
      obtain ⟨x, hx, hw⟩ := trod_fields hE (w := w) (g := fun t cs => DataW.trod enc P w 0 spare held fuel t cs) (ok := fun t y => ∀ n, n ∈ y.1.weights P t → n ≤ reachBytes) (fun h1 h2 h3 => ih h1 h2 h3) hb hys (by
        intro i f y' h1 h2 n hn
        refine hwt n ?_
        rw [hagg]
        simp only [DataW.weights, hu]
        exact weightsEach_get i (t := f.type) (d := y'.1) (by rw [List.getElem?_map, h1]; rfl) (by rw [List.getElem?_map, h2]; rfl) n hn)
      rw [cellsOf_eq hi, hsz] at hl
      rw [List.drop_zero, ← hl, List.take_length] at hx
      exact ⟨x, hx, hw⟩
    | sl e =>
      obtain ⟨et, j, hu, he, hne, hj, hjs, hjb⟩ := sl_info hE hs
      have hcell : P.cellsOf et = e.size := by rw [cellsOf_eq hj, hjs]
      rw [hu] at h
      have hcs : cs = [.slice none 0 0] ∨ ∃ a len cap, cs = [.slice (some a) len cap] ∧ len ≤ cap ∧ cap ≤ maxLen ∧ len * bytesSh e ≤ 140737488351232 ∧ ∀ i, i < len → ∃ c y, w.cells? 0 (a.add (i * e.size)) e.size = some c ∧ DataW.trod enc P w 0 spare held fuel et c = some y ∧ ∀ n, n ∈ y.1.weights P et → n ≤ reachBytes := by
        split at h
        all_goals first
          | (exfalso; simp_all; done)
          | skip
        · exact .inl rfl
        · rename_i et' a len cap e1
          simp only [Option.some.injEq, TypeDesc.slice.injEq] at e1
          subst e1
          refine .inr ⟨a, len, cap, rfl, ?_⟩
          simp only at h
          split at h
          · rename_i hc
            simp only [Option.bind_eq_some_iff] at h
            obtain ⟨elems, hel, h⟩ := h
            obtain ⟨hlen, hget⟩ := mapM_range_get hel
            simp only [Option.map_eq_some_iff] at h
            obtain ⟨rest, _, rfl⟩ := h
            have hb1 := hB t e hs
            have hb2 : P.bytesOf et = E.bytes t := by simp only [Program.bytesOf, hj, Option.map_some, Option.getD_some]; assumption
            have hw0 := hwt ((elems.length + rest.length) * P.bytesOf et) (by simp [DataW.weights, hu])
            refine ⟨hc.2.1, hc.2.2, ?_, fun i hi => ?_⟩
            · rw [hb2] at hw0
              have h1 : len * bytesSh e ≤ len * E.bytes t := Nat.mul_le_mul_left _ hb1
              have h2 : len * E.bytes t ≤ (elems.length + rest.length) * E.bytes t := Nat.mul_le_mul_right _ (by omega)
              simp only [reachBytes] at hw0
              omega
            obtain ⟨b, e1, e2⟩ := hget i hi
            rw [hcell] at e1
            simp only [Option.bind_eq_some_iff] at e1
            obtain ⟨c, hc1, hc2⟩ := e1
            refine ⟨c, b, hc1, hc2, fun n hn => hwt n ?_⟩
            simp only [DataW.weights, hu, List.mem_cons, List.mem_append]
            refine .inr (.inl (weightsAll_get (d := b.1) ?_ n hn))
            exact List.mem_map.2 ⟨b, List.mem_of_getElem? e2, rfl⟩
          · simp at h
      rcases hcs with rfl | ⟨a, len, cap, rfl, h1, h2, hsz, hget⟩
      · exact ⟨[], .inl ⟨rfl, none, 0, rfl⟩, by simp, by simp [maxLen], fun y hy => by simp at hy⟩
      · by_cases h0 : len = 0
        · subst h0
          exact ⟨[], .inl ⟨rfl, some a, cap, rfl⟩, by simp, by simp [maxLen], fun y hy => by simp at hy⟩
        · obtain ⟨c0, y0, hc0, _, _⟩ := hget 0 (by omega)
          have ha0 : a.add (0 * e.size) = a := by rw [Nat.zero_mul]; unfold Addr.add; simp
          rw [ha0] at hc0
          obtain ⟨arr, el, fr, hsp, hh, _⟩ := (cells_at hc0).2 hne
          have ha : ∀ n, a.add n = ⟨a.block, a.off + n, none⟩ := by
            intro n
            cases a with | mk b o s => simp only at hsp; subst hsp; exact addr_add b o n
          obtain ⟨l, l1, l2, l3⟩ := segBuild (Q := DR (fun b => b < w.heap.size) w.heap e) (W := WfD e) (cs := arr.toList) (off := a.off) (z := e.size) len 0 (fun i _ hi => by
            obtain ⟨c, y, hc, hy, hyw⟩ := hget i (by omega)
            obtain ⟨x, hx, hwx⟩ := ih he hy hyw
            rw [ha] at hc
            obtain ⟨hcl, hca⟩ := cells_at hc
            obtain ⟨arr', el', fr', _, hh', r, hr⟩ := hca hne
            simp only at hh' hr
            rw [hh] at hh'
            cases hh'
            exact ⟨c, r, x, hr, hcl, hx, hwx⟩)
          refine ⟨l, .inr ⟨a.block, a.off, cap, arr, el, fr, ?_, by omega, (Array.getElem?_eq_some_iff.1 hh).1, hh, by simpa using l2⟩, by rw [l1]; exact hsz, by simp only [l1]; omega, l3⟩
          rw [l1]
          congr 3
          cases a with | mk b o s => simp only at hsp; subst hsp; rfl

end Go.Proofs.Ytgebhckfdcajoaa.Ev

/- Arguments of a row as values of the evaluator. -/
namespace Go.Proofs.Ytgebhckfdcajoaa.Ev
open Go
set_option linter.unusedSimpArgs false
set_option linter.unusedVariables false

theorem arg_SV {P : Program} {E : Env} (hE : EnvOk P E) (hB : EnvB E) {H : Type} {enc : TypeId × Value → H} {w : World} {spare : Nat → Bool} {held : Bool} {r : Reach} {base : Nat} {t : TypeId} {s : Sh} {v : Value} {d : DataW H} {ps : List MemPlace} (hs : E.sh t = some s)
    (hok : Value.okWide P w r base t v) (h : DataW.Trod enc P w 0 spare held t v d ps) (hw : ∀ n, n ∈ d.weights P t → n ≤ reachBytes) : ∃ x : s.den, SV (Cx.bare (fun b => b < w.heap.size) w.heap) (.d s x) K00 v ∧ WfD s x := by
  obtain ⟨fuel, hf⟩ := h
  obtain ⟨x, hd, hx⟩ := trod_DR hE hB fuel hs hf hw
  refine ⟨x, ?_, hx⟩
  have hty := hE.sh _ _ hs
  have one : v.oneCell' = true → s.isAgg = false → SV (Cx.bare (fun b => b < w.heap.size) w.heap) (.d s x) K00 v := by
    intro h1 h2
    rw [SV_VV (by intro y e; cases e), VV_iff (by intro e; cases e)]
    show (if s.isAgg then _ else _)
    rw [h2]
    rw [cells_one h1] at hd
    exact hd
  have agg : s.isAgg = true → SV (Cx.bare (fun b => b < w.heap.size) w.heap) (.d s x) K00 v := by
    intro h2
    obtain ⟨fs, hu, _⟩ := tyB_fld hty h2
    unfold Value.okWide at hok
    rw [hu] at hok
    obtain ⟨cs, rfl, _⟩ := hok
    rw [SV_VV (by intro y e; cases e), VV_iff (by intro e; cases e)]
    show (if s.isAgg then _ else _)
    rw [h2]
    exact ⟨cs, rfl, hd⟩
  cases s with
  | int k => obtain ⟨n, rfl⟩ := WideShapes.okWide_int ((tyB_scalar hty).1 k rfl) hok; exact one rfl rfl
  | bool => obtain ⟨n, rfl⟩ := WideShapes.okWide_bool ((tyB_scalar hty).2.2 rfl) hok; exact one rfl rfl
  | str => obtain ⟨n, rfl⟩ := WideShapes.okWide_string ((tyB_scalar hty).2.1 rfl) hok; exact one rfl rfl
  | unit => exact agg rfl
  | pair a b => exact agg rfl
  | sl e =>
    obtain ⟨et, j, hu, _⟩ := sl_info hE hs
    obtain ⟨a, len, cap, rfl⟩ := WideShapes.okWide_slice hu hok
    exact one rfl rfl

end Go.Proofs.Ytgebhckfdcajoaa.Ev

/- A law's call. -/
namespace Go.Proofs.Ytgebhckfdcajoaa.Ev
open Go
set_option linter.unusedSimpArgs false
set_option linter.unusedVariables false

def truePk : Pk := ⟨.bool, .fz, true⟩

/-- A law that returns true, whatever the data. -/
theorem law_calls {P : Program} {f : Nat} {as : List AV} (h : PureC P false f as truePk) {W : World} {vals : List Value} (hv : ArgsR (Cx.bare (fun b => b < W.heap.size) W.heap) K00 as vals) :
    Calls P f vals.toArray W fun e W' => e = .returned (.bool true) ∧ RowKit.Below W.heap.size W W' := by
  refine Calls.mono' (h.run W (fun b => b < W.heap.size) vals (fun _ => id) hv) ?_
  rintro e w' ⟨v, R', rfl, hr, hsv⟩
  have : v = .bool true := SV_bool (R := R') (K := K00) hsv
  exact ⟨by rw [this], hr.bel⟩

end Go.Proofs.Ytgebhckfdcajoaa.Ev

/- Small words for proofs of functions: tables, loops told by what they turn. -/
namespace Go.Proofs.Ytgebhckfdcajoaa.Ev
open Go
set_option linter.unusedSimpArgs false
set_option linter.unusedVariables false

def nth {α : Type} : List α → Nat → α → α
  | [], _, d => d
  | a :: _, 0, _ => a
  | _ :: r, n + 1, d => nth r n d

def lookN (n : Nat) : List (Nat × List Nat) → List Nat
  | [] => []
  | (k, l) :: r => cond (Nat.beq n k) l (lookN n r)

/-- A slot's value or box put into a state. -/
def Frm.upd : Frm → Nat → Bool → AV → Frm
  | [], _, _, _ => []
  | s :: r, 0, true, v => ⟨s.v, v, s.fv, s.fb⟩ :: r
  | s :: r, 0, false, v => ⟨v, s.b, s.fv, s.fb⟩ :: r
  | s :: r, n + 1, bx, v => s :: Frm.upd r n bx v

def St.upd : St → Nat → Nat → Bool → AV → St
  | [], _, _, _, _ => []
  | f :: r, 0, n, bx, v => Frm.upd f n bx v :: r
  | f :: r, k + 1, n, bx, v => f :: St.upd r k n bx v

structure Up where
  k : Nat
  s : Nat
  bx : Bool
  v : AV

def St.ups (st : St) : List Up → St
  | [] => st
  | u :: r => St.ups (st.upd u.k u.s u.bx u.v) r

/-- Two states laid open side by side. -/
structure SameS (x y : St) : Prop where
  eq : x = y

theorem st_eq {a b : St} (h : a.forceK fun x => b.forceK fun y => SameS x y) : a = b := by
  rw [St.forceK_eq, St.forceK_eq] at h
  exact h.eq

/-- A loop told by what its rounds turn, of the outer frames too. -/
theorem loop_upt {X : Type} (U : X → List Up) (T : X → St) (μ : X → Nat) (I : X → Prop) {E : Env} {C : Orc} {keep : Nat → List Nat} {b : Code} {k : Ex → St → Prop} {s0 : St} (x0 : X) (h0 : s0 = (s0.ups (U x0)).tl (T x0)) (i0 : I x0)
    (h : ∀ x, I x → ((s0.ups (U x)).tl (T x)).forceK fun s => evCode E C keep b s (fun e s' => match e with | .normal => ∃ y, s'.gc (keep (loopKey b)) = (s0.ups (U y)).tl (T y) ∧ I y ∧ μ y < μ x | e => k e s')) :
    LoopP (fun s k' => evCode E C keep b s fun e s' => match e with | .normal => k' .normal (s'.gc (keep (loopKey b))) | e => k' e s') s0 k := by
  refine evLoop_of (fun x => (s0.ups (U x)).tl (T x)) μ I x0 h0 i0 ?_
  intro x hx
  have := h x hx
  rwa [St.forceK_eq] at this

/-- A loop told by what its rounds turn: 'U' the slots' values at the head. -/
theorem loop_ups {X : Type} (U : X → List Up) (μ : X → Nat) (I : X → Prop) {E : Env} {C : Orc} {keep : Nat → List Nat} {b : Code} {k : Ex → St → Prop} {s0 : St} (x0 : X) (h0 : s0 = s0.ups (U x0)) (i0 : I x0)
    (h : ∀ x, I x → (s0.ups (U x)).forceK fun s => evCode E C keep b s (fun e s' => match e with | .normal => ∃ y, s'.gc (keep (loopKey b)) = s0.ups (U y) ∧ I y ∧ μ y < μ x | e => k e s')) :
    LoopP (fun s k' => evCode E C keep b s fun e s' => match e with | .normal => k' .normal (s'.gc (keep (loopKey b))) | e => k' e s') s0 k := by
  refine evLoop_of (fun x => s0.ups (U x)) μ I x0 h0 i0 ?_
  intro x hx
  have := h x hx
  rwa [St.forceK_eq] at this

theorem cond_intro {b : Bool} {p q : Prop} (h1 : b = true → p) (h2 : b = false → q) : cond b p q := by
  cases b
  · exact h2 rfl
  · exact h1 rfl

/-! ### Owned slices at a place of a state that is not known whole -/

/-- The place 'q' of the states 'P l' owns the slice 'l'. -/
structure Owns (q : Pl) (e : Sh) (o : Ow) (P : List e.den → St) : Prop where
  get : ∀ l K, K (.own e o l) → GetP (P l) q K
  look : ∀ l i K, i < l.length → K (unpack e o (l.getD i e.dflt)) → LookP (P l) (q.child (.ix i e.size)) K
  put : ∀ l i u w K, i < l.length → u.pack = some ⟨e, o, w⟩ → u.size = e.size → K (P (l.set i w)) → PutP (P l) (q.child (.ix i e.size)) u K
  bad : ∀ i z, (q.child (.ix i z)).badPlace = false
  pos : ∀ l, 0 < (P l).length

theorem Owns.ok {q : Pl} {e : Sh} {o : Ow} {P : List e.den → St} (O : Owns q e o P) {n m i z : Nat} {u : AV} (hu : u.isBad = false) (hz : (u.size == 0) = false) :
    ((((q.lift n).lift m).child (.ix i z)).badPlace || !(((q.lift n).lift m).child (.ix i z)).mem || u.isBad || u.size == 0) = false := by
  have : (((q.lift n).lift m).child (.ix i z)).badPlace = false := O.bad i z
  rw [this, hu, hz]; rfl

theorem cond_f {b : Bool} {p q : Prop} (h : b = false) (hq : q) : cond b p q := by rw [h]; exact hq
theorem cond_t {b : Bool} {p q : Prop} (h : b = true) (hp : p) : cond b p q := by rw [h]; exact hp

theorem PartP_append : ∀ {p p' : List Stp} {a : AV} {K : AV → Prop}, PartP (p ++ p') a K ↔ PartP p a fun b => PartP p' b K := by
  intro p
  induction p with
  | nil => intro p' a K; rfl
  | cons i p ih =>
    intro p' a K
    simp only [List.cons_append, PartP]
    rw [stepP_iff, stepP_iff (K := fun b => PartP p b _)]
    exact exists_congr fun b => and_congr_right fun _ => ih

theorem GetP_child {st : St} {q : Pl} {i : Stp} {K : AV → Prop} : GetP st (q.child i) K ↔ GetP st q fun v => v.stepP i K := by
  simp only [GetP, Pl.child, List.reverse_cons, St.getK_eq]
  cases st.get q.r.k q.r.s with
  | none => exact Iff.rfl
  | some s => simp only [PartP_append]; exact Iff.rfl

/-! ### Small facts -/

abbrev tI : Sh := .int .i64
abbrev tIS : Sh := .sl tI
abbrev tISS : Sh := .sl tIS

theorem fin1 {s : Sh} {o : Ow} {x y : s.den} (h : x = y) : (⟨s, o, x⟩ : Pk) = ⟨s, o, y⟩ := by rw [h]

theorem wrap_in {n : Int} (h1 : -9223372036854775808 ≤ n) (h2 : n ≤ 9223372036854775807) : IntKind.i64.wrap n = n := by
  simp only [IntKind.wrap, IntKind.bits, IntKind.signed]
  have : ((2 : Int) ^ 64) = 18446744073709551616 := by decide
  have h63 : ((2 : Int) ^ (64 - 1)) = 9223372036854775808 := by decide
  simp only [this, h63]
  simp
  split <;> omega

/-- How long a list of data may be. -/
abbrev Short (l : Nat) : Prop := l ≤ 4611686018427387904

theorem wrap_succ {n : Nat} {m : Nat} (h : n < m) (hm : Short m) : IntKind.i64.wrap ((n : Int) + 1) = ((n + 1 : Nat) : Int) := by
  unfold Short at hm
  rw [wrap_in (by omega) (by omega)]; simp

end Go.Proofs.Ytgebhckfdcajoaa.Ev

/- Owned slices at places of states that are not known whole: inner frames, elements. -/
namespace Go.Proofs.Ytgebhckfdcajoaa.Ev
open Go
set_option linter.unusedSimpArgs false
set_option linter.unusedVariables false

/-- The same place, as a called function sees it. -/
theorem Owns.lift {q : Pl} {e : Sh} {o : Ow} {P : List e.den → St} (O : Owns q e o P) (f : Frm) : Owns (q.lift 1) e o (fun l => f :: P l) where
  get := fun l K h => O.get l K h
  look := fun l i K hi h => O.look l i K hi h
  put := fun l i u w K hi hp hs h => O.put l i u w (fun s => K (f :: s)) hi hp hs h
  bad := O.bad
  pos := fun l => by simp

theorem PartP_det {p : List Stp} {a b : AV} {K : AV → Prop} (h : PartP p a fun u => u = b) (hk : PartP p a K) : K b := by
  obtain ⟨c, h1, h2⟩ := PartP_iff.1 hk
  have key : ∀ {p : List Stp} {a b c : AV}, PartP p a (fun u => u = b) → PartP p a (fun u => u = c) → b = c := by
    intro p
    induction p with
    | nil => intro a b c h g; exact h.symm.trans g
    | cons i p ih =>
      intro a b c h g
      simp only [PartP] at h g
      obtain ⟨x, hx, h⟩ := stepP_iff.1 h
      obtain ⟨y, hy, g⟩ := stepP_iff.1 g
      have sd : ∀ {a : AV} {i : Stp} {x y : AV}, a.stepP i (fun u => u = x) → a.stepP i (fun u => u = y) → x = y := by
        intro a i x y h g
        cases i with
        | l =>
          cases a with
          | pair u v => exact h.symm.trans g
          | d s z => cases s with
            | pair s t => exact h.symm.trans g
            | _ => exact h.elim
          | _ => exact h.elim
        | r n =>
          cases a with
          | pair u v => simp only [AV.stepP] at h g; split at h <;> first | exact h.elim | skip
                        rename_i e; rw [if_pos e] at g; exact h.symm.trans g
          | d s z => cases s with
            | pair s t => simp only [AV.stepP] at h g; split at h <;> first | exact h.elim | skip
                          rename_i e; rw [if_pos e] at g; exact h.symm.trans g
            | _ => exact h.elim
          | _ => exact h.elim
        | ix j z =>
          cases a with
          | own e o l => simp only [AV.stepP] at h g; split at h <;> first | exact h.elim | skip
                         rename_i e; rw [if_pos e] at g; exact h.2.symm.trans g.2
          | d s x => cases s <;> exact h.elim
          | _ => exact h.elim
      have := sd hx hy
      subst this
      exact ih h g
  rw [key h h1]; exact h2

/-- An inner part turned, by turns. -/
theorem UpdP_append {u b b' : AV} {p' : List Stp} (hb : UpdP u p' b fun x => x = b') : ∀ {p : List Stp} {a : AV} {K : AV → Prop}, PartP p a (fun x => x = b) → UpdP b' p a K → UpdP u (p ++ p') a K := by
  intro p
  induction p with
  | nil =>
    intro a K h hk
    have h : a = b := h
    subst h
    simp only [UpdP] at hk
    split at hk
    · exact UpdP_iff.2 ⟨b', hb, hk⟩
    · exact hk.elim
  | cons i p ih =>
    intro a K h hk
    simp only [PartP] at h
    cases i with
    | l =>
      cases a with
      | pair x y => exact ih h hk
      | d s x => cases s with
        | pair s t => exact ih h hk
        | _ => exact h.elim
      | _ => exact h.elim
    | r n =>
      cases a with
      | pair x y =>
        simp only [AV.stepP, UpdP, List.cons_append] at h hk ⊢
        split at h
        · rename_i e; rw [if_pos e] at hk ⊢; exact ih h hk
        · exact h.elim
      | d s x => cases s with
        | pair s t =>
          simp only [AV.stepP, UpdP, List.cons_append] at h hk ⊢
          split at h
          · rename_i e; rw [if_pos e] at hk ⊢; exact ih h hk
          · exact h.elim
        | _ => exact h.elim
      | _ => exact h.elim
    | ix j z =>
      cases a with
      | own e o l =>
        simp only [AV.stepP, UpdP, List.cons_append] at h hk ⊢
        split at h
        · rename_i e; rw [if_pos e] at hk ⊢; exact ⟨hk.1, ih h.2 hk.2⟩
        · exact h.elim
      | d s x => cases s <;> exact h.elim
      | _ => exact h.elim

theorem PutP_child {st : St} {q : Pl} {ps : List Stp} {u b b' : AV} {K : St → Prop} (hg : GetP st q fun v => v = b) (hu : UpdP u ps b fun x => x = b') (hp : PutP st q b' K) : PutP st ⟨q.r, ps.reverse ++ q.p⟩ u K := by
  rw [PutP_iff] at hp ⊢
  obtain ⟨s, hs, w, hw, hk⟩ := hp
  rw [GetP_iff] at hg
  obtain ⟨s', hs', v, hv, rfl⟩ := hg
  rw [hs] at hs'
  cases hs'
  refine ⟨s, hs, w, ?_, hk⟩
  simp only [List.reverse_append, List.reverse_reverse]
  exact UpdP_append hu hv hw

/-- What is owned inside an element: 'ps' the steps to it, 'mk' the element with another such part. -/
structure Inside (e : Sh) (o : Ow) (ps : List Stp) (e' : Sh) (o' : Ow) (mk : List e'.den → e.den) : Prop where
  part : ∀ x, PartP ps (unpack e o (mk x)) fun u => u = .own e' o' x
  upd : ∀ x x', UpdP (.own e' o' x') ps (unpack e o (mk x)) fun u => u.pack = some ⟨e, o, mk x'⟩ ∧ u.size = e.size
  size : 0 < e.size

theorem Owns.inside {q : Pl} {e : Sh} {o : Ow} {P : List e.den → St} (O : Owns q e o P) {ps : List Stp} {e' : Sh} {o' : Ow} {mk : List e'.den → e.den} (M : Inside e o ps e' o' mk) {l : List e.den} {i : Nat} (hi : i < l.length) :
    Owns ⟨q.r, ps.reverse ++ .ix i e.size :: q.p⟩ e' o' (fun x => P (l.set i (mk x))) := by
  have hlen : ∀ x, i < (l.set i (mk x)).length := fun x => by simpa using hi
  have hat : ∀ x, (l.set i (mk x)).getD i e.dflt = mk x := fun x => by rw [List.getD_eq_getElem?_getD, List.getElem?_set_self hi]; rfl
  -- the element as it stands
  have hget : ∀ x, GetP (P (l.set i (mk x))) (q.child (.ix i e.size)) fun v => v = unpack e o (mk x) := by
    intro x
    rw [GetP_child]
    refine O.get _ _ ?_
    simp only [AV.stepP, if_true]
    exact ⟨hlen x, by rw [hat]⟩
  have hlook : ∀ x, LookP (P (l.set i (mk x))) (q.child (.ix i e.size)) fun v => v = unpack e o (mk x) := fun x => O.look _ _ _ (hlen x) (by rw [hat])
  have down : ∀ x, ∃ s, (P (l.set i (mk x))).get q.r.k q.r.s = some s ∧ PartP ((ps.reverse ++ .ix i e.size :: q.p).reverse) (s.at q.r.bx) (fun u => u = .own e' o' x) ∧ ((unpack e o (mk x)).hasOwn && !(s.flag q.r.bx)) = false := by
    intro x
    obtain ⟨s, hs, v, hv, h1, h2, rfl⟩ := LookP_iff.1 (hlook x)
    refine ⟨s, hs, ?_, h2⟩
    simp only [List.reverse_append, List.reverse_reverse]
    rw [PartP_append]
    exact PartP_iff.2 ⟨_, hv, M.part x⟩
  have own : ∀ x, (unpack e o (mk x)).hasOwn = true := by
    intro x
    have key : ∀ {p : List Stp} {a : AV}, PartP p a (fun u => u = .own e' o' x) → a.hasOwn = true := by
      intro p
      induction p with
      | nil => intro a h; have h : a = _ := h; subst h; rfl
      | cons j p ih =>
        intro a h
        simp only [PartP] at h
        cases j with
        | l =>
          cases a with
          | pair u v => simp only [AV.hasOwn, ih h, Bool.true_or]
          | d s z => cases s with
            | pair s t =>
              have := ih h
              simp [AV.hasOwn] at this
            | _ => exact h.elim
          | _ => exact h.elim
        | r n =>
          cases a with
          | pair u v =>
            simp only [AV.stepP] at h
            split at h
            · simp only [AV.hasOwn, ih h, Bool.or_true]
            · exact h.elim
          | d s z => cases s with
            | pair s t =>
              simp only [AV.stepP] at h
              split at h
              · have := ih h; simp [AV.hasOwn] at this
              · exact h.elim
            | _ => exact h.elim
          | _ => exact h.elim
        | ix j z =>
          cases a with
          | own e o l => rfl
          | d s z => cases s <;> exact h.elim
          | _ => exact h.elim
    exact key (M.part x)
  refine ⟨?_, ?_, ?_, ?_, fun _ => O.pos _⟩
  · intro x K hk
    obtain ⟨s, hs, hp, _⟩ := down x
    exact GetP_iff.2 ⟨s, hs, _, hp, hk⟩
  · intro x j K hj hk
    obtain ⟨s, hs, hp, hf⟩ := down x
    have hfl : s.flag q.r.bx = true := by rw [own x] at hf; simpa using hf
    refine LookP_iff.2 ⟨s, hs, unpack e' o' (x.getD j e'.dflt), ?_, unpack_good _ _ _, by rw [show s.flag (Pl.child ⟨q.r, ps.reverse ++ .ix i e.size :: q.p⟩ (.ix j e'.size)).r.bx = true from hfl]; simp, hk⟩
    show PartP ((Pl.child ⟨q.r, ps.reverse ++ .ix i e.size :: q.p⟩ (.ix j e'.size)).p.reverse) _ _
    simp only [Pl.child, List.reverse_cons]
    rw [PartP_append]
    refine PartP_iff.2 ⟨_, hp, ?_⟩
    simp only [PartP, AV.stepP, if_true]
    exact ⟨hj, trivial⟩
  · intro x j u w K hj hp hs hk
    obtain ⟨b', hb', hb1, hb2⟩ := UpdP_iff.1 (M.upd x (x.set j w))
    have h1 : PutP (P (l.set i (mk x))) (q.child (.ix i e.size)) b' K := by
      refine O.put _ _ _ (mk (x.set j w)) _ (hlen x) hb1 hb2 ?_
      rw [List.set_set]; exact hk
    have h2 := PutP_child (ps := ps) (u := .own e' o' (x.set j w)) (hget x) hb' h1
    have h3 : GetP (P (l.set i (mk x))) ⟨(q.child (.ix i e.size)).r, ps.reverse ++ (q.child (.ix i e.size)).p⟩ fun v => v = .own e' o' x := by
      obtain ⟨s, hs, hp, _⟩ := down x
      exact GetP_iff.2 ⟨s, hs, _, hp, rfl⟩
    have h4 : UpdP u [.ix j e'.size] (.own e' o' x) fun y => y = .own e' o' (x.set j w) := by
      simp only [UpdP, if_true]
      refine ⟨hj, ?_⟩
      rw [if_pos (by rw [hs, unpack_size])]
      simp only [putElemP, hp]
      rfl
    exact PutP_child (ps := [.ix j e'.size]) h3 h4 h2
  · intro j z
    have this : (if q.r.bx = true then (Stp.ix i e.size :: q.p).getLast? != some (Stp.r 0) else (Stp.ix i e.size :: q.p).isEmpty) = false := O.bad i e.size
    show (if q.r.bx = true then (Stp.ix j z :: (ps.reverse ++ Stp.ix i e.size :: q.p)).getLast? != some (Stp.r 0) else (Stp.ix j z :: (ps.reverse ++ Stp.ix i e.size :: q.p)).isEmpty) = false
    by_cases hbx : q.r.bx = true
    · rw [if_pos hbx] at this ⊢
      have e1 : (Stp.ix j z :: (ps.reverse ++ Stp.ix i e.size :: q.p)).getLast? = (Stp.ix i e.size :: q.p).getLast? := by
        rw [show Stp.ix j z :: (ps.reverse ++ Stp.ix i e.size :: q.p) = (Stp.ix j z :: ps.reverse) ++ (Stp.ix i e.size :: q.p) from rfl]
        rw [List.getLast?_append]
        simp [List.getLast?_cons]
      rw [e1]; exact this
    · rw [if_neg hbx]; rfl

theorem inside_sl (e : Sh) (o : Ow) : Inside (.sl e) (.ow o) [] e o (fun x => x) where
  part := fun x => rfl
  upd := fun x x' => ⟨rfl, rfl⟩
  size := by show 0 < 1; decide


/-! ### The box of a slot of the running frame -/

theorem upd_get {st : St} {s : Nat} {sl : Slot} (hg : st.get 0 s = some sl) (v : AV) : (st.upd 0 s true v).get 0 s = some ⟨sl.v, v, sl.fv, sl.fb⟩ := by
  have key : ∀ {f : Frm} {s : Nat} {sl : Slot}, f[s]? = some sl → (Frm.upd f s true v)[s]? = some ⟨sl.v, v, sl.fv, sl.fb⟩ := by
    intro f
    induction f with
    | nil => intro s sl h; simp at h
    | cons x f ih =>
      intro s sl h
      cases s with
      | zero => simp at h; subst h; rfl
      | succ s => simpa [Frm.upd] using ih (by simpa using h)
  cases st with
  | nil => simp [St.get] at hg
  | cons f o => simpa [St.get, St.upd] using key (by simpa [St.get] using hg)

theorem upd_set {st : St} {s : Nat} {sl : Slot} (hg : st.get 0 s = some sl) (v w : AV) : (st.upd 0 s true v).set 0 s (Slot.put ⟨sl.v, v, sl.fv, sl.fb⟩ true w) = st.upd 0 s true w := by
  have key : ∀ {f : Frm} {s : Nat} {sl : Slot}, f[s]? = some sl → (Frm.upd f s true v).set s (Slot.put ⟨sl.v, v, sl.fv, sl.fb⟩ true w) = Frm.upd f s true w := by
    intro f
    induction f with
    | nil => intro s sl h; simp at h
    | cons x f ih =>
      intro s sl h
      cases s with
      | zero => simp at h; subst h; rfl
      | succ s => simpa [Frm.upd] using ih (by simpa using h)
  cases st with
  | nil => simp [St.get] at hg
  | cons f o =>
    have := key (f := f) (s := s) (by simpa [St.get] using hg)
    show (Frm.upd f s true v :: o).modify 0 _ = _
    simp only [List.modify_zero_cons]
    exact congrArg (· :: o) this

theorem upd_length (st : St) (s : Nat) (v : AV) : (st.upd 0 s true v).length = st.length := by
  cases st <;> rfl

/-- An owned part of the box of a slot. -/
theorem owns_box {st : St} {s : Nat} {sl : Slot} (hg : st.get 0 s = some sl) (hf : sl.fb = true) {e : Sh} {o : Ow} {mk : List e.den → AV} {ps : List Stp} (hl : (ps.reverse.getLast? != some (.r 0)) = false)
    (part : ∀ x, PartP ps (mk x) fun u => u = .own e o x) (upd : ∀ x x', UpdP (.own e o x') ps (mk x) fun u => u = mk x') :
    Owns ⟨⟨0, s, true⟩, ps.reverse⟩ e o (fun x => st.upd 0 s true (mk x)) := by
  refine ⟨?_, ?_, ?_, ?_, ?_⟩
  · intro x K hk
    refine GetP_iff.2 ⟨_, upd_get hg _, _, ?_, hk⟩
    simp only [List.reverse_reverse, Slot.at, if_true]
    exact part x
  · intro x j K hj hk
    refine LookP_iff.2 ⟨_, upd_get hg _, unpack e o (x.getD j e.dflt), ?_, unpack_good _ _ _, ?_, hk⟩
    · simp only [Pl.child, List.reverse_cons, List.reverse_reverse, Slot.at, if_true]
      rw [PartP_append]
      refine PartP_iff.2 ⟨_, part x, ?_⟩
      simp only [PartP, AV.stepP, if_true]
      exact ⟨hj, trivial⟩
    · show (_ && !sl.fb) = false
      rw [hf]; simp
  · intro x j u w K hj hp hs hk
    have h1 : PutP (st.upd 0 s true (mk x)) ⟨⟨0, s, true⟩, ps.reverse⟩ (.own e o (x.set j w)) K := by
      refine PutP_iff.2 ⟨_, upd_get hg _, mk (x.set j w), ?_, ?_⟩
      · simp only [List.reverse_reverse, Slot.at, if_true]; exact upd _ _
      · have := upd_set hg (mk x) (mk (x.set j w))
        rw [this]; exact hk
    have h2 : GetP (st.upd 0 s true (mk x)) ⟨⟨0, s, true⟩, ps.reverse⟩ fun v => v = .own e o x := by
      refine GetP_iff.2 ⟨_, upd_get hg _, _, ?_, rfl⟩
      simp only [List.reverse_reverse, Slot.at, if_true]
      exact part x
    have h3 : UpdP u [.ix j e.size] (.own e o x) fun y => y = .own e o (x.set j w) := by
      simp only [UpdP, if_true]
      refine ⟨hj, ?_⟩
      rw [if_pos (by rw [hs, unpack_size])]
      simp only [putElemP, hp]
      rfl
    exact PutP_child (ps := [.ix j e.size]) h2 h3 h1
  · intro j z
    show ((Stp.ix j z :: ps.reverse).getLast? != some (.r 0)) = false
    cases h : ps.reverse with
    | nil => rw [h] at hl; simp at hl
    | cons a r => rw [h] at hl; rw [List.getLast?_cons_cons]; exact hl
  · intro x
    rw [upd_length]
    exact Nat.pos_of_ne_zero fun e => by
      have := St.get_lt hg
      omega


theorem upd_self {st : St} {s : Nat} {sl : Slot} (hg : st.get 0 s = some sl) : st.upd 0 s true sl.b = st := by
  have key : ∀ {f : Frm} {s : Nat} {sl : Slot}, f[s]? = some sl → Frm.upd f s true sl.b = f := by
    intro f
    induction f with
    | nil => intro s sl h; simp at h
    | cons x f ih =>
      intro s sl h
      cases s with
      | zero => simp at h; subst h; rfl
      | succ s =>
        have := ih (s := s) (by simpa using h)
        simp only [Frm.upd, this]
  cases st with
  | nil => simp [St.get] at hg
  | cons f o =>
    have := key (f := f) (s := s) (by simpa [St.get] using hg)
    simp only [St.upd, this]


/-! ### A slot's own value -/

theorem updV_get {st : St} {s : Nat} {sl : Slot} (hg : st.get 0 s = some sl) (v : AV) : (st.upd 0 s false v).get 0 s = some ⟨v, sl.b, sl.fv, sl.fb⟩ := by
  have key : ∀ {f : Frm} {s : Nat} {sl : Slot}, f[s]? = some sl → (Frm.upd f s false v)[s]? = some ⟨v, sl.b, sl.fv, sl.fb⟩ := by
    intro f
    induction f with
    | nil => intro s sl h; simp at h
    | cons x f ih =>
      intro s sl h
      cases s with
      | zero => simp at h; subst h; rfl
      | succ s => simpa [Frm.upd] using ih (by simpa using h)
  cases st with
  | nil => simp [St.get] at hg
  | cons f o => simpa [St.get, St.upd] using key (by simpa [St.get] using hg)

theorem updV_set {st : St} {s : Nat} {sl : Slot} (hg : st.get 0 s = some sl) (v w : AV) : (st.upd 0 s false v).set 0 s (Slot.put ⟨v, sl.b, sl.fv, sl.fb⟩ false w) = st.upd 0 s false w := by
  have key : ∀ {f : Frm} {s : Nat} {sl : Slot}, f[s]? = some sl → (Frm.upd f s false v).set s (Slot.put ⟨v, sl.b, sl.fv, sl.fb⟩ false w) = Frm.upd f s false w := by
    intro f
    induction f with
    | nil => intro s sl h; simp at h
    | cons x f ih =>
      intro s sl h
      cases s with
      | zero => simp at h; subst h; rfl
      | succ s => simpa [Frm.upd] using ih (by simpa using h)
  cases st with
  | nil => simp [St.get] at hg
  | cons f o =>
    have := key (f := f) (s := s) (by simpa [St.get] using hg)
    show (Frm.upd f s false v :: o).modify 0 _ = _
    simp only [List.modify_zero_cons]
    exact congrArg (· :: o) this

theorem updV_self {st : St} {s : Nat} {sl : Slot} (hg : st.get 0 s = some sl) : st.upd 0 s false sl.v = st := by
  have key : ∀ {f : Frm} {s : Nat} {sl : Slot}, f[s]? = some sl → Frm.upd f s false sl.v = f := by
    intro f
    induction f with
    | nil => intro s sl h; simp at h
    | cons x f ih =>
      intro s sl h
      cases s with
      | zero => simp at h; subst h; rfl
      | succ s =>
        have := ih (s := s) (by simpa using h)
        simp only [Frm.upd, this]
  cases st with
  | nil => simp [St.get] at hg
  | cons f o =>
    have := key (f := f) (s := s) (by simpa [St.get] using hg)
    simp only [St.upd, this]

/-- The slice that a slot's own value is. -/
theorem owns_var {st : St} {s : Nat} {sl : Slot} (hg : st.get 0 s = some sl) (hf : sl.fv = true) (e : Sh) (o : Ow) :
    Owns ⟨⟨0, s, false⟩, []⟩ e o (fun x => st.upd 0 s false (.own e o x)) := by
  refine ⟨?_, ?_, ?_, ?_, ?_⟩
  · intro x K hk
    exact GetP_iff.2 ⟨_, updV_get hg _, _, rfl, hk⟩
  · intro x j K hj hk
    refine LookP_iff.2 ⟨_, updV_get hg _, unpack e o (x.getD j e.dflt), ?_, unpack_good _ _ _, ?_, hk⟩
    · show PartP [.ix j e.size] (.own e o x) _
      simp only [PartP, AV.stepP, if_true]
      exact ⟨hj, trivial⟩
    · show (_ && !sl.fv) = false
      rw [hf]; simp
  · intro x j u w K hj hp hs hk
    refine PutP_iff.2 ⟨_, updV_get hg _, .own e o (x.set j w), ?_, ?_⟩
    · show UpdP u [.ix j e.size] (.own e o x) _
      simp only [UpdP, if_true]
      refine ⟨hj, ?_⟩
      rw [if_pos (by rw [hs, unpack_size])]
      simp only [putElemP, hp]
      rfl
    · have := updV_set hg (.own e o x) (.own e o (x.set j w))
      rw [show (Pl.child ⟨⟨0, s, false⟩, []⟩ (.ix j e.size)).r.bx = false from rfl]
      show K ((st.upd 0 s false (.own e o x)).set 0 s _)
      rw [this]; exact hk
  · intro j z; rfl
  · intro x
    have := St.get_lt hg
    cases st with
    | nil => simp at this
    | cons f r => simp [St.upd]

end Go.Proofs.Ytgebhckfdcajoaa.Ev
